/- States that stand for the machine's since a beginning; weaker states. No condition. -/
import Derived.Test.YtpkplilgjdbhhaaF1
namespace Go.Proofs.Ytpkplilgjdbhhaa
set_option linter.unusedSimpArgs false
set_option linter.unusedVariables false
open Go Go.RowKit

/-- a beginning: n block numbers keep their places; the rows FP may be written -/
structure Base where
  n : Nat
  FP : Nat → Prop
  ρ : Place
  w : World
structure Since (b : Base) (ρ : Place) (H : Heap) (w : World) : Prop where
  fz : ∀ k, b.ρ.B k → ρ.B k ∧ ρ.W.heap[k]? = b.ρ.W.heap[k]?
  os : ρ.W.os = b.ρ.W.os
  tape : ρ.W.tape = b.ρ.W.tape
  output : ρ.W.output = b.ρ.W.output
  size : b.w.heap.size ≤ w.heap.size
  keeps : ∀ k, k < b.w.heap.size → ¬ b.FP k → w.heap[k]? = b.w.heap[k]?
  rows : ∀ e, e ∈ H.ents → ∀ l, ρ e.1 = some l → b.FP l.cb ∨ b.w.heap.size ≤ l.cb
  cold : ∀ k, ρ.B k → b.ρ.B k ∨ b.FP k ∨ b.w.heap.size ≤ k
  low : ∀ k, k < b.n → ρ k = b.ρ k
  num : b.n ≤ H.n
theorem Since.step {b : Base} {ρ ρ' : Place} {H H' : Heap} {w w' : World} (h : Since b ρ H w) (t : Step ρ H w ρ' H' w') : Since b ρ' H' w' where
  fz := fun k hk => let ⟨h1, h2⟩ := h.fz k hk; let ⟨t1, t2⟩ := t.le.fz k h1; ⟨t1, t2.trans h2⟩
  os := t.le.os.trans h.os
  tape := t.le.tape.trans h.tape
  output := t.le.output.trans h.output
  size := Nat.le_trans h.size t.size
  keeps := fun k hk hf => by
    rw [t.keeps k (Nat.lt_of_lt_of_le hk h.size) (fun e he l hl hlk => ?_), h.keeps k hk hf]
    rcases h.rows e he l hl with h1 | h1
    · exact hf (hlk ▸ h1)
    · omega
  rows := fun e he l hl => by
    rcases t.rows e he l hl with ⟨e0, he0, l0, hl0, hcb⟩ | hge
    · rw [← hcb]; exact h.rows e0 he0 l0 hl0
    · exact .inr (Nat.le_trans h.size hge)
  cold := fun k hk => by
    rcases t.cold k hk with h1 | ⟨e, he, l, hl, hlk⟩ | hge
    · exact h.cold k h1
    · rw [← hlk]; exact .inr (h.rows e he l hl)
    · exact .inr (.inr (Nat.le_trans h.size hge))
  low := fun k hk => (t.low k (Nat.lt_of_lt_of_le hk h.num)).trans (h.low k hk)
  num := Nat.le_trans h.num t.num
def At (b : Base) (s : St) (a : Act) (w : World) : Prop := ∃ ρ, Since b ρ s.H w ∧ Sim ρ s.H w ∧ EnvR ρ s a

/-! ### Lists of pairs -/
theorem lookN_mem {b b' : Nat} : ∀ {σ : List (Nat × Nat)}, lookN b σ = some b' → (b, b') ∈ σ
  | [], h => by simp [lookN] at h
  | x :: r, h => by
    unfold lookN at h
    split at h
    · rename_i hx
      simp only [Option.some.injEq] at h
      subst hx; subst h; exact List.mem_cons_self
    · exact List.mem_cons_of_mem _ (lookN_mem h)
theorem lookR_mem {b b' : Nat} : ∀ {σ : List (Nat × Nat)}, lookR b' σ = some b → (b, b') ∈ σ
  | [], h => by simp [lookR] at h
  | x :: r, h => by
    unfold lookR at h
    split at h
    · rename_i hx
      simp only [Option.some.injEq] at h
      subst hx; subst h; exact List.mem_cons_self
    · exact List.mem_cons_of_mem _ (lookR_mem h)
theorem lookR_of {b b' : Nat} : ∀ {σ : List (Nat × Nat)}, (σ.map (·.2)).Nodup → (b, b') ∈ σ → lookR b' σ = some b
  | [], _, h => by cases h
  | x :: r, hn, h => by
    rw [List.map_cons, List.nodup_cons] at hn
    unfold lookR
    rcases List.mem_cons.1 h with rfl | h
    · simp
    · have : x.2 ≠ b' := fun hx => hn.1 (List.mem_map.2 ⟨_, h, hx.symm⟩)
      rw [if_neg this]; exact lookR_of hn.2 h
theorem pair_eq {b x y : Nat} : ∀ {σ : List (Nat × Nat)}, (σ.map (·.1)).Nodup → (b, x) ∈ σ → (b, y) ∈ σ → x = y
  | [], _, h, _ => by cases h
  | z :: r, hn, h, h' => by
    rw [List.map_cons, List.nodup_cons] at hn
    rcases List.mem_cons.1 h with h1 | h1 <;> rcases List.mem_cons.1 h' with h2 | h2
    · rw [← h1] at h2; cases h2; rfl
    · exact absurd (List.mem_map.2 ⟨_, h2, by rw [← h1]⟩) hn.1
    · exact absurd (List.mem_map.2 ⟨_, h1, by rw [← h2]⟩) hn.1
    · exact pair_eq hn.2 h1 h2
theorem lookC_mem {b : Nat} {cs : List AV} : ∀ {Φ : List (Nat × List AV)}, lookC b Φ = some cs → (b, cs) ∈ Φ
  | [], h => by simp [lookC] at h
  | x :: r, h => by
    unfold lookC at h
    split at h
    · rename_i hx
      simp only [Option.some.injEq] at h
      subst hx; subst h; exact List.mem_cons_self
    · exact List.mem_cons_of_mem _ (lookC_mem h)

def fitB (σ : List (Nat × Nat)) (Φ : List (Nat × List AV)) : Blk → Blk → Prop
  | .cells cs, .cells cs' => fitL σ Φ cs cs'
  | .map es, .map es' => fitL σ Φ (es.map (·.1)) (es'.map (·.1)) ∧ fitL σ Φ (es.map (·.2)) (es'.map (·.2))
  | _, _ => False
structure FitH (n : Nat) (σ : List (Nat × Nat)) (Φ : List (Nat × List AV)) (H H' : Heap) : Prop where
  nd1 : (σ.map (·.1) ++ Φ.map (·.1)).Nodup
  nd2 : (σ.map (·.2)).Nodup
  nd3 : (H'.ents.map (·.1)).Nodup
  lt : ∀ x, x ∈ σ → x.2 < H'.n
  idn : ∀ x, x ∈ σ → x.1 < n ∨ x.2 < n → x.1 = x.2
  num : n ≤ H'.n
  src : ∀ e, e ∈ H'.ents → ∃ b k, (b, e.1) ∈ σ ∧ H.get b = some k ∧ fitB σ Φ k e.2
  frz : ∀ x, x ∈ Φ → ∃ cs, H.get x.1 = some (.cells cs) ∧ fitL σ Φ cs x.2 ∧ pureL x.2 = true
/-- nothing of the heap stays -/
theorem FitH.nothing {H : Heap} : FitH 0 [] [] H ⟨0, [[]]⟩ where
  nd1 := List.nodup_nil
  nd2 := List.nodup_nil
  nd3 := List.nodup_nil
  lt := fun x h => by cases h
  idn := fun x h => by cases h
  num := Nat.le_refl _
  src := fun e he => by simp [Heap.ents] at he
  frz := fun x h => by cases h

section
variable {n : Nat} {σ : List (Nat × Nat)} {Φ : List (Nat × List AV)} {ρ : Place} {H H' : Heap} {w : World}
def newPlace (n : Nat) (σ : List (Nat × Nat)) (Φ : List (Nat × List AV)) (ρ : Place) (w : World) (hw : ∀ k, ρ.B k → w.heap[k]? = ρ.W.heap[k]?) : Place :=
  ⟨fun b => if b < n then ρ b else (lookR b σ).bind ρ.at_, w, fun k => ρ.B k ∨ ∃ b cs l, (b, cs) ∈ Φ ∧ ρ b = some l ∧ l.cb = k,
    fun g hg => ⟨.inl (ρ.gl g hg).1, let ⟨m, hm⟩ := (ρ.gl g hg).2; ⟨m, by rw [World.cell?, hw g (ρ.gl g hg).1]; exact hm⟩⟩⟩
theorem FitH.fits (f : FitH n σ Φ H H') (sm : Sim ρ H w) : Fits σ Φ ρ (newPlace n σ Φ ρ w sm.below) H w where
  le := ⟨fun _ _ h => by simp [Place.bare] at h, fun k hk => ⟨.inl hk, sm.below k hk⟩, sm.os, sm.tape, sm.output⟩
  now := fun _ _ => rfl
  ren := fun b b' h l hl => by
    have hm := lookN_mem h
    show (if b' < n then ρ b' else (lookR b' σ).bind ρ.at_) = some l
    split
    · rename_i hlt
      have := f.idn _ hm (.inr hlt)
      simp only at this
      subst this; exact hl
    · rw [lookR_of f.nd2 hm]; exact hl
  frz := fun b cs' h => by
    obtain ⟨cs, h1, h2, h3⟩ := f.frz _ (lookC_mem h)
    obtain ⟨l, hl, _⟩ := sm.block h1
    exact ⟨cs, l, h1, hl, .inr ⟨b, cs', l, lookC_mem h, hl, rfl⟩, h2, h3⟩
theorem newPlace_at {hw : ∀ k, ρ.B k → w.heap[k]? = ρ.W.heap[k]?} (f : FitH n σ Φ H H') {b b' : Nat} (h : (b, b') ∈ σ) : (newPlace n σ Φ ρ w hw) b' = ρ b := by
  show (if b' < n then ρ b' else (lookR b' σ).bind ρ.at_) = ρ b
  split
  · rename_i hlt
    have := f.idn _ h (.inr hlt)
    simp only at this
    rw [this]
  · rw [lookR_of f.nd2 h]; rfl
theorem FitH.sim (f : FitH n σ Φ H H') (sm : Sim ρ H w) (hn : n ≤ H.n) : Sim (newPlace n σ Φ ρ w sm.below) H' w where
  base := fun k hk => by
    rcases hk with hk | ⟨b, cs, l, h1, h2, rfl⟩
    · exact sm.base k hk
    · obtain ⟨cs0, g1, _⟩ := f.frz _ h1
      obtain ⟨l', hl', _, hlt, _⟩ := sm.block g1
      simp only at hl'
      rw [h2] at hl'; cases hl'; exact hlt
  below := fun _ _ => rfl
  os := rfl
  tape := rfl
  output := rfl
  dom := fun b hb => by
    show (if b < n then ρ b else (lookR b σ).bind ρ.at_) = none
    have := f.num
    rw [if_neg (by omega)]
    cases h : lookR b σ with
    | none => rfl
    | some c =>
      have := f.lt _ (lookR_mem h)
      simp only at this
      omega
  nodup := f.nd3
  live := fun e he => by
    obtain ⟨b, k, h1, h2, h3⟩ := f.src e he
    obtain ⟨l, g1, g2, g3, g4⟩ := sm.block h2
    refine ⟨l, by rw [newPlace_at f h1]; exact g1, ?_, g3, ?_⟩
    · rintro (h | ⟨b2, cs, l2, m1, m2, m3⟩)
      · exact g2 h
      · obtain ⟨cs0, q1, _⟩ := f.frz _ m1
        have := sm.inj _ _ (Heap.get_mem h2) (Heap.get_mem q1) l l2 g1 m2 m3.symm
        simp only at this
        have hd := (List.nodup_append.1 f.nd1).2.2 b (List.mem_map.2 ⟨_, h1, rfl⟩) b2 (List.mem_map.2 ⟨_, m1, rfl⟩)
        exact hd this
    · have run := fun {v v' : AV} {x : Value} => Fits.run (f.fits sm) sm (SizeOf.sizeOf v') (v := v) (v' := v') (x := x) (Nat.le_refl _)
      cases k with
      | cells cs =>
        cases he2 : e.2 with
        | cells cs' =>
          rw [he2] at h3
          obtain ⟨k1, k2⟩ := fitL_spec (show fitL σ Φ cs cs' from h3)
          refine ⟨by rw [k1]; exact g4.1, g4.2.1, fun i hi => ?_⟩
          obtain ⟨x, hx, hv⟩ := g4.2.2 i (by omega)
          exact ⟨x, hx, run hv (k2 i (by omega) hi)⟩
        | map _ => rw [he2] at h3; exact h3.elim
        | loop => rw [he2] at h3; exact h3.elim
      | map es =>
        cases he2 : e.2 with
        | map es' =>
          rw [he2] at h3
          obtain ⟨ents, clock, q1, q2, q3⟩ := g4
          obtain ⟨k1, k2⟩ := fitL_spec h3.1
          obtain ⟨m1, m2⟩ := fitL_spec h3.2
          simp only [List.length_map] at k1
          refine ⟨ents, clock, q1, by omega, fun i a b => ?_⟩
          have r1 := k2 i (by simpa using (by omega : i < es.length)) (by simpa using a)
          have r2 := m2 i (by simpa using (by omega : i < es.length)) (by simpa using a)
          simp only [List.getElem_map] at r1 r2
          exact ⟨run (q3 i (by omega) b).1 r1, run (q3 i (by omega) b).2 r2⟩
        | cells _ => rw [he2] at h3; exact h3.elim
        | loop => rw [he2] at h3; exact h3.elim
      | loop => cases he2 : e.2 <;> rw [he2] at h3 <;> exact h3.elim
  inj := fun e e' he he' l l' hl hl' hc => by
    obtain ⟨b, k, h1, h2, _⟩ := f.src e he
    obtain ⟨b', k', h1', h2', _⟩ := f.src e' he'
    rw [newPlace_at f h1] at hl
    rw [newPlace_at f h1'] at hl'
    have := sm.inj _ _ (Heap.get_mem h2) (Heap.get_mem h2') l l' hl hl' hc
    simp only at this
    subst this
    exact pair_eq (List.nodup_append.1 f.nd1).1 h1 h1'
theorem FitH.since {b : Base} (f : FitH b.n σ Φ H H') (sm : Sim ρ H w) (h : Since b ρ H w) : Since b (newPlace b.n σ Φ ρ w sm.below) H' w where
  fz := fun k hk => let ⟨h1, h2⟩ := h.fz k hk; ⟨.inl h1, (sm.below k h1).trans h2⟩
  os := sm.os.trans h.os
  tape := sm.tape.trans h.tape
  output := sm.output.trans h.output
  size := h.size
  keeps := h.keeps
  rows := fun e he l hl => by
    obtain ⟨c, k, h1, h2, _⟩ := f.src e he
    rw [newPlace_at f h1] at hl
    exact h.rows _ (Heap.get_mem h2) l hl
  cold := fun k hk => by
    rcases hk with hk | ⟨c, cs, l, h1, h2, rfl⟩
    · exact h.cold k hk
    · obtain ⟨cs0, g1, _⟩ := f.frz _ h1
      exact .inr (h.rows _ (Heap.get_mem g1) l h2)
  low := fun k hk => by
    show (if k < b.n then ρ k else _) = _
    rw [if_pos hk]; exact h.low k hk
  num := f.num
theorem lookK_fit {t : Nat} : ∀ {ks : List Nat} {vs vs' : List AV} {v : AV}, fitL σ Φ vs vs' → lookK t ks vs' = some v → ∃ u, lookK t ks vs = some u ∧ fitV σ Φ u v
  | [], _, _, _, _, h => by simp [lookK] at h
  | k :: ks, [], vs', v, hf, h => by
    simp only [fitL] at hf
    subst hf
    simp [lookK] at h
  | k :: ks, a :: r, [], v, hf, h => by simp [fitL] at hf
  | k :: ks, a :: r, a' :: r', v, hf, h => by
    simp only [fitL] at hf
    unfold lookK at h ⊢
    simp only at h ⊢
    split at h
    · rename_i hb
      simp only [Option.some.injEq] at h
      subst h
      exact ⟨a, by simp [hb], hf.1⟩
    · rename_i hb
      obtain ⟨u, h1, h2⟩ := lookK_fit hf.2 h
      exact ⟨u, by simp [hb, h1], h2⟩
end
/-- state s says all that s' says -/
def Fit (n : Nat) (σ : List (Nat × Nat)) (Φ : List (Nat × List AV)) (s s' : St) : Prop := s'.ks = s.ks ∧ s'.sz = s.sz ∧ s'.ts = [] ∧ fitL σ Φ s.vs s'.vs ∧ FitH n σ Φ s.H s'.H
theorem At.fit {b : Base} {s s' : St} {a : Act} {w : World} {σ : List (Nat × Nat)} {Φ : List (Nat × List AV)} (h : At b s a w) (f : Fit b.n σ Φ s s') : At b s' a w := by
  obtain ⟨ρ, h1, h2, h3⟩ := h
  obtain ⟨f1, f2, f3, f4, f5⟩ := f
  refine ⟨_, f5.since h2 h1, f5.sim h2 h1.num, by rw [f2]; exact h3.size, fun t v hv => ?_⟩
  simp only [St.get, f3, f1, look] at hv
  split at hv
  · rename_i u hu
    simp only [Option.some.injEq] at hv
    subst hv
    obtain ⟨x, g1, g2⟩ := lookK_fit f4 hu
    exact Fits.run (f5.fits h2) h2 _ (Nat.le_refl _) (h3.val t x (by simp [St.get, g1])) g2
  · cases hv
end Go.Proofs.Ytpkplilgjdbhhaa
