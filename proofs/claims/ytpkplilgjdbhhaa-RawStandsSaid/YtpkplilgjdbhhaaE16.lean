/- Regions that draw their order: what the list's order says of any order. No condition. -/
import Derived.Test.YtpkplilgjdbhhaaE15
namespace Go.Proofs.Ytpkplilgjdbhhaa
set_option linter.unusedSimpArgs false
set_option linter.unusedVariables false
open Go Go.RowKit

/-! ### The order's numbers -/
def orOf (acc : Array Nat) (l : List Edge) (s : Nat) : Nat := l.foldl (fun s e => if Region.binds .any e then s ||| 2 ^ e.on ||| acc.getD e.on 0 else s) s
theorem orOf_bit {acc : Array Nat} {j : Nat} : ∀ {l : List Edge} {s : Nat}, (orOf acc l s).testBit j = true →
    s.testBit j = true ∨ ∃ e, e ∈ l ∧ Region.binds .any e = true ∧ (e.on = j ∨ (acc.getD e.on 0).testBit j = true)
  | [], s, h => .inl h
  | e :: r, s, h => by
    simp only [orOf, List.foldl_cons] at h
    rcases orOf_bit (l := r) h with h | ⟨e', he', hb, hj⟩
    · by_cases hb : Region.binds .any e = true
      · rw [if_pos hb, Nat.testBit_or, Nat.testBit_or, Nat.testBit_two_pow] at h
        simp only [Bool.or_eq_true, decide_eq_true_eq] at h
        rcases h with (h | h) | h
        · exact .inl h
        · exact .inr ⟨e, List.mem_cons_self, hb, .inl h⟩
        · exact .inr ⟨e, List.mem_cons_self, hb, .inr h⟩
      · rw [if_neg hb] at h; exact .inl h
    · exact .inr ⟨e', List.mem_cons_of_mem _ he', hb, hj⟩
def befL (l : List Oper) (acc : Array Nat) : Array Nat := l.foldl (fun acc o => acc.push (orOf acc o.after.toList 0)) acc
theorem befL_eq (ops : Array Oper) : Region.before ops = befL ops.toList #[] := by
  unfold Region.before befL orOf
  rw [← Array.foldl_toList]
  congr 1
  funext acc o
  rw [← Array.foldl_toList]
theorem befL_spec : ∀ (l : List Oper) (acc : Array Nat), (befL l acc).size = acc.size + l.length ∧ (∀ i, i < acc.size → (befL l acc).getD i 0 = acc.getD i 0) ∧
    ∀ i (h : i < l.length), ∃ acc' : Array Nat, acc'.size = acc.size + i ∧ (∀ k, k < acc'.size → acc'.getD k 0 = (befL l acc).getD k 0) ∧ (befL l acc).getD (acc.size + i) 0 = orOf acc' l[i].after.toList 0
  | [], acc => ⟨rfl, fun _ _ => rfl, fun i h => absurd h (Nat.not_lt_zero i)⟩
  | o :: r, acc => by
    obtain ⟨h1, h2, h3⟩ := befL_spec r (acc.push (orOf acc o.after.toList 0))
    have e : befL (o :: r) acc = befL r (acc.push (orOf acc o.after.toList 0)) := rfl
    rw [e]
    have hlow : ∀ i, i < acc.size → (befL r (acc.push (orOf acc o.after.toList 0))).getD i 0 = acc.getD i 0 := fun i hi => by
      rw [h2 i (by simp; omega)]
      simp only [Array.getD_eq_getD_getElem?, Array.getElem?_push]
      rw [if_neg (by omega)]
    refine ⟨by rw [h1]; simp; omega, hlow, fun i hi => ?_⟩
    cases i with
    | zero =>
      refine ⟨acc, rfl, fun k hk => (hlow k hk).symm, ?_⟩
      rw [Nat.add_zero, h2 _ (by simp)]
      simp [Array.getD_eq_getD_getElem?]
    | succ i =>
      obtain ⟨acc', g1, g2, g3⟩ := h3 i (by simpa using hi)
      refine ⟨acc', by rw [g1]; simp; omega, g2, ?_⟩
      have : acc.size + (i + 1) = (acc.push (orOf acc o.after.toList 0)).size + i := by simp; omega
      rw [this, g3]
      rfl
theorem ahead_step {ops : Array Oper} {i j : Nat} (h : ahead (Region.before ops) j i = true) :
    ∃ o, ops[i]? = some o ∧ ∃ e, e ∈ o.after ∧ Region.binds .any e = true ∧ (e.on = j ∨ (e.on < i ∧ ahead (Region.before ops) j e.on = true)) := by
  unfold ahead at h
  rw [befL_eq] at h ⊢
  obtain ⟨h1, _, h3⟩ := befL_spec ops.toList #[]
  have hi : i < ops.size := by
    rcases Nat.lt_or_ge i ops.size with hh | hh
    · exact hh
    · have : (befL ops.toList #[]).getD i 0 = 0 := by
        rw [Array.getD_eq_getD_getElem?, Array.getElem?_eq_none (by rw [h1]; simpa using hh)]; rfl
      rw [this] at h; simp at h
  obtain ⟨acc', g1, g2, g3⟩ := h3 i (by simpa using hi)
  simp only [List.size_toArray, List.length_nil, Nat.zero_add] at g1 g3
  rw [g3] at h
  rcases orOf_bit h with h | ⟨e, he, hb, hj⟩
  · simp at h
  · refine ⟨ops[i], by simp [hi], e, by simpa using he, hb, ?_⟩
    rcases hj with hj | hj
    · exact .inl hj
    · right
      have hlt : e.on < acc'.size := by
        rcases Nat.lt_or_ge e.on acc'.size with hh | hh
        · exact hh
        · rw [Array.getD_eq_getD_getElem?, Array.getElem?_eq_none hh] at hj; simp at hj
      refine ⟨by omega, ?_⟩
      unfold ahead
      rw [← g2 _ hlt]; exact hj

/-- a set of operations that holds, with each, all that binds it -/
def Closed (ops : Array Oper) (D : Nat → Prop) : Prop := ∀ j, D j → ∀ o, ops[j]? = some o → ∀ e, e ∈ o.after → Region.binds .any e = true → D e.on
/-- all that binds i is in it -/
def Comes (ops : Array Oper) (D : Nat → Prop) (i : Nat) : Prop := ∀ o, ops[i]? = some o → ∀ e, e ∈ o.after → Region.binds .any e = true → D e.on
theorem ahead_in {ops : Array Oper} {D : Nat → Prop} (hD : Closed ops D) : ∀ {i j : Nat}, Comes ops D i → ahead (Region.before ops) j i = true → D j := by
  intro i
  induction i using Nat.strongRecOn with
  | _ i ih =>
    intro j hc h
    obtain ⟨o, ho, e, he, hb, hj⟩ := ahead_step h
    have hon := hc o ho e he hb
    rcases hj with rfl | ⟨hlt, hj⟩
    · exact hon
    · exact ih e.on hlt (hD e.on hon) hj
theorem edgesBack_spec {i : Nat} : ∀ {l : List Edge}, edgesBack i l = true → ∀ e, e ∈ l → Region.binds .any e = true → e.on < i
  | [], _, e, he, _ => by cases he
  | x :: r, h, e, he, hb => by
    unfold edgesBack at h
    split at h
    · rename_i hx
      rcases List.mem_cons.1 he with rfl | he
      · rw [hx] at hb; cases hb
      · exact edgesBack_spec h e he hb
    · split at h
      · rename_i hlt
        rcases List.mem_cons.1 he with rfl | he
        · exact by simpa using hlt
        · exact edgesBack_spec h e he hb
      · cases h
theorem allBack_spec : ∀ {l : List Oper} {i : Nat}, allBack i l = true → ∀ j (h : j < l.length), ∀ e, e ∈ l[j].after → Region.binds .any e = true → e.on < i + j
  | [], _, _, j, hj, _, _, _ => absurd hj (Nat.not_lt_zero j)
  | o :: r, i, h, j, hj, e, he, hb => by
    unfold allBack at h
    split at h
    · rename_i hx
      cases j with
      | zero => exact edgesBack_spec hx e (by simpa using he) hb
      | succ j =>
        have := allBack_spec h j (by simpa using hj) e he hb
        omega
    · cases h
def Acts (ops : Array Oper) (i : Nat) : Prop := ∃ o, ops[i]? = some o ∧ clsOf o.op = .acts
theorem acting_spec : ∀ {l : List Oper} {i j : Nat}, j ∈ acting i l ↔ ∃ k, ∃ h : k < l.length, j = i + k ∧ clsOf l[k].op = .acts
  | [], i, j => by simp [acting]
  | o :: r, i, j => by
    have tl : j ∈ acting (Nat.succ i) r ↔ ∃ k, ∃ h : k + 1 < (o :: r).length, j = i + (k + 1) ∧ clsOf ((o :: r)[k + 1]).op = .acts := by
      rw [acting_spec]
      constructor
      · rintro ⟨k, hk, rfl, hc⟩; exact ⟨k, by simpa using hk, by omega, hc⟩
      · rintro ⟨k, hk, rfl, hc⟩; exact ⟨k, by simpa using hk, by omega, hc⟩
    constructor
    · intro h
      unfold acting at h
      split at h
      · rename_i hc
        rcases List.mem_cons.1 h with rfl | h
        · exact ⟨0, by simp, rfl, hc⟩
        · obtain ⟨k, hk, h1, h2⟩ := tl.1 h; exact ⟨k + 1, hk, h1, h2⟩
      · obtain ⟨k, hk, h1, h2⟩ := tl.1 h; exact ⟨k + 1, hk, h1, h2⟩
    · rintro ⟨k, hk, h1, h2⟩
      unfold acting
      cases k with
      | zero =>
        simp only [List.getElem_cons_zero] at h2
        simp only [h2]
        exact List.mem_cons.2 (.inl h1)
      | succ k =>
        have := tl.2 ⟨k, hk, h1, h2⟩
        split
        · exact List.mem_cons_of_mem _ this
        · exact this
theorem acting_ge {l : List Oper} {i j : Nat} (h : j ∈ acting i l) : i ≤ j := by
  obtain ⟨k, _, rfl, _⟩ := acting_spec.1 h; omega
theorem mem_acting {ops : Array Oper} {i : Nat} : i ∈ acting 0 ops.toList ↔ Acts ops i := by
  rw [acting_spec]
  constructor
  · rintro ⟨k, hk, rfl, hc⟩
    have hk' : k < ops.size := by simpa using hk
    exact ⟨ops[k], by simp [hk'], by simpa using hc⟩
  · rintro ⟨o, ho, hc⟩
    obtain ⟨hi, rfl⟩ := Array.getElem?_eq_some_iff.1 ho
    exact ⟨i, by simpa using hi, by simp, by simpa using hc⟩
/-- whoever waits for i waits for j -/
def Fol (ops : Array Oper) (j i : Nat) : Prop := ∀ D, Closed ops D → Comes ops D i → D j
theorem Fol.of_ahead {ops : Array Oper} {j i : Nat} (h : ahead (Region.before ops) j i = true) : Fol ops j i := fun _ hD hc => ahead_in hD hc h
theorem Fol.trans {ops : Array Oper} {j k i : Nat} (h : Fol ops j k) (g : Fol ops k i) : Fol ops j i := fun D hD hc => h D hD (hD k (g D hD hc))
theorem chained_head {ops : Array Oper} : ∀ {r : List Nat} {i : Nat}, chained (Region.before ops) (i :: r) = true → ∀ j, j ∈ r → Fol ops i j
  | [], _, _, _, h => by cases h
  | k :: r, i, h, j, hj => by
    unfold chained at h
    simp only at h
    split at h
    · rename_i hx
      rcases List.mem_cons.1 hj with rfl | hj
      · exact .of_ahead hx
      · exact Fol.trans (.of_ahead hx) (chained_head h j hj)
    · cases h
theorem chained_tail {ops : Array Oper} {r : List Nat} {i : Nat} (h : chained (Region.before ops) (i :: r) = true) : chained (Region.before ops) r = true := by
  unfold chained at h
  cases r with
  | nil => rfl
  | cons k r =>
    simp only at h
    split at h
    · exact h
    · cases h
theorem chained_fol {ops : Array Oper} : ∀ {l : List Oper} {k : Nat}, chained (Region.before ops) (acting k l) = true → ∀ i j, i ∈ acting k l → j ∈ acting k l → i < j → Fol ops i j
  | [], _, _, i, j, hi, _, _ => by simp [acting] at hi
  | o :: r, k, h, i, j, hi, hj, hlt => by
    unfold acting at h hi hj
    split at h
    · rename_i hc
      simp only [hc] at hi hj
      rcases List.mem_cons.1 hi with rfl | hi
      · rcases List.mem_cons.1 hj with rfl | hj
        · omega
        · exact chained_head h j hj
      · rcases List.mem_cons.1 hj with rfl | hj
        · have := acting_ge hi; omega
        · exact chained_fol (chained_tail h) i j hi hj hlt
    · rename_i hc
      split at hi
      · rename_i hc'; exact absurd hc' hc
      · split at hj
        · rename_i hc'; exact absurd hc' hc
        · exact chained_fol h i j hi hj hlt
theorem memN_spec {n : Nat} : ∀ {l : List Nat}, memN n l = true ↔ n ∈ l
  | [] => by simp [memN]
  | m :: r => by
    unfold memN
    split
    · rename_i h; simp [Nat.eq_of_beq_eq_true h]
    · rename_i h
      rw [memN_spec, List.mem_cons]
      constructor
      · exact .inr
      · rintro (rfl | h')
        · simp at h
        · exact h'
theorem writersOK_spec {bef : Array Nat} {i : Nat} {ts : List Nat} : ∀ {l : List Oper} {j : Nat}, writersOK bef i ts j l = true → ∀ k (h : k < l.length) t, l[k].dst = some t → t ∈ ts →
    i = j + k ∨ (i < j + k ∧ ahead bef i (j + k) = true) ∨ (j + k < i ∧ ahead bef (j + k) i = true)
  | [], _, _, k, hk, _, _, _ => absurd hk (Nat.not_lt_zero k)
  | p :: r, j, h, k, hk, t, hd, ht => by
    have tl : writersOK bef i ts (Nat.succ j) r = true := by
      unfold writersOK at h
      split at h
      · exact h
      · split at h
        · exact h
        · split at h
          · exact h
          · cases h
    cases k with
    | succ k =>
      have := writersOK_spec tl k (by simpa using hk) t hd ht
      have e : Nat.succ j + k = j + (k + 1) := by omega
      rw [e] at this; exact this
    | zero =>
      simp only [List.getElem_cons_zero] at hd
      unfold writersOK at h
      simp only [hd, memN_spec.2 ht] at h
      split at h
      · rename_i hx
        split at hx
        · rename_i hij; exact .inl (Nat.eq_of_beq_eq_true hij)
        · rename_i hij
          split at hx
          · rename_i hlt; exact .inr (.inl ⟨by simpa using hlt, hx⟩)
          · rename_i hlt
            have h1 : i ≠ j := fun e => by subst e; simp at hij
            have h2 : ¬ i < j := fun e => by have : Nat.blt i j = true := by simpa using e
                                             rw [this] at hlt; cases hlt
            exact .inr (.inr ⟨by omega, hx⟩)
      · cases h
theorem tempsOK_spec {bef : Array Nat} {ops : Array Oper} : ∀ {l : List Oper} {i : Nat}, tempsOK bef ops i l = true → ∀ k (h : k < l.length), writersOK bef (i + k) (l[k].dst.toList ++ slotsOf ops l[k]) 0 ops.toList = true
  | [], _, _, k, hk => absurd hk (Nat.not_lt_zero k)
  | o :: r, i, h, k, hk => by
    unfold tempsOK at h
    split at h
    · rename_i hx
      cases k with
      | zero => exact hx
      | succ k =>
        have := tempsOK_spec h k (by simpa using hk)
        have e : Nat.succ i + k = i + (k + 1) := by omega
        rw [e] at this; exact this
    · cases h
/-- what 'drawOK' says -/
structure Drawn (ops : Array Oper) : Prop where
  temps : ∀ i o, ops[i]? = some o → ∀ j p t, ops[j]? = some p → p.dst = some t → t ∈ o.dst.toList ++ slotsOf ops o →
    i = j ∨ (i < j ∧ ahead (Region.before ops) i j = true) ∨ (j < i ∧ ahead (Region.before ops) j i = true)
  back : ∀ i o, ops[i]? = some o → ∀ e, e ∈ o.after → Region.binds .any e = true → e.on < i
  chain : ∀ i j, Acts ops i → Acts ops j → i < j → Fol ops i j
theorem drawOK_spec {ops : Array Oper} (h : drawOK ops = true) : Drawn ops := by
  unfold drawOK at h
  split at h
  · rename_i hc
    split at h
    · rename_i ht
      refine ⟨fun i o ho j p t hp hd hm => ?_, fun i o ho e he hb => ?_, fun i j hi hj hlt => chained_fol hc i j (mem_acting.2 hi) (mem_acting.2 hj) hlt⟩
      · obtain ⟨hi, rfl⟩ := Array.getElem?_eq_some_iff.1 ho
        obtain ⟨hj, rfl⟩ := Array.getElem?_eq_some_iff.1 hp
        have h1 := tempsOK_spec ht i (by simpa using hi)
        have h2 := writersOK_spec h1 j (by simpa using hj) t (by simpa using hd) (by simpa using hm)
        simpa using h2
      · obtain ⟨hi, rfl⟩ := Array.getElem?_eq_some_iff.1 ho
        have := allBack_spec h i (by simpa using hi) e (by simpa using he) hb
        omega
    · cases h
  · cases h
theorem Drawn.lt {ops : Array Oper} (d : Drawn ops) {j i : Nat} (h : ahead (Region.before ops) j i = true) : j < i :=
  ahead_in (D := fun k => k < i) (fun k hk o ho e he hb => Nat.lt_trans (d.back k o ho e he hb) hk) (fun o ho e he hb => d.back i o ho e he hb) h
theorem ahead_size {ops : Array Oper} {j i : Nat} (h : ahead (Region.before ops) j i = true) : i < ops.size := by
  obtain ⟨o, ho, _⟩ := ahead_step h
  exact (Array.getElem?_eq_some_iff.1 ho).1
end Go.Proofs.Ytpkplilgjdbhhaa
