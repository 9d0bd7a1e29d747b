/- How E's reads and writes of cells meet the model's. No condition. -/
import Derived.Test.YtpkplilgjdbhhaaE2
namespace Go.Proofs.Ytpkplilgjdbhhaa
set_option linter.unusedSimpArgs false
set_option linter.unusedVariables false
open Go Go.RowKit

theorem layO_spec {α : Type} : ∀ {vs l l' : List α}, overL vs l = some l' → vs.length ≤ l.length ∧ l' = vs ++ l.drop vs.length
  | [], l, l', h => by
    simp only [overL, Option.some.injEq] at h
    subst h
    simp
  | v :: vs, l, l', h => by
    unfold overL at h
    cases l with
    | nil => simp at h
    | cons x r =>
      obtain ⟨r', hr, hl⟩ := Option.bind_eq_some_iff.1 h
      simp only [Option.some.injEq] at hl
      subst hl
      obtain ⟨h1, h2⟩ := layO_spec hr
      subst h2
      simp [h1]
theorem layL_spec {α : Type} {vs : List α} : ∀ {o : Nat} {l l' : List α}, layL vs o l = some l' → o + vs.length ≤ l.length ∧ l' = l.take o ++ vs ++ l.drop (o + vs.length)
  | 0, l, l', h => by
    have := layO_spec (show overL vs l = some l' by cases l <;> simpa [layL] using h)
    simpa using this
  | o + 1, l, l', h => by
    unfold layL at h
    cases l with
    | nil => simp at h
    | cons x r =>
      obtain ⟨r', hr, hl⟩ := Option.bind_eq_some_iff.1 h
      simp only [Option.some.injEq] at hl
      subst hl
      obtain ⟨h1, h2⟩ := layL_spec hr
      subst h2
      refine ⟨by simp; omega, ?_⟩
      have : o + 1 + vs.length = (o + vs.length) + 1 := by omega
      simp [this]
theorem takeL_spec {α : Type} : ∀ {n : Nat} {l r : List α}, takeL n l = some r → n ≤ l.length ∧ r = l.take n
  | 0, l, r, h => by cases l <;> simp_all [takeL]
  | n + 1, l, r, h => by
    cases l with
    | nil => simp [takeL] at h
    | cons x l =>
      obtain ⟨r', hr, hl⟩ := Option.bind_eq_some_iff.1 (show (takeL n l).bind (fun r' => some (x :: r')) = some r from h)
      simp only [Option.some.injEq] at hl
      subst hl
      obtain ⟨h1, h2⟩ := takeL_spec hr
      subst h2
      simp [h1]
theorem subL_spec {α : Type} {o n : Nat} {l r : List α} (h : subL o n l = some r) : (n = 0 ∨ o + n ≤ l.length) ∧ r = (l.drop o).take n := by
  obtain ⟨h1, h2⟩ := takeL_spec h
  simp at h1
  exact ⟨by omega, h2⟩
theorem getL_spec {α : Type} : ∀ {l : List α} {i : Nat} {x : α}, getL l i = some x → ∃ h : i < l.length, l[i] = x
  | [], i, x, h => by simp [getL] at h
  | y :: r, 0, x, h => by simp only [getL, Option.some.injEq] at h; exact ⟨by simp, h⟩
  | y :: r, i + 1, x, h => by
    obtain ⟨h1, h2⟩ := getL_spec (show getL r i = some x from h)
    exact ⟨by simpa using h1, h2⟩

theorem setCells_size (b : Nat) : ∀ (vs : List Value) (o : Nat) (w : World), (w.setCells b o vs).heap.size = w.heap.size
  | [], _, _ => rfl
  | v :: r, o, w => by simp only [World.setCells]; rw [setCells_size b r]; simp
theorem setCells_heap (b : Nat) : ∀ (vs : List Value) (o : Nat) (w : World) (j : Nat), j ≠ b → (w.setCells b o vs).heap[j]? = w.heap[j]?
  | [], _, _, _, _ => rfl
  | v :: r, o, w, j, h => by simp only [World.setCells]; rw [setCells_heap b r _ _ j h]; exact Below.heap_setCell _ _ _ _ h
theorem setCells_rest (b : Nat) : ∀ (vs : List Value) (o : Nat) (w : World), (w.setCells b o vs).os = w.os ∧ (w.setCells b o vs).tape = w.tape ∧ (w.setCells b o vs).output = w.output
  | [], _, _ => ⟨rfl, rfl, rfl⟩
  | v :: r, o, w => by simp only [World.setCells]; exact setCells_rest b r _ _

section
variable {P : Program}

theorem allSingle_mem : ∀ {vs : List AV}, allSingle vs = true → ∀ v, v ∈ vs → v.single = true
  | [], _, v, h => by cases h
  | x :: r, h, v, hm => by
    unfold allSingle at h
    split at h
    · rename_i hx
      rcases List.mem_cons.1 hm with rfl | hm
      · exact hx
      · exact allSingle_mem h v hm
    · cases h
theorem VRs.oneCell {ρ : Place} {vs : List AV} {xs : List Value} (r : VRs ρ vs xs) (h : allSingle vs = true) : ∀ x, x ∈ xs → x.oneCell' = true := by
  intro x hx
  obtain ⟨i, hi, rfl⟩ := List.mem_iff_getElem.1 hx
  have hi' : i < vs.length := by rw [← r.1]; exact hi
  exact (r.2 i hi' hi).oneCell (allSingle_mem h _ (List.getElem_mem hi'))

theorem Sim.block {ρ : Place} {H : Heap} {w : World} (s : Sim ρ H w) {b : Nat} {k : Blk} (h : H.get b = some k) : ∃ l, ρ b = some l ∧ ¬ ρ.B l.cb ∧ l.cb < w.heap.size ∧ BlkR ρ w l k :=
  s.live (b, k) (Heap.get_mem h)

/-- a write of cells, into a block of the heap -/
theorem write_run {ρ : Place} {H H' : Heap} {w : World} (s : Sim ρ H w) {b o : Nat} {vs : List AV} {xs : List Value} {l : Loc}
    (h : writeCells H b o vs = some H') (hl : ρ b = some l) (hv : VRs ρ vs xs) (h1 : ∀ x, x ∈ xs → x.oneCell' = true) :
    (storeCells ⟨l.cb, l.off + o, none⟩ xs).run P w = .ok () (w.setCells l.cb (l.off + o) xs) ∧
    Sim ρ H' (w.setCells l.cb (l.off + o) xs) ∧ Step ρ H w ρ H' (w.setCells l.cb (l.off + o) xs) := by
  obtain ⟨k, hk, h⟩ := Option.bind_eq_some_iff.1 h
  cases k with
  | map _ => simp at h
  | loop => simp at h
  | cells cs =>
    obtain ⟨cs', hlay, hset⟩ := Option.bind_eq_some_iff.1 h
    obtain ⟨l', hl', hB, hlt, hr⟩ := s.block hk
    rw [hl] at hl'; cases hl'
    obtain ⟨hlen, rfl⟩ := layL_spec hlay
    obtain ⟨hn, hd, hk', ⟨k0, hk0⟩, hs⟩ := set_spec hset s.nodup
    have hxl : xs.length = vs.length := hv.1
    have hcell : ∀ j, j < xs.length → (w.cell? ⟨l.cb, l.off + o + j, none⟩).isSome = true := fun j hj => (hr.2.1 _ (by have := hr.1; omega)).1
    have hin := World.cell?_setCells_in l.cb xs (l.off + o) w hcell
    have hout := World.cell?_setCells_out l.cb xs (l.off + o) w
    have hrun := run_storeCells_cells (P := P) l.cb (l.off + o) xs 0 w (by simpa using hcell) (fun j hj => (hr.2.1 _ (by have := hr.1; omega)).2) h1
    simp only [Nat.add_zero] at hrun
    refine ⟨hrun, s.turned hk0 hl hn hd hk' hs (setCells_size _ _ _ _) (fun j hj => setCells_heap _ _ _ _ j hj) (setCells_rest _ _ _ _).1 (setCells_rest _ _ _ _).2.1 (setCells_rest _ _ _ _).2.2 ?_⟩
    refine ⟨by simp; have := hr.1; omega, fun i hi => ?_, fun i hi => ?_⟩
    · rw [World.frozen?_setCells]
      refine ⟨?_, (hr.2.1 i hi).2⟩
      by_cases hi2 : l.off + o ≤ i ∧ i < l.off + o + xs.length
      · have := hin (i - (l.off + o)) (by omega)
        rw [show l.off + o + (i - (l.off + o)) = i by omega] at this
        rw [this]; rfl
      · rw [hout ⟨l.cb, i, none⟩ (fun _ _ => by show i < _ ∨ _ ≤ i; omega)]
        exact (hr.2.1 i hi).1
    · by_cases hi2 : o ≤ i ∧ i < o + vs.length
      · have hin' := hin (i - o) (by omega)
        rw [show l.off + o + (i - o) = l.off + i by omega] at hin'
        refine ⟨_, hin', ?_⟩
        have he : (List.take o cs ++ vs ++ List.drop (o + vs.length) cs)[i] = vs[i - o]'(by omega) := by
          rw [List.getElem_append_left (by simp; omega), List.getElem_append_right (by simp; omega)]
          congr 1
          simp; omega
        rw [he]
        exact hv.2 _ _ _
      · have hlc : i < cs.length := by simp at hi; omega
        obtain ⟨x, hx, hxv⟩ := hr.2.2 i hlc
        refine ⟨x, by rw [hout ⟨l.cb, l.off + i, none⟩ (fun _ _ => by show l.off + i < _ ∨ _ ≤ l.off + i; omega)]; exact hx, ?_⟩
        have he : (List.take o cs ++ vs ++ List.drop (o + vs.length) cs)[i] = cs[i] := by
          by_cases h3 : i < o
          · rw [List.getElem_append_left (by simp; omega), List.getElem_append_left (by simp; omega)]
            simp
          · rw [List.getElem_append_right (by simp; omega)]
            simp only [List.length_append, List.length_take, List.getElem_drop]
            congr 1
            omega
        rw [he]; exact hxv

/-- a read of cells -/
theorem read_cells {ρ : Place} {H : Heap} {w : World} (s : Sim ρ H w) {b o n : Nat} {r : List AV} {l : Loc} (h : readCells H b o n = some r) (hl : ρ b = some l) :
    ∃ xs : List Value, VRs ρ r xs ∧ r.length = n ∧ ∀ j v, xs[j]? = some v → w.cell? ⟨l.cb, l.off + o + j, none⟩ = some v := by
  obtain ⟨k, hk, h⟩ := Option.bind_eq_some_iff.1 h
  cases k with
  | map _ => simp at h
  | loop => simp at h
  | cells cs =>
    obtain ⟨l', hl', hB, hlt, hr⟩ := s.block hk
    rw [hl] at hl'; cases hl'
    obtain ⟨hn, rfl⟩ := subL_spec h
    have hch : ∀ i (hi : i < cs.length), w.cell? ⟨l.cb, l.off + i, none⟩ = some ((w.cell? ⟨l.cb, l.off + i, none⟩).getD undef) ∧ VR ρ cs[i] ((w.cell? ⟨l.cb, l.off + i, none⟩).getD undef) := fun i hi => by
      obtain ⟨x, hx, hv⟩ := hr.2.2 i hi
      rw [hx]; exact ⟨rfl, hv⟩
    refine ⟨(List.range n).map fun j => (w.cell? ⟨l.cb, l.off + o + j, none⟩).getD undef, ⟨by simp; omega, fun i hi hi' => ?_⟩, by simp; omega, fun j v hj => ?_⟩
    · have hi2 : o + i < cs.length := by simp at hi; omega
      simp only [List.getElem_map, List.getElem_range, List.getElem_take, List.getElem_drop]
      have := (hch (o + i) hi2).2
      rwa [← Nat.add_assoc] at this
    · simp only [List.getElem?_map, Option.map_eq_some_iff] at hj
      obtain ⟨a, ha, rfl⟩ := hj
      obtain ⟨hlt', rfl⟩ := List.getElem?_eq_some_iff.1 ha
      simp only [List.getElem_range]
      simp at hlt'
      have := (hch (o + j) (by omega)).1
      rwa [← Nat.add_assoc] at this
end
end Go.Proofs.Ytpkplilgjdbhhaa
