/- How E's single operations meet the model's: append, copy, clear, make, conversions. No condition. -/
import Derived.Test.YtpkplilgjdbhhaaE8
import Derived.Laws.BytesString
namespace Go.Proofs.Ytpkplilgjdbhhaa
set_option linter.unusedSimpArgs false
set_option linter.unusedVariables false
open Go Go.RowKit

theorem flat_length {sz : Nat} : ∀ {es : List AV}, (∀ i (h : i < es.length), es[i].cells.length = sz) → (flatAV es).length = es.length * sz
  | [], _ => by simp [flatAV]
  | e :: es, h => by
    have h0 := h 0 (by simp)
    have ih := flat_length (es := es) fun i hi => h (i + 1) (by simpa using hi)
    simp only [List.getElem_cons_zero] at h0
    simp [flatAV, h0, ih, Nat.succ_mul, Nat.add_comm]
theorem flat_get {sz : Nat} : ∀ {es : List AV} (hz : ∀ i (h : i < es.length), es[i].cells.length = sz) (i j : Nat) (hi : i < es.length) (hj : j < sz) (h : i * sz + j < (flatAV es).length),
    (flatAV es)[i * sz + j] = es[i].cells[j]'(by rw [hz]; exact hj)
  | [], _, i, _, hi, _, _ => by simp at hi
  | e :: es, hz, 0, j, hi, hj, h => by
    have h0 := hz 0 (by simp)
    simp only [List.getElem_cons_zero] at h0
    simp only [flatAV, Nat.zero_mul, Nat.zero_add, List.getElem_cons_zero]
    rw [List.getElem_append_left (by omega)]
  | e :: es, hz, i + 1, j, hi, hj, h => by
    have h0 := hz 0 (by simp)
    simp only [List.getElem_cons_zero] at h0
    simp only [flatAV, List.getElem_cons_succ]
    have hi' : i < es.length := by simpa using hi
    have hz' : ∀ i (h : i < es.length), es[i].cells.length = sz := fun i hi => hz (i + 1) (by simpa using hi)
    have hlt : i * sz + j < (flatAV es).length := by
      rw [flat_length hz']
      have : (i + 1) * sz ≤ es.length * sz := Nat.mul_le_mul_right _ hi'
      rw [Nat.succ_mul] at this
      omega
    rw [List.getElem_append_right (by rw [h0, Nat.succ_mul]; omega)]
    have e1 : (i + 1) * sz + j - e.cells.length = i * sz + j := by rw [h0, Nat.succ_mul]; omega
    simp only [e1]
    exact flat_get hz' i j hi' hj hlt
theorem bytesAV_length : ∀ (s : List UInt8), (bytesAV s).length = s.length
  | [] => rfl
  | _ :: r => by simp [bytesAV, bytesAV_length r]
theorem bytesAV_get : ∀ (s : List UInt8) (i : Nat) (h : i < (bytesAV s).length), (bytesAV s)[i] = .int .u8 (s[i]'(by rw [bytesAV_length] at h; exact h)).toNat
  | c :: r, 0, _ => rfl
  | c :: r, i + 1, h => by simpa [bytesAV] using bytesAV_get r i (by simpa [bytesAV] using h)

section
variable {P : Program} {ρ : Place} {H H' : Heap} {w : World}

theorem srcLen_run {x : AV} {n : Nat} {x' : Value} (h : srcLen x = some n) (hx : VR ρ x x') (w : World) : (Builtin.lenOf x').run P w = .ok n w := by
  cases hx <;> simp only [srcLen, Option.some.injEq, reduceCtorEq] at h <;> subst h <;> simp [Builtin.lenOf, bytes_size]
theorem firstCells_zero {x : AV} {n : Nat} {x' : Value} (h : srcLen x = some n) (hx : VR ρ x x') (sz : Nat) (w : World) : ∃ c, (Builtin.firstCells sz 0 x').run P w = .ok c w ∧ c.toList = [] := by
  cases hx <;> simp only [srcLen, reduceCtorEq] at h <;> exact ⟨#[], by simp [Builtin.firstCells, loadCells, loadCellsFrom], rfl⟩
theorem srcCells_run (s : Sim ρ H w) {x : AV} {n m sz : Nat} {cs : List AV} {x' : Value} (h : srcCells H sz n x = some cs) (hm : srcLen x = some m) (hn : n ≤ m) (hx : VR ρ x x') :
    ∃ c, (Builtin.firstCells sz n x').run P w = .ok c w ∧ VRs ρ cs c.toList ∧ (cs.length = n * sz ∨ ∃ st, x = .str st) := by
  cases hx with
  | nilS =>
    simp only [srcLen, Option.some.injEq] at hm
    simp only [srcCells, Option.some.injEq] at h
    subst h
    exact ⟨#[], by simp [Builtin.firstCells], .nil, .inl (by rw [show n = 0 from by omega]; simp)⟩
  | eslc a c =>
    simp only [srcLen, Option.some.injEq] at hm
    have : n = 0 := by omega
    subst this
    simp only [srcCells, Option.some.injEq] at h
    subst h
    exact ⟨#[], by simp [Builtin.firstCells, loadCells, loadCellsFrom], .nil, .inl (by simp)⟩
  | slcE b o len c l hl hc =>
    obtain ⟨xs, hv, hlen, hcell⟩ := read_cells s (show readCells H b o (n * sz) = some cs from h) hl
    refine ⟨xs.toArray, ?_, hv, .inl hlen⟩
    exact run_firstCells_some (P := P) w sz n _ _ _ xs (by rw [hv.1, hlen]) (fun j v hj => by rw [add_mk]; exact hcell j v hj)
  | slcR b o len sz' c l hl hc hf =>
    obtain ⟨xs, hv, hlen, hcell⟩ := read_cells s (show readCells H b o (n * sz) = some cs from h) hl
    refine ⟨xs.toArray, ?_, hv, .inl hlen⟩
    exact run_firstCells_some (P := P) w sz n _ _ _ xs (by rw [hv.1, hlen]) (fun j v hj => by rw [add_mk]; exact hcell j v hj)
  | fslc sz' es cb off cap vs hB hcap hz hc hv =>
    simp only [srcLen, Option.some.injEq] at hm
    subst hm
    simp only [srcCells] at h
    split at h
    · rename_i hb
      have hb := Nat.eq_of_beq_eq_true hb
      subst hb
      simp only [Option.some.injEq] at h
      subst h
      have hz' : ∀ i (hi : i < (es.take n).length), (es.take n)[i].cells.length = sz' := fun i hi => by
        rw [List.getElem_take]; exact hz i (by simp at hi; omega)
      have hlen : (flatAV (es.take n)).length = n * sz' := by rw [flat_length hz', List.length_take, Nat.min_eq_left hn]
      have hdm : ∀ k, k < n * sz' → k / sz' < n ∧ k % sz' < sz' ∧ k / sz' * sz' + k % sz' = k := fun k hk => by
        have h0 : 0 < sz' := by
          rcases Nat.eq_zero_or_pos sz' with h | h
          · subst h; simp at hk
          · exact h
        exact ⟨Nat.div_lt_of_lt_mul (by rw [Nat.mul_comm]; exact hk), Nat.mod_lt _ h0, by rw [Nat.mul_comm]; exact Nat.div_add_mod k sz'⟩
      have hrun := run_loadCells (P := P) w ⟨cb, off, none⟩ (n * sz') (fun k => vs (k / sz') (k % sz')) (fun k hk => by
        obtain ⟨h1, h2, h3⟩ := hdm k hk
        have := hc (k / sz') (by omega) (k % sz') h2
        rw [Nat.add_assoc, h3] at this
        rw [add_mk, s.cellW (a := ⟨cb, _, none⟩) hB]; exact this)
      refine ⟨_, by simpa only [Builtin.firstCells] using hrun, ⟨by simp [hlen], fun k h1 h2 => ?_⟩, .inl hlen⟩
      rw [hlen] at h1
      obtain ⟨h3, h4, h5⟩ := hdm k h1
      simp only [List.getElem_map, List.getElem_range]
      have e : (flatAV (es.take n))[k]'(by rw [hlen]; exact h1) = es[k / sz'].cells[k % sz']'(by rw [hz _ (by omega)]; exact h4) := by
        have := flat_get hz' (k / sz') (k % sz') (by simp; omega) h4 (by rw [h5, hlen]; exact h1)
        simp only [h5] at this
        rw [this]
        simp [List.getElem_take]
      rw [e]
      exact (hv _ _ _ _).mono ρ.bare_le
    · simp at h
  | fnil sz' =>
    simp only [srcLen, Option.some.injEq] at hm
    have : n = 0 := by have : m = 0 := by rw [← hm]; rfl
                       omega
    subst this
    simp only [srcCells, List.take_nil, flatAV] at h
    split at h
    · simp only [Option.some.injEq] at h
      subst h
      exact ⟨#[], by simp [Builtin.firstCells], .nil, .inl (by simp)⟩
    · simp at h
  | fnone sz' a c =>
    simp only [srcLen, Option.some.injEq] at hm
    have : n = 0 := by have : m = 0 := by rw [← hm]; rfl
                       omega
    subst this
    simp only [srcCells, List.take_nil, flatAV] at h
    split at h
    · simp only [Option.some.injEq] at h
      subst h
      exact ⟨#[], by simp [Builtin.firstCells, loadCells, loadCellsFrom], .nil, .inl (by simp)⟩
    · simp at h
  | str st =>
    simp only [srcLen, Option.some.injEq] at hm
    subst hm
    simp only [srcCells, Option.some.injEq] at h
    subst h
    refine ⟨_, by simp only [Builtin.firstCells, Sem.run_pure]; rfl, ⟨by simp [bytesAV_length, bytes_extract], fun i h1 h2 => ?_⟩, .inr ⟨st, rfl⟩⟩
    rw [bytesAV_get]
    simp only [bytes_extract, List.map_toArray, List.getElem_toArray, List.getElem_map, List.drop_zero]
    exact .int _ _
  | zslcN =>
    simp only [srcLen, Option.some.injEq] at hm
    have : n = 0 := by omega
    subst this
    simp only [srcCells, Option.some.injEq] at h
    subst h
    exact ⟨#[], by simp [Builtin.firstCells], .nil, .inl (by simp)⟩
  | zslcE a =>
    simp only [srcLen, Option.some.injEq] at hm
    have : n = 0 := by omega
    subst this
    simp only [srcCells, Option.some.injEq] at h
    subst h
    exact ⟨#[], by simp [Builtin.firstCells, loadCells, loadCellsFrom], .nil, .inl (by simp)⟩
  | _ => simp [srcLen] at hm

theorem knownCells_spec {b kn : Nat} (h : knownCells H b = some kn) : ∃ cs, H.get b = some (.cells cs) ∧ cs.length = kn := by
  obtain ⟨k, hk, h⟩ := Option.bind_eq_some_iff.1 h
  cases k with
  | cells cs => simp only [Option.some.injEq] at h; exact ⟨cs, hk, h⟩
  | _ => simp at h

/-- a row that an append has made -/
theorem grown_new {c old new : Array Value} {zv : Value} {cs : List AV} {need newCap sz : Nat} {elem : TypeId} (s : Sim ρ H w) (hv : VRs ρ cs (old ++ new).toList)
    (hzc : zv.cells.size = sz) (hlen : cs.length = need * sz) (hcap : need ≤ newCap) (hc : c = old ++ new ++ Builtin.zeroCells zv.cells (newCap - need)) :
    Good ρ H w (.ok (.slice (some ⟨w.heap.size, 0, none⟩) need newCap) ((w.drew).alloc (.cells c elem))) (.slc H.n 0 need (.rest sz)) (H.new (.cells cs)) := by
  have hsz : c.size = newCap * sz := by
    have h1 : (old ++ new).size = need * sz := by have := hv.1; simp at this; simp; omega
    rw [hc, Array.size_append, h1]
    simp only [Builtin.zeroCells, Array.size_map, Array.size_range, hzc]
    rw [← Nat.add_mul]
    congr 1
    omega
  have hle : ρ.le (ρ.upd H.n ⟨w.heap.size, 0, c.size⟩) := Place.le_upd (s.dom _ (Nat.le_refl _))
  have hcl : cs.length ≤ c.size := by rw [hsz, hlen]; exact Nat.mul_le_mul_right _ hcap
  obtain ⟨h1, h2⟩ := s.drew.new (.cells c elem) c.size (.cells cs) (blk_new hcl (fun i h h' => by
    have hi : i < (old ++ new).toList.length := by rw [hv.1]; exact h
    have e : c[i] = (old ++ new).toList[i] := by
      subst hc
      rw [Array.getElem_append_left (by simpa using hi)]
      rfl
    rw [e]
    exact (hv.2 i h hi).mono hle) (fun i _ => by simp))
  refine ⟨_, _, _, rfl, ?_, h1, (Step.drew _ _ _).trans h2⟩
  exact .slcR H.n 0 need sz newCap ⟨w.heap.size, 0, c.size⟩ Place.upd_same hcap (by simp [hsz])
end
end Go.Proofs.Ytpkplilgjdbhhaa
