/- How E's single operations meet the model's: memory, aggregates, addresses. No condition. -/
import Derived.Test.YtpkplilgjdbhhaaE4
import Derived.Laws.Slices
namespace Go.Proofs.Ytpkplilgjdbhhaa
set_option linter.unusedSimpArgs false
set_option linter.unusedVariables false
open Go Go.RowKit

theorem add_mk (b o n : Nat) : (⟨b, o, none⟩ : Addr).add n = ⟨b, o + n, none⟩ := by unfold Addr.add; split <;> simp_all

section
variable {P : Program} {ρ : Place} {H H' : Heap} {w : World}

theorem Sim.cellW (s : Sim ρ H w) {a : Addr} (h : ρ.B a.block) : w.cell? a = ρ.W.cell? a := by simp only [World.cell?, s.below _ h]

/-! ### Loads, stores -/
theorem readVar_run (s : Sim ρ H w) {t : TypeId} {p v : AV} {x : Value} (h : readVar P H t p = some v) (hp : VR ρ p x) :
    ∃ y, (Instr.loadAt t x).run P w = .ok y w ∧ VR ρ v y := by
  replace h := Option.bind_eq_some_iff.1 h; obtain ⟨ag, hag, h⟩ := h
  replace h := Option.bind_eq_some_iff.1 h; obtain ⟨n, hn, h⟩ := h
  have hAg := aggT_run hag w
  have hN := sizeT_run hn w
  cases ag with
  | true =>
    cases hp with
    | ptr b o l hl =>
      replace h := Option.bind_eq_some_iff.1 h; obtain ⟨cs, hcs, h⟩ := h
      simp only [Option.some.injEq] at h
      subst h
      obtain ⟨xs, hv, hlen, hc⟩ := read_cells s hcs hl
      have hrun := run_loadCells_list (P := P) w ⟨l.cb, l.off + o, none⟩ xs (fun j y hj => by rw [add_mk]; exact hc j y hj)
      rw [hv.1, hlen] at hrun
      refine ⟨.agg xs.toArray, ?_, .agg _ _ (by simp [hv.1]) fun i h1 h2 => by simpa using hv.2 i h1 (by simpa using h2)⟩
      simp [Instr.loadAt, Instr.sureAddr, loadVar, hAg, hN, hrun]
    | fptr cs o cb off vs hB hc hv =>
      replace h := Option.bind_eq_some_iff.1 h; obtain ⟨r, hr, h⟩ := h
      simp only [Option.some.injEq] at h
      subst h
      obtain ⟨hlen, rfl⟩ := subL_spec hr
      have hrun := run_loadCells (P := P) w ⟨cb, off + o, none⟩ n (fun j => vs (o + j)) (fun j hj => by
        rw [add_mk, s.cellW (a := ⟨cb, _, none⟩) hB, Nat.add_assoc]; exact hc (o + j) (by omega))
      refine ⟨_, by simp only [Instr.loadAt, Instr.sureAddr, loadVar, Sem.run_bind, Sem.run_pure, Result.andThen_ok, hAg, hN, hrun, if_true]; rfl, .agg _ _ (by simp; omega) fun i h1 h2 => ?_⟩
      simp only [List.getElem_toArray, List.getElem_map, List.getElem_range, List.getElem_take, List.getElem_drop]
      exact (hv _ (by simp at h1; omega)).mono ρ.bare_le
    | _ => simp at h
  | false =>
    cases hp with
    | ptr b o l hl =>
      replace h := Option.bind_eq_some_iff.1 h; obtain ⟨k, hk, h⟩ := h
      cases k with
      | map _ => simp at h
      | loop => simp at h
      | cells cs =>
        obtain ⟨l', hl', _, _, hr⟩ := s.block hk
        rw [hl] at hl'; cases hl'
        obtain ⟨hi, rfl⟩ := getL_spec h
        obtain ⟨y, hy, hyv⟩ := hr.2.2 o hi
        exact ⟨y, by simp [Instr.loadAt, Instr.sureAddr, loadVar, hAg, load, Sem.run, hy], hyv⟩
    | fptr cs o cb off vs hB hc hv =>
      obtain ⟨hi, rfl⟩ := getL_spec h
      refine ⟨vs o, ?_, (hv o hi).mono ρ.bare_le⟩
      have := hc o hi
      rw [← s.cellW (a := ⟨cb, off + o, none⟩) hB] at this
      simp [Instr.loadAt, Instr.sureAddr, loadVar, hAg, load, Sem.run, this]
    | _ => simp at h

theorem writeVar_run (s : Sim ρ H w) {t : TypeId} {p v : AV} {x y : Value} (h : writeVar P H t p v = some H') (hp : VR ρ p x) (hv : VR ρ v y) :
    ∃ w', (Instr.storeAt t x y).run P w = .ok () w' ∧ Sim ρ H' w' ∧ Step ρ H w ρ H' w' := by
  replace h := Option.bind_eq_some_iff.1 h; obtain ⟨n, hn, h⟩ := h
  split at h
  · rename_i hlen
    have hlen := Nat.eq_of_beq_eq_true hlen
    split at h
    · rename_i hsing
      have hcells : VRs ρ v.cells y.cells.toList := hv.cells (by rintro rfl; simp [AV.cells, allSingle, AV.single] at hsing) (by rintro l rfl; simp [AV.cells, allSingle, AV.single] at hsing)
      cases hp with
      | ptr b o l hl =>
        obtain ⟨h1, h2, h3⟩ := write_run (P := P) s h hl hcells (hcells.oneCell hsing)
        refine ⟨_, ?_, h2, h3⟩
        have hsz : y.cells.size = n := by have := hcells.1; simp at this; omega
        simp [Instr.storeAt, Instr.sureAddr, storeVar, sizeT_run hn, hsz, h1]
      | _ => simp at h
    · simp at h
  · simp at h

/-! ### Aggregates -/
theorem fill_run {place : Nat → Option (Nat × Nat)} {place' : Nat → Option (Nat × Nat)} (hpl : ∀ i p, place i = some p → place' i = some p) :
    ∀ {parts : List (Nat × AV)} {vals : List (Nat × Value)} {cs cs' : List AV} {c : Array Value}, fillA place parts cs = some cs' → vals.map (·.1) = parts.map (·.1) →
      VRs ρ (parts.map (·.2)) (vals.map (·.2)) → VRs ρ cs c.toList → ∃ c', Instr.fill place' c vals = some c' ∧ VRs ρ cs' c'.toList
  | [], vals, cs, cs', c, h, hi, _, hc => by
    simp only [fillA, Option.some.injEq] at h
    subst h
    cases vals with
    | nil => exact ⟨c, rfl, hc⟩
    | cons _ _ => simp at hi
  | x :: r, vals, cs, cs', c, h, hi, hv, hc => by
    cases vals with
    | nil => simp at hi
    | cons y ys =>
      simp only [List.map_cons, List.cons.injEq] at hi
      replace h := Option.bind_eq_some_iff.1 h; obtain ⟨p, hp, h⟩ := h
      split at h
      · rename_i hlen
        have hlen := Nat.eq_of_beq_eq_true hlen
        split at h
        · rename_i hsing
          replace h := Option.bind_eq_some_iff.1 h; obtain ⟨cs1, hlay, h⟩ := h
          have hyc : VRs ρ x.2.cells y.2.cells.toList := hv.head.cells (by rintro e; simp [e, AV.cells, allSingle, AV.single] at hsing) (by rintro l e; simp [e, AV.cells, allSingle, AV.single] at hsing)
          obtain ⟨h1, rfl⟩ := layL_spec hlay
          have hsz : y.2.cells.size = p.2 := by have := hyc.1; simp at this; omega
          have hcl : c.size = cs.length := by simpa using hc.1
          have hfold : ∀ (ys : List Value) (k : Nat) (c : Array Value), p.1 + k + ys.length ≤ c.size →
              ((ys.zipIdx k).foldl (fun cs (q : Value × Nat) => cs.setIfInBounds (p.1 + q.2) q.1) c).toList = c.toList.take (p.1 + k) ++ ys ++ c.toList.drop (p.1 + k + ys.length) := by
            intro ys
            induction ys with
            | nil => intro k c _; simp
            | cons z zs ih =>
              intro k c hk
              simp only [List.zipIdx_cons, List.foldl_cons]
              simp only [List.length_cons] at hk
              rw [ih (k + 1) _ (by simp; omega)]
              have hlt : p.1 + k < c.toList.length := by simp; omega
              apply List.ext_getElem?
              intro i
              simp only [Array.toList_setIfInBounds, List.getElem?_append, List.length_append, List.length_take, List.length_set, List.length_cons, List.getElem?_take, List.getElem?_drop, List.getElem?_set]
              have hcl : c.toList.length = c.size := by simp
              rw [hcl] at hlt ⊢
              rw [Nat.min_eq_left (by omega), Nat.min_eq_left (by omega)]
              by_cases h1 : i < p.1 + k
              · simp [h1, show i < p.1 + (k + 1) by omega, show i < p.1 + (k + 1) + zs.length by omega, show i < p.1 + k + (zs.length + 1) by omega, show p.1 + k ≠ i by omega]
              · by_cases h2 : i = p.1 + k
                · subst h2
                  simp [show p.1 + k < p.1 + (k + 1) by omega, show p.1 + k < p.1 + (k + 1) + zs.length by omega, hlt]
                · by_cases h3 : i < p.1 + (k + 1) + zs.length
                  · simp [h1, h3, show ¬ i < p.1 + (k + 1) by omega, show i < p.1 + k + (zs.length + 1) by omega]
                    rw [show i - (p.1 + k) = (i - (p.1 + (k + 1))) + 1 by omega]
                    simp
                  · simp [h3, show ¬ i < p.1 + k + (zs.length + 1) by omega, show p.1 + k ≠ p.1 + (k + 1) + zs.length + (i - (p.1 + (k + 1) + zs.length)) by omega]
                    congr 1
                    omega
          have hfin := hfold y.2.cells.toList 0 c (by simp; omega)
          simp only [Nat.add_zero, Array.length_toList] at hfin
          generalize hc1 : ((y.2.cells.toList.zipIdx 0).foldl (fun cs (q : Value × Nat) => cs.setIfInBounds (p.1 + q.2) q.1) c) = c1 at hfin
          obtain ⟨c', hc', hv'⟩ := fill_run hpl (c := c1) (vals := ys) h hi.2 hv.tail (by
            rw [hfin]
            have htake : VRs ρ (cs.take p.1) (c.toList.take p.1) := ⟨by simp; omega, fun i h1 h2 => by simp only [List.getElem_take]; exact hc.2 i (by simp at h1; omega) (by simp at h2; simp; omega)⟩
            have hdrop : VRs ρ (cs.drop (p.1 + x.2.cells.length)) (c.toList.drop (p.1 + y.2.cells.size)) := by
              have : y.2.cells.size = x.2.cells.length := by omega
              rw [this]
              exact ⟨by simp; omega, fun i h1 h2 => by simp only [List.getElem_drop]; exact hc.2 (p.1 + x.2.cells.length + i) (by simp at h1; omega) (by simp at h2; simp; omega)⟩
            exact (htake.append hyc).append hdrop)
          refine ⟨c', ?_, hv'⟩
          simp only [Instr.fill, hi.1, hpl _ _ hp]
          rw [if_neg (by simp [hsz]; omega), ← hc']
          congr 1
          rw [← hc1]
          rw [← Array.foldl_toList, Array.toList_zipIdx]
        · simp at h
      · simp at h

theorem fieldTbl_run : ∀ {fs : List Field} {tbl : List (Nat × Nat)}, fieldTbl P fs = some tbl → fs.mapM (fun f => (P.info? f.type).map fun i => (f.offset, i.size)) = some tbl
  | [], tbl, h => by simp only [fieldTbl, Option.some.injEq] at h; subst h; rfl
  | f :: r, tbl, h => by
    replace h := Option.bind_eq_some_iff.1 h; obtain ⟨n, hn, h⟩ := h
    replace h := Option.bind_eq_some_iff.1 h; obtain ⟨t, ht, h⟩ := h
    simp only [Option.some.injEq] at h
    subst h
    obtain ⟨i, hi, rfl⟩ := sizeT_info hn
    simp [List.mapM_cons, hi, fieldTbl_run ht]
theorem getL_some {α : Type} {l : List α} {i : Nat} {x : α} (h : getL l i = some x) : l[i]? = some x := by
  obtain ⟨h1, h2⟩ := getL_spec h
  rw [List.getElem?_eq_getElem h1, h2]
theorem build_run {t : TypeId} {parts : List (Nat × AV)} {vals : List (Nat × Value)} {v : AV} (h : buildA P t parts = some v) (hi : vals.map (·.1) = parts.map (·.1))
    (hv : VRs ρ (parts.map (·.2)) (vals.map (·.2))) (w : World) : ∃ y, (Instr.build t vals.toArray).run P w = .ok y w ∧ VR ρ v y := by
  replace h := Option.bind_eq_some_iff.1 h; obtain ⟨z, hz, h⟩ := h
  replace h := Option.bind_eq_some_iff.1 h; obtain ⟨d, hd, h⟩ := h
  obtain ⟨zv, rfl, hzr, it, hit, hiz⟩ := zeroOf_run hz
  have fin : ∀ {cs : List AV} {c' : Array Value}, P.built t vals = some c' → VRs ρ cs c'.toList → ∃ y, (Instr.build t vals.toArray).run P w = .ok y w ∧ VR ρ (.agg cs) y := fun {cs c'} hb hr =>
    ⟨_, run_build w t vals.toArray c' (by simpa using hb), .agg _ _ (by simpa using hr.1) fun i h1 h2 => hr.2 i h1 (by simpa using h2)⟩
  cases d with
  | struct fs =>
    replace h := Option.bind_eq_some_iff.1 h; obtain ⟨tbl, ht, h⟩ := h
    replace h := Option.bind_eq_some_iff.1 h; obtain ⟨cs, hcs, h⟩ := h
    simp only [Option.some.injEq] at h
    subst h
    obtain ⟨c', hc', hr⟩ := fill_run (place' := fun i => tbl[i]?) (fun i p hp => getL_some hp) (vals := vals) (c := zv.cells) hcs hi hv (VRs.const zv)
    exact fin (by simp only [Program.built, hit, hd, hiz, fieldTbl_run ht]; simpa using hc') hr
  | array n e =>
    replace h := Option.bind_eq_some_iff.1 h; obtain ⟨m, hm, h⟩ := h
    replace h := Option.bind_eq_some_iff.1 h; obtain ⟨cs, hcs, h⟩ := h
    simp only [Option.some.injEq] at h
    subst h
    obtain ⟨ie, hie, rfl⟩ := sizeT_info hm
    obtain ⟨c', hc', hr⟩ := fill_run (place' := fun i => some (i * ie.size, ie.size)) (fun i p hp => hp) (vals := vals) (c := zv.cells) hcs hi hv (VRs.const zv)
    exact fin (by simp only [Program.built, hit, hd, hiz, hie]; exact hc') hr
  | _ => simp at h

/-- zero cells, over and over -/
theorem replL_length {α : Type} (z : List α) : ∀ n, (replL z n).length = n * z.length
  | 0 => by simp [replL]
  | n + 1 => by simp [replL, replL_length z n, Nat.succ_mul, Nat.add_comm]
theorem replL_get {α : Type} (z : List α) : ∀ (n i : Nat) (h : i < (replL z n).length) (h' : i % z.length < z.length), (replL z n)[i] = z[i % z.length]
  | 0, i, h, _ => by simp [replL] at h
  | n + 1, i, h, h' => by
    simp only [replL]
    by_cases hi : i < z.length
    · rw [List.getElem_append_left hi]
      congr 1
      exact (Nat.mod_eq_of_lt hi).symm
    · rw [List.getElem_append_right (by omega), replL_get z n (i - z.length) (by simp [replL] at h; omega) (by rw [← Nat.mod_eq_sub_mod (by omega)]; exact h')]
      congr 1
      exact (Nat.mod_eq_sub_mod (by omega)).symm
theorem zeros_run {zv : Value} {n sz : Nat} (hz : (ofV zv).cells.length = sz) (hsz : zv.cells.size = sz) :
    VRs ρ (replL (ofV zv).cells n) ((Array.range (n * sz)).map fun i => zv.cells[i % zv.cells.size]!).toList := by
  have hc := VRs.const (ρ := ρ) zv
  refine ⟨by simp [replL_length, hz], fun i h1 h2 => ?_⟩
  have h3 : i < n * sz := by rw [replL_length, hz] at h1; exact h1
  have h0 : 0 < sz := by
    rcases Nat.eq_zero_or_pos sz with h | h
    · subst h; simp at h3
    · exact h
  have hlt : i % zv.cells.size < zv.cells.size := Nat.mod_lt _ (by omega)
  rw [replL_get _ _ _ h1 (by rw [hz]; exact Nat.mod_lt _ h0)]
  simp only [Array.toList_map, Array.toList_range, List.getElem_map, List.getElem_range]
  rw [getElem!_pos zv.cells _ hlt]
  have := hc.2 (i % sz) (by rw [hz]; exact Nat.mod_lt _ h0) (by simp [hsz]; exact Nat.mod_lt _ h0)
  simp only [Array.getElem_toList] at this
  simpa [hz, hsz] using this
theorem buildSlice_run (s : Sim ρ H w) {t : TypeId} {len : Nat} {parts : List (Nat × AV)} {vals : List (Nat × Value)} {cs : List AV} (h : sliceParts P t len parts = some cs)
    (hi : vals.map (·.1) = parts.map (·.1)) (hv : VRs ρ (parts.map (·.2)) (vals.map (·.2))) :
    ∃ c e, (Instr.buildSlice t len vals.toArray).run P w = .ok (.slice (some ⟨w.heap.size, 0, none⟩) len len) (w.alloc (.cells c e)) ∧ VRs ρ cs c.toList := by
  replace h := Option.bind_eq_some_iff.1 h; obtain ⟨d, hd, h⟩ := h
  cases d with
  | slice elem =>
    replace h := Option.bind_eq_some_iff.1 h; obtain ⟨sz, hsz, h⟩ := h
    split at h
    · simp at h
    · rename_i hle
      have hle := Nat.le_of_ble_eq_true hle
      replace h := Option.bind_eq_some_iff.1 h; obtain ⟨z, hz, h⟩ := h
      obtain ⟨zv, rfl, hzr, it, hit, hiz⟩ := zeroOf_run hz
      split at h
      · rename_i hzl
        have hzl := Nat.eq_of_beq_eq_true hzl
        have hzs : zv.cells.size = sz := by have := (VRs.const (ρ := ρ) zv).1; simp at this; omega
        have hz0 := zeros_run (ρ := ρ) (n := len) hzl hzs
        obtain ⟨c', hc', hr⟩ := fill_run (place' := fun i => some (i * sz, sz)) (fun i p hp => hp) (vals := vals) h hi hv hz0
        refine ⟨c', elem, ?_, hr⟩
        have hn : ¬ len * sz > 2 ^ 24 := by have : (2:Nat) ^ 24 = 16777216 := by decide
                                            omega
        by_cases h0 : len * sz = 0
        · have e0 : ((Array.range (len * sz)).map fun i => zv.cells[i % zv.cells.size]!) = (Array.range (len * sz)).map fun i => (#[] : Array Value)[i % (#[] : Array Value).size]! := by simp [h0]
          rw [e0] at hc'
          have hc2 : Instr.fill (fun i => some (i * sz, sz)) (Array.map (fun _ => default) (Array.range 0)) vals = some c' := by simpa [h0] using hc'
          simp [Instr.buildSlice, run_underlying hd, sizeT_run hsz, h0, hc2, newRow, newObj, Sem.run]
        · simp [Instr.buildSlice, run_underlying hd, sizeT_run hsz, hn, h0, hzr, hc', newRow, newObj, Sem.run]
      · simp at h
  | _ => simp at h
end
end Go.Proofs.Ytpkplilgjdbhhaa
