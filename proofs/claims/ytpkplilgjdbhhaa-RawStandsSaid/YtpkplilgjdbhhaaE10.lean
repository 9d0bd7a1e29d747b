/- How E's single operations meet the model's: append, copy, clear, make, conversions. No condition. -/
import Derived.Test.YtpkplilgjdbhhaaE9
namespace Go.Proofs.Ytpkplilgjdbhhaa
set_option linter.unusedSimpArgs false
set_option linter.unusedVariables false
open Go Go.RowKit

section
variable {P : Program} {ρ : Place} {H H' : Heap} {w : World}

/-- what the model's append knows of its types -/
structure AppT (P : Program) (ts : Array TypeId) (elem : TypeId) (sz by_ : Nat) (zv : Value) : Prop where
  fst : ∃ t, ts[0]? = some t ∧ P.underlying t = some (.slice elem)
  snd : ∃ u, ts[1]? = some u ∧ (P.underlying u = some .string ∨ ∃ e, P.underlying u = some (.slice e))
  size : ∀ w, (sizeOf elem).run P w = .ok sz w
  info : ∃ i : TypeInfo, (∀ w, (typeInfo elem).run P w = .ok i w) ∧ i.bytes = by_
  zero : ∀ w, (zeroValue elem).run P w = .ok zv w

theorem AppT.room {ts : Array TypeId} {ty elem : TypeId} {sz by_ : Nat} {zv : Value} (T : AppT P ts elem sz by_ zv) {y' : Value} {n sLen sCap : Nat} {a : Addr} {new : Array Value} {w w' : World}
    (hn : (Builtin.lenOf y').run P w = .ok n w) (hle : sLen + n ≤ sCap) (hnew : (Builtin.firstCells sz n y').run P w = .ok new w)
    (hst : (storeCells (a.add (sLen * sz)) new.toList).run P w = .ok () w') :
    (Builtin.append_ ts ty #[.slice (some a) sLen sCap, y']).run P w = .ok (.slice (some a) (sLen + n) sCap) w' := by
  obtain ⟨t, ht, hd⟩ := T.fst
  obtain ⟨u, hu, hud⟩ := T.snd
  rcases hud with hud | ⟨e, hud⟩ <;>
    simp [Builtin.append_, ht, hu, run_underlying hd, run_underlying hud, T.size, hn, hle, hnew, hst]
theorem AppT.atNil {ts : Array TypeId} {ty elem : TypeId} {sz by_ : Nat} {zv : Value} (T : AppT P ts elem sz by_ zv) {y' : Value} {sCap : Nat} {new : Array Value} {w : World}
    (hn : (Builtin.lenOf y').run P w = .ok 0 w) (hnew : (Builtin.firstCells sz 0 y').run P w = .ok new w) :
    (Builtin.append_ ts ty #[.slice none 0 sCap, y']).run P w = .ok (.slice none 0 sCap) w := by
  obtain ⟨t, ht, hd⟩ := T.fst
  obtain ⟨u, hu, hud⟩ := T.snd
  rcases hud with hud | ⟨e, hud⟩ <;>
    simp [Builtin.append_, ht, hu, run_underlying hd, run_underlying hud, T.size, hn, hnew]
theorem AppT.grows {ts : Array TypeId} {ty elem : TypeId} {sz by_ : Nat} {zv : Value} (T : AppT P ts elem sz by_ zv) {y' : Value} {n sLen sCap : Nat} {base : Option Addr} {old new : Array Value} {w : World}
    (hn : (Builtin.lenOf y').run P w = .ok n w) (hgt : ¬ sLen + n ≤ sCap) (hb : 0 < by_) (hroom : (sLen + n) * by_ ≤ 17592186044416)
    (hold : (Builtin.firstCells sz sLen (.slice base sLen sCap)).run P w.drew = .ok old w.drew) (hnew : (Builtin.firstCells sz n y').run P w.drew = .ok new w.drew) :
    ∃ newCap, sLen + n ≤ newCap ∧ (Builtin.append_ ts ty #[.slice base sLen sCap, y']).run P w =
      .ok (.slice (some ⟨w.heap.size, 0, none⟩) (sLen + n) newCap) (w.drew.alloc (.cells (old ++ new ++ Builtin.zeroCells zv.cells (newCap - (sLen + n))) elem)) := by
  obtain ⟨t, ht, hd⟩ := T.fst
  obtain ⟨u, hu, hud⟩ := T.snd
  obtain ⟨ti, hti, rfl⟩ := T.info
  have hfit : Builtin.nextslicecap (sLen + n) sCap * ti.bytes ≤ 281474976710656 := growslice_fits (by omega) (by omega)
  have h63 : ¬ (ti.bytes = 0) := by omega
  refine ⟨(Question.appendCap (sLen + n) sCap elem).cut (w.tape w.drawn (.appendCap (sLen + n) sCap elem)), by simp [Question.cut], ?_⟩
  have hforced : (Question.appendCap (sLen + n) sCap elem).forced = false := rfl
  have hnf : ¬ 281474976710656 < Builtin.nextslicecap (sLen + n) sCap * ti.bytes := by omega
  rcases hud with hud | ⟨e, hud⟩ <;>
    simp [Builtin.append_, ht, hu, run_underlying hd, run_underlying hud, T.size, hn, hgt, hti, h63, hnf, hforced, hold, hnew, T.zero, newRow, newObj, Sem.run]

theorem append_run (s : Sim ρ H w) {ts : Array TypeId} {t u ty elem : TypeId} (ht : ts[0]? = some t) (hd : P.underlying t = some (.slice elem))
    (hu : ts[1]? = some u) (hud : P.underlying u = some .string ∨ ∃ e, P.underlying u = some (.slice e))
    {x y v : AV} {x' y' : Value} (h : appendA P H elem x y = some (v, H')) (hx : VR ρ x x') (hy : VR ρ y y') :
    Good ρ H w ((Builtin.append_ ts ty #[x', y']).run P w) v H' := by
  replace h := Option.bind_eq_some_iff.1 h; obtain ⟨sz, hsz, h⟩ := h
  replace h := Option.bind_eq_some_iff.1 h; obtain ⟨by_, hby, h⟩ := h
  replace h := Option.bind_eq_some_iff.1 h; obtain ⟨z, hzz, h⟩ := h
  replace h := Option.bind_eq_some_iff.1 h; obtain ⟨n, hn, h⟩ := h
  split at h
  · simp at h
  rename_i hcond
  simp only [Bool.or_eq_false_iff, Bool.not_eq_false'] at hcond
  obtain ⟨hc0, hcz⟩ := hcond
  have hszpos : 0 < sz := by
    rcases Nat.eq_zero_or_pos sz with h0 | h0
    · rw [h0] at hc0; simp at hc0
    · exact h0
  simp only [Bool.and_eq_true] at hcz
  have hbpos : 0 < by_ := Nat.le_of_ble_eq_true hcz.2
  have hzl := Nat.eq_of_beq_eq_true hcz.1
  obtain ⟨zv, rfl, hzr, _⟩ := zeroOf_run hzz
  have hzs : zv.cells.size = sz := by have := (VRs.const (ρ := ρ) zv).1; simp at this; omega
  have T : AppT P ts elem sz by_ zv := ⟨⟨t, ht, hd⟩, ⟨u, hu, hud⟩, sizeT_run hsz, bytesT_run hby, hzr⟩
  have hl := srcLen_run (P := P) hn hy
  -- in place
  have inplace : ∀ (b o len c : Nat) (l : Loc) (cap : Cap), ρ b = some l → len + n ≤ c → ∀ cs, srcCells H sz n y = some cs → allSingle cs = true → writeCells H b (o + len * sz) cs = some H' →
      VR ρ (.slc b o (len + n) cap) (.slice (some ⟨l.cb, l.off + o, none⟩) (len + n) c) →
      Good ρ H w ((Builtin.append_ ts ty #[.slice (some ⟨l.cb, l.off + o, none⟩) len c, y']).run P w) (.slc b o (len + n) cap) H' := fun b o len c l cap hl0 hle cs hcs hsing hw hv => by
    obtain ⟨cn, hr, hcv, _⟩ := srcCells_run (P := P) s hcs hn (Nat.le_refl _) hy
    obtain ⟨h1, h2, h3⟩ := write_run (P := P) s hw hl0 hcv (hcv.oneCell hsing)
    refine ⟨_, ρ, _, T.room (hl w) hle hr (w' := w.setCells l.cb (l.off + (o + len * sz)) cn.toList) ?_, hv, h2, h3⟩
    rw [add_mk, Nat.add_assoc]; exact h1
  -- a new row
  have grow : ∀ (base : Option Addr) (sLen sCap : Nat) (old : Array Value) (os cs : List AV) (Hd : Heap), ¬ sLen + n ≤ sCap → roomOK (sLen + n) by_ = true →
      (Builtin.firstCells sz sLen (.slice base sLen sCap)).run P w.drew = .ok old w.drew → VRs ρ os old.toList → os.length = sLen * sz →
      srcCells H sz n y = some cs → cs.length = n * sz → Sim ρ Hd w → Step ρ H w ρ Hd w →
      Good ρ H w ((Builtin.append_ ts ty #[.slice base sLen sCap, y']).run P w) (.slc Hd.n 0 (sLen + n) (.rest sz)) (Hd.new (.cells (os ++ cs))) := fun base sLen sCap old os cs Hd hgt hroom hold hov hol hcs hcl sd st => by
    obtain ⟨cn, hr, hcv, _⟩ := srcCells_run (P := P) s.drew hcs hn (Nat.le_refl _) hy
    obtain ⟨newCap, hle, hrun⟩ := T.grows (ty := ty) (hl w) hgt hbpos (Nat.le_of_ble_eq_true hroom) hold hr
    rw [hrun]
    obtain ⟨x1, ρ1, w1, e1, g1, g2, g3⟩ := grown_new (elem := elem) (old := old) (new := cn) (zv := zv) (newCap := newCap) (need := sLen + n) (sz := sz) sd
      (by rw [Array.toList_append]; exact hov.append hcv) hzs (by simp [hol, hcl, Nat.add_mul]) hle rfl
    exact ⟨x1, ρ1, w1, e1, g1, g2, st.trans g3⟩
  split at h
  · -- nil
    cases hx
    split at h
    · simp only [Option.some.injEq, Prod.mk.injEq] at h
      obtain ⟨rfl, rfl⟩ := h
      obtain ⟨c, hc, _⟩ := firstCells_zero (P := P) hn hy sz w
      exact Good.pure s .nilS (T.atNil (hl w) hc)
    · rename_i n' _
      split at h
      · rename_i hroom
        replace h := Option.bind_eq_some_iff.1 h; obtain ⟨cs, hcs, h⟩ := h
        split at h
        · rename_i hlen
          simp only [Option.some.injEq, Prod.mk.injEq] at h
          obtain ⟨rfl, rfl⟩ := h
          have := grow none 0 0 #[] [] cs H (by omega) (by simpa using hroom) (by simp [Builtin.firstCells]) .nil (by simp) hcs (Nat.eq_of_beq_eq_true hlen) s (.refl _ _ _)
          simpa using this
        · simp at h
      · simp at h
  · rename_i b o len cap
    replace h := Option.bind_eq_some_iff.1 h; obtain ⟨cs, hcs, h⟩ := h
    split at h
    · simp at h
    rename_i hroom
    split at h
    · simp at h
    rename_i hsing
    cases hx with
    | slcE _ _ _ c l hl0 hlen =>
      dsimp only at h
      split at h
      · rename_i hle
        replace h := Option.bind_eq_some_iff.1 h; obtain ⟨H1, hw, h⟩ := h
        simp only [Option.some.injEq, Prod.mk.injEq] at h
        obtain ⟨rfl, rfl⟩ := h
        have hle := Nat.le_of_ble_eq_true hle
        exact inplace b o len c l _ hl0 hle cs hcs hsing hw (.slcE _ _ _ _ l hl0 hle)
      · rename_i hle
        have hgt : ¬ len + n ≤ c := fun h0 => by rw [show Nat.ble (len + n) c = true by rw [Nat.ble_eq]; exact h0] at hle; cases hle
        split at h
        · rename_i hcl
          replace h := Option.bind_eq_some_iff.1 h; obtain ⟨old, hold, h⟩ := h
          simp only [Option.some.injEq, Prod.mk.injEq] at h
          obtain ⟨rfl, rfl⟩ := h
          obtain ⟨xs, hv, hlen', hcell⟩ := read_cells s.drew hold hl0
          refine grow _ len c xs.toArray old cs H hgt hroom ?_ hv hlen' hcs (Nat.eq_of_beq_eq_true hcl) s (.refl _ _ _)
          exact run_firstCells_some (P := P) w.drew sz len _ _ _ xs (by rw [hv.1, hlen']) (fun j v hj => by rw [add_mk]; exact hcell j v hj)
        · simp at h
    | slcR _ _ _ sz' c l hl0 hlen hf =>
      dsimp only at h
      split at h
      · simp at h
      rename_i hszeq
      have hszeq := Nat.eq_of_beq_eq_true hszeq
      subst hszeq
      replace h := Option.bind_eq_some_iff.1 h; obtain ⟨kn, hkn, h⟩ := h
      obtain ⟨cells, hcells, rfl⟩ := knownCells_spec hkn
      obtain ⟨l1, hl1, _, _, hr⟩ := s.block hcells
      rw [hl0] at hl1; cases hl1
      have hkc := hr.1
      split at h
      · rename_i hle
        replace h := Option.bind_eq_some_iff.1 h; obtain ⟨H1, hw, h⟩ := h
        simp only [Option.some.injEq, Prod.mk.injEq] at h
        obtain ⟨rfl, rfl⟩ := h
        have hle := Nat.le_of_ble_eq_true hle
        have hle2 : len + n ≤ c := Nat.le_of_mul_le_mul_right (by omega : (len + n) * sz ≤ c * sz) hszpos
        exact inplace b o len c l _ hl0 hle2 cs hcs hsing hw (.slcR _ _ _ _ _ l hl0 hle2 hf)
      · split at h
        · rename_i hend
          have hend := Nat.eq_of_beq_eq_true hend
          split at h
          · rename_i hcl
            have hcl := Nat.eq_of_beq_eq_true hcl
            replace h := Option.bind_eq_some_iff.1 h; obtain ⟨old, hold, h⟩ := h
            simp only [Option.some.injEq, Prod.mk.injEq] at h
            obtain ⟨rfl, rfl⟩ := h
            by_cases hgt : len + n ≤ c
            · -- in place, under a new number
              obtain ⟨cn, hrun, hcv, _⟩ := srcCells_run (P := P) s hcs hn (Nat.le_refl _) hy
              obtain ⟨xs, hv, hlen', hcell⟩ := read_cells s hold hl0
              have h1 := hcv.oneCell hsing
              have hcn : cn.toList.length = n * sz := by rw [hcv.1, hcl]
              have hmul : (len + n) * sz ≤ c * sz := Nat.mul_le_mul_right _ hgt
              rw [Nat.add_mul] at hmul
              have hcell2 : ∀ j, j < cn.toList.length → (w.cell? ⟨l.cb, l.off + o + len * sz + j, none⟩).isSome = true := fun j hj => (hr.2.1 _ (by omega)).1
              have hin := World.cell?_setCells_in l.cb cn.toList (l.off + o + len * sz) w hcell2
              have hout := World.cell?_setCells_out l.cb cn.toList (l.off + o + len * sz) w
              have hst := run_storeCells_cells (P := P) l.cb (l.off + o + len * sz) cn.toList 0 w (by simpa using hcell2) (fun j hj => (hr.2.1 _ (by omega)).2) h1
              simp only [Nat.add_zero] at hst
              have hle' : ρ.le (ρ.upd H.n ⟨l.cb, l.off + o, l.fin⟩) := Place.le_upd (s.dom _ (Nat.le_refl _))
              obtain ⟨g1, g2⟩ := s.regrow (k := .cells (old ++ cs)) (l' := ⟨l.cb, l.off + o, l.fin⟩) hcells hl0 rfl (setCells_size l.cb cn.toList (l.off + o + len * sz) w)
                (fun j hj => setCells_heap _ _ _ _ j hj) (setCells_rest _ _ _ _).1 (setCells_rest _ _ _ _).2.1 (setCells_rest _ _ _ _).2.2 (by
                  refine ⟨by simp only [List.length_append]; omega, fun i hi => ?_, fun i hi => ?_⟩
                  · rw [World.frozen?_setCells]
                    refine ⟨?_, (hr.2.1 i hi).2⟩
                    by_cases hi2 : l.off + o + len * sz ≤ i ∧ i < l.off + o + len * sz + cn.toList.length
                    · have := hin (i - (l.off + o + len * sz)) (by omega)
                      rw [show l.off + o + len * sz + (i - (l.off + o + len * sz)) = i by omega] at this
                      show (World.cell? _ ⟨l.cb, i, none⟩).isSome = true
                      rw [this]; rfl
                    · show (World.cell? _ ⟨l.cb, i, none⟩).isSome = true
                      rw [hout ⟨l.cb, i, none⟩ (fun _ _ => by show i < _ ∨ _ ≤ i; omega)]
                      exact (hr.2.1 i hi).1
                  · simp only [List.length_append] at hi
                    by_cases hi2 : i < len * sz
                    · have hx : i < xs.length := by rw [hv.1, hlen']; exact hi2
                      refine ⟨xs[i], ?_, ?_⟩
                      · show World.cell? _ ⟨l.cb, l.off + o + i, none⟩ = _
                        rw [hout ⟨l.cb, l.off + o + i, none⟩ (fun _ _ => by show l.off + o + i < _ ∨ _ ≤ l.off + o + i; omega)]
                        exact hcell i _ (List.getElem?_eq_getElem hx)
                      · rw [List.getElem_append_left (by omega)]
                        exact (hv.2 i (by omega) hx).mono hle'
                    · have hj : i - len * sz < cn.toList.length := by omega
                      refine ⟨cn.toList[i - len * sz], ?_, ?_⟩
                      · have := hin (i - len * sz) hj
                        show World.cell? _ ⟨l.cb, l.off + o + i, none⟩ = _
                        rw [show l.off + o + len * sz + (i - len * sz) = l.off + o + i by omega] at this
                        exact this
                      · rw [List.getElem_append_right (by omega)]
                        have e : i - old.length = i - len * sz := by omega
                        simp only [e]
                        exact (hcv.2 _ (by omega) hj).mono hle')
              refine ⟨_, _, _, T.room (hl w) hgt hrun (w' := w.setCells l.cb (l.off + o + len * sz) cn.toList) (by rw [add_mk]; exact hst), ?_, g1, g2⟩
              exact .slcR H.n 0 (len + n) sz c ⟨l.cb, l.off + o, l.fin⟩ Place.upd_same hgt (by simpa using hf)
            · obtain ⟨xs, hv, hlen', hcell⟩ := read_cells s.drew hold hl0
              obtain ⟨sd, st⟩ := s.dropped b
              have := grow (some ⟨l.cb, l.off + o, none⟩) len c xs.toArray old cs (H.drop b) hgt hroom
                (run_firstCells_some (P := P) w.drew sz len _ _ _ xs (by rw [hv.1, hlen']) (fun j v hj => by rw [add_mk]; exact hcell j v hj)) hv hlen' hcs hcl sd st
              exact this
          · simp at h
        · simp at h
  · -- an empty one
    split at h
    · simp only [Option.some.injEq, Prod.mk.injEq] at h
      obtain ⟨rfl, rfl⟩ := h
      obtain ⟨c, hc, hcn⟩ := firstCells_zero (P := P) hn hy sz w
      cases hx with
      | zslcN => exact Good.pure s .zslcN (T.atNil (hl w) hc)
      | zslcE a => exact Good.pure s (.zslcE a) (T.room (hl w) (by omega) hc (by rw [hcn]; rfl))
    · rename_i n' _
      split at h
      · rename_i hroom
        replace h := Option.bind_eq_some_iff.1 h; obtain ⟨cs, hcs, h⟩ := h
        split at h
        · rename_i hlen
          simp only [Option.some.injEq, Prod.mk.injEq] at h
          obtain ⟨rfl, rfl⟩ := h
          cases hx with
          | zslcN =>
            have := grow none 0 0 #[] [] cs H (by omega) (by simpa using hroom) (by simp [Builtin.firstCells]) .nil (by simp) hcs (Nat.eq_of_beq_eq_true hlen) s (.refl _ _ _)
            simpa using this
          | zslcE a =>
            have := grow (some a) 0 0 #[] [] cs H (by omega) (by simpa using hroom) (by simp [Builtin.firstCells, loadCells, loadCellsFrom]) .nil (by simp) hcs (Nat.eq_of_beq_eq_true hlen) s (.refl _ _ _)
            simpa using this
        · simp at h
      · simp at h
  · cases hx with
    | eslc a c =>
      split at h
      · simp only [Option.some.injEq, Prod.mk.injEq] at h
        obtain ⟨rfl, rfl⟩ := h
        obtain ⟨cn, hc, hcn⟩ := firstCells_zero (P := P) hn hy sz w
        exact Good.pure s (.eslc a c) (T.room (hl w) (by omega) hc (by rw [hcn]; rfl))
      · simp at h
  · simp at h
end
end Go.Proofs.Ytpkplilgjdbhhaa
