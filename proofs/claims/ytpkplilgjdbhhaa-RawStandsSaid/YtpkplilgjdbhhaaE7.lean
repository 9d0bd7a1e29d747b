/- How E's single operations meet the model's: slices, comparisons, arithmetic. No condition. -/
import Derived.Test.YtpkplilgjdbhhaaE6
import Derived.Laws.StructEq
import Derived.Laws.Concat
namespace Go.Proofs.Ytpkplilgjdbhhaa
set_option linter.unusedSimpArgs false
set_option linter.unusedVariables false
open Go Go.RowKit

theorem bytes_size (s : List UInt8) : (⟨s.toArray⟩ : ByteArray).size = s.length := by simp [ByteArray.size]
theorem bytes_toList (s : List UInt8) : (⟨s.toArray⟩ : ByteArray).toList = s := by
  rw [ByteArray.toList_eq] <;> simp
theorem bytes_append (s t : List UInt8) : (⟨s.toArray⟩ : ByteArray) ++ ⟨t.toArray⟩ = ⟨(s ++ t).toArray⟩ := by
  apply ByteArray.ext
  simp
theorem bytes_extract (s : List UInt8) (l h : Nat) : (⟨s.toArray⟩ : ByteArray).extract l h = ⟨((s.take h).drop l).toArray⟩ := by
  apply ByteArray.ext
  simp [List.drop_take]
theorem eqB_eq : ∀ (x y : List UInt8), eqB x y = decide (x = y)
  | [], [] => rfl
  | [], _ :: _ => rfl
  | _ :: _, [] => rfl
  | a :: x, b :: y => by
    unfold eqB
    have : Nat.beq a.toNat b.toNat = decide (a = b) := by
      by_cases h : a = b
      · subst h; simp
      · have : a.toNat ≠ b.toNat := fun e => h (UInt8.toNat_inj.1 e)
        simp [h, beqN_ne this]
    simp only [this]
    by_cases h : a = b
    · subst h; simp [eqB_eq x y]
    · simp [h]

section
variable {P : Program} {ρ : Place} {H H' : Heap} {w : World}

theorem slice_run (s : Sim ρ H w) {t : TypeId} {x v : AV} {lo hi mx : Option AV} {lo' hi' mx' : Option Value} {y : Value} (h : sliceA P H t x lo hi mx = some v)
    (hx : VR ρ x y) (rl : OptR ρ lo lo') (rh : OptR ρ hi hi') (rm : OptR ρ mx mx') : ∃ u, (Instr.sliceAt t y lo' hi' mx').run P w = .ok u w ∧ VR ρ v u := by
  replace h := Option.bind_eq_some_iff.1 h; obtain ⟨d, hd, h⟩ := h
  split at hd
  rotate_left
  · simp at hd
  rename_i ok
  have plain : (match d with | .array _ _ => False | _ => True) → (Instr.sliceAt t y lo' hi' mx').run P w = (Instr.slice t y lo' hi' mx').run P w := fun hp => by
    cases d <;> first | exact hp.elim | simp [Instr.sliceAt, run_underlying hd]
  cases d with
  | string =>
    rw [plain trivial]
    cases hx with
    | str st =>
      cases rm with
      | some => simp at h
      | none =>
        dsimp only at h
        replace h := Option.bind_eq_some_iff.1 h; obtain ⟨hh, hhh, h⟩ := h
        replace h := Option.bind_eq_some_iff.1 h; obtain ⟨l, hl, h⟩ := h
        simp only [Option.some.injEq] at h
        subst h
        obtain ⟨h1, _, _, _, _⟩ := bounds_run (P := P) (isSlice := false) (len := st.length) (c := st.length) (c' := st.length) (mD := 0) (m := 0) rl rh .none ok (Nat.le_refl _) rfl hhh hl w
        refine ⟨.string ⟨((st.take hh).drop l).toArray⟩, ?_, .str _⟩
        simp only [third] at h1
        simp [Instr.slice, run_underlying hd, bytes_size, h1, bytes_extract]
    | _ => simp at h
  | slice elem =>
    rw [plain trivial]
    replace h := Option.bind_eq_some_iff.1 h; obtain ⟨sz, hsz, h⟩ := h
    have hS := sizeT_run hsz w
    have blk : ∀ {b o len : Nat} {cap : Cap} {ad : Option Addr} {cap' : Nat}, sliceBlk H sz b o len cap lo hi mx = some v → VR ρ (.slc b o len cap) (.slice ad len cap') →
        ∃ u, (Instr.slice t (.slice ad len cap') lo' hi' mx').run P w = .ok u w ∧ VR ρ v u := fun {b o len cap ad cap'} hb hv => by
      obtain ⟨l, hh, m, b', o', rfl, h1, h2⟩ := sliceBlk_run (P := P) (isSlice := true) s hb rl rh rm ok hv
      refine ⟨_, ?_, h2⟩
      simp only [Instr.slice, Sem.run_bind, run_underlying hd, Result.andThen_ok, h1, hS, Sem.run_pure]
      congr 1
      unfold baseOf
      split <;> simp_all [add_mk]
    cases hx with
    | slcE b o len c l hl hc => exact blk h (.slcE b o len c l hl hc)
    | slcR b o len sz' c l hl hc hf => exact blk h (.slcR b o len sz' c l hl hc hf)
    | nilS =>
      replace h := Option.bind_eq_some_iff.1 h; obtain ⟨m, hm, h⟩ := h
      replace h := Option.bind_eq_some_iff.1 h; obtain ⟨hh, hhh, h⟩ := h
      replace h := Option.bind_eq_some_iff.1 h; obtain ⟨l, hl, h⟩ := h
      simp only [Option.some.injEq] at h
      subst h
      have h0 : ∀ {q : Option AV} {d j : Nat}, bound q d 0 = some j → d = 0 → j = 0 := fun {q d j} hq hd => by
        cases q with
        | none => simp only [bound, Option.some.injEq] at hq; omega
        | some u => cases u <;> simp [bound] at hq; have := (idx_spec hq).2; omega
      obtain rfl := h0 hm rfl
      obtain rfl := h0 hhh rfl
      obtain rfl := h0 hl rfl
      obtain ⟨h1, _, _, _, _⟩ := bounds_run (P := P) (isSlice := true) (len := 0) (c := 0) (c' := 0) (mD := 0) (m := 0) rl rh rm ok (Nat.le_refl _) hm (by cases rm <;> exact hhh) hl w
      refine ⟨.slice none 0 0, ?_, .nilS⟩
      have h2 : third mx 0 0 = 0 := by cases rm <;> rfl
      rw [h2] at h1
      simp [Instr.slice, run_underlying hd, h1, hS]
    | fslc sz' es cb off cap vs hB hcap hz hc hv =>
      cases rm with
      | some => simp at h
      | none =>
        dsimp only at h
        replace h := Option.bind_eq_some_iff.1 h; obtain ⟨hsz', hb, h⟩ := h
        split at hb
        rotate_left
        · simp at hb
        rename_i hbeq
        have hbeq := Nat.eq_of_beq_eq_true hbeq
        subst hbeq
        replace h := Option.bind_eq_some_iff.1 h; obtain ⟨hh, hhh, h⟩ := h
        replace h := Option.bind_eq_some_iff.1 h; obtain ⟨l, hl, h⟩ := h
        simp only [Option.some.injEq] at h
        subst h
        obtain ⟨h1, h2, h3, h4, _⟩ := bounds_run (P := P) (isSlice := true) (len := es.length) (c := es.length) (c' := cap) (mD := 0) (m := 0) rl rh .none ok hcap rfl hhh hl w
        have hle : hh ≤ es.length := by
          cases rh with
          | none => rw [h2 rfl]; exact Nat.le_refl _
          | some u z hu => exact h3 _ rfl
        have hlen : ((es.take hh).drop l).length = hh - l := by simp; omega
        have mk : ∀ o', (o' = off + l * sz' ∨ hh - l = 0) → VR ρ (.fslc sz' ((es.take hh).drop l)) (.slice (some ⟨cb, o', none⟩) (hh - l) (cap - l)) := fun o' ho => by
          rw [← hlen]
          refine .fslc sz' _ cb o' (cap - l) (fun i j => vs (l + i) j) hB (by rw [hlen]; omega) (fun i hi => ?_) (fun i hi j hj => ?_) (fun i hi j hj => ?_)
          · simp only [List.getElem_drop, List.getElem_take]
            exact hz _ (by rw [hlen] at hi; omega)
          · rw [hlen] at hi
            rcases ho with rfl | h0
            · have := hc (l + i) (by omega) j hj
              rw [Nat.add_mul, ← Nat.add_assoc] at this
              exact this
            · omega
          · rw [hlen] at hi
            simp only [List.getElem_drop, List.getElem_take]
            exact hv (l + i) (by omega) j (by simpa only [List.getElem_drop, List.getElem_take] using hj)
        simp only [third] at h1
        by_cases hcl : cap = l
        · subst hcl
          refine ⟨.slice (some ⟨cb, off, none⟩) (hh - cap) 0, ?_, by simpa using mk off (.inr (by omega))⟩
          simp [Instr.slice, run_underlying hd, h1, hS]
        · refine ⟨.slice (some ⟨cb, off + l * sz', none⟩) (hh - l) (cap - l), ?_, mk _ (.inl rfl)⟩
          simp [Instr.slice, run_underlying hd, h1, hS, hcl, add_mk]
    | fnil sz' =>
      cases rm with
      | some => simp at h
      | none =>
        dsimp only at h
        replace h := Option.bind_eq_some_iff.1 h; obtain ⟨hsz', hb, h⟩ := h
        replace h := Option.bind_eq_some_iff.1 h; obtain ⟨hh, hhh, h⟩ := h
        replace h := Option.bind_eq_some_iff.1 h; obtain ⟨l, hl, h⟩ := h
        simp only [List.take_nil, List.drop_nil, Option.some.injEq] at h
        subst h
        have h0 : ∀ {q : Option AV} {d j : Nat}, bound q d 0 = some j → d = 0 → j = 0 := fun {q d j} hq hd => by
          cases q with
          | none => simp only [bound, Option.some.injEq] at hq; omega
          | some u => cases u <;> simp [bound] at hq; have := (idx_spec hq).2; omega
        obtain rfl := h0 hhh rfl
        obtain rfl := h0 hl rfl
        obtain ⟨h1, _, _, _, _⟩ := bounds_run (P := P) (isSlice := true) (len := 0) (c := 0) (c' := 0) (mD := 0) (m := 0) rl rh .none ok (Nat.zero_le _) rfl hhh hl w
        simp only [third] at h1
        exact ⟨.slice none 0 0, by simp [Instr.slice, run_underlying hd, h1, hS], .fnil _⟩
    | fnone sz' a c =>
      cases rm with
      | some => simp at h
      | none =>
        dsimp only at h
        replace h := Option.bind_eq_some_iff.1 h; obtain ⟨hsz', hb, h⟩ := h
        replace h := Option.bind_eq_some_iff.1 h; obtain ⟨hh, hhh, h⟩ := h
        replace h := Option.bind_eq_some_iff.1 h; obtain ⟨l, hl, h⟩ := h
        simp only [List.take_nil, List.drop_nil, Option.some.injEq] at h
        subst h
        have h0 : ∀ {q : Option AV} {d j : Nat}, bound q d 0 = some j → d = 0 → j = 0 := fun {q d j} hq hd => by
          cases q with
          | none => simp only [bound, Option.some.injEq] at hq; omega
          | some u => cases u <;> simp [bound] at hq; have := (idx_spec hq).2; omega
        obtain rfl := h0 hhh rfl
        obtain rfl := h0 hl rfl
        obtain ⟨h1, _, _, _, _⟩ := bounds_run (P := P) (isSlice := true) (len := 0) (c := 0) (c' := c) (mD := 0) (m := 0) rl rh .none ok (Nat.zero_le _) rfl hhh hl w
        simp only [third] at h1
        refine ⟨.slice (some a) 0 c, ?_, .fnone _ _ _⟩
        simp [Instr.slice, run_underlying hd, h1, hS]
        intro _
        cases a; simp [Addr.add]
    | _ => simp at h
  | array n elem =>
    replace h := Option.bind_eq_some_iff.1 h; obtain ⟨sz, hsz, h⟩ := h
    cases hx with
    | ptr b o l hl =>
      obtain ⟨l1, hh, m, b', o', he, h1, h2⟩ := sliceBlk_run (P := P) (isSlice := false) s h rl rh rm ok (.slcE b o n n l hl (Nat.le_refl _))
      simp only [Option.some.injEq, Addr.mk.injEq, and_true] at he
      obtain ⟨rfl, rfl⟩ := he
      refine ⟨_, ?_, h2⟩
      simp only [Instr.sliceAt, Sem.run_bind, run_underlying hd, Result.andThen_ok, Instr.sureAddr, Sem.run_pure, h1, sizeT_run hsz]
      congr 1
      unfold baseOf
      split <;> simp_all [add_mk]
    | _ => simp at h
  | _ => simp at h
end
end Go.Proofs.Ytpkplilgjdbhhaa
