/- Closed runs that answer a value written out. No condition. -/
import Derived.Test.YthclkpplpdnffaaGreatDoorMM
import Derived.Test.YthclkpplpdnffaaGreatDoorMG
import Derived.Test.YthclkpplpdnffaaGreatDoorMK
namespace Go.Proofs.YthclkpplpdnffaaGreatDoor
set_option linter.unusedSimpArgs false
set_option linter.unusedVariables false

def inA (w : Wk) (a : Int) : Int := w.inn.getD a.toNat 0
def outA (w : Wk) (a : Int) : Int := w.out.getD a.toNat 0
/-- what holds at each step of the walk: who is on the path is open, who is not is closed; what is gone into within lies within -/
structure J2 (n : Nat) (c : CfgW) : Prop where
  j : JW n c
  a0 : ∀ a, a ∈ c.2.l → 0 ≤ a ∧ a < (n : Int) ∧ 0 ≤ inA c.2 a ∧ inA c.2 a < c.2.c
  srt : c.2.l.Pairwise fun a b => inA c.2 a < inA c.2 b
  all : ∀ i : Nat, i < n → 0 ≤ c.2.inn.getD i 0 → (i : Int) ∈ c.2.l
  pl : ∀ e, e ∈ c.1 → (e.1 : Int) ∈ c.2.l
  ps : c.1.Pairwise fun x y => c.2.inn.getD y.1 0 < c.2.inn.getD x.1 0
  cl : ∀ a, a ∈ c.2.l → (∃ e, e ∈ c.1 ∧ (e.1 : Int) = a) ∨ (inA c.2 a < outA c.2 a ∧ outA c.2 a < c.2.c)
  lam : ∀ a b, a ∈ c.2.l → b ∈ c.2.l → inA c.2 a < inA c.2 b → (∃ e, e ∈ c.1 ∧ (e.1 : Int) = a) ∨ outA c.2 a < inA c.2 b ∨ ((∀ e, e ∈ c.1 → (e.1 : Int) ≠ b) ∧ outA c.2 b < outA c.2 a)
theorem inA_into {w : Wk} {i : Nat} {a : Int} (hi : i < w.inn.length) (ha : 0 ≤ a) : inA (into i w) a = if (i : Int) = a then w.c else inA w a := by
  simp only [inA, into, getD_set]
  by_cases h : (i : Int) = a
  · have : i = a.toNat := by omega
    simp [h, ← this, hi]
  · have : ¬ i = a.toNat := by omega
    simp [h, this]
theorem outA_into {w : Wk} {i : Nat} {a : Int} : outA (into i w) a = outA w a := rfl
theorem outA_outof {w : Wk} {i : Nat} {a : Int} (hi : i < w.out.length) (ha : 0 ≤ a) : outA (outof i w) a = if (i : Int) = a then w.c else outA w a := by
  simp only [outA, outof, getD_set]
  by_cases h : (i : Int) = a
  · have : i = a.toNat := by omega
    simp [h, ← this, hi]
  · have : ¬ i = a.toNat := by omega
    simp [h, this]
theorem J2.step {n : Nat} {ks : Nat → List Int} {c d : CfgW} (h : stpW n ks c = some d) (j : J2 n c) : J2 n d := by
  have hj := j.j.step h
  obtain ⟨p, w⟩ := c
  cases p with
  | nil => cases h
  | cons e p =>
    obtain ⟨i, m⟩ := e
    have hli := j.j.k.li
    have hlo := j.j.k.lo
    have hc1 := j.j.k.c1
    have hin : i < n := j.j.p (i, m) (by simp)
    simp only at hli hlo hc1
    have hps := j.ps
    simp only [List.pairwise_cons] at hps
    simp only [stpW] at h
    split at h
    · simp only [Option.some.injEq] at h
      subst h
      have hil := j.pl (i, m) (by simp)
      simp only at hil
      have e1 : ∀ a, inA (outof i w) a = inA w a := fun a => rfl
      have e2 : ∀ a, 0 ≤ a → outA (outof i w) a = if (i : Int) = a then w.c else outA w a := fun a ha => outA_outof (by omega) ha
      have hci := (j.a0 _ hil).2.2.2
      simp only at hci
      refine ⟨hj, fun a ha => ?_, j.srt, j.all, fun e he => j.pl e (by simp [he]), hps.2, fun a ha => ?_, fun a b ha hb hab => ?_⟩
      · have := j.a0 a ha
        exact ⟨this.1, this.2.1, this.2.2.1, by show inA w a < w.c + 1; have := this.2.2.2; simp only at this; omega⟩
      · have h0 := (j.a0 a ha).1
        by_cases hia : (i : Int) = a
        · right
          show inA w a < outA (outof i w) a ∧ outA (outof i w) a < w.c + 1
          rw [e2 a h0, if_pos hia, ← hia]
          exact ⟨hci, by omega⟩
        · rcases j.cl a ha with ⟨e, he, hea⟩ | hcl
          · simp only [List.mem_cons] at he
            rcases he with rfl | he
            · exact absurd hea hia
            · exact .inl ⟨e, he, hea⟩
          · right
            show inA w a < outA (outof i w) a ∧ outA (outof i w) a < w.c + 1
            rw [e2 a h0, if_neg hia]
            have h3 : inA w a < outA w a ∧ outA w a < w.c := hcl
            omega
      · have ha0 := (j.a0 a ha).1
        have hb0 := (j.a0 b hb).1
        show (∃ e, e ∈ p ∧ (e.1 : Int) = a) ∨ outA (outof i w) a < inA w b ∨ ((∀ e, e ∈ p → (e.1 : Int) ≠ b) ∧ outA (outof i w) b < outA (outof i w) a)
        rw [e2 a ha0, e2 b hb0]
        have hab' : inA w a < inA w b := hab
        by_cases hia : (i : Int) = a
        · rw [if_pos hia]
          have hib : ¬ (i : Int) = b := fun e => by rw [← hia, ← e] at hab'; omega
          rw [if_neg hib]
          right; right
          have hnb : ∀ e, e ∈ p → (e.1 : Int) ≠ b := fun e he hb' => by
            have h1 := hps.1 e he
            have : inA w b = w.inn.getD e.1 0 := by rw [← hb']; simp [inA]
            have h2 : inA w a = w.inn.getD i 0 := by rw [← hia]; simp [inA]
            omega
          refine ⟨hnb, ?_⟩
          rcases j.cl b hb with ⟨e, he, heb⟩ | hcl
          · simp only [List.mem_cons] at he
            rcases he with rfl | he
            · exact absurd heb hib
            · exact absurd heb (hnb e he)
          · exact hcl.2
        · rw [if_neg hia]
          rcases j.lam a b ha hb hab with ⟨e, he, hea⟩ | h1 | ⟨h1, h2⟩
          · simp only [List.mem_cons] at he
            rcases he with rfl | he
            · exact absurd hea hia
            · exact .inl ⟨e, he, hea⟩
          · exact .inr (.inl h1)
          · have hib : ¬ (i : Int) = b := h1 (i, m) (by simp)
            rw [if_neg hib]
            exact .inr (.inr ⟨fun e he => h1 e (by simp [he]), h2⟩)
    · rename_i k hk
      split at h
      · rename_i hx
        simp only [Option.some.injEq] at h
        subst h
        have hkn : k.toNat < n := by omega
        have hkk : ((k.toNat : Nat) : Int) = k := by omega
        have hkl : k ∉ w.l := fun hm => by
          have := (j.a0 k hm).2.2.1
          simp only [inA] at this
          omega
        have e1 : ∀ a, 0 ≤ a → inA (into k.toNat w) a = if k = a then w.c else inA w a := fun a ha => by rw [inA_into (by omega) ha, hkk]
        have e3 : ∀ a, a ∈ w.l → inA (into k.toNat w) a = inA w a := fun a ha => by
          rw [e1 a (j.a0 a ha).1, if_neg (fun (e : k = a) => hkl (e ▸ ha))]
        have ek : inA (into k.toNat w) k = w.c := by rw [e1 k hx.1, if_pos rfl]
        have hl : (into k.toNat w).l = w.l ++ [k] := by simp [into, hkk]
        have e4 : ∀ e, e ∈ (i, m) :: p → (into k.toNat w).inn.getD e.1 0 = w.inn.getD e.1 0 := fun e he => by
          have := e3 _ (j.pl e he)
          simpa [inA] using this
        have hlt : ∀ a, a ∈ w.l → inA w a < w.c := fun a ha => (j.a0 a ha).2.2.2
        refine ⟨hj, fun a ha => ?_, ?_, fun x hx2 h0 => ?_, fun e he => ?_, ?_, fun a ha => ?_, fun a b ha hb hab => ?_⟩
        · simp only [hl, List.mem_append, List.mem_singleton] at ha
          rcases ha with ha | rfl
          · have := j.a0 a ha
            refine ⟨this.1, this.2.1, by simp only; rw [e3 a ha]; exact this.2.2.1, ?_⟩
            simp only
            rw [e3 a ha]
            have := hlt a ha
            simp only [into]; omega
          · refine ⟨hx.1, hx.2.1, by simp only; rw [ek]; omega, ?_⟩
            simp only
            rw [ek]
            simp only [into]; omega
        · simp only [hl]
          rw [List.pairwise_append]
          refine ⟨?_, by simp, fun a ha b hb => ?_⟩
          · refine j.srt.imp_of_mem fun ha hb hab => ?_
            rw [e3 _ ha, e3 _ hb]; exact hab
          · simp only [List.mem_singleton] at hb
            subst hb
            rw [e3 a ha, ek]
            exact hlt a ha
        · simp only [hl, List.mem_append, List.mem_singleton]
          by_cases hxk : x = k.toNat
          · right; omega
          · left
            refine j.all x hx2 ?_
            simp only [into, getD_set] at h0
            rw [if_neg (by omega)] at h0
            exact h0
        · simp only [hl, List.mem_append, List.mem_singleton]
          simp only [List.mem_cons] at he
          rcases he with rfl | rfl | he
          · right; simp only; omega
          · exact .inl (j.pl (i, m) (by simp))
          · exact .inl (j.pl e (by simp [he]))
        · simp only [List.pairwise_cons]
          have key : ∀ e, e ∈ (i, m) :: p → (into k.toNat w).inn.getD e.1 0 < (into k.toNat w).inn.getD k.toNat 0 := fun e he => by
            rw [e4 e he]
            have h1 := hlt _ (j.pl e he)
            have h2 : (into k.toNat w).inn.getD k.toNat 0 = w.c := ek
            rw [h2]
            simpa [inA] using h1
          refine ⟨fun e he => ?_, fun e he => ?_, ?_⟩
          · simp only [List.mem_cons] at he
            rcases he with rfl | he
            · exact key (i, m) (by simp)
            · exact key e (by simp [he])
          · have h1 := hps.1 e he
            have h2 := e4 e (by simp [he])
            have h3 := e4 (i, m) (by simp)
            simp only at h1 h2 h3 ⊢
            rw [h2, h3]; exact h1
          · refine hps.2.imp_of_mem fun {x y} hx hy hxy => ?_
            rw [e4 x (by simp [hx]), e4 y (by simp [hy])]; exact hxy
        · simp only [hl, List.mem_append, List.mem_singleton] at ha
          rcases ha with ha | rfl
          · rcases j.cl a ha with ⟨e, he, hea⟩ | hcl
            · left
              simp only [List.mem_cons] at he
              rcases he with rfl | he
              · exact ⟨(i, m + 1), by simp, hea⟩
              · exact ⟨e, by simp [he], hea⟩
            · right
              simp only
              rw [e3 a ha, outA_into]
              simp only at hcl
              simp only [into]
              omega
          · exact .inl ⟨(a.toNat, 0), by simp, hkk⟩
        · simp only [hl, List.mem_append, List.mem_singleton] at ha hb
          rcases ha with ha | rfl
          · rcases hb with hb | rfl
            · simp only at hab ⊢
              rw [e3 a ha, e3 b hb] at hab
              rw [e3 b hb]
              rcases j.lam a b ha hb hab with ⟨e, he, hea⟩ | h1 | ⟨h1, h2⟩
              · left
                simp only [List.mem_cons] at he
                rcases he with rfl | he
                · exact ⟨(i, m + 1), by simp, hea⟩
                · exact ⟨e, by simp [he], hea⟩
              · exact .inr (.inl h1)
              · refine .inr (.inr ⟨fun e he => ?_, h2⟩)
                simp only [List.mem_cons] at he
                rcases he with rfl | rfl | he
                · simp only; rw [hkk]; exact fun e => hkl (e ▸ hb)
                · exact h1 (i, m) (by simp)
                · exact h1 e (by simp [he])
            · simp only
              rw [ek]
              rcases j.cl a ha with ⟨e, he, hea⟩ | hcl
              · left
                simp only [List.mem_cons] at he
                rcases he with rfl | he
                · exact ⟨(i, m + 1), by simp, hea⟩
                · exact ⟨e, by simp [he], hea⟩
              · exact .inr (.inl hcl.2)
          · rcases hb with hb | rfl
            · simp only at hab
              rw [ek, e3 b hb] at hab
              have := hlt b hb
              omega
            · simp only at hab
              omega
      · simp only [Option.some.injEq] at h
        subst h
        have ex : ∀ a : Int, (∃ e, e ∈ (i, m) :: p ∧ (e.1 : Int) = a) → ∃ e, e ∈ (i, m + 1) :: p ∧ (e.1 : Int) = a := by
          rintro a ⟨e, he, hea⟩
          simp only [List.mem_cons] at he
          rcases he with rfl | he
          · exact ⟨(i, m + 1), by simp, hea⟩
          · exact ⟨e, by simp [he], hea⟩
        refine ⟨hj, j.a0, j.srt, j.all, fun e he => ?_, ?_, fun a ha => ?_, fun a b ha hb hab => ?_⟩
        · simp only [List.mem_cons] at he
          rcases he with rfl | he
          · exact j.pl (i, m) (by simp)
          · exact j.pl e (by simp [he])
        · simp only [List.pairwise_cons]
          exact ⟨fun e he => hps.1 e he, hps.2⟩
        · rcases j.cl a ha with h1 | h1
          · exact .inl (ex a h1)
          · exact .inr h1
        · rcases j.lam a b ha hb hab with h1 | h1 | ⟨h1, h2⟩
          · exact .inl (ex a h1)
          · exact .inr (.inl h1)
          · refine .inr (.inr ⟨fun e he => ?_, h2⟩)
            simp only [List.mem_cons] at he
            rcases he with rfl | he
            · exact h1 (i, m) (by simp)
            · exact h1 e (by simp [he])
theorem j2_start {n : Nat} (hn : 0 < n) : J2 n ([(0, 0)], into 0 (w0 n)) := by
  have hl : (into 0 (w0 n)).l = [0] := by simp [into, w0]
  have hi0 : inA (into 0 (w0 n)) 0 = 0 := by simp [inA, into, w0, List.getD_eq_getElem?_getD, hn]
  have hc : (into 0 (w0 n)).c = 1 := by simp [into, w0]
  refine ⟨jw_start hn, fun a ha => ?_, by simp only [hl]; simp, fun i hi h0 => ?_, fun e he => ?_, by simp, fun a ha => ?_, fun a b ha hb hab => ?_⟩
  · simp only [hl, List.mem_singleton] at ha
    subst ha
    exact ⟨by omega, by omega, by simp only; omega, by simp only; omega⟩
  · simp only [hl, List.mem_singleton]
    by_cases hz : i = 0
    · omega
    · have : (into 0 (w0 n)).inn.getD i 0 = -1 := by
        have hz' : ¬ 0 = i := by omega
        simp [into, w0, List.getD_eq_getElem?_getD, List.getElem?_set, hz', hi]
      simp only at h0
      omega
  · simp only [List.mem_singleton] at he
    subst he
    simp [hl]
  · simp only [hl, List.mem_singleton] at ha
    subst ha
    exact .inl ⟨(0, 0), by simp, rfl⟩
  · simp only [hl, List.mem_singleton] at ha hb
    subst ha; subst hb
    simp only at hab
    omega
theorem j2_end {n : Nat} {ks : Nat → List Int} (hn : 0 < n) : J2 n ([], wkOf n ks) := by
  have h := reachW_vis (K := n) (ks := ks) n [] 0 (w0 n) (w0_ok n) hn (by simp [w0, List.getD_eq_getElem?_getD, hn]) (by simp [w0, negs_rep])
  rw [wkOf, if_neg (by omega)]
  exact h.inv (J := J2 n) (fun _ _ a b => b.step a) (j2_start hn)
/-- all of the walk, at its end -/
structure Lam (n : Nat) (w : Wk) (L : List Int) : Prop where
  a0 : ∀ a, a ∈ L → 0 ≤ a ∧ a < (n : Int) ∧ 0 ≤ inA w a
  srt : L.Pairwise fun a b => inA w a < inA w b
  all : ∀ i : Nat, i < n → 0 ≤ inA w i → (i : Int) ∈ L
  io : ∀ a, a ∈ L → inA w a < outA w a
  lam : ∀ a b, a ∈ L → b ∈ L → inA w a < inA w b → outA w a < inA w b ∨ outA w b < outA w a
theorem lam_end {n : Nat} {ks : Nat → List Int} (hn : 0 < n) : Lam n (wkOf n ks) (orderOf n ks) := by
  have j := j2_end (ks := ks) hn
  have hl : (wkOf n ks).l = orderOf n ks := wk_list
  have ne : ∀ a : Int, ¬ ∃ e, e ∈ ([] : List (Nat × Nat)) ∧ (e.1 : Int) = a := fun a ⟨e, he, _⟩ => by cases he
  rw [← hl]
  refine ⟨fun a ha => ?_, j.srt, fun i hi h0 => j.all i hi (by simpa [inA] using h0), fun a ha => ?_, fun a b ha hb hab => ?_⟩
  · have := j.a0 a ha
    exact ⟨this.1, this.2.1, this.2.2.1⟩
  · exact ((j.cl a ha).resolve_left (ne a)).1
  · rcases j.lam a b ha hb hab with h | h | h
    · exact absurd h (ne a)
    · exact .inl h
    · exact .inr h.2
theorem ins_iff {w : Wk} {a b : Int} : insW w a b = true ↔ 0 ≤ inA w a ∧ 0 ≤ inA w b ∧ inA w b < inA w a ∧ outA w a < outA w b := by
  simp [insW, insB, mkW, inA, outA, and_assoc]
theorem ins_trans {w : Wk} {a b c : Int} (h1 : insW w a b = true) (h2 : insW w b c = true) : insW w a c = true := by
  rw [ins_iff] at h1 h2 ⊢
  omega
theorem pop_filter {w : Wk} {j : Int} : ∀ {S : List Int}, S.Pairwise (fun x y => insW w y x = true) → popW w j S = S.filter (insW w j)
  | [], _ => rfl
  | f :: r, h => by
    simp only [List.pairwise_cons] at h
    have ih := pop_filter (j := j) h.2
    unfold popW
    rw [ih]
    cases hr : r.filter (insW w j) with
    | nil =>
      simp only
      by_cases hf : insW w j f = true
      · simp [List.filter_cons, hf, hr]
      · simp [List.filter_cons, hf, hr]
    | cons g s =>
      have hg : g ∈ r.filter (insW w j) := by rw [hr]; simp
      rw [List.mem_filter] at hg
      have hf : insW w j f = true := ins_trans hg.2 (h.1 g hg.1)
      simp [List.filter_cons, hf, hr]
end Go.Proofs.YthclkpplpdnffaaGreatDoor
namespace Go.Proofs.YthclkpplpdnffaaGreatDoor
set_option linter.unusedSimpArgs false
set_option linter.unusedVariables false

def frm (t : Tr) (w : Wk) (pre : List Int) (i : Int) : List Int := pre.filter fun f => isForm t f && insW w i f
theorem frm_mem {t : Tr} {w : Wk} {pre : List Int} {i f : Int} : f ∈ frm t w pre i ↔ f ∈ pre ∧ isForm t f = true ∧ insW w i f = true := by simp [frm, List.mem_filter]
/-- who holds a later one holds those between -/
theorem Lam.between {n : Nat} {w : Wk} {L : List Int} (h : Lam n w L) {f i j : Int} (hf : f ∈ L) (hi : i ∈ L) (hj : j ∈ L) (h1 : inA w f < inA w i) (h2 : inA w i < inA w j) (h3 : insW w j f = true) : insW w i f = true := by
  rw [ins_iff] at h3 ⊢
  have hl := h.lam f i hf hi h1
  have := h.io j hj
  have := (h.a0 i hi).2.2
  omega
theorem Lam.chain {n : Nat} {w : Wk} {L : List Int} (h : Lam n w L) {x y i : Int} (hx : x ∈ L) (hy : y ∈ L) (hi : i ∈ L) (h1 : inA w x < inA w y) (h2 : insW w i x = true) (h3 : insW w i y = true) : insW w y x = true := by
  rw [ins_iff] at h2 h3 ⊢
  have hl := h.lam x y hx hy h1
  have := h.io i hi
  omega
theorem pop_step {n : Nat} {t : Tr} {w : Wk} {L pre rest S : List Int} {i : Int} (h : Lam n w L) (hL : L = pre ++ i :: rest) (hS : ∀ j, j ∈ i :: rest → popW w j S = frm t w pre j) :
    ∀ j, j ∈ rest → popW w j (ofPush t i (popW w i S)) = frm t w (pre ++ [i]) j := by
  intro j hj
  have hsrt := h.srt
  rw [hL, List.pairwise_append] at hsrt
  obtain ⟨s1, s2, s3⟩ := hsrt
  rw [List.pairwise_cons] at s2
  have mp : ∀ f, f ∈ pre → f ∈ L := fun f hf => by rw [hL]; simp [hf]
  have mi : i ∈ L := by rw [hL]; simp
  have mj : j ∈ L := by rw [hL]; simp [hj]
  have hij : inA w i < inA w j := s2.1 j hj
  have hfi : ∀ f, f ∈ pre → inA w f < inA w i := fun f hf => s3 f hf i (by simp)
  rw [hS i (by simp)]
  have c1 : (frm t w pre i).Pairwise fun x y => insW w y x = true := by
    have : (frm t w pre i).Pairwise fun a b => inA w a < inA w b := s1.sublist List.filter_sublist
    refine this.imp_of_mem fun {x y} hx hy hxy => ?_
    rw [frm_mem] at hx hy
    exact h.chain (mp x hx.1) (mp y hy.1) mi hxy hx.2.2 hy.2.2
  have p1 : (frm t w pre i).filter (insW w j) = frm t w pre j := by
    simp only [frm, List.filter_filter]
    refine List.filter_congr fun f hf => ?_
    cases hq : isForm t f with
    | false => simp
    | true =>
      simp only [Bool.true_and]
      cases hjf : insW w j f with
      | false => simp
      | true => simp [h.between (mp f hf) mi mj (hfi f hf) hij hjf]
  unfold ofPush
  by_cases hi : isForm t i = true
  · rw [if_pos hi]
    have c2 : (frm t w pre i ++ [i]).Pairwise fun x y => insW w y x = true := by
      rw [List.pairwise_append]
      refine ⟨c1, by simp, fun x hx y hy => ?_⟩
      simp only [List.mem_singleton] at hy
      subst hy
      rw [frm_mem] at hx
      exact hx.2.2
    rw [pop_filter c2, List.filter_append, p1]
    simp [frm, hi, List.filter_append, List.filter_cons]
  · rw [if_neg hi, pop_filter c1, p1]
    simp [frm, hi, List.filter_append, List.filter_cons]
def loopV (t : Tr) (w : Wk) (L : List Int) (i : Int) : Int := if isImg t i || isListed t i then ((frm t w L i).getLast?).getD 0 else 0
theorem frm_pre {n : Nat} {t : Tr} {w : Wk} {L pre rest : List Int} {i : Int} (h : Lam n w L) (hL : L = pre ++ i :: rest) : frm t w pre i = frm t w L i := by
  have hsrt := h.srt
  rw [hL, List.pairwise_append] at hsrt
  obtain ⟨s1, s2, s3⟩ := hsrt
  rw [List.pairwise_cons] at s2
  rw [hL]
  simp only [frm, List.filter_append]
  have : (i :: rest).filter (fun f => isForm t f && insW w i f) = [] := by
    rw [List.filter_eq_nil_iff]
    intro f hf hq
    simp only [Bool.and_eq_true] at hq
    have h2 := ins_iff.1 hq.2
    rcases List.mem_cons.1 hf with rfl | hf
    · omega
    · have := s2.1 f hf
      omega
  rw [this, List.append_nil]
theorem loop_get {n : Nat} {t : Tr} {w : Wk} {L : List Int} (h : Lam n w L) (x : Nat) : ∀ (rest pre S out : List Int), L = pre ++ rest → (∀ j, j ∈ rest → popW w j S = frm t w pre j) → out.length = n →
    (ofLoop t w rest S out).getD x 0 = if (x : Int) ∈ rest then (if isImg t x || isListed t x then ((frm t w L x).getLast?).getD (out.getD x 0) else out.getD x 0) else out.getD x 0
  | [], pre, S, out, _, _, _ => by simp [ofLoop]
  | i :: r, pre, S, out, hL, hS, hlen => by
    have hpop := hS i (by simp)
    have hfr := frm_pre (t := t) h hL
    have ih := loop_get h x r (pre ++ [i]) (ofPush t i (popW w i S)) (ofOut t i (popW w i S) out) (by rw [hL]; simp) (pop_step h hL hS) (by rw [ofOut_len, hlen])
    simp only [ofLoop]
    rw [ih]
    have hi := h.a0 i (by rw [hL]; simp)
    have hir : i ∉ r := by
      have hsrt := h.srt
      rw [hL, List.pairwise_append] at hsrt
      have := hsrt.2.1
      rw [List.pairwise_cons] at this
      intro hm
      have := this.1 i hm
      omega
    have hout : (ofOut t i (popW w i S) out).getD x 0 = if (x : Int) = i then (if isImg t x || isListed t x then ((frm t w L x).getLast?).getD (out.getD x 0) else out.getD x 0) else out.getD x 0 := by
      rw [hpop, hfr]
      unfold ofOut
      by_cases hx : (x : Int) = i
      · subst hx
        rw [if_pos rfl]
        split
        · cases hg : (frm t w L (x : Int)).getLast? with
          | none => simp
          | some f =>
            simp only [getD_set, Int.toNat_natCast, Option.getD_some]
            rw [if_pos ⟨trivial, by omega⟩]
        · rfl
      · rw [if_neg hx]
        split
        · cases hg : (frm t w L i).getLast? with
          | none => rfl
          | some f =>
            simp only [getD_set]
            rw [if_neg (by omega)]
        · rfl
    by_cases hx : (x : Int) = i
    · subst hx
      rw [if_neg hir, hout]
      simp
    · rw [hout, if_neg hx]
      simp [hx]
theorem loop_val {n : Nat} {t : Tr} {w : Wk} {L : List Int} (h : Lam n w L) (x : Nat) (hx : x < n) : (ofLoop t w L [] (List.replicate n 0)).getD x 0 = loopV t w L x := by
  rw [loop_get h x L [] [] (List.replicate n 0) rfl (fun j _ => by simp [popW, frm]) (by simp)]
  have hz : (List.replicate n (0 : Int)).getD x 0 = 0 := by simp [List.getD_eq_getElem?_getD, hx]
  rw [hz]
  unfold loopV
  by_cases hm : (x : Int) ∈ L
  · rw [if_pos hm]
  · rw [if_neg hm]
    have : frm t w L (x : Int) = [] := by
      simp only [frm]
      rw [List.filter_eq_nil_iff]
      intro f hf hq
      simp only [Bool.and_eq_true] at hq
      exact hm (h.all x hx (ins_iff.1 hq.2).1)
    simp [this]
/-- a node's form -/
def oneV (t : Tr) (w : Wk) (L : List Int) (i : Nat) : Int := match getAt wFormA (nodeAt t i).attrs with
  | none => loopV t w L i
  | some v => if isListed t i then (if isForm t (firstId t v) then firstId t v else 0) else loopV t w L i
theorem attrs_get {t : Tr} (x : Nat) : ∀ (l : List Nat) (out : List Int), l.Nodup → x < out.length → (ofAttrs t l out).getD x 0 = if x ∈ l then (match getAt wFormA (nodeAt t x).attrs with
    | none => out.getD x 0
    | some v => if isListed t x then (if isForm t (firstId t v) then firstId t v else 0) else out.getD x 0) else out.getD x 0
  | [], out, _, _ => by simp [ofAttrs]
  | i :: r, out, hn, hx => by
    rw [List.nodup_cons] at hn
    simp only [ofAttrs]
    rw [attrs_get x r _ hn.2 (by rw [ofAttr_len]; exact hx)]
    have hsame : x ≠ i → (ofAttr t i out).getD x 0 = out.getD x 0 := fun hne => by
      unfold ofAttr
      split
      · rfl
      · split
        · rw [getD_set, if_neg (by omega)]
        · rfl
    by_cases hxi : x = i
    · subst hxi
      rw [if_neg hn.1, if_pos (by simp)]
      unfold ofAttr
      cases getAt wFormA (nodeAt t (x : Int)).attrs with
      | none => rfl
      | some v =>
        simp only
        split
        · rw [getD_set, if_pos ⟨rfl, hx⟩]
        · rfl
    · rw [hsame hxi]
      simp [hxi]
theorem ofL_get {t : Tr} (hpos : 0 < t.length) (x : Nat) (hx : x < t.length) : (ofL t).getD x 0 = oneV t (wkOf t.length (kidsOf t)) (orderOf t.length (kidsOf t)) x := by
  have h := lam_end (ks := kidsOf t) hpos
  unfold ofL
  rw [attrs_get x _ _ (List.nodup_range) (by rw [ofLoop_len]; simpa using hx), if_pos (by simpa using hx)]
  have := loop_val (t := t) h x hx
  unfold oneV
  rw [this]
end Go.Proofs.YthclkpplpdnffaaGreatDoor
namespace Go.Proofs.YthclkpplpdnffaaGreatDoor
set_option linter.unusedSimpArgs false
set_option linter.unusedVariables false
open Go Go.RowKit
set_option maxRecDepth 100000

theorem injTSSS (x y : Tr × Str) (h : [aTree x.1, .str [], .str wId, .str x.2] = [aTree y.1, .str [], .str wId, .str y.2]) : x = y := by
  simp at h; exact Prod.ext (inj_aTree h.1) h.2
noncomputable def e77 : Entry Tryz.prog := mkE 77 [[], [], [], []] (fun x : Tr × Str => [aTree x.1, .str [], .str wId, .str x.2]) (fun x => okTr x.1) (fun x => .int .i64 (firstId x.1 x.2)) fun x hx => c77 (T := [e72, e110]) rfl rfl x.1 hx x.2
theorem k77 {T : List (Entry Tryz.prog)} (hT : findE 77 T = some e77.g) {t : Tr} (ht : okTr t) (v : Str) (H : Heap) : callL (ctx T) (.fn 77) [aTree t, .str [], .str wId, .str v] H = some (.int .i64 (firstId t v), H) :=
  mkE_scalar hT injTSSS (t, v) ht rfl (by simp [th_aTree])
theorem c50 {T : List (Entry Tryz.prog)} (hF : findE 77 T = some e77.g) (t : Tr) (ht : okTr t) (v : Str) :
    CallAt (ctx T) 50 [aTree t, .str v] ⟨0, []⟩ (.int .i64 (firstId t v)) ⟨0, []⟩ := by
  have kf := fun H => k77 hF ht v H
  generalize firstId t v = r at *
  simp only [aTree] at kf
  refine callAt_body (fn := Tryz.f50) (s0 := ⟨[0, 1, 2, 4], [aTree t, .str v, .undef, .undef], [], 8, ⟨0, [[]]⟩⟩) Tryz.func50 rfl rfl rfl ?_
  repeat refine wps_seq ?_
  refine wps_region callOK ?_
  simp [ofV, ofV1, mkC_P, writeVar, writeCells, readCells, allSingle, AV.single, getFs, getF, setFs, setF, Heap.get, Heap.set, Heap.new, Heap.kill, killF, pushF, Heap.ready, refs, sliceParts, fillA, replL, aTree]
  repeat refine wps_seq ?_
  refine wps_region callOK ?_
  simp [ofV, ofV1, mkC_P, writeVar, writeCells, readCells, allSingle, AV.single, getFs, getF, setFs, setF, Heap.get, Heap.set, Heap.new, Heap.kill, killF, pushF, Heap.ready, refs, sliceParts, fillA, replL, kf]
  repeat refine wps_seq ?_
  refine wps_ret ?_
  simp [retVal, Tryz.f50, oneOr, thenQ, blockQ]
  exact ends_pure rfl (by rfl)
noncomputable def e50 : Entry Tryz.prog := mkE 50 [[], []] (fun x : Tr × Str => [aTree x.1, .str x.2]) (fun x => okTr x.1) (fun x => .int .i64 (firstId x.1 x.2)) fun x hx => c50 (T := [e77]) rfl x.1 hx x.2
theorem k50 {T : List (Entry Tryz.prog)} (hT : findE 50 T = some e50.g) {t : Tr} (ht : okTr t) (v : Str) (H : Heap) : callL (ctx T) (.fn 50) [aTree t, .str v] H = some (.int .i64 (firstId t v), H) :=
  mkE_scalar hT injTS (t, v) ht rfl (by simp [th_aTree])
/-- the nodes that hold a node, from the root on -/
def pathL (t : Tr) (i : Nat) : List Int := (orderOf t.length (kidsOf t)).filter (insW (wkOf t.length (kidsOf t)) i)
theorem c51 {T : List (Entry Tryz.prog)} (hA : findE 78 T = some e78.g) (t : Tr) (ht : okTr t) (n : Nat) (hn : n < t.length) :
    CallAt (ctx T) 51 [aTree t, .int .i64 n] ⟨0, []⟩ (ownV 0 1 (ints (pathL t n))) ⟨1, [ownF 0 (ints (pathL t n))]⟩ := by
  have hka := fun H => k78 hA ht H
  have hw : finW t.length (kidsOf t) = wkOf t.length (kidsOf t) := rfl
  rw [hw] at hka
  have hlam := lam_end (n := t.length) (ks := kidsOf t) (by omega)
  have hok := jw_end (n := t.length) (ks := kidsOf t) (by omega)
  have hLn := order_len (n := t.length) (ks := kidsOf t)
  have hmem := fun y (h : y ∈ orderOf t.length (kidsOf t)) => order_mem h
  have h1000 := ht.1
  have hli : (wkOf t.length (kidsOf t)).inn.length = t.length := hok.k.li
  have hlo : (wkOf t.length (kidsOf t)).out.length = t.length := hok.k.lo
  obtain ⟨I, hI⟩ : ∃ I, I = (wkOf t.length (kidsOf t)).inn := ⟨_, rfl⟩
  obtain ⟨O, hO⟩ : ∃ O, O = (wkOf t.length (kidsOf t)).out := ⟨_, rfl⟩
  rw [← hI] at hli
  rw [← hO] at hlo
  have hnI : n < I.length := by omega
  have hnO : n < O.length := by omega
  have hin : ∀ m : Nat, (h : m < I.length) → inA (wkOf t.length (kidsOf t)) (m : Int) = I[m] := fun m h => by simp [inA, ← hI, List.getD_eq_getElem?_getD, h]
  have hout : ∀ m : Nat, (h : m < O.length) → outA (wkOf t.length (kidsOf t)) (m : Int) = O[m] := fun m h => by simp [outA, ← hO, List.getD_eq_getElem?_getD, h]
  have hP : ∀ a ∈ orderOf t.length (kidsOf t), ∃ m : Nat, a = m ∧ m < t.length ∧ ∀ (h1 : m < I.length) (h2 : m < O.length), insW (wkOf t.length (kidsOf t)) n a = (decide (0 ≤ I[n]) && (decide (I[m] < I[n]) && decide (O[n] < O[m]))) := by
    intro a ha
    obtain ⟨y0, y1⟩ := hmem a ha
    obtain ⟨m, rfl⟩ := Int.eq_ofNat_of_zero_le y0
    refine ⟨m, rfl, by omega, fun h1 h2 => ?_⟩
    have h0 := (hlam.a0 _ ha).2.2
    rw [Bool.eq_iff_iff, ins_iff]
    simp only [hin m h1, hin n hnI, hout m h2, hout n hnO, Bool.and_eq_true, decide_eq_true_eq] at h0 ⊢
    constructor
    · rintro ⟨a, b, c, d⟩; exact ⟨a, c, d⟩
    · rintro ⟨a, c, d⟩; exact ⟨a, h0, c, d⟩
  simp only [pathL]
  generalize insW (wkOf t.length (kidsOf t)) n = P at *
  simp only [← hI, ← hO] at hka
  clear hI hO hin hout hok hlam hw
  generalize orderOf t.length (kidsOf t) = L at *
  simp only [aTree] at hka
  refine callAt_body (fn := Tryz.f51) (s0 := ⟨[0, 1, 2, 4, 5, 6, 7, 8, 9], [aTree t, .int .i64 n, .undef, .undef, .undef, .undef, .undef, .undef, .undef], [], 73, ⟨0, [[]]⟩⟩) Tryz.func51 rfl rfl rfl ?_
  repeat refine wps_seq ?_
  refine wps_region callOK ?_
  simp [ofV, ofV1, mkC_P, writeVar, writeCells, readCells, allSingle, AV.single, getFs, getF, setFs, setF, Heap.get, Heap.set, Heap.new, Heap.kill, killF, pushF, Heap.ready, refs, sliceParts, fillA, replL, aTree]
  repeat refine wps_seq ?_
  refine wps_region callOK ?_
  simp [ofV, ofV1, mkC_P, writeVar, writeCells, readCells, allSingle, AV.single, getFs, getF, setFs, setF, Heap.get, Heap.set, Heap.new, Heap.kill, killF, pushF, Heap.ready, refs, sliceParts, fillA, replL, hka]
  repeat refine wps_seq ?_
  refine wps_region callOK ?_
  simp [ofV, ofV1, mkC_P, writeVar, writeCells, readCells, allSingle, AV.single, getFs, getF, setFs, setF, Heap.get, Heap.set, Heap.new, Heap.kill, killF, pushF, Heap.ready, refs, sliceParts, fillA, replL]
  repeat refine wps_seq ?_
  refine wps_region callOK ?_
  simp [ofV, ofV1, mkC_P, writeVar, writeCells, readCells, allSingle, AV.single, getFs, getF, setFs, setF, Heap.get, Heap.set, Heap.new, Heap.kill, killF, pushF, Heap.ready, refs, sliceParts, fillA, replL]
  repeat refine wps_seq ?_
  refine wps_block (wps_loop' (fun k : Nat => (⟨[0, 1, 2, 4, 5, 6, 7, 8, 9], [.undef, .int .i64 n, .undef, .undef, aInts L, aInts I, aInts O, ownV 1 1 (ints ((L.take k).filter P)), .int .i64 k], [], 73, ⟨2, [ownF 1 (ints ((L.take k).filter P)) ++ [(0, .cells [aNodes t])]]⟩⟩ : St))
    (fun k => k ≤ L.length) (fun k => L.length - k) [(1, 1), (0, 0)] [] 0 (Nat.zero_le _)
    ⟨rfl, rfl, rfl, by simp [fitL, fitV, lookN, pureV, ownV, aInts], .own1 (el_int _) (by simp) (by simp) (by simp) (by simp) (by simp) (by simp [Heap.get, getFs, getF, pureL])⟩ ?_)
  rintro k hk B hB
  have hlen : ((L.take k).filter P).length ≤ k := Nat.le_trans (List.length_filter_le _ _) (by simp; omega)
  by_cases h : k < L.length
  · obtain ⟨m, hm, hmt, hPm⟩ := hP L[k] (List.getElem_mem _)
    have hPm := hPm (by omega) (by omega)
    have hmI : m < I.length := by omega
    have hmO : m < O.length := by omega
    by_cases h0 : 0 ≤ I[n]
    · repeat refine wps_seq ?_
      refine wps_region callOK ?_
      simp [ofV, ofV1, mkC_P, writeVar, writeCells, readCells, allSingle, AV.single, getFs, getF, setFs, setF, Heap.get, Heap.set, Heap.new, Heap.kill, killF, pushF, Heap.ready, refs, sliceParts, fillA, replL, lenI, h, hli, hn, atI hnI, h0]
      repeat refine wps_seq ?_
      refine wps_cond (t := true) rfl (fun _ => ?_) fun h => by cases h
      repeat refine wps_seq ?_
      refine wps_skip ?_
      simp
      repeat refine wps_seq ?_
      refine wps_block ?_
      have hnx : (L.take (k + 1)).filter P = (L.take k).filter P ++ (if P L[k] then [L[k]] else []) := by
        rw [List.take_succ_eq_append_getElem h, List.filter_append]
        congr 1
        by_cases hp : P L[k] = true
        · simp [hp]
        · simp [hp]
      cases hb : P L[k] with
      | false =>
        rw [hb] at hnx hPm
        have hnx : (L.take (k + 1)).filter P = (L.take k).filter P := by simpa using hnx
        have fin : ∀ (s : St), True := fun _ => trivial
        by_cases d1 : I[m] < I[n]
        · have d2 : ¬ O[n] < O[m] := by simpa [h0, d1] using hPm
          repeat refine wps_seq ?_
          refine wps_drawK mixed callOK (by decide +kernel) (by decide +kernel) ?_
          simp [ofV, ofV1, mkC_P, writeVar, writeCells, readCells, allSingle, AV.single, getFs, getF, setFs, setF, Heap.get, Heap.set, Heap.new, Heap.kill, killF, pushF, Heap.ready, refs, sliceParts, fillA, replL, evalK_c, evalK_nil, thenK_some, atI h, hm, atI hmI, atI hnI, atI hmO, atI hnO, d1, d2]
          repeat refine wps_seq ?_
          refine wps_cond (t := false) rfl (fun h => by cases h) fun _ => ?_
          repeat refine wps_seq ?_
          refine wps_skip ?_
          simp
          repeat refine wps_seq ?_
          refine wps_region callOK ?_
          simp [ofV, ofV1, mkC_P, writeVar, writeCells, readCells, allSingle, AV.single, getFs, getF, setFs, setF, Heap.get, Heap.set, Heap.new, Heap.kill, killF, pushF, Heap.ready, refs, sliceParts, fillA, replL, add_one (show k ≤ 1000000000 by omega)]
          refine hB _ (k + 1) (by omega) (by omega) ⟨[(1, 1), (0, 0)], [], rfl, rfl, rfl, by rw [hnx]; simp [fitL, fitV, lookN, fitV_own, pureV, aInts], by rw [hnx]; exact .own1 (el_int _) (fun h => by simp [Heap.get, getFs, own_get h]) (by simp) (by simp) (by simp) (by simp) (by simp [Heap.get, getFs, getF, own_skip, pureL])⟩
        · repeat refine wps_seq ?_
          refine wps_drawK mixed callOK (by decide +kernel) (by decide +kernel) ?_
          simp [ofV, ofV1, mkC_P, writeVar, writeCells, readCells, allSingle, AV.single, getFs, getF, setFs, setF, Heap.get, Heap.set, Heap.new, Heap.kill, killF, pushF, Heap.ready, refs, sliceParts, fillA, replL, evalK_c, evalK_nil, thenK_some, atI h, hm, atI hmI, atI hnI, atI hmO, atI hnO, d1]
          repeat refine wps_seq ?_
          refine wps_cond (t := false) rfl (fun h => by cases h) fun _ => ?_
          repeat refine wps_seq ?_
          refine wps_skip ?_
          simp
          repeat refine wps_seq ?_
          refine wps_region callOK ?_
          simp [ofV, ofV1, mkC_P, writeVar, writeCells, readCells, allSingle, AV.single, getFs, getF, setFs, setF, Heap.get, Heap.set, Heap.new, Heap.kill, killF, pushF, Heap.ready, refs, sliceParts, fillA, replL, add_one (show k ≤ 1000000000 by omega)]
          refine hB _ (k + 1) (by omega) (by omega) ⟨[(1, 1), (0, 0)], [], rfl, rfl, rfl, by rw [hnx]; simp [fitL, fitV, lookN, fitV_own, pureV, aInts], by rw [hnx]; exact .own1 (el_int _) (fun h => by simp [Heap.get, getFs, own_get h]) (by simp) (by simp) (by simp) (by simp) (by simp [Heap.get, getFs, getF, own_skip, pureL])⟩
      | true =>
        rw [hb] at hnx hPm
        have hnx : (L.take (k + 1)).filter P = (L.take k).filter P ++ [L[k]] := by simpa using hnx
        have d1 : I[m] < I[n] := by
          have := hPm.symm; simp only [Bool.and_eq_true, decide_eq_true_eq] at this; exact this.2.1
        have d2 : O[n] < O[m] := by
          have := hPm.symm; simp only [Bool.and_eq_true, decide_eq_true_eq] at this; exact this.2.2
        repeat refine wps_seq ?_
        refine wps_drawK mixed callOK (by decide +kernel) (by decide +kernel) ?_
        simp [ofV, ofV1, mkC_P, writeVar, writeCells, readCells, allSingle, AV.single, getFs, getF, setFs, setF, Heap.get, Heap.set, Heap.new, Heap.kill, killF, pushF, Heap.ready, refs, sliceParts, fillA, replL, evalK_c, evalK_nil, thenK_some, atI h, hm, atI hmI, atI hnI, atI hmO, atI hnO, d1, d2]
        repeat refine wps_seq ?_
        refine wps_cond (t := true) rfl (fun _ => ?_) fun h => by cases h
        have happ := own_app1 (P := Tryz.prog) (elem := 3) (b := 1) (t := 28) (m := 29) (es := ints ((L.take k).filter P)) (cs := [.int .i64 L[k]]) (g := [(0, .cells [aNodes t])]) (fs := []) szT3 byT3 zeT3 rfl (by omega) (by omega) rfl rfl (el_int _) (by simp; omega) (by omega) (by simp) (by simp)
        repeat refine wps_seq ?_
        refine wps_region callOK ?_
        simp [ofV, ofV1, mkC_P, writeVar, writeCells, readCells, allSingle, AV.single, getFs, getF, setFs, setF, Heap.get, Heap.set, Heap.new, Heap.kill, killF, pushF, Heap.ready, refs, sliceParts, fillA, replL, atI h, happ]
        repeat refine wps_seq ?_
        refine wps_region callOK ?_
        simp [ofV, ofV1, mkC_P, writeVar, writeCells, readCells, allSingle, AV.single, getFs, getF, setFs, setF, Heap.get, Heap.set, Heap.new, Heap.kill, killF, pushF, Heap.ready, refs, sliceParts, fillA, replL, add_one (show k ≤ 1000000000 by omega)]
        have hnn : ints ((L.take (k + 1)).filter P) ≠ [] := by rw [hnx]; simp [ints]
        refine hB _ (k + 1) (by omega) (by omega) ⟨[(29, 1), (0, 0)], [], rfl, rfl, rfl, ?_, .own1 (el_int _) (fun _ => ?_) (by simp) (by simp) (by simp) (by simp) (by simp [Heap.get, getFs, getF, pureL])⟩
        · rw [ownV_ne hnn, hnx]; simp [fitL, fitV, lookN, pureV, aInts]
        · rw [hnx, flat_ints, ints_app]; simp [Heap.get, getFs, getF]
    · have hall : L.filter P = [] := by
        rw [List.filter_eq_nil_iff]
        intro a ha
        obtain ⟨m, _, hm2, hx⟩ := hP a ha
        rw [hx (by omega) (by omega)]
        simp [h0]
      have htk : (L.take k).filter P = [] := by
        rw [List.filter_eq_nil_iff] at hall ⊢
        exact fun a ha => hall a (List.mem_of_mem_take ha)
      repeat refine wps_seq ?_
      refine wps_region callOK ?_
      simp [ofV, ofV1, mkC_P, writeVar, writeCells, readCells, allSingle, AV.single, getFs, getF, setFs, setF, Heap.get, Heap.set, Heap.new, Heap.kill, killF, pushF, Heap.ready, refs, sliceParts, fillA, replL, lenI, h, hli, hn, atI hnI, h0]
      repeat refine wps_seq ?_
      refine wps_cond (t := false) rfl (fun h => by cases h) fun _ => ?_
      repeat refine wps_seq ?_
      refine wps_exit ?_
      simp
      repeat refine wps_seq ?_
      refine wps_region callOK ?_
      simp [ofV, ofV1, mkC_P, writeVar, writeCells, readCells, allSingle, AV.single, getFs, getF, setFs, setF, Heap.get, Heap.set, Heap.new, Heap.kill, killF, pushF, Heap.ready, refs, sliceParts, fillA, replL]
      repeat refine wps_seq ?_
      refine wps_ret ?_
      simp [retVal, Tryz.f51, oneOr]
      rw [htk, hall]
      exact ⟨[(1, 0)], [], fitV_own (by simp [lookN]), by have := FitH.own1 (k := 0) (b := 1) (m' := 1) (τ := []) (g := []) (H := ⟨2, [ownF 1 (ints []) ++ [(0, .cells [aNodes t])]]⟩) (el_int []) (fun h => absurd rfl h) (by simp) (by simp) (by simp) (by simp) (by simp); simpa using this⟩
  · have hall : (L.take k).filter P = L.filter P := by rw [List.take_of_length_le (by omega)]
    rw [hall]
    repeat refine wps_seq ?_
    refine wps_region callOK ?_
    simp [ofV, ofV1, mkC_P, writeVar, writeCells, readCells, allSingle, AV.single, getFs, getF, setFs, setF, Heap.get, Heap.set, Heap.new, Heap.kill, killF, pushF, Heap.ready, refs, sliceParts, fillA, replL, lenI, h]
    repeat refine wps_seq ?_
    refine wps_cond (t := false) rfl (fun h => by cases h) fun _ => ?_
    repeat refine wps_seq ?_
    refine wps_exit ?_
    simp
    repeat refine wps_seq ?_
    refine wps_region callOK ?_
    simp [ofV, ofV1, mkC_P, writeVar, writeCells, readCells, allSingle, AV.single, getFs, getF, setFs, setF, Heap.get, Heap.set, Heap.new, Heap.kill, killF, pushF, Heap.ready, refs, sliceParts, fillA, replL]
    repeat refine wps_seq ?_
    refine wps_ret ?_
    simp [retVal, Tryz.f51, oneOr]
    exact ⟨[(1, 0)], [], fitV_own (by simp [lookN]), by have := FitH.own1 (k := 0) (b := 1) (m' := 1) (τ := []) (g := []) (H := ⟨2, [ownF 1 (ints (L.filter P)) ++ [(0, .cells [aNodes t])]]⟩) (el_int (L.filter P)) (fun h => by simp [Heap.get, getFs, getF, own_get h]) (by simp) (by simp) (by simp) (by simp) (by simp); simpa using this⟩
noncomputable def e51 : Entry Tryz.prog := mkE 51 [[], []] (fun x : Tr × Nat => [aTree x.1, .int .i64 x.2]) (fun x => okTr x.1 ∧ x.2 < x.1.length) (fun x => aInts (pathL x.1 x.2)) fun x hx => (c51 (T := [e78]) rfl x.1 hx.1 x.2 hx.2).froze (el_int _)
theorem injTN (x y : Tr × Nat) (h : [aTree x.1, .int .i64 x.2] = [aTree y.1, .int .i64 y.2]) : x = y := by
  simp at h; exact Prod.ext (inj_aTree h.1) (by omega)
theorem k51 {T : List (Entry Tryz.prog)} (hT : findE 51 T = some e51.g) {t : Tr} (ht : okTr t) {n : Nat} (hn : n < t.length) (H : Heap) : callL (ctx T) (.fn 51) [aTree t, .int .i64 n] H = some (aInts (pathL t n), H) :=
  mkE_pure hT injTN (t, n) ⟨ht, hn⟩ (by simp [pureL, pureV]) (by simp [thawL, th_aTree]) H
end Go.Proofs.YthclkpplpdnffaaGreatDoor
namespace Go.Proofs.YthclkpplpdnffaaGreatDoor
set_option linter.unusedSimpArgs false
set_option linter.unusedVariables false
open Go Go.RowKit
set_option maxRecDepth 100000

theorem c25 {T : List (Entry Tryz.prog)} (hG : findE 49 T = some e49.g) (hL : findE 10 T = some e10.g) (hH : findE 30 T = some e30.g) (hF : findE 50 T = some e50.g) (hP : findE 51 T = some e51.g) (t : Tr) (ht : okTr t) (n : Nat) (hn : n < t.length) :
    CallAt (ctx T) 25 [aTree t, .int .i64 n] ⟨0, []⟩ (.int .i64 (oneV t (wkOf t.length (kidsOf t)) (orderOf t.length (kidsOf t)) n)) ⟨0, []⟩ := by
  have hnode := nodeAt_mem (t := t) (i := (n : Int)) (by omega) (by omega)
  have hl := (ht.2 _ hnode).2
  have ka := fun H => k49 hG wFormA hl (th_aAttrs H _)
  have kl := fun H => k10 hL (nodeAt t (n : Int)) H
  have ki := fun H => k30 hH (nodeAt t (n : Int)) (W := lsImg) (by decide) H
  have kp := fun H => k51 hP ht hn H
  have kh := fun i H => k30 hH (nodeAt t i) (W := lsForm) (by decide) H
  have kf := fun v H => k50 hF ht v H
  have hfb := fun v => first_bd (t := t) (by omega) v
  have hx := atX (t := t) (i := (n : Int)) (by omega) (by omega)
  have hmem : ∀ y, y ∈ pathL t n → 0 ≤ y ∧ y < (t.length : Int) := fun y h => order_mem (List.mem_filter.1 h).1
  have hlen : (pathL t n).length ≤ t.length := Nat.le_trans (List.length_filter_le _ _) order_len
  have h1000 := ht.1
  have hone : oneV t (wkOf t.length (kidsOf t)) (orderOf t.length (kidsOf t)) n = match getAt wFormA (nodeAt t (n : Int)).attrs with
    | none => if htmlB (nodeAt t (n : Int)) lsImg || htmlB (nodeAt t (n : Int)) lsListed then (((pathL t n).filter fun f => htmlB (nodeAt t f) lsForm).getLast?).getD 0 else 0
    | some v => if htmlB (nodeAt t (n : Int)) lsListed then (if htmlB (nodeAt t (firstId t v)) lsForm then firstId t v else 0) else (if htmlB (nodeAt t (n : Int)) lsImg || htmlB (nodeAt t (n : Int)) lsListed then (((pathL t n).filter fun f => htmlB (nodeAt t f) lsForm).getLast?).getD 0 else 0) := by
    simp only [oneV, loopV, frm, pathL, List.filter_filter]
    rfl
  rw [hone]
  clear hone
  generalize pathL t n = M at *
  generalize htmlB (nodeAt t (n : Int)) lsImg = bi at *
  generalize htmlB (nodeAt t (n : Int)) lsListed = bl at *
  simp only [aTree] at kp kf
  cases hgt : getAt wFormA (nodeAt t (n : Int)).attrs with
  | none =>
    rw [hgt] at ka
    cases bl with
    | true =>
      refine callAt_body (fn := Tryz.f25) (s0 := ⟨[0, 1, 2, 4, 5, 6, 7, 8, 9, 10], [aTree t, .int .i64 n, .undef, .undef, .undef, .undef, .undef, .undef, .undef, .undef], [], 68, ⟨0, [[]]⟩⟩) Tryz.func25 rfl rfl rfl ?_
      repeat refine wps_seq ?_
      refine wps_region callOK ?_
      simp [ofV, ofV1, mkC_P, writeVar, writeCells, readCells, allSingle, AV.single, getFs, getF, setFs, setF, Heap.get, Heap.set, Heap.new, Heap.kill, killF, pushF, Heap.ready, refs, sliceParts, fillA, replL, aTree]
      repeat refine wps_seq ?_
      refine wps_region callOK ?_
      simp [ofV, ofV1, mkC_P, writeVar, writeCells, readCells, allSingle, AV.single, getFs, getF, setFs, setF, Heap.get, Heap.set, Heap.new, Heap.kill, killF, pushF, sliceParts, fillA, replL, hx]
      repeat refine wps_seq ?_
      refine wps_region callOK ?_
      simp [ofV, ofV1, mkC_P, writeVar, writeCells, readCells, allSingle, AV.single, getFs, getF, setFs, setF, Heap.get, Heap.set, Heap.new, Heap.kill, killF, pushF, Heap.ready, refs, sliceParts, fillA, replL, ka, gotA]
      repeat refine wps_seq ?_
      refine wps_region callOK ?_
      simp [ofV, ofV1, mkC_P, writeVar, writeCells, readCells, allSingle, AV.single, getFs, getF, setFs, setF, Heap.get, Heap.set, Heap.new, Heap.kill, killF, pushF, Heap.ready, refs, sliceParts, fillA, replL, kl, fold_node]
      repeat refine wps_seq ?_
      refine wps_cond (t := false) rfl (fun h => by cases h) fun _ => ?_
      repeat refine wps_seq ?_
      refine wps_skip ?_
      simp
      repeat refine wps_seq ?_
      refine wps_region callOK ?_
      simp [ofV, ofV1, mkC_P, writeVar, writeCells, readCells, allSingle, AV.single, getFs, getF, setFs, setF, Heap.get, Heap.set, Heap.new, Heap.kill, killF, pushF, Heap.ready, refs, sliceParts, fillA, replL, kl, ki, fold_node]
      repeat refine wps_seq ?_
      refine wps_cond (t := false) rfl (fun h => by cases h) fun _ => ?_
      repeat refine wps_seq ?_
      refine wps_skip ?_
      simp
      repeat refine wps_seq ?_
      refine wps_region callOK ?_
      simp [ofV, ofV1, mkC_P, writeVar, writeCells, readCells, allSingle, AV.single, getFs, getF, setFs, setF, Heap.get, Heap.set, Heap.new, Heap.kill, killF, pushF, Heap.ready, refs, sliceParts, fillA, replL, kp]
      repeat refine wps_seq ?_
      refine wps_region callOK ?_
      simp [ofV, ofV1, mkC_P, writeVar, writeCells, readCells, allSingle, AV.single, getFs, getF, setFs, setF, Heap.get, Heap.set, Heap.new, Heap.kill, killF, pushF, Heap.ready, refs, sliceParts, fillA, replL, lenI, show wr .i64 ((M.length : Int) - 1) = some ((M.length : Int) - 1) from wr_small (by omega) (by omega)]
      repeat refine wps_seq ?_
      refine wps_block (wps_loop' (fun j : Int => (⟨[0, 1, 2, 4, 5, 6, 7, 8, 9, 10], [.undef, .undef, .ptr 0 0, .undef, .undef, .undef, .undef, .undef, aInts M, .int .i64 j], [], 68, ⟨1, [[(0, .cells [aNodes t])]]⟩⟩ : St))
        (fun j => -1 ≤ j ∧ j < M.length ∧ ((M.filter fun f => htmlB (nodeAt t f) lsForm).getLast?).getD 0 = (((M.take (j + 1).toNat).filter fun f => htmlB (nodeAt t f) lsForm).getLast?).getD 0) (fun j => (j + 1).toNat) [(0, 0)] [] ((M.length : Int) - 1) ⟨by omega, by omega, by rw [List.take_of_length_le (by omega)]⟩ ⟨rfl, rfl, rfl, by simp [fitL, fitV, lookN, pureV, aInts], .id1 (g := [(0, .cells [aNodes t])]) (by simp) (by simp) (by simp [Heap.get, getFs, getF, pureL])⟩ ?_)
      rintro j ⟨j0, j1, hj⟩ B hB
      by_cases h : 0 ≤ j
      · obtain ⟨m, rfl⟩ := Int.eq_ofNat_of_zero_le h
        have hm : m < M.length := by omega
        have e1 : ((m : Int) + 1).toNat = m + 1 := by omega
        rw [e1, List.take_succ_eq_append_getElem hm, List.filter_append] at hj
        obtain ⟨y0, y1⟩ := hmem M[m] (List.getElem_mem _)
        repeat refine wps_seq ?_
        refine wps_region callOK ?_
        simp [ofV, ofV1, mkC_P, writeVar, writeCells, readCells, allSingle, AV.single, getFs, getF, setFs, setF, Heap.get, Heap.set, Heap.new, Heap.kill, killF, pushF, Heap.ready, refs, sliceParts, fillA, replL, h]
        repeat refine wps_seq ?_
        refine wps_cond (t := true) rfl (fun _ => ?_) fun h => by cases h
        repeat refine wps_seq ?_
        refine wps_skip ?_
        simp
        repeat refine wps_seq ?_
        refine wps_block ?_
        have kh1 := fun H => kh M[m] H
        rcases Bool.eq_false_or_eq_true (htmlB (nodeAt t M[m]) lsForm) with hb | hb
        · rw [hb] at kh1
          have hv : ((M.filter fun f => htmlB (nodeAt t f) lsForm).getLast?).getD 0 = M[m] := by rw [hj]; simp [hb]
          repeat refine wps_seq ?_
          refine wps_drawK mixed callOK (by decide +kernel) (by decide +kernel) ?_
          simp [ofV, ofV1, mkC_P, writeVar, writeCells, readCells, allSingle, AV.single, getFs, getF, setFs, setF, Heap.get, Heap.set, Heap.new, Heap.kill, killF, pushF, Heap.ready, refs, sliceParts, fillA, replL, evalK_c, evalK_nil, thenK_some, atI hm, atX y0 y1, fold_node, kh1]
          repeat refine wps_seq ?_
          refine wps_cond (t := true) rfl (fun _ => ?_) fun h => by cases h
          repeat refine wps_seq ?_
          refine wps_region callOK ?_
          simp [ofV, ofV1, mkC_P, writeVar, writeCells, readCells, allSingle, AV.single, getFs, getF, setFs, setF, Heap.get, Heap.set, Heap.new, Heap.kill, killF, pushF, Heap.ready, refs, sliceParts, fillA, replL, atI hm]
          repeat refine wps_seq ?_
          refine wps_ret ?_
          simp [retVal, Tryz.f25, oneOr, thenQ, blockQ]
          exact ends_pure rfl (by simpa using hv.symm)
        · rw [hb] at kh1
          repeat refine wps_seq ?_
          refine wps_drawK mixed callOK (by decide +kernel) (by decide +kernel) ?_
          simp [ofV, ofV1, mkC_P, writeVar, writeCells, readCells, allSingle, AV.single, getFs, getF, setFs, setF, Heap.get, Heap.set, Heap.new, Heap.kill, killF, pushF, Heap.ready, refs, sliceParts, fillA, replL, evalK_c, evalK_nil, thenK_some, atI hm, atX y0 y1, fold_node, kh1]
          repeat refine wps_seq ?_
          refine wps_cond (t := false) rfl (fun h => by cases h) fun _ => ?_
          repeat refine wps_seq ?_
          refine wps_skip ?_
          simp
          repeat refine wps_seq ?_
          refine wps_region callOK ?_
          simp [ofV, ofV1, mkC_P, writeVar, writeCells, readCells, allSingle, AV.single, getFs, getF, setFs, setF, Heap.get, Heap.set, Heap.new, Heap.kill, killF, pushF, Heap.ready, refs, sliceParts, fillA, replL, show wr .i64 ((m : Int) - 1) = some ((m : Int) - 1) from wr_small (by omega) (by omega)]
          have e2 : ((m : Int) - 1 + 1).toNat = m := by omega
          exact hB _ ((m : Int) - 1) (by omega) ⟨by omega, by omega, by rw [hj, e2]; simp [hb]⟩ ⟨[(0, 0)], [], rfl, rfl, rfl, by simp [fitL, fitV, lookN, pureV, aInts], .id1 (g := [(0, .cells [aNodes t])]) (by simp) (by simp) (by simp [Heap.get, getFs, getF, pureL])⟩
      · have e1 : (j + 1).toNat = 0 := by omega
        have hv : ((M.filter fun f => htmlB (nodeAt t f) lsForm).getLast?).getD 0 = 0 := by rw [hj, e1]; simp
        repeat refine wps_seq ?_
        refine wps_region callOK ?_
        simp [ofV, ofV1, mkC_P, writeVar, writeCells, readCells, allSingle, AV.single, getFs, getF, setFs, setF, Heap.get, Heap.set, Heap.new, Heap.kill, killF, pushF, Heap.ready, refs, sliceParts, fillA, replL, h]
        repeat refine wps_seq ?_
        refine wps_cond (t := false) rfl (fun h => by cases h) fun _ => ?_
        repeat refine wps_seq ?_
        refine wps_exit ?_
        simp
        repeat refine wps_seq ?_
        refine wps_region callOK ?_
        simp [ofV, ofV1, mkC_P, writeVar, writeCells, readCells, allSingle, AV.single, getFs, getF, setFs, setF, Heap.get, Heap.set, Heap.new, Heap.kill, killF, pushF, Heap.ready, refs, sliceParts, fillA, replL]
        repeat refine wps_seq ?_
        refine wps_ret ?_
        simp [retVal, Tryz.f25, oneOr, thenQ, blockQ]
        exact ends_pure rfl (by simpa using hv.symm)
    | false =>
      cases bi with
      | true =>
        refine callAt_body (fn := Tryz.f25) (s0 := ⟨[0, 1, 2, 4, 5, 6, 7, 8, 9, 10], [aTree t, .int .i64 n, .undef, .undef, .undef, .undef, .undef, .undef, .undef, .undef], [], 68, ⟨0, [[]]⟩⟩) Tryz.func25 rfl rfl rfl ?_
        repeat refine wps_seq ?_
        refine wps_region callOK ?_
        simp [ofV, ofV1, mkC_P, writeVar, writeCells, readCells, allSingle, AV.single, getFs, getF, setFs, setF, Heap.get, Heap.set, Heap.new, Heap.kill, killF, pushF, Heap.ready, refs, sliceParts, fillA, replL, aTree]
        repeat refine wps_seq ?_
        refine wps_region callOK ?_
        simp [ofV, ofV1, mkC_P, writeVar, writeCells, readCells, allSingle, AV.single, getFs, getF, setFs, setF, Heap.get, Heap.set, Heap.new, Heap.kill, killF, pushF, sliceParts, fillA, replL, hx]
        repeat refine wps_seq ?_
        refine wps_region callOK ?_
        simp [ofV, ofV1, mkC_P, writeVar, writeCells, readCells, allSingle, AV.single, getFs, getF, setFs, setF, Heap.get, Heap.set, Heap.new, Heap.kill, killF, pushF, Heap.ready, refs, sliceParts, fillA, replL, ka, gotA]
        repeat refine wps_seq ?_
        refine wps_region callOK ?_
        simp [ofV, ofV1, mkC_P, writeVar, writeCells, readCells, allSingle, AV.single, getFs, getF, setFs, setF, Heap.get, Heap.set, Heap.new, Heap.kill, killF, pushF, Heap.ready, refs, sliceParts, fillA, replL, kl, fold_node]
        repeat refine wps_seq ?_
        refine wps_cond (t := false) rfl (fun h => by cases h) fun _ => ?_
        repeat refine wps_seq ?_
        refine wps_skip ?_
        simp
        repeat refine wps_seq ?_
        refine wps_region callOK ?_
        simp [ofV, ofV1, mkC_P, writeVar, writeCells, readCells, allSingle, AV.single, getFs, getF, setFs, setF, Heap.get, Heap.set, Heap.new, Heap.kill, killF, pushF, Heap.ready, refs, sliceParts, fillA, replL, kl, ki, fold_node]
        repeat refine wps_seq ?_
        refine wps_cond (t := false) rfl (fun h => by cases h) fun _ => ?_
        repeat refine wps_seq ?_
        refine wps_skip ?_
        simp
        repeat refine wps_seq ?_
        refine wps_region callOK ?_
        simp [ofV, ofV1, mkC_P, writeVar, writeCells, readCells, allSingle, AV.single, getFs, getF, setFs, setF, Heap.get, Heap.set, Heap.new, Heap.kill, killF, pushF, Heap.ready, refs, sliceParts, fillA, replL, kp]
        repeat refine wps_seq ?_
        refine wps_region callOK ?_
        simp [ofV, ofV1, mkC_P, writeVar, writeCells, readCells, allSingle, AV.single, getFs, getF, setFs, setF, Heap.get, Heap.set, Heap.new, Heap.kill, killF, pushF, Heap.ready, refs, sliceParts, fillA, replL, lenI, show wr .i64 ((M.length : Int) - 1) = some ((M.length : Int) - 1) from wr_small (by omega) (by omega)]
        repeat refine wps_seq ?_
        refine wps_block (wps_loop' (fun j : Int => (⟨[0, 1, 2, 4, 5, 6, 7, 8, 9, 10], [.undef, .undef, .ptr 0 0, .undef, .undef, .undef, .undef, .undef, aInts M, .int .i64 j], [], 68, ⟨1, [[(0, .cells [aNodes t])]]⟩⟩ : St))
          (fun j => -1 ≤ j ∧ j < M.length ∧ ((M.filter fun f => htmlB (nodeAt t f) lsForm).getLast?).getD 0 = (((M.take (j + 1).toNat).filter fun f => htmlB (nodeAt t f) lsForm).getLast?).getD 0) (fun j => (j + 1).toNat) [(0, 0)] [] ((M.length : Int) - 1) ⟨by omega, by omega, by rw [List.take_of_length_le (by omega)]⟩ ⟨rfl, rfl, rfl, by simp [fitL, fitV, lookN, pureV, aInts], .id1 (g := [(0, .cells [aNodes t])]) (by simp) (by simp) (by simp [Heap.get, getFs, getF, pureL])⟩ ?_)
        rintro j ⟨j0, j1, hj⟩ B hB
        by_cases h : 0 ≤ j
        · obtain ⟨m, rfl⟩ := Int.eq_ofNat_of_zero_le h
          have hm : m < M.length := by omega
          have e1 : ((m : Int) + 1).toNat = m + 1 := by omega
          rw [e1, List.take_succ_eq_append_getElem hm, List.filter_append] at hj
          obtain ⟨y0, y1⟩ := hmem M[m] (List.getElem_mem _)
          repeat refine wps_seq ?_
          refine wps_region callOK ?_
          simp [ofV, ofV1, mkC_P, writeVar, writeCells, readCells, allSingle, AV.single, getFs, getF, setFs, setF, Heap.get, Heap.set, Heap.new, Heap.kill, killF, pushF, Heap.ready, refs, sliceParts, fillA, replL, h]
          repeat refine wps_seq ?_
          refine wps_cond (t := true) rfl (fun _ => ?_) fun h => by cases h
          repeat refine wps_seq ?_
          refine wps_skip ?_
          simp
          repeat refine wps_seq ?_
          refine wps_block ?_
          have kh1 := fun H => kh M[m] H
          rcases Bool.eq_false_or_eq_true (htmlB (nodeAt t M[m]) lsForm) with hb | hb
          · rw [hb] at kh1
            have hv : ((M.filter fun f => htmlB (nodeAt t f) lsForm).getLast?).getD 0 = M[m] := by rw [hj]; simp [hb]
            repeat refine wps_seq ?_
            refine wps_drawK mixed callOK (by decide +kernel) (by decide +kernel) ?_
            simp [ofV, ofV1, mkC_P, writeVar, writeCells, readCells, allSingle, AV.single, getFs, getF, setFs, setF, Heap.get, Heap.set, Heap.new, Heap.kill, killF, pushF, Heap.ready, refs, sliceParts, fillA, replL, evalK_c, evalK_nil, thenK_some, atI hm, atX y0 y1, fold_node, kh1]
            repeat refine wps_seq ?_
            refine wps_cond (t := true) rfl (fun _ => ?_) fun h => by cases h
            repeat refine wps_seq ?_
            refine wps_region callOK ?_
            simp [ofV, ofV1, mkC_P, writeVar, writeCells, readCells, allSingle, AV.single, getFs, getF, setFs, setF, Heap.get, Heap.set, Heap.new, Heap.kill, killF, pushF, Heap.ready, refs, sliceParts, fillA, replL, atI hm]
            repeat refine wps_seq ?_
            refine wps_ret ?_
            simp [retVal, Tryz.f25, oneOr, thenQ, blockQ]
            exact ends_pure rfl (by simpa using hv.symm)
          · rw [hb] at kh1
            repeat refine wps_seq ?_
            refine wps_drawK mixed callOK (by decide +kernel) (by decide +kernel) ?_
            simp [ofV, ofV1, mkC_P, writeVar, writeCells, readCells, allSingle, AV.single, getFs, getF, setFs, setF, Heap.get, Heap.set, Heap.new, Heap.kill, killF, pushF, Heap.ready, refs, sliceParts, fillA, replL, evalK_c, evalK_nil, thenK_some, atI hm, atX y0 y1, fold_node, kh1]
            repeat refine wps_seq ?_
            refine wps_cond (t := false) rfl (fun h => by cases h) fun _ => ?_
            repeat refine wps_seq ?_
            refine wps_skip ?_
            simp
            repeat refine wps_seq ?_
            refine wps_region callOK ?_
            simp [ofV, ofV1, mkC_P, writeVar, writeCells, readCells, allSingle, AV.single, getFs, getF, setFs, setF, Heap.get, Heap.set, Heap.new, Heap.kill, killF, pushF, Heap.ready, refs, sliceParts, fillA, replL, show wr .i64 ((m : Int) - 1) = some ((m : Int) - 1) from wr_small (by omega) (by omega)]
            have e2 : ((m : Int) - 1 + 1).toNat = m := by omega
            exact hB _ ((m : Int) - 1) (by omega) ⟨by omega, by omega, by rw [hj, e2]; simp [hb]⟩ ⟨[(0, 0)], [], rfl, rfl, rfl, by simp [fitL, fitV, lookN, pureV, aInts], .id1 (g := [(0, .cells [aNodes t])]) (by simp) (by simp) (by simp [Heap.get, getFs, getF, pureL])⟩
        · have e1 : (j + 1).toNat = 0 := by omega
          have hv : ((M.filter fun f => htmlB (nodeAt t f) lsForm).getLast?).getD 0 = 0 := by rw [hj, e1]; simp
          repeat refine wps_seq ?_
          refine wps_region callOK ?_
          simp [ofV, ofV1, mkC_P, writeVar, writeCells, readCells, allSingle, AV.single, getFs, getF, setFs, setF, Heap.get, Heap.set, Heap.new, Heap.kill, killF, pushF, Heap.ready, refs, sliceParts, fillA, replL, h]
          repeat refine wps_seq ?_
          refine wps_cond (t := false) rfl (fun h => by cases h) fun _ => ?_
          repeat refine wps_seq ?_
          refine wps_exit ?_
          simp
          repeat refine wps_seq ?_
          refine wps_region callOK ?_
          simp [ofV, ofV1, mkC_P, writeVar, writeCells, readCells, allSingle, AV.single, getFs, getF, setFs, setF, Heap.get, Heap.set, Heap.new, Heap.kill, killF, pushF, Heap.ready, refs, sliceParts, fillA, replL]
          repeat refine wps_seq ?_
          refine wps_ret ?_
          simp [retVal, Tryz.f25, oneOr, thenQ, blockQ]
          exact ends_pure rfl (by simpa using hv.symm)
      | false =>
        refine callAt_body (fn := Tryz.f25) (s0 := ⟨[0, 1, 2, 4, 5, 6, 7, 8, 9, 10], [aTree t, .int .i64 n, .undef, .undef, .undef, .undef, .undef, .undef, .undef, .undef], [], 68, ⟨0, [[]]⟩⟩) Tryz.func25 rfl rfl rfl ?_
        repeat refine wps_seq ?_
        refine wps_region callOK ?_
        simp [ofV, ofV1, mkC_P, writeVar, writeCells, readCells, allSingle, AV.single, getFs, getF, setFs, setF, Heap.get, Heap.set, Heap.new, Heap.kill, killF, pushF, Heap.ready, refs, sliceParts, fillA, replL, aTree]
        repeat refine wps_seq ?_
        refine wps_region callOK ?_
        simp [ofV, ofV1, mkC_P, writeVar, writeCells, readCells, allSingle, AV.single, getFs, getF, setFs, setF, Heap.get, Heap.set, Heap.new, Heap.kill, killF, pushF, sliceParts, fillA, replL, hx]
        repeat refine wps_seq ?_
        refine wps_region callOK ?_
        simp [ofV, ofV1, mkC_P, writeVar, writeCells, readCells, allSingle, AV.single, getFs, getF, setFs, setF, Heap.get, Heap.set, Heap.new, Heap.kill, killF, pushF, Heap.ready, refs, sliceParts, fillA, replL, ka, gotA]
        repeat refine wps_seq ?_
        refine wps_region callOK ?_
        simp [ofV, ofV1, mkC_P, writeVar, writeCells, readCells, allSingle, AV.single, getFs, getF, setFs, setF, Heap.get, Heap.set, Heap.new, Heap.kill, killF, pushF, Heap.ready, refs, sliceParts, fillA, replL, kl, fold_node]
        repeat refine wps_seq ?_
        refine wps_cond (t := false) rfl (fun h => by cases h) fun _ => ?_
        repeat refine wps_seq ?_
        refine wps_skip ?_
        simp
        repeat refine wps_seq ?_
        refine wps_region callOK ?_
        simp [ofV, ofV1, mkC_P, writeVar, writeCells, readCells, allSingle, AV.single, getFs, getF, setFs, setF, Heap.get, Heap.set, Heap.new, Heap.kill, killF, pushF, Heap.ready, refs, sliceParts, fillA, replL, kl, ki, fold_node]
        repeat refine wps_seq ?_
        refine wps_cond (t := true) rfl (fun _ => ?_) fun h => by cases h
        repeat refine wps_seq ?_
        refine wps_region callOK ?_
        simp [ofV, ofV1, mkC_P, writeVar, writeCells, readCells, allSingle, AV.single, getFs, getF, setFs, setF, Heap.get, Heap.set, Heap.new, Heap.kill, killF, pushF, Heap.ready, refs, sliceParts, fillA, replL]
        repeat refine wps_seq ?_
        refine wps_ret ?_
        simp [retVal, Tryz.f25, oneOr, thenQ, blockQ]
        exact ends_pure rfl (by simp)
  | some v =>
    rw [hgt] at ka
    cases bl with
    | true =>
      dsimp only
      obtain ⟨k0, k1⟩ := hfb v
      have kf1 := fun H => kf v H
      generalize firstId t v = m at *
      have kh1 := fun H => kh m H
      refine callAt_body (fn := Tryz.f25) (s0 := ⟨[0, 1, 2, 4, 5, 6, 7, 8, 9, 10], [aTree t, .int .i64 n, .undef, .undef, .undef, .undef, .undef, .undef, .undef, .undef], [], 68, ⟨0, [[]]⟩⟩) Tryz.func25 rfl rfl rfl ?_
      repeat refine wps_seq ?_
      refine wps_region callOK ?_
      simp [ofV, ofV1, mkC_P, writeVar, writeCells, readCells, allSingle, AV.single, getFs, getF, setFs, setF, Heap.get, Heap.set, Heap.new, Heap.kill, killF, pushF, Heap.ready, refs, sliceParts, fillA, replL, aTree]
      repeat refine wps_seq ?_
      refine wps_region callOK ?_
      simp [ofV, ofV1, mkC_P, writeVar, writeCells, readCells, allSingle, AV.single, getFs, getF, setFs, setF, Heap.get, Heap.set, Heap.new, Heap.kill, killF, pushF, sliceParts, fillA, replL, hx]
      repeat refine wps_seq ?_
      refine wps_region callOK ?_
      simp [ofV, ofV1, mkC_P, writeVar, writeCells, readCells, allSingle, AV.single, getFs, getF, setFs, setF, Heap.get, Heap.set, Heap.new, Heap.kill, killF, pushF, Heap.ready, refs, sliceParts, fillA, replL, ka, gotA]
      repeat refine wps_seq ?_
      refine wps_region callOK ?_
      simp [ofV, ofV1, mkC_P, writeVar, writeCells, readCells, allSingle, AV.single, getFs, getF, setFs, setF, Heap.get, Heap.set, Heap.new, Heap.kill, killF, pushF, Heap.ready, refs, sliceParts, fillA, replL, kl, fold_node]
      repeat refine wps_seq ?_
      refine wps_cond (t := true) rfl (fun _ => ?_) fun h => by cases h
      repeat refine wps_seq ?_
      refine wps_region callOK ?_
      simp [ofV, ofV1, mkC_P, writeVar, writeCells, readCells, allSingle, AV.single, getFs, getF, setFs, setF, Heap.get, Heap.set, Heap.new, Heap.kill, killF, pushF, Heap.ready, refs, sliceParts, fillA, replL, kf1]
      rcases Bool.eq_false_or_eq_true (htmlB (nodeAt t m) lsForm) with hb | hb
      · rw [hb] at kh1
        repeat refine wps_seq ?_
        refine wps_region callOK ?_
        simp [ofV, ofV1, mkC_P, writeVar, writeCells, readCells, allSingle, AV.single, getFs, getF, setFs, setF, Heap.get, Heap.set, Heap.new, Heap.kill, killF, pushF, Heap.ready, refs, sliceParts, fillA, replL, atX k0 k1, fold_node, kh1]
        repeat refine wps_seq ?_
        refine wps_cond (t := true) rfl (fun _ => ?_) fun h => by cases h
        repeat refine wps_seq ?_
        refine wps_region callOK ?_
        simp [ofV, ofV1, mkC_P, writeVar, writeCells, readCells, allSingle, AV.single, getFs, getF, setFs, setF, Heap.get, Heap.set, Heap.new, Heap.kill, killF, pushF, Heap.ready, refs, sliceParts, fillA, replL]
        repeat refine wps_seq ?_
        refine wps_ret ?_
        simp [retVal, Tryz.f25, oneOr, thenQ, blockQ]
        exact ends_pure rfl (by simp [hb])
      · rw [hb] at kh1
        repeat refine wps_seq ?_
        refine wps_region callOK ?_
        simp [ofV, ofV1, mkC_P, writeVar, writeCells, readCells, allSingle, AV.single, getFs, getF, setFs, setF, Heap.get, Heap.set, Heap.new, Heap.kill, killF, pushF, Heap.ready, refs, sliceParts, fillA, replL, atX k0 k1, fold_node, kh1]
        repeat refine wps_seq ?_
        refine wps_cond (t := false) rfl (fun h => by cases h) fun _ => ?_
        repeat refine wps_seq ?_
        refine wps_skip ?_
        simp
        repeat refine wps_seq ?_
        refine wps_region callOK ?_
        simp [ofV, ofV1, mkC_P, writeVar, writeCells, readCells, allSingle, AV.single, getFs, getF, setFs, setF, Heap.get, Heap.set, Heap.new, Heap.kill, killF, pushF, Heap.ready, refs, sliceParts, fillA, replL]
        repeat refine wps_seq ?_
        refine wps_ret ?_
        simp [retVal, Tryz.f25, oneOr, thenQ, blockQ]
        exact ends_pure rfl (by simp [hb])
    | false =>
      cases bi with
      | true =>
        refine callAt_body (fn := Tryz.f25) (s0 := ⟨[0, 1, 2, 4, 5, 6, 7, 8, 9, 10], [aTree t, .int .i64 n, .undef, .undef, .undef, .undef, .undef, .undef, .undef, .undef], [], 68, ⟨0, [[]]⟩⟩) Tryz.func25 rfl rfl rfl ?_
        repeat refine wps_seq ?_
        refine wps_region callOK ?_
        simp [ofV, ofV1, mkC_P, writeVar, writeCells, readCells, allSingle, AV.single, getFs, getF, setFs, setF, Heap.get, Heap.set, Heap.new, Heap.kill, killF, pushF, Heap.ready, refs, sliceParts, fillA, replL, aTree]
        repeat refine wps_seq ?_
        refine wps_region callOK ?_
        simp [ofV, ofV1, mkC_P, writeVar, writeCells, readCells, allSingle, AV.single, getFs, getF, setFs, setF, Heap.get, Heap.set, Heap.new, Heap.kill, killF, pushF, sliceParts, fillA, replL, hx]
        repeat refine wps_seq ?_
        refine wps_region callOK ?_
        simp [ofV, ofV1, mkC_P, writeVar, writeCells, readCells, allSingle, AV.single, getFs, getF, setFs, setF, Heap.get, Heap.set, Heap.new, Heap.kill, killF, pushF, Heap.ready, refs, sliceParts, fillA, replL, ka, gotA]
        repeat refine wps_seq ?_
        refine wps_region callOK ?_
        simp [ofV, ofV1, mkC_P, writeVar, writeCells, readCells, allSingle, AV.single, getFs, getF, setFs, setF, Heap.get, Heap.set, Heap.new, Heap.kill, killF, pushF, Heap.ready, refs, sliceParts, fillA, replL, kl, fold_node]
        repeat refine wps_seq ?_
        refine wps_cond (t := false) rfl (fun h => by cases h) fun _ => ?_
        repeat refine wps_seq ?_
        refine wps_skip ?_
        simp
        repeat refine wps_seq ?_
        refine wps_region callOK ?_
        simp [ofV, ofV1, mkC_P, writeVar, writeCells, readCells, allSingle, AV.single, getFs, getF, setFs, setF, Heap.get, Heap.set, Heap.new, Heap.kill, killF, pushF, Heap.ready, refs, sliceParts, fillA, replL, kl, ki, fold_node]
        repeat refine wps_seq ?_
        refine wps_cond (t := false) rfl (fun h => by cases h) fun _ => ?_
        repeat refine wps_seq ?_
        refine wps_skip ?_
        simp
        repeat refine wps_seq ?_
        refine wps_region callOK ?_
        simp [ofV, ofV1, mkC_P, writeVar, writeCells, readCells, allSingle, AV.single, getFs, getF, setFs, setF, Heap.get, Heap.set, Heap.new, Heap.kill, killF, pushF, Heap.ready, refs, sliceParts, fillA, replL, kp]
        repeat refine wps_seq ?_
        refine wps_region callOK ?_
        simp [ofV, ofV1, mkC_P, writeVar, writeCells, readCells, allSingle, AV.single, getFs, getF, setFs, setF, Heap.get, Heap.set, Heap.new, Heap.kill, killF, pushF, Heap.ready, refs, sliceParts, fillA, replL, lenI, show wr .i64 ((M.length : Int) - 1) = some ((M.length : Int) - 1) from wr_small (by omega) (by omega)]
        repeat refine wps_seq ?_
        refine wps_block (wps_loop' (fun j : Int => (⟨[0, 1, 2, 4, 5, 6, 7, 8, 9, 10], [.undef, .undef, .ptr 0 0, .undef, .undef, .undef, .undef, .undef, aInts M, .int .i64 j], [], 68, ⟨1, [[(0, .cells [aNodes t])]]⟩⟩ : St))
          (fun j => -1 ≤ j ∧ j < M.length ∧ ((M.filter fun f => htmlB (nodeAt t f) lsForm).getLast?).getD 0 = (((M.take (j + 1).toNat).filter fun f => htmlB (nodeAt t f) lsForm).getLast?).getD 0) (fun j => (j + 1).toNat) [(0, 0)] [] ((M.length : Int) - 1) ⟨by omega, by omega, by rw [List.take_of_length_le (by omega)]⟩ ⟨rfl, rfl, rfl, by simp [fitL, fitV, lookN, pureV, aInts], .id1 (g := [(0, .cells [aNodes t])]) (by simp) (by simp) (by simp [Heap.get, getFs, getF, pureL])⟩ ?_)
        rintro j ⟨j0, j1, hj⟩ B hB
        by_cases h : 0 ≤ j
        · obtain ⟨m, rfl⟩ := Int.eq_ofNat_of_zero_le h
          have hm : m < M.length := by omega
          have e1 : ((m : Int) + 1).toNat = m + 1 := by omega
          rw [e1, List.take_succ_eq_append_getElem hm, List.filter_append] at hj
          obtain ⟨y0, y1⟩ := hmem M[m] (List.getElem_mem _)
          repeat refine wps_seq ?_
          refine wps_region callOK ?_
          simp [ofV, ofV1, mkC_P, writeVar, writeCells, readCells, allSingle, AV.single, getFs, getF, setFs, setF, Heap.get, Heap.set, Heap.new, Heap.kill, killF, pushF, Heap.ready, refs, sliceParts, fillA, replL, h]
          repeat refine wps_seq ?_
          refine wps_cond (t := true) rfl (fun _ => ?_) fun h => by cases h
          repeat refine wps_seq ?_
          refine wps_skip ?_
          simp
          repeat refine wps_seq ?_
          refine wps_block ?_
          have kh1 := fun H => kh M[m] H
          rcases Bool.eq_false_or_eq_true (htmlB (nodeAt t M[m]) lsForm) with hb | hb
          · rw [hb] at kh1
            have hv : ((M.filter fun f => htmlB (nodeAt t f) lsForm).getLast?).getD 0 = M[m] := by rw [hj]; simp [hb]
            repeat refine wps_seq ?_
            refine wps_drawK mixed callOK (by decide +kernel) (by decide +kernel) ?_
            simp [ofV, ofV1, mkC_P, writeVar, writeCells, readCells, allSingle, AV.single, getFs, getF, setFs, setF, Heap.get, Heap.set, Heap.new, Heap.kill, killF, pushF, Heap.ready, refs, sliceParts, fillA, replL, evalK_c, evalK_nil, thenK_some, atI hm, atX y0 y1, fold_node, kh1]
            repeat refine wps_seq ?_
            refine wps_cond (t := true) rfl (fun _ => ?_) fun h => by cases h
            repeat refine wps_seq ?_
            refine wps_region callOK ?_
            simp [ofV, ofV1, mkC_P, writeVar, writeCells, readCells, allSingle, AV.single, getFs, getF, setFs, setF, Heap.get, Heap.set, Heap.new, Heap.kill, killF, pushF, Heap.ready, refs, sliceParts, fillA, replL, atI hm]
            repeat refine wps_seq ?_
            refine wps_ret ?_
            simp [retVal, Tryz.f25, oneOr, thenQ, blockQ]
            exact ends_pure rfl (by simpa using hv.symm)
          · rw [hb] at kh1
            repeat refine wps_seq ?_
            refine wps_drawK mixed callOK (by decide +kernel) (by decide +kernel) ?_
            simp [ofV, ofV1, mkC_P, writeVar, writeCells, readCells, allSingle, AV.single, getFs, getF, setFs, setF, Heap.get, Heap.set, Heap.new, Heap.kill, killF, pushF, Heap.ready, refs, sliceParts, fillA, replL, evalK_c, evalK_nil, thenK_some, atI hm, atX y0 y1, fold_node, kh1]
            repeat refine wps_seq ?_
            refine wps_cond (t := false) rfl (fun h => by cases h) fun _ => ?_
            repeat refine wps_seq ?_
            refine wps_skip ?_
            simp
            repeat refine wps_seq ?_
            refine wps_region callOK ?_
            simp [ofV, ofV1, mkC_P, writeVar, writeCells, readCells, allSingle, AV.single, getFs, getF, setFs, setF, Heap.get, Heap.set, Heap.new, Heap.kill, killF, pushF, Heap.ready, refs, sliceParts, fillA, replL, show wr .i64 ((m : Int) - 1) = some ((m : Int) - 1) from wr_small (by omega) (by omega)]
            have e2 : ((m : Int) - 1 + 1).toNat = m := by omega
            exact hB _ ((m : Int) - 1) (by omega) ⟨by omega, by omega, by rw [hj, e2]; simp [hb]⟩ ⟨[(0, 0)], [], rfl, rfl, rfl, by simp [fitL, fitV, lookN, pureV, aInts], .id1 (g := [(0, .cells [aNodes t])]) (by simp) (by simp) (by simp [Heap.get, getFs, getF, pureL])⟩
        · have e1 : (j + 1).toNat = 0 := by omega
          have hv : ((M.filter fun f => htmlB (nodeAt t f) lsForm).getLast?).getD 0 = 0 := by rw [hj, e1]; simp
          repeat refine wps_seq ?_
          refine wps_region callOK ?_
          simp [ofV, ofV1, mkC_P, writeVar, writeCells, readCells, allSingle, AV.single, getFs, getF, setFs, setF, Heap.get, Heap.set, Heap.new, Heap.kill, killF, pushF, Heap.ready, refs, sliceParts, fillA, replL, h]
          repeat refine wps_seq ?_
          refine wps_cond (t := false) rfl (fun h => by cases h) fun _ => ?_
          repeat refine wps_seq ?_
          refine wps_exit ?_
          simp
          repeat refine wps_seq ?_
          refine wps_region callOK ?_
          simp [ofV, ofV1, mkC_P, writeVar, writeCells, readCells, allSingle, AV.single, getFs, getF, setFs, setF, Heap.get, Heap.set, Heap.new, Heap.kill, killF, pushF, Heap.ready, refs, sliceParts, fillA, replL]
          repeat refine wps_seq ?_
          refine wps_ret ?_
          simp [retVal, Tryz.f25, oneOr, thenQ, blockQ]
          exact ends_pure rfl (by simpa using hv.symm)
      | false =>
        refine callAt_body (fn := Tryz.f25) (s0 := ⟨[0, 1, 2, 4, 5, 6, 7, 8, 9, 10], [aTree t, .int .i64 n, .undef, .undef, .undef, .undef, .undef, .undef, .undef, .undef], [], 68, ⟨0, [[]]⟩⟩) Tryz.func25 rfl rfl rfl ?_
        repeat refine wps_seq ?_
        refine wps_region callOK ?_
        simp [ofV, ofV1, mkC_P, writeVar, writeCells, readCells, allSingle, AV.single, getFs, getF, setFs, setF, Heap.get, Heap.set, Heap.new, Heap.kill, killF, pushF, Heap.ready, refs, sliceParts, fillA, replL, aTree]
        repeat refine wps_seq ?_
        refine wps_region callOK ?_
        simp [ofV, ofV1, mkC_P, writeVar, writeCells, readCells, allSingle, AV.single, getFs, getF, setFs, setF, Heap.get, Heap.set, Heap.new, Heap.kill, killF, pushF, sliceParts, fillA, replL, hx]
        repeat refine wps_seq ?_
        refine wps_region callOK ?_
        simp [ofV, ofV1, mkC_P, writeVar, writeCells, readCells, allSingle, AV.single, getFs, getF, setFs, setF, Heap.get, Heap.set, Heap.new, Heap.kill, killF, pushF, Heap.ready, refs, sliceParts, fillA, replL, ka, gotA]
        repeat refine wps_seq ?_
        refine wps_region callOK ?_
        simp [ofV, ofV1, mkC_P, writeVar, writeCells, readCells, allSingle, AV.single, getFs, getF, setFs, setF, Heap.get, Heap.set, Heap.new, Heap.kill, killF, pushF, Heap.ready, refs, sliceParts, fillA, replL, kl, fold_node]
        repeat refine wps_seq ?_
        refine wps_cond (t := false) rfl (fun h => by cases h) fun _ => ?_
        repeat refine wps_seq ?_
        refine wps_skip ?_
        simp
        repeat refine wps_seq ?_
        refine wps_region callOK ?_
        simp [ofV, ofV1, mkC_P, writeVar, writeCells, readCells, allSingle, AV.single, getFs, getF, setFs, setF, Heap.get, Heap.set, Heap.new, Heap.kill, killF, pushF, Heap.ready, refs, sliceParts, fillA, replL, kl, ki, fold_node]
        repeat refine wps_seq ?_
        refine wps_cond (t := true) rfl (fun _ => ?_) fun h => by cases h
        repeat refine wps_seq ?_
        refine wps_region callOK ?_
        simp [ofV, ofV1, mkC_P, writeVar, writeCells, readCells, allSingle, AV.single, getFs, getF, setFs, setF, Heap.get, Heap.set, Heap.new, Heap.kill, killF, pushF, Heap.ready, refs, sliceParts, fillA, replL]
        repeat refine wps_seq ?_
        refine wps_ret ?_
        simp [retVal, Tryz.f25, oneOr, thenQ, blockQ]
        exact ends_pure rfl (by simp)
noncomputable def e25 : Entry Tryz.prog := mkE 25 [[], []] (fun x : Tr × Nat => [aTree x.1, .int .i64 x.2]) (fun x => okTr x.1 ∧ x.2 < x.1.length) (fun x => .int .i64 (oneV x.1 (wkOf x.1.length (kidsOf x.1)) (orderOf x.1.length (kidsOf x.1)) x.2)) fun x hx => c25 (T := [e49, e10, e30, e50, e51]) rfl rfl rfl rfl rfl x.1 hx.1 x.2 hx.2
theorem k25 {T : List (Entry Tryz.prog)} (hT : findE 25 T = some e25.g) {t : Tr} (ht : okTr t) {n : Nat} (hn : n < t.length) (H : Heap) : callL (ctx T) (.fn 25) [aTree t, .int .i64 n] H = some (.int .i64 (oneV t (wkOf t.length (kidsOf t)) (orderOf t.length (kidsOf t)) n), H) :=
  mkE_scalar hT injTN (t, n) ⟨ht, hn⟩ rfl (by simp [th_aTree])
end Go.Proofs.YthclkpplpdnffaaGreatDoor
namespace Go.Proofs.YthclkpplpdnffaaGreatDoor
set_option linter.unusedSimpArgs false
set_option linter.unusedVariables false
open Go Go.RowKit
set_option maxRecDepth 100000

def oneF (t : Tr) (n : Nat) : Int := oneV t (wkOf t.length (kidsOf t)) (orderOf t.length (kidsOf t)) n
def oneL (t : Tr) : List Int := (List.range t.length).map (oneF t)
theorem c8 {T : List (Entry Tryz.prog)} (hO : findE 25 T = some e25.g) (t : Tr) (ht : okTr t) :
    CallAt (ctx T) 8 [aTree t] ⟨0, []⟩ (ownV 0 1 (ints (oneL t))) ⟨1, [ownF 0 (ints (oneL t))]⟩ := by
  have ko : ∀ n, n < t.length → ∀ H, callL (ctx T) (.fn 25) [aTree t, .int .i64 n] H = some (.int .i64 (oneF t n), H) := fun n hn H => k25 hO ht hn H
  have h1000 := ht.1
  simp only [oneL]
  generalize oneF t = f at *
  simp only [aTree] at ko
  refine callAt_body (fn := Tryz.f8) (s0 := ⟨[0, 1, 2, 3, 4], [aTree t, .undef, .undef, .undef, .undef], [], 19, ⟨0, [[]]⟩⟩) Tryz.func8 rfl rfl rfl ?_
  repeat refine wps_seq ?_
  refine wps_region callOK ?_
  simp [ofV, ofV1, mkC_P, writeVar, writeCells, readCells, allSingle, AV.single, getFs, getF, setFs, setF, Heap.get, Heap.set, Heap.new, Heap.kill, killF, pushF, Heap.ready, refs, sliceParts, fillA, replL, aTree]
  repeat refine wps_seq ?_
  refine wps_region callOK ?_
  simp [ofV, ofV1, mkC_P, writeVar, writeCells, readCells, allSingle, AV.single, getFs, getF, setFs, setF, Heap.get, Heap.set, Heap.new, Heap.kill, killF, pushF, Heap.ready, refs, sliceParts, fillA, replL]
  repeat refine wps_seq ?_
  refine wps_region callOK ?_
  simp [ofV, ofV1, mkC_P, writeVar, writeCells, readCells, allSingle, AV.single, getFs, getF, setFs, setF, Heap.get, Heap.set, Heap.new, Heap.kill, killF, pushF, Heap.ready, refs, sliceParts, fillA, replL]
  repeat refine wps_seq ?_
  refine wps_block (wps_loop' (fun k : Nat => (⟨[0, 1, 2, 3, 4], [.undef, .ptr 0 0, .undef, ownV 1 1 (ints ((List.range k).map f)), .int .i64 k], [], 19, ⟨2, [ownF 1 (ints ((List.range k).map f)) ++ [(0, .cells [aNodes t])]]⟩⟩ : St))
    (fun k => k ≤ t.length) (fun k => t.length - k) [(1, 1), (0, 0)] [] 0 (Nat.zero_le _)
    ⟨rfl, rfl, rfl, by simp [fitL, fitV, lookN, pureV, ownV, ints], .own1 (el_int _) (by simp [ints]) (by simp) (by simp) (by simp) (by simp) (by simp [Heap.get, getFs, getF, pureL])⟩ ?_)
  rintro k hk B hB
  have hlen : ((List.range k).map f).length = k := by simp
  by_cases h : k < t.length
  · have hnx : (List.range (k + 1)).map f = (List.range k).map f ++ [f k] := by rw [List.range_succ, List.map_append]; rfl
    have kk := fun H => ko k h H
    repeat refine wps_seq ?_
    refine wps_region callOK ?_
    simp [ofV, ofV1, mkC_P, writeVar, writeCells, readCells, allSingle, AV.single, getFs, getF, setFs, setF, Heap.get, Heap.set, Heap.new, Heap.kill, killF, pushF, Heap.ready, refs, sliceParts, fillA, replL, own_skip, getF, lenN, h]
    repeat refine wps_seq ?_
    refine wps_cond (t := true) rfl (fun _ => ?_) fun h => by cases h
    repeat refine wps_seq ?_
    refine wps_skip ?_
    simp
    repeat refine wps_seq ?_
    refine wps_block ?_
    have happ := own_app1 (P := Tryz.prog) (elem := 3) (b := 1) (t := 2) (m := 3) (es := ints ((List.range k).map f)) (cs := [.int .i64 (f k)]) (g := [(0, .cells [aNodes t])]) (fs := []) szT3 byT3 zeT3 rfl (by omega) (by omega) rfl rfl (el_int _) (by simp; omega) (by omega) (by simp) (by simp)
    repeat refine wps_seq ?_
    refine wps_region callOK ?_
    simp [ofV, ofV1, mkC_P, writeVar, writeCells, readCells, allSingle, AV.single, getFs, getF, setFs, setF, Heap.get, Heap.set, Heap.new, Heap.kill, killF, pushF, Heap.ready, refs, sliceParts, fillA, replL, own_skip, getF, kk, happ]
    repeat refine wps_seq ?_
    refine wps_region callOK ?_
    simp [ofV, ofV1, mkC_P, writeVar, writeCells, readCells, allSingle, AV.single, getFs, getF, setFs, setF, Heap.get, Heap.set, Heap.new, Heap.kill, killF, pushF, Heap.ready, refs, sliceParts, fillA, replL, add_one (show k ≤ 1000000000 by omega)]
    have hnn : ints ((List.range (k + 1)).map f) ≠ [] := by rw [hnx]; simp [ints]
    refine hB _ (k + 1) (by omega) (by omega) ⟨[(3, 1), (0, 0)], [], rfl, rfl, rfl, ?_, .own1 (el_int _) (fun _ => ?_) (by simp) (by simp) (by simp) (by simp) (by simp [Heap.get, getFs, getF, pureL])⟩
    · rw [ownV_ne hnn, hnx]; simp [fitL, fitV, lookN, pureV, aInts]
    · rw [hnx, flat_ints, ints_app]; simp [Heap.get, getFs, getF]
  · have e : k = t.length := by omega
    subst e
    repeat refine wps_seq ?_
    refine wps_region callOK ?_
    simp [ofV, ofV1, mkC_P, writeVar, writeCells, readCells, allSingle, AV.single, getFs, getF, setFs, setF, Heap.get, Heap.set, Heap.new, Heap.kill, killF, pushF, Heap.ready, refs, sliceParts, fillA, replL, own_skip, getF, lenN]
    repeat refine wps_seq ?_
    refine wps_cond (t := false) rfl (fun h => by cases h) fun _ => ?_
    repeat refine wps_seq ?_
    refine wps_exit ?_
    simp
    repeat refine wps_seq ?_
    refine wps_region callOK ?_
    simp [ofV, ofV1, mkC_P, writeVar, writeCells, readCells, allSingle, AV.single, getFs, getF, setFs, setF, Heap.get, Heap.set, Heap.new, Heap.kill, killF, pushF, Heap.ready, refs, sliceParts, fillA, replL]
    repeat refine wps_seq ?_
    refine wps_ret ?_
    simp [retVal, Tryz.f8, oneOr]
    exact ⟨[(1, 0)], [], fitV_own (by simp [lookN]), by have := FitH.own1 (k := 0) (b := 1) (m' := 1) (τ := []) (g := []) (H := ⟨2, [ownF 1 (ints ((List.range t.length).map f)) ++ [(0, .cells [aNodes t])]]⟩) (el_int ((List.range t.length).map f)) (fun h => by simp [Heap.get, getFs, getF, own_get h]) (by simp) (by simp) (by simp) (by simp) (by simp); simpa using this⟩
noncomputable def e8 : Entry Tryz.prog := mkE 8 [[]] (fun t : Tr => [aTree t]) okTr (fun t => aInts (oneL t)) fun t ht => (c8 (T := [e25]) rfl t ht).froze (el_int _)
theorem k8 {T : List (Entry Tryz.prog)} (hT : findE 8 T = some e8.g) {t : Tr} (ht : okTr t) (H : Heap) : callL (ctx T) (.fn 8) [aTree t] H = some (aInts (oneL t), H) :=
  mkE_pure hT injT t ht (by simp [pureL]) (by simp [thawL, th_aTree]) H
theorem oneL_ofL {t : Tr} (hpos : 0 < t.length) : oneL t = ofL t := by
  refine List.ext_getElem (by simp [oneL, ofL_len]) fun i h1 h2 => ?_
  have h := ofL_get (t := t) hpos i (by simpa [oneL] using h1)
  rw [List.getD_eq_getElem?_getD, List.getElem?_eq_getElem h2] at h
  simpa [oneL, oneF] using h.symm
end Go.Proofs.YthclkpplpdnffaaGreatDoor
namespace Go.Proofs.YthclkpplpdnffaaGreatDoor
set_option linter.unusedSimpArgs false
set_option linter.unusedVariables false
open Go Go.RowKit
set_option maxRecDepth 100000

theorem injTI2 (x y : Tr × Int) (h : [aTree x.1, .int .i64 x.2] = [aTree y.1, .int .i64 y.2]) : x = y := by
  simp at h; exact Prod.ext (inj_aTree h.1) h.2
noncomputable def e9 : Entry Tryz.prog := mkE 9 [[], []] (fun x : Tr × Int => [aTree x.1, .int .i64 x.2]) (fun x => smallTr x.1 ∧ okVals x.1) (fun x => aInts (elemsL x.1 x.2)) fun x h => owX_froze (c9 (T := [e52, e82, e28, e29]) rfl rfl rfl rfl x.1 h.1 h.2 x.2)
theorem k9 {T : List (Entry Tryz.prog)} (hT : findE 9 T = some e9.g) {t : Tr} (ht : smallTr t) (hv : okVals t) (form : Int) (H : Heap) : callL (ctx T) (.fn 9) [aTree t, .int .i64 form] H = some (aInts (elemsL t form), H) :=
  mkE_pure hT injTI2 (t, form) ⟨ht, hv⟩ (by simp [pureL, pureV]) (by simp [thawL, th_aTree]) H
noncomputable def e13 : Entry Tryz.prog := mkE 13 [[], [], []] (fun x : Tr × Int × Str => [aTree x.1, .int .i64 x.2.1, .str x.2.2]) (fun x => smallTr x.1 ∧ okVals x.1) (fun x => aInts (namedF x.1 x.2.1 x.2.2)) fun x h => c13 (T := [e52, e82, e28, e29, e33]) rfl rfl rfl rfl rfl x.1 h.1 h.2 x.2.1 x.2.2
theorem k13 {T : List (Entry Tryz.prog)} (hT : findE 13 T = some e13.g) {t : Tr} (ht : smallTr t) (hv : okVals t) (form : Int) (x : Str) (H : Heap) : callL (ctx T) (.fn 13) [aTree t, .int .i64 form, .str x] H = some (aInts (namedF t form x), H) :=
  mkE_pure hT injTIS (t, form, x) ⟨ht, hv⟩ (by simp [pureL, pureV]) (by simp [thawL, th_aTree]) H
end Go.Proofs.YthclkpplpdnffaaGreatDoor
namespace Go.Proofs.YthclkpplpdnffaaGreatDoor
set_option linter.unusedSimpArgs false
set_option linter.unusedVariables false
open Go Go.RowKit
set_option maxRecDepth 100000

theorem c11 {T : List (Entry Tryz.prog)} (n : Nd) (nm : Str) (hl : n.attrs.length ≤ 1000) : CallAt (ctx T) 11 [aNode n, .str nm] ⟨0, []⟩ (gotA (getAt nm n.attrs)) ⟨0, []⟩ := by
  obtain ⟨kind, space, name, L, data, up, kids⟩ := n
  simp only at hl ⊢
  refine callAt_body (fn := Tryz.f11) (s0 := ⟨[0, 1, 2, 4, 5, 7, 9, 10, 11], [aNode ⟨kind, space, name, L, data, up, kids⟩, .str nm, .undef, .undef, .undef, .undef, .undef, .undef, .undef], [], 22, ⟨0, [[]]⟩⟩) Tryz.func11 rfl rfl rfl ?_
  repeat refine wps_seq ?_
  refine wps_region callOK ?_
  simp [ofV, ofV1, mkC_P, writeVar, writeCells, readCells, allSingle, AV.single, getFs, getF, setFs, setF, Heap.get, Heap.set, Heap.new, Heap.kill, killF, pushF, Heap.ready, refs, sliceParts, fillA, replL, aNode, Nd.cs, aInt, aInts, aAttrs]
  repeat refine wps_seq ?_
  refine wps_region callOK ?_
  simp [ofV, ofV1, mkC_P, writeVar, writeCells, readCells, allSingle, AV.single, getFs, getF, setFs, setF, Heap.get, Heap.set, Heap.new, Heap.kill, killF, pushF, Heap.ready, refs, sliceParts, fillA, replL, lenA]
  repeat refine wps_seq ?_
  refine wps_block (wps_loop' (fun i : Nat => (⟨[0, 1, 2, 4, 5, 7, 9, 10, 11], [.undef, .str nm, .undef, .undef, .undef, .undef, aAttrs L, .int .i64 (L.length : Nat), .int .i64 i], [], 22, ⟨0, [[]]⟩⟩ : St))
    (fun i => i ≤ L.length ∧ getAt nm L = getAt nm (L.drop i)) (fun i => L.length - i) [] [] 0 ⟨Nat.zero_le _, rfl⟩ ⟨rfl, rfl, rfl, by simp [fitL, fitV, pureV, pureL, aAttrs], FitH.nothing⟩ ?_)
  rintro i ⟨hi, hx⟩ B hB
  repeat refine wps_seq ?_
  refine wps_region callOK ?_
  simp [ofV, ofV1, mkC_P, writeVar, writeCells, readCells, allSingle, AV.single, getFs, getF, setFs, setF, Heap.get, Heap.set, Heap.new, Heap.kill, killF, pushF, Heap.ready, refs, sliceParts, fillA, replL]
  repeat refine wps_seq ?_
  refine wps_cond rfl (fun h => ?_) fun h => ?_
  · simp at h
    repeat refine wps_seq ?_
    refine wps_skip ?_
    simp
    repeat refine wps_seq ?_
    refine wps_block ?_
    repeat refine wps_seq ?_
    refine wps_region callOK ?_
    simp [ofV, ofV1, mkC_P, writeVar, writeCells, readCells, allSingle, AV.single, getFs, getF, setFs, setF, Heap.get, Heap.set, Heap.new, Heap.kill, killF, pushF, Heap.ready, refs, sliceParts, fillA, replL, atA h]
    by_cases h2 : (L[i]).1 = nm
    · repeat refine wps_seq ?_
      refine wps_region callOK ?_
      simp [ofV, ofV1, mkC_P, writeVar, writeCells, readCells, allSingle, AV.single, getFs, getF, setFs, setF, Heap.get, Heap.set, Heap.new, Heap.kill, killF, pushF, Heap.ready, refs, sliceParts, fillA, replL, aAttr, h2]
      repeat refine wps_seq ?_
      refine wps_cond (t := true) rfl (fun _ => ?_) fun h => by cases h
      repeat refine wps_seq ?_
      refine wps_region callOK ?_
      simp [ofV, ofV1, mkC_P, writeVar, writeCells, readCells, allSingle, AV.single, getFs, getF, setFs, setF, Heap.get, Heap.set, Heap.new, Heap.kill, killF, pushF, Heap.ready, refs, sliceParts, fillA, replL, aAttr]
      repeat refine wps_seq ?_
      refine wps_ret ?_
      simp [retVal, Tryz.f11, oneOr]
      exact ends_pure rfl (by simp [gotA, hx, getAt_at h, h2])
    · repeat refine wps_seq ?_
      refine wps_region callOK ?_
      simp [ofV, ofV1, mkC_P, writeVar, writeCells, readCells, allSingle, AV.single, getFs, getF, setFs, setF, Heap.get, Heap.set, Heap.new, Heap.kill, killF, pushF, Heap.ready, refs, sliceParts, fillA, replL, aAttr, h2]
      repeat refine wps_seq ?_
      refine wps_cond (t := false) rfl (fun h => by cases h) fun _ => ?_
      repeat refine wps_seq ?_
      refine wps_skip ?_
      simp
      repeat refine wps_seq ?_
      refine wps_region callOK ?_
      simp [ofV, ofV1, mkC_P, writeVar, writeCells, readCells, allSingle, AV.single, getFs, getF, setFs, setF, Heap.get, Heap.set, Heap.new, Heap.kill, killF, pushF, Heap.ready, refs, sliceParts, fillA, replL, add_one (show i ≤ 1000000000 by omega)]
      exact hB _ (i + 1) (by omega) ⟨by omega, by rw [hx, getAt_at h]; simp [h2]⟩ ⟨[], [], ⟨rfl, rfl, rfl, by simp [fitL, fitV, pureV, pureL, aAttrs], FitH.nothing⟩⟩
  · simp at h
    repeat refine wps_seq ?_
    refine wps_exit ?_
    simp
    repeat refine wps_seq ?_
    refine wps_region callOK ?_
    simp [ofV, ofV1, mkC_P, writeVar, writeCells, readCells, allSingle, AV.single, getFs, getF, setFs, setF, Heap.get, Heap.set, Heap.new, Heap.kill, killF, pushF, Heap.ready, refs, sliceParts, fillA, replL]
    repeat refine wps_seq ?_
    refine wps_ret ?_
    simp [retVal, Tryz.f11, oneOr]
    exact ends_pure rfl (by simp [gotA, hx, List.drop_eq_nil_of_le h, getAt])
noncomputable def e11 : Entry Tryz.prog := mkE 11 [[], []] (fun x : Nd × Str => [aNode x.1, .str x.2]) (fun x => x.1.attrs.length ≤ 1000) (fun x => gotA (getAt x.2 x.1.attrs)) fun x hx => c11 (T := []) x.1 x.2 hx
theorem k11 {T : List (Entry Tryz.prog)} (hT : findE 11 T = some e11.g) {n : Nd} (nm : Str) (hl : n.attrs.length ≤ 1000) (H : Heap) : callL (ctx T) (.fn 11) [aNode n, .str nm] H = some (gotA (getAt nm n.attrs), H) :=
  mkE_scalar hT injNS (n, nm) hl rfl (by simp [th_aNode])
end Go.Proofs.YthclkpplpdnffaaGreatDoor
namespace Go.Proofs.YthclkpplpdnffaaGreatDoor
set_option linter.unusedSimpArgs false
set_option linter.unusedVariables false
open Go Go.RowKit
set_option maxRecDepth 100000

noncomputable def r47 : Entry Tryz.prog := ⟨47, fun args H => match args with
  | [.str s] => match Nat.ble s.length 1000 with
    | true => some (atoiA s, H)
    | false => none
  | _ => none, fun args H v H' h => by
    split at h
    · rename_i s
      split at h
      · rename_i hl
        simp only [Option.some.injEq, Prod.mk.injEq] at h
        obtain ⟨rfl, rfl⟩ := h
        exact (c47 (T := []) s (by have := Nat.le_of_ble_eq_true hl; omega)).lift (by simp [pureL, pureV]) H
      · cases h
    · cases h⟩
noncomputable def r116 : Entry Tryz.prog := ⟨116, fun args H => match args with
  | [.str s, .str t] => match Nat.ble s.length 1000 with
    | true => some (.int .i64 (Lib.index s t), H)
    | false => none
  | _ => none, fun args H v H' h => by
    split at h
    · rename_i s t
      split at h
      · rename_i hl
        simp only [Option.some.injEq, Prod.mk.injEq] at h
        obtain ⟨rfl, rfl⟩ := h
        exact (c116 (T := []) s t (by have := Nat.le_of_ble_eq_true hl; omega)).lift (by simp [pureL, pureV]) H
      · cases h
    · cases h⟩
noncomputable def TF : List (Entry Tryz.prog) := [r58, r47, r116]
theorem closedCall {T : List (Entry Tryz.prog)} {f : FuncId} (h : isTrueE (callN (ctx T) 100000 (.fn f) [] ⟨0, []⟩) = true) : CallAt (ctx T) f [] ⟨0, []⟩ (.bool true) ⟨0, []⟩ := by
  revert h
  cases hr : callN (ctx T) 100000 (.fn f) [] ⟨0, []⟩ with
  | none => intro h; cases h
  | some r =>
    obtain ⟨v, H'⟩ := r
    intro h
    cases v <;> simp only [isTrueE] at h <;> first | (cases h; done) | skip
    subst h
    exact ((call_ok mixed (mkC_ok _ _ _) 100000).fn f [] ⟨0, []⟩ _ _ hr).freeze (Φ := []) (by simp [fitV, pureV]) FitH.empty
end Go.Proofs.YthclkpplpdnffaaGreatDoor
namespace Go.Proofs.YthclkpplpdnffaaGreatDoor
set_option linter.unusedSimpArgs false
set_option linter.unusedVariables false
open Go Go.RowKit
set_option maxRecDepth 100000

def noneL : List AV → Bool
  | [] => true
  | _ :: _ => false
mutual
def fitVb (Φ : List (Nat × List AV)) : AV → AV → Bool
  | .slc b o len cap, v' => match v' with
    | .undef => true
    | .fslc sz es => (match lookC b Φ with
      | some cs => (match subL o (len * sz) cs with
        | some x => AV.beqL x (flatAV es) && Nat.beq es.length len && allSize sz es
        | none => false)
      | none => false) || (Nat.beq len 0 && noneL es)
    | _ => false
  | .ptr b o, v' => match v' with
    | .undef => true
    | .fptr cs o' => (match lookC b Φ with
      | some c => AV.beqL c cs
      | none => false) && Nat.beq o' o
    | _ => false
  | .nilS, v' => match v' with
    | .undef => true
    | .nilS => true
    | .fslc _ es => noneL es
    | _ => false
  | .agg cs, v' => match v' with
    | .undef => true
    | .agg cs' => fitLb Φ cs cs'
    | _ => false
  | .tup cs, v' => match v' with
    | .undef => true
    | .tup cs' => fitLb Φ cs cs'
    | _ => false
  | .int k n, v' => match v' with
    | .undef => true
    | .int k' n' => decide (k' = k) && decide (n' = n)
    | _ => false
  | .str s, v' => match v' with
    | .undef => true
    | .str s' => eqN s' s
    | _ => false
  | .bool s, v' => match v' with
    | .undef => true
    | .bool s' => s' == s
    | _ => false
  | _, v' => match v' with
    | .undef => true
    | _ => false
def fitLb (Φ : List (Nat × List AV)) : List AV → List AV → Bool
  | [], l' => noneL l'
  | a :: r, l' => match l' with
    | [] => false
    | a' :: r' => fitVb Φ a a' && fitLb Φ r r'
end
theorem noneL_eq {l : List AV} (h : noneL l = true) : l = [] := by cases l <;> first | rfl | cases h
mutual
theorem fitVb_ok {Φ : List (Nat × List AV)} : ∀ {v v' : AV}, fitVb Φ v v' = true → fitV [] Φ v v' := by
  intro v v' h
  cases v with
  | slc b o len cap =>
    unfold fitVb at h
    unfold fitV
    cases v' <;> simp only [Bool.false_eq_true] at h ⊢
    rename_i sz es
    simp only [Bool.or_eq_true, Bool.and_eq_true] at h
    rcases h with h | h
    · left
      cases hl : lookC b Φ with
      | none => rw [hl] at h; cases h
      | some cs =>
        rw [hl] at h
        simp only at h
        cases hs : subL o (len * sz) cs with
        | none => rw [hs] at h; cases h
        | some x =>
          rw [hs] at h
          simp only [Bool.and_eq_true] at h
          exact ⟨cs, rfl, by rw [hs, AV.eqL_of_beq _ _ h.1.1], Nat.eq_of_beq_eq_true h.1.2, h.2⟩
    · exact .inr ⟨Nat.eq_of_beq_eq_true h.1, noneL_eq h.2⟩
  | ptr b o =>
    unfold fitVb at h
    unfold fitV
    cases v' <;> simp only [Bool.false_eq_true] at h ⊢
    simp only [Bool.and_eq_true] at h
    cases hl : lookC b Φ with
    | none => rw [hl] at h; cases h.1
    | some cs =>
      rw [hl] at h
      exact ⟨by rw [AV.eqL_of_beq _ _ h.1], Nat.eq_of_beq_eq_true h.2⟩
  | nilS =>
    unfold fitVb at h
    unfold fitV
    cases v' <;> simp only [Bool.false_eq_true] at h ⊢
    exact noneL_eq h
  | agg cs =>
    unfold fitVb at h
    unfold fitV
    cases v' <;> simp only [Bool.false_eq_true] at h ⊢
    exact .inl (fitLb_ok h)
  | tup cs =>
    unfold fitVb at h
    unfold fitV
    cases v' <;> simp only [Bool.false_eq_true] at h ⊢
    exact .inl (fitLb_ok h)
  | int k n =>
    unfold fitVb at h
    unfold fitV
    cases v' <;> simp only [Bool.false_eq_true] at h ⊢
    · simp
    · simp only [Bool.and_eq_true, decide_eq_true_eq] at h
      obtain ⟨rfl, rfl⟩ := h
      exact .inr ⟨rfl, rfl⟩
  | str s =>
    unfold fitVb at h
    unfold fitV
    cases v' <;> simp only [Bool.false_eq_true] at h ⊢
    · simp
    · rw [eqN_eq, decide_eq_true_eq] at h
      subst h
      exact .inr ⟨rfl, rfl⟩
  | bool s =>
    unfold fitVb at h
    unfold fitV
    cases v' <;> simp only [Bool.false_eq_true] at h ⊢
    · simp
    · simp only [beq_iff_eq] at h
      subst h
      exact .inr ⟨rfl, rfl⟩
  | _ =>
    unfold fitVb at h
    cases v' <;> simp only [Bool.false_eq_true] at h
    simp [fitV]
theorem fitLb_ok {Φ : List (Nat × List AV)} : ∀ {l l' : List AV}, fitLb Φ l l' = true → fitL [] Φ l l' := by
  intro l l' h
  cases l with
  | nil =>
    unfold fitLb at h
    unfold fitL
    exact noneL_eq h
  | cons a r =>
    unfold fitLb at h
    unfold fitL
    cases l' with
    | nil => cases h
    | cons a' r' =>
      simp only [Bool.and_eq_true] at h
      exact ⟨fitVb_ok h.1, fitLb_ok h.2⟩
end
def undefL : Nat → List AV → List AV
  | 0, _ => []
  | _ + 1, [] => []
  | n + 1, _ :: r => .undef :: undefL n r
def undefA : List AV → List AV
  | [] => []
  | _ :: r => .undef :: undefA r
def pairsL : List AV → List AV → List (AV × AV) → List (AV × AV)
  | a :: r, b :: s, acc => (a, b) :: pairsL r s acc
  | _, _, acc => acc
/-- which blocks are to be frozen, as what -/
def coll (H : Heap) : Nat → List (AV × AV) → List (Nat × List AV) → Option (List (Nat × List AV))
  | 0, _, _ => none
  | n + 1, todo, Φ => match todo with
    | [] => some Φ
    | x :: r => match x.1, x.2 with
      | .agg xs, .agg ys => coll H n (pairsL xs ys r) Φ
      | .tup xs, .tup ys => coll H n (pairsL xs ys r) Φ
      | .slc b o len _, .fslc sz es => match len with
        | 0 => coll H n r Φ
        | Nat.succ _ => match lookC b Φ with
          | some _ => coll H n r Φ
          | none => match H.get b with
            | some (.cells cs) => coll H n (pairsL (cs.drop o) (flatAV es) r) ((b, undefL o cs ++ flatAV es ++ undefA (cs.drop (o + len * sz))) :: Φ)
            | _ => none
      | .ptr b _, .fptr ys _ => match lookC b Φ with
        | some _ => coll H n r Φ
        | none => match H.get b with
          | some (.cells cs) => coll H n (pairsL cs ys r) ((b, ys) :: Φ)
          | _ => none
      | _, _ => coll H n r Φ
def nodupB : List Nat → Bool
  | [] => true
  | x :: r => match memT x r with
    | true => false
    | false => nodupB r
theorem memT_mem {n : Nat} : ∀ {l : List Nat}, memT n l = false → n ∉ l
  | [], _ => by simp
  | m :: r, h => by
    unfold memT at h
    split at h
    · cases h
    · rename_i hb
      have : n ≠ m := fun e => by rw [e, Nat.beq_refl] at hb; cases hb
      simp [this, memT_mem h]
theorem nodupB_ok : ∀ {l : List Nat}, nodupB l = true → l.Nodup
  | [], _ => List.nodup_nil
  | x :: r, h => by
    unfold nodupB at h
    split at h
    · cases h
    · rename_i hm
      exact List.nodup_cons.2 ⟨memT_mem hm, nodupB_ok h⟩
def frzOK (H : Heap) (Φ : List (Nat × List AV)) : List (Nat × List AV) → Bool
  | [] => true
  | x :: r => (match H.get x.1 with
    | some (.cells cs) => fitLb Φ cs x.2 && pureL x.2
    | _ => false) && frzOK H Φ r
theorem frzOK_ok {H : Heap} {Φ : List (Nat × List AV)} : ∀ {l : List (Nat × List AV)}, frzOK H Φ l = true → ∀ x, x ∈ l → ∃ cs, H.get x.1 = some (.cells cs) ∧ fitL [] Φ cs x.2 ∧ pureL x.2 = true
  | [], _, x, hx => by cases hx
  | y :: r, h, x, hx => by
    unfold frzOK at h
    simp only [Bool.and_eq_true] at h
    rcases List.mem_cons.1 hx with rfl | hx
    · have h1 := h.1
      split at h1
      · rename_i cs hg
        simp only [Bool.and_eq_true] at h1
        exact ⟨cs, hg, fitLb_ok h1.1, h1.2⟩
      · cases h1
    · exact frzOK_ok h.2 x hx
/-- does a run answer what is written out? -/
def litOK (lit : AV) : Option (AV × Heap) → Bool
  | some (v, H) => match coll H 100000 [(v, lit)] [] with
    | some Φ => nodupB (Φ.map (·.1)) && frzOK H Φ Φ && fitVb Φ v lit
    | none => false
  | none => false
theorem closedLit {T : List (Entry Tryz.prog)} {f : FuncId} {args : List AV} {lit : AV} (h : litOK lit (callN (ctx T) 100000 (.fn f) args ⟨0, []⟩) = true) : CallAt (ctx T) f args ⟨0, []⟩ lit ⟨0, []⟩ := by
  revert h
  cases hr : callN (ctx T) 100000 (.fn f) args ⟨0, []⟩ with
  | none => intro h; cases h
  | some r =>
    obtain ⟨v, H'⟩ := r
    intro h
    unfold litOK at h
    simp only at h
    cases hc : coll H' 100000 [(v, lit)] [] with
    | none => rw [hc] at h; cases h
    | some Φ =>
      rw [hc] at h
      simp only [Bool.and_eq_true] at h
      exact ((call_ok mixed (mkC_ok _ _ _) 100000).fn f args ⟨0, []⟩ _ _ hr).freeze (fitVb_ok h.2) (FitH.froze (nodupB_ok h.1.1) (frzOK_ok h.1.2))
/-- answers written out, at arguments written out -/
def litsG : List (List AV × AV) → List AV → Option AV
  | [], _ => none
  | x :: r, args => match AV.beqL args x.1 with
    | true => some x.2
    | false => litsG r args
theorem litsG_mem : ∀ {l : List (List AV × AV)} {args : List AV} {v : AV}, litsG l args = some v → (args, v) ∈ l
  | [], args, v, h => by cases h
  | x :: r, args, v, h => by
    unfold litsG at h
    split at h
    · rename_i hb
      simp only [Option.some.injEq] at h
      subst h
      rw [AV.eqL_of_beq _ _ hb]
      exact List.mem_cons_self
    · exact List.mem_cons_of_mem _ (litsG_mem h)
noncomputable def litsE (f : FuncId) (l : List (List AV × AV)) (h : ∀ x, x ∈ l → pureL x.1 = true ∧ CallAt ⟨Tryz.prog, fun _ => [], fun _ => none⟩ f x.1 ⟨0, []⟩ x.2 ⟨0, []⟩) : Entry Tryz.prog := ⟨f, fun args H => match litsG l args with
  | some v => some (v, H)
  | none => none, fun args H v H' hr => by
    split at hr
    · rename_i w hw
      simp only [Option.some.injEq, Prod.mk.injEq] at hr
      obtain ⟨rfl, rfl⟩ := hr
      obtain ⟨h1, h2⟩ := h _ (litsG_mem hw)
      exact h2.lift h1 H
    · cases hr⟩
end Go.Proofs.YthclkpplpdnffaaGreatDoor
