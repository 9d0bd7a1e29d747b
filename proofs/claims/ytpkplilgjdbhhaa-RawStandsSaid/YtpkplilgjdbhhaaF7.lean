/- Maps, as lists of pairs. No condition. -/
import Derived.Test.YtpkplilgjdbhhaaF6
namespace Go.Proofs.Ytpkplilgjdbhhaa
set_option linter.unusedSimpArgs false
set_option linter.unusedVariables false
open Go Go.RowKit

section
variable {κ ν : Type} [DecidableEq κ]
def getM (a : κ) : List (κ × ν) → Option ν
  | [] => none
  | p :: r => if p.1 = a then some p.2 else getM a r
def setM (a : κ) (v : ν) : List (κ × ν) → List (κ × ν)
  | [] => [(a, v)]
  | p :: r => if p.1 = a then (a, v) :: r else p :: setM a v r
def delM (a : κ) : List (κ × ν) → List (κ × ν)
  | [] => []
  | p :: r => if p.1 = a then r else p :: delM a r
def idxM (a : κ) : List (κ × ν) → Option Nat
  | [] => none
  | p :: r => if p.1 = a then some 0 else (idxM a r).map (· + 1)
/-- what a map's type must be -/
structure MapT (P : Program) (t : TypeId) (ek : κ → AV) (ev : ν → AV) where
  tk : TypeId
  te : TypeId
  kd : TypeDesc
  hu : P.underlying t = some (.map tk te)
  hk : P.underlying tk = some kd
  eq : ∀ a b, keyEq P tk kd (ek a) (ek b) = some (decide (a = b))
  pure : ∀ a v, [ek a, ev v].flatMap (refs 6) = []
def entsM (ek : κ → AV) (ev : ν → AV) (M : List (κ × ν)) : List (AV × AV) := M.map fun p => (ek p.1, ev p.2)
variable {P : Program} {t : TypeId} {ek : κ → AV} {ev : ν → AV}
theorem MapT.pos (m : MapT P t ek ev) (a : κ) : ∀ (M : List (κ × ν)) (i : Nat), posA P m.tk m.kd (ek a) i (entsM ek ev M) = some ((idxM a M).map (i + ·))
  | [], i => rfl
  | p :: r, i => by
    simp only [entsM, List.map_cons, posA, m.eq, Option.bind_some, idxM]
    by_cases h : p.1 = a
    · have h' : a = p.1 := h.symm
      simp [h]
    · have h' : ¬ a = p.1 := fun e => h e.symm
      simp only [h', decide_false, h, if_false]
      have := MapT.pos m a r (i + 1)
      rw [entsM] at this
      rw [this]
      cases idxM a r with
      | none => rfl
      | some j => simp; omega
theorem MapT.ok (m : MapT P t ek ev) (a : κ) : keyOK P m.tk m.kd (ek a) = some () := by simp [keyOK, m.eq]
theorem idxM_get {a : κ} : ∀ {M : List (κ × ν)} {i : Nat}, idxM a M = some i → ∃ h : i < M.length, M[i].1 = a ∧ getM a M = some M[i].2
  | [], _, h => by cases h
  | p :: r, i, h => by
    unfold idxM at h
    unfold getM
    split at h
    · rename_i hp
      simp only [Option.some.injEq] at h
      subst h
      exact ⟨by simp, hp, by simp [hp]⟩
    · rename_i hp
      cases hj : idxM a r with
      | none => simp [hj] at h
      | some j =>
        simp only [hj, Option.map_some, Option.some.injEq] at h
        subst h
        obtain ⟨h1, h2, h3⟩ := idxM_get hj
        exact ⟨by simpa using h1, by simpa using h2, by simp [hp, h3]⟩
theorem idxM_none {a : κ} : ∀ {M : List (κ × ν)}, idxM a M = none → getM a M = none
  | [], _ => rfl
  | p :: r, h => by
    unfold idxM at h
    unfold getM
    split at h
    · cases h
    · rename_i hp
      cases hj : idxM a r with
      | none => simp [hp, idxM_none hj]
      | some j => simp [hj] at h
theorem MapT.find (m : MapT P t ek ev) (a : κ) (M : List (κ × ν)) : findA P m.tk m.kd (ek a) (entsM ek ev M) = some ((getM a M).map ev) := by
  unfold findA
  rw [m.pos]
  simp only [Option.bind_some]
  cases h : idxM a M with
  | none => simp [idxM_none h]
  | some i =>
    obtain ⟨h1, h2, h3⟩ := idxM_get h
    simp only [Option.map_some, Nat.zero_add, h3]
    have hl : i < (entsM ek ev M).length := by simpa [entsM] using h1
    rw [getL_get hl]
    simp [entsM]
theorem setM_idx {a : κ} {v : ν} : ∀ {M : List (κ × ν)} {i : Nat}, idxM a M = some i → setL (ek a, ev v) (entsM ek ev M) i = some (entsM ek ev (setM a v M))
  | [], _, h => by cases h
  | p :: r, i, h => by
    unfold idxM at h
    unfold setM
    split at h
    · rename_i hp
      simp only [Option.some.injEq] at h
      subst h
      simp [hp, entsM, setL]
    · rename_i hp
      cases hj : idxM a r with
      | none => simp [hj] at h
      | some j =>
        simp only [hj, Option.map_some, Option.some.injEq] at h
        subst h
        have := setM_idx (v := v) hj
        rw [entsM] at this
        simp [hp, entsM, setL, this]
theorem setM_new {a : κ} {v : ν} : ∀ {M : List (κ × ν)}, idxM a M = none → setM a v M = M ++ [(a, v)]
  | [], _ => rfl
  | p :: r, h => by
    unfold idxM at h
    unfold setM
    split at h
    · cases h
    · rename_i hp
      cases hj : idxM a r with
      | none => simp [hp, setM_new hj]
      | some j => simp [hj] at h
theorem MapT.upd (m : MapT P t ek ev) (a : κ) (v : ν) (M : List (κ × ν)) : updA P m.tk m.kd (ek a) (ev v) (entsM ek ev M) = some (entsM ek ev (setM a v M)) := by
  unfold updA
  rw [m.pos]
  simp only [Option.bind_some]
  cases h : idxM a M with
  | none => simp [setM_new h, entsM]
  | some i =>
    obtain ⟨h1, h2, _⟩ := idxM_get h
    simp only [Option.map_some, Nat.zero_add]
    have hl : i < (entsM ek ev M).length := by simpa [entsM] using h1
    rw [getL_get hl]
    have he : (entsM ek ev M)[i].1 = ek a := by simp [entsM, h2]
    simp only [Option.bind_some, he, decide_true]
    exact setM_idx h
theorem delM_idx {a : κ} : ∀ {M : List (κ × ν)} {i : Nat}, idxM a M = some i → (entsM ek ev M).eraseIdx i = entsM ek ev (delM a M)
  | [], _, h => by cases h
  | p :: r, i, h => by
    unfold idxM at h
    unfold delM
    split at h
    · rename_i hp
      simp only [Option.some.injEq] at h
      subst h
      simp [hp, entsM]
    · rename_i hp
      cases hj : idxM a r with
      | none => simp [hj] at h
      | some j =>
        simp only [hj, Option.map_some, Option.some.injEq] at h
        subst h
        have := delM_idx hj
        rw [entsM] at this
        simp [hp, entsM, this]
theorem delM_none {a : κ} : ∀ {M : List (κ × ν)}, idxM a M = none → delM a M = M
  | [], _ => rfl
  | p :: r, h => by
    unfold idxM at h
    unfold delM
    split at h
    · cases h
    · rename_i hp
      cases hj : idxM a r with
      | none => simp [hp, delM_none hj]
      | some j => simp [hj] at h
theorem MapT.del (m : MapT P t ek ev) (a : κ) (M : List (κ × ν)) : delA P m.tk m.kd (ek a) (entsM ek ev M) = some (entsM ek ev (delM a M)) := by
  unfold delA
  rw [m.pos]
  simp only [Option.bind_some]
  cases h : idxM a M with
  | none => simp [delM_none h]
  | some i => simp [delM_idx h]
variable {H : Heap} {b : Nat} {M : List (κ × ν)}
theorem MapT.look (m : MapT P t ek ev) {z : AV} (hz : zeroOf P m.te = some z) (hb : H.get b = some (.map (entsM ek ev M))) (a : κ) : lookupA P H t (.map b) (ek a) false = some (((getM a M).map ev).getD z) := by
  unfold lookupA
  simp only [m.hu, m.hk, Option.bind_some, m.ok, hb, m.find]
  cases getM a M <;> simp [hz]
theorem MapT.look2 (m : MapT P t ek ev) {z : AV} (hz : zeroOf P m.te = some z) (hb : H.get b = some (.map (entsM ek ev M))) (a : κ) : lookupA P H t (.map b) (ek a) true = some (.tup [((getM a M).map ev).getD z, .bool (getM a M).isSome]) := by
  unfold lookupA
  simp only [m.hu, m.hk, Option.bind_some, m.ok, hb, m.find]
  cases getM a M <;> simp [hz]
theorem MapT.update (m : MapT P t ek ev) (hb : H.get b = some (.map (entsM ek ev M))) (a : κ) (v : ν) : mapUpdA P H t (.map b) (ek a) (ev v) = H.set b (.map (entsM ek ev (setM a v M))) := by
  unfold mapUpdA
  simp only [m.hu, m.hk, Option.bind_some, m.ok, hb, m.upd]
  have : H.ready b [ek a, ev v] = H := by unfold Heap.ready; rw [m.pure]
  rw [this]
theorem MapT.delete (m : MapT P t ek ev) (hb : H.get b = some (.map (entsM ek ev M))) (a : κ) : deleteA P H t (.map b) (ek a) = H.set b (.map (entsM ek ev (delM a M))) := by
  unfold deleteA
  simp only [m.hu, m.hk, Option.bind_some, m.ok, hb, m.del]
theorem MapT.len (m : MapT P t ek ev) (hb : H.get b = some (.map (entsM ek ev M))) : lenA P H t (.map b) = some M.length := by
  unfold lenA
  simp only [m.hu, Option.bind_some, hb]
  simp [entsM]
theorem getM_set {a c : κ} {v : ν} : ∀ {M : List (κ × ν)}, getM c (setM a v M) = if a = c then some v else getM c M
  | [] => by
    simp only [setM, getM]
  | p :: r => by
    unfold setM
    by_cases h : p.1 = a
    · simp only [h, if_true, getM]
      by_cases hc : a = c
      · simp [hc]
      · simp [hc]
    · simp only [h, if_false, getM, getM_set (M := r)]
      by_cases hc : a = c
      · subst hc; simp [h]
      · simp [hc]
theorem getM_del {a c : κ} : ∀ {M : List (κ × ν)}, (M.map (·.1)).Nodup → getM c (delM a M) = if a = c then none else getM c M
  | [], _ => by simp [delM, getM]
  | p :: r, hn => by
    rw [List.map_cons, List.nodup_cons] at hn
    have hno : ∀ {x : κ} {l : List (κ × ν)}, x ∉ l.map (·.1) → getM x l = none := fun {x l} => by
      induction l with
      | nil => intro _; rfl
      | cons q l ih =>
        intro h
        simp only [List.map_cons, List.mem_cons, not_or] at h
        have hq : ¬ q.1 = x := fun e => h.1 e.symm
        simp only [getM, hq, if_false]
        exact ih h.2
    unfold delM
    by_cases h : p.1 = a
    · simp only [h, if_true, getM]
      by_cases hc : a = c
      · subst hc; simp [hno (h ▸ hn.1)]
      · simp [hc]
    · simp only [h, if_false, getM, getM_del hn.2]
      by_cases hc : a = c
      · subst hc; simp [h]
      · simp [hc]
theorem mem_keys {a : κ} : ∀ {M : List (κ × ν)}, a ∈ M.map (·.1) ↔ (getM a M).isSome = true
  | [] => by simp [getM]
  | p :: r => by
    simp only [List.map_cons, List.mem_cons, getM, mem_keys (M := r)]
    by_cases h : p.1 = a
    · simp [h]
    · have h' : ¬ a = p.1 := fun e => h e.symm
      simp [h, h']
theorem setM_keys {a : κ} {v : ν} {M : List (κ × ν)} (h : (M.map (·.1)).Nodup) : ((setM a v M).map (·.1)).Nodup := by
  induction M with
  | nil => simp [setM]
  | cons p r ih =>
    rw [List.map_cons, List.nodup_cons] at h
    unfold setM
    split
    · rename_i hp
      rw [List.map_cons, List.nodup_cons]
      exact ⟨by rw [← hp]; exact h.1, h.2⟩
    · rename_i hp
      rw [List.map_cons, List.nodup_cons]
      refine ⟨fun hm => ?_, ih h.2⟩
      rw [mem_keys, getM_set] at hm
      split at hm
      · rename_i he; exact hp he.symm
      · exact h.1 (mem_keys.2 hm)
theorem delM_keys {a : κ} {M : List (κ × ν)} (h : (M.map (·.1)).Nodup) : ((delM a M).map (·.1)).Nodup := by
  induction M with
  | nil => simp [delM]
  | cons p r ih =>
    rw [List.map_cons, List.nodup_cons] at h
    unfold delM
    split
    · exact h.2
    · rename_i hp
      rw [List.map_cons, List.nodup_cons]
      refine ⟨fun hm => ?_, ih h.2⟩
      rw [mem_keys, getM_del h.2] at hm
      split at hm
      · cases hm
      · exact h.1 (mem_keys.2 hm)
end
end Go.Proofs.Ytpkplilgjdbhhaa
