/- Weakening: blocks are forgotten, renumbered, frozen. No condition. -/
import Derived.Test.YtpkplilgjdbhhaaF0
namespace Go.Proofs.Ytpkplilgjdbhhaa
set_option linter.unusedSimpArgs false
set_option linter.unusedVariables false
open Go Go.RowKit

/-! ### Values that name no block of the heap -/
mutual
def pureV : AV → Bool
  | .ptr _ _ => false
  | .slc _ _ _ _ => false
  | .map _ => false
  | .func _ a c => pureL a && pureL c
  | .iface _ v => pureV v
  | .agg cs => pureL cs
  | .tup cs => pureL cs
  | _ => true
def pureL : List AV → Bool
  | [] => true
  | a :: r => pureV a && pureL r
end
mutual
/-- values that name no memory -/
def scalarV : AV → Bool
  | .bool _ | .int _ _ | .float _ _ | .cplx _ _ _ | .str _ | .nilP | .nilS | .zslc | .nilM | .nilF | .nilI => true
  | .fslc _ es => match es with
    | [] => true
    | _ :: _ => false
  | .agg cs => scalarL cs
  | .tup cs => scalarL cs
  | _ => false
def scalarL : List AV → Bool
  | [] => true
  | a :: r => scalarV a && scalarL r
end
theorem pureL_get : ∀ {l : List AV}, pureL l = true → ∀ i (h : i < l.length), pureV l[i] = true
  | [], _, i, hi => absurd hi (Nat.not_lt_zero i)
  | a :: r, h, i, hi => by
    simp only [pureL, Bool.and_eq_true] at h
    cases i with
    | zero => exact h.1
    | succ i => exact pureL_get h.2 i (by simpa using hi)
theorem scalarL_get : ∀ {l : List AV}, scalarL l = true → ∀ i (h : i < l.length), scalarV l[i] = true
  | [], _, i, hi => absurd hi (Nat.not_lt_zero i)
  | a :: r, h, i, hi => by
    simp only [scalarL, Bool.and_eq_true] at h
    cases i with
    | zero => exact h.1
    | succ i => exact scalarL_get h.2 i (by simpa using hi)
@[simp] theorem pureL_append {a b : List AV} : pureL (a ++ b) = (pureL a && pureL b) := by
  induction a with
  | nil => simp [pureL]
  | cons x r ih => simp [pureL, ih, Bool.and_assoc]
theorem pureL_of {l : List AV} (h : ∀ v, v ∈ l → pureV v = true) : pureL l = true := by
  induction l with
  | nil => rfl
  | cons x r ih => simp only [pureL, Bool.and_eq_true]; exact ⟨h x (by simp), ih fun v hv => h v (by simp [hv])⟩
theorem VR.pure {ρ : Place} {v : AV} {x : Value} (r : VR ρ v x) : pureV v = true → VR ρ.bare v x := by
  induction r with
  | undef x => exact fun _ => .undef x
  | bool b => exact fun _ => .bool b
  | int k n => exact fun _ => .int k n
  | float k n => exact fun _ => .float k n
  | cplx k a b => exact fun _ => .cplx k a b
  | str s => exact fun _ => .str s
  | nilP => exact fun _ => .nilP
  | ptr b o l e => exact fun h => by simp [pureV] at h
  | fptr cs o cb off vs hB hc hv ih => exact fun _ => .fptr cs o cb off vs hB hc hv
  | nilS => exact fun _ => .nilS
  | eslc a c => exact fun _ => .eslc a c
  | zslcN => exact fun _ => .zslcN
  | zslcE a => exact fun _ => .zslcE a
  | slcE b o len c l e hc => exact fun h => by simp [pureV] at h
  | slcR b o len sz c l e hc hf => exact fun h => by simp [pureV] at h
  | fslc sz es cb off cap vs hB hcap hz hc hv ih => exact fun _ => .fslc sz es cb off cap vs hB hcap hz hc hv
  | fnil sz => exact fun _ => .fnil sz
  | fnone sz a c => exact fun _ => .fnone sz a c
  | nilM => exact fun _ => .nilM
  | map b l e => exact fun h => by simp [pureV] at h
  | nilF => exact fun _ => .nilF
  | func fn a c a' c' ha hc hav hcv iha ihc =>
    intro h
    simp only [pureV, Bool.and_eq_true] at h
    exact .func fn a c a' c' ha hc (fun i h1 h2 => iha i h1 h2 (pureL_get h.1 i h1)) (fun i h1 h2 => ihc i h1 h2 (pureL_get h.2 i h1))
  | nilI => exact fun _ => .nilI
  | iface t v x _ ih => exact fun h => .iface t v x (ih (by simpa [pureV] using h))
  | agg cs vs hl hv ih => exact fun h => .agg cs vs hl fun i h1 h2 => ih i h1 h2 (pureL_get (by simpa [pureV] using h) i h1)
  | tup cs vs hl hv ih => exact fun h => .tup cs vs hl fun i h1 h2 => ih i h1 h2 (pureL_get (by simpa [pureV] using h) i h1)
theorem VR.scalar {ρ ρ' : Place} {v : AV} {x : Value} (r : VR ρ v x) : scalarV v = true → VR ρ' v x := by
  induction r with
  | bool b => exact fun _ => .bool b
  | int k n => exact fun _ => .int k n
  | float k n => exact fun _ => .float k n
  | cplx k a b => exact fun _ => .cplx k a b
  | str s => exact fun _ => .str s
  | nilP => exact fun _ => .nilP
  | nilS => exact fun _ => .nilS
  | zslcN => exact fun _ => .zslcN
  | zslcE a => exact fun _ => .zslcE a
  | nilM => exact fun _ => .nilM
  | nilF => exact fun _ => .nilF
  | nilI => exact fun _ => .nilI
  | fnil sz => exact fun _ => .fnil sz
  | fnone sz a c => exact fun _ => .fnone sz a c
  | fslc sz es cb off cap vs hB hcap hz hc hv ih =>
    cases es with
    | nil => exact fun _ => .fnone sz _ cap
    | cons _ _ => exact fun h => by simp [scalarV] at h
  | agg cs vs hl hv ih => exact fun h => .agg cs vs hl fun i h1 h2 => ih i h1 h2 (scalarL_get (by simpa [scalarV] using h) i h1)
  | tup cs vs hl hv ih => exact fun h => .tup cs vs hl fun i h1 h2 => ih i h1 h2 (scalarL_get (by simpa [scalarV] using h) i h1)
  | _ => exact fun h => by simp [scalarV] at h
theorem VRs.pure {ρ : Place} {vs : List AV} {xs : List Value} (r : VRs ρ vs xs) (h : pureL vs = true) : VRs ρ.bare vs xs := ⟨r.1, fun i h1 h2 => (r.2 i h1 h2).pure (pureL_get h i h1)⟩

/-! ### Weaker values: σ renumbers, Φ freezes (by contents), any other block is forgotten -/
def lookN (b : Nat) : List (Nat × Nat) → Option Nat
  | [] => none
  | x :: r => if x.1 = b then some x.2 else lookN b r
def lookR (b : Nat) : List (Nat × Nat) → Option Nat
  | [] => none
  | x :: r => if x.2 = b then some x.1 else lookR b r
def lookC (b : Nat) : List (Nat × List AV) → Option (List AV)
  | [] => none
  | x :: r => if x.1 = b then some x.2 else lookC b r
mutual
def fitV (σ : List (Nat × Nat)) (Φ : List (Nat × List AV)) : AV → AV → Prop
  | .ptr b o, v' => match v' with
    | .undef => True
    | .ptr b' o' => lookN b σ = some b' ∧ o' = o
    | .fptr cs o' => lookC b Φ = some cs ∧ o' = o
    | _ => False
  | .slc b o len cap, v' => match v' with
    | .undef => True
    | .slc b' o' len' cap' => lookN b σ = some b' ∧ o' = o ∧ len' = len ∧ cap' = cap
    | .fslc sz es => (∃ cs, lookC b Φ = some cs ∧ subL o (len * sz) cs = some (flatAV es) ∧ es.length = len ∧ allSize sz es = true) ∨ (len = 0 ∧ es = [])
    | .zslc => len = 0 ∧ cap = .ex 0
    | _ => False
  | .map b, v' => match v' with
    | .undef => True
    | .map b' => lookN b σ = some b'
    | _ => False
  | .nilS, v' => match v' with
    | .undef => True
    | .nilS => True
    | .zslc => True
    | .fslc _ es => es = []
    | _ => False
  | .zslc, v' => match v' with
    | .undef => True
    | .zslc => True
    | .fslc _ es => es = []
    | _ => False
  | .eslc, v' => match v' with
    | .undef => True
    | .eslc => True
    | .fslc _ es => es = []
    | _ => False
  | .func fn a c, v' => match v' with
    | .undef => True
    | .func fn' a' c' => (fn' = fn ∧ fitL σ Φ a a' ∧ fitL σ Φ c c') ∨ (fn' = fn ∧ a' = a ∧ c' = c ∧ pureL a = true ∧ pureL c = true)
    | _ => False
  | .agg cs, v' => match v' with
    | .undef => True
    | .agg cs' => fitL σ Φ cs cs' ∨ (cs' = cs ∧ pureL cs = true)
    | _ => False
  | .tup cs, v' => match v' with
    | .undef => True
    | .tup cs' => fitL σ Φ cs cs' ∨ (cs' = cs ∧ pureL cs = true)
    | _ => False
  | v, v' => v' = .undef ∨ (v' = v ∧ pureV v = true)
def fitL (σ : List (Nat × Nat)) (Φ : List (Nat × List AV)) : List AV → List AV → Prop
  | [], l' => l' = []
  | a :: r, l' => match l' with
    | [] => False
    | a' :: r' => fitV σ Φ a a' ∧ fitL σ Φ r r'
end
theorem fitL_spec {σ : List (Nat × Nat)} {Φ : List (Nat × List AV)} : ∀ {l l' : List AV}, fitL σ Φ l l' → l'.length = l.length ∧ ∀ i (h : i < l.length) (h' : i < l'.length), fitV σ Φ l[i] l'[i]
  | [], l', h => by
    simp only [fitL] at h
    subst h
    exact ⟨rfl, fun i h => absurd h (Nat.not_lt_zero i)⟩
  | a :: r, [], h => by simp [fitL] at h
  | a :: r, a' :: r', h => by
    simp only [fitL] at h
    obtain ⟨h1, h2⟩ := fitL_spec h.2
    refine ⟨by simp [h1], fun i a b => ?_⟩
    cases i with
    | zero => exact h.1
    | succ i => exact h2 i (by simpa using a) (by simpa using b)
theorem fitV_pure {σ : List (Nat × Nat)} {Φ : List (Nat × List AV)} {v : AV} (h : pureV v = true) : fitV σ Φ v v := by
  cases v <;> simp_all [fitV, pureV]
theorem fitL_pure {σ : List (Nat × Nat)} {Φ : List (Nat × List AV)} : ∀ {l : List AV}, pureL l = true → fitL σ Φ l l
  | [], _ => by simp [fitL]
  | a :: r, h => by
    simp only [pureL, Bool.and_eq_true] at h
    simp only [fitL]
    exact ⟨fitV_pure h.1, fitL_pure h.2⟩

/-! ### What it says of the world -/
theorem sizeOf_getElem {l : List AV} {i : Nat} (h : i < l.length) : SizeOf.sizeOf l[i] < SizeOf.sizeOf l := List.sizeOf_lt_of_mem (List.getElem_mem h)
theorem sizeOf_cells {v : AV} {j : Nat} (h : j < v.cells.length) : SizeOf.sizeOf v.cells[j] ≤ SizeOf.sizeOf v := by
  cases v
  case agg cs =>
    have h' : j < cs.length := h
    have := sizeOf_getElem h'
    simp [AV.cells]; omega
  all_goals (have : j = 0 := by simp [AV.cells] at h; omega); subst this; exact Nat.le_refl _
theorem flat_getE {sz : Nat} {es : List AV} (hz : ∀ i (h : i < es.length), es[i].cells.length = sz) (i j : Nat) (hi : i < es.length) (hj : j < es[i].cells.length) :
    ∃ h : i * sz + j < (flatAV es).length, (flatAV es)[i * sz + j] = es[i].cells[j] := by
  induction es generalizing i with
  | nil => exact absurd hi (Nat.not_lt_zero i)
  | cons e r ih =>
    have hz0 : e.cells.length = sz := hz 0 (by simp)
    cases i with
    | zero =>
      have hj' : j < e.cells.length := hj
      refine ⟨by simp only [flatAV, List.length_append]; omega, ?_⟩
      simp only [flatAV, Nat.zero_mul, Nat.zero_add, List.getElem_cons_zero]
      exact List.getElem_append_left hj'
    | succ i =>
      obtain ⟨h1, h2⟩ := ih (fun k hk => hz (k + 1) (by simpa using hk)) i (by simpa using hi) hj
      have e1 : (i + 1) * sz + j = e.cells.length + (i * sz + j) := by rw [Nat.add_mul, hz0]; omega
      refine ⟨by simp only [flatAV, List.length_append]; omega, ?_⟩
      simp only [flatAV, List.getElem_cons_succ, e1]
      rw [List.getElem_append_right (by omega)]
      simpa using h2
section
variable {σ : List (Nat × Nat)} {Φ : List (Nat × List AV)} {ρ ρ' : Place} {H : Heap} {w : World}
/-- what is asked of the new place -/
structure Fits (σ : List (Nat × Nat)) (Φ : List (Nat × List AV)) (ρ ρ' : Place) (H : Heap) (w : World) : Prop where
  le : ρ.bare.le ρ'
  now : ∀ k, ρ'.B k → w.heap[k]? = ρ'.W.heap[k]?
  ren : ∀ b b', lookN b σ = some b' → ∀ l, ρ b = some l → ρ' b' = some l
  frz : ∀ b cs', lookC b Φ = some cs' → ∃ cs l, H.get b = some (.cells cs) ∧ ρ b = some l ∧ ρ'.B l.cb ∧ fitL σ Φ cs cs' ∧ pureL cs' = true
theorem Fits.slc (f : Fits σ Φ ρ ρ' H w) (sm : Sim ρ H w) (n : Nat) (ih : ∀ {v v' : AV} {x : Value}, SizeOf.sizeOf v' ≤ n → VR ρ v x → fitV σ Φ v v' → VR ρ' v' x) {b o len c sz : Nat} {es : List AV} {l : Loc} (hn : SizeOf.sizeOf (AV.fslc sz es) ≤ n + 1) (hl : ρ b = some l) (hc : len ≤ c)
    (hf : ∃ cs, lookC b Φ = some cs ∧ subL o (len * sz) cs = some (flatAV es) ∧ es.length = len ∧ allSize sz es = true) : VR ρ' (.fslc sz es) (.slice (some ⟨l.cb, l.off + o, none⟩) len c) := by
  obtain ⟨cs', h1, h2, h3, h4⟩ := hf
  obtain ⟨cs, l', g1, g2, g3, g4, g5⟩ := f.frz _ _ h1
  rw [hl] at g2; cases g2
  obtain ⟨l', hl', _, hlt, hr⟩ := sm.block g1
  rw [hl] at hl'; cases hl'
  obtain ⟨k1, k2⟩ := fitL_spec g4
  have hz := allSize_spec h4
  obtain ⟨e1, e2⟩ := subL_spec h2
  subst h3
  have key : ∀ i (hi : i < es.length) j (hj : j < es[i].cells.length), ∃ (q : o + (i * sz + j) < cs'.length), cs'[o + (i * sz + j)] = es[i].cells[j] := by
    intro i hi j hj
    obtain ⟨p1, p2⟩ := flat_getE hz i j hi hj
    have e3 : (flatAV es)[i * sz + j]? = some es[i].cells[j] := by rw [List.getElem?_eq_getElem p1, p2]
    rw [e2, List.getElem?_take] at e3
    split at e3
    · rw [List.getElem?_drop] at e3
      obtain ⟨q1, q2⟩ := List.getElem?_eq_some_iff.1 e3
      exact ⟨q1, q2⟩
    · cases e3
  refine .fslc sz es l.cb (l.off + o) c (fun i j => (ρ'.W.cell? ⟨l.cb, l.off + o + i * sz + j, none⟩).getD undef) g3 hc hz (fun i hi j hj => ?_) fun i hi j hj => ?_
  · obtain ⟨q1, q2⟩ := key i hi j (by rw [hz i hi]; exact hj)
    obtain ⟨y, hy, hyv⟩ := hr.2.2 (o + (i * sz + j)) (by omega)
    have hw : ρ'.W.cell? ⟨l.cb, l.off + o + i * sz + j, none⟩ = some y := by
      rw [← hy]; simp only [World.cell?, f.now _ g3]
      congr 1
      simp only [← Nat.add_assoc]
    rw [hw]; rfl
  · obtain ⟨q1, q2⟩ := key i hi j hj
    obtain ⟨y, hy, hyv⟩ := hr.2.2 (o + (i * sz + j)) (by omega)
    have hw : ρ'.W.cell? ⟨l.cb, l.off + o + i * sz + j, none⟩ = some y := by
      rw [← hy]; simp only [World.cell?, f.now _ g3]
      congr 1
      simp only [← Nat.add_assoc]
    rw [hw]
    have hs := sizeOf_cells hj
    have hs2 := sizeOf_getElem hi
    have := ih (v' := es[i].cells[j]) (by simp at hn; omega) hyv (by rw [← q2]; exact k2 _ (by omega) q1)
    refine this.pure ?_
    rw [← q2]; exact pureL_get g5 _ q1
theorem Fits.run (f : Fits σ Φ ρ ρ' H w) (sm : Sim ρ H w) : ∀ (n : Nat) {v v' : AV} {x : Value}, SizeOf.sizeOf v' ≤ n → VR ρ v x → fitV σ Φ v v' → VR ρ' v' x
  | 0, v, v', x, hn, _, _ => by cases v' <;> simp at hn
  | n + 1, v, v', x, hn, hv, hf => by
    have pure_ : ∀ {u : AV}, VR ρ u x → pureV u = true → VR ρ' u x := fun h1 h2 => (h1.pure h2).mono f.le
    by_cases hu : v' = .undef
    · subst hu; exact .undef x
    cases hv with
    | ptr b o l hl =>
      cases v' <;> simp only [fitV] at hf <;> try exact hf.elim
      · exact absurd rfl hu
      · obtain ⟨h1, rfl⟩ := hf
        exact .ptr _ _ l (f.ren _ _ h1 l hl)
      · rename_i cs' o'
        obtain ⟨h1, rfl⟩ := hf
        obtain ⟨cs, l', g1, g2, g3, g4, g5⟩ := f.frz _ _ h1
        rw [hl] at g2; cases g2
        obtain ⟨l', hl', _, hlt, hr⟩ := sm.block g1
        rw [hl] at hl'; cases hl'
        obtain ⟨k1, k2⟩ := fitL_spec g4
        refine .fptr cs' o' l.cb l.off (fun i => (ρ'.W.cell? ⟨l.cb, l.off + i, none⟩).getD undef) g3 (fun i hi => ?_) fun i hi => ?_
        all_goals
          obtain ⟨y, hy, hyv⟩ := hr.2.2 i (by omega)
          have hw : ρ'.W.cell? ⟨l.cb, l.off + i, none⟩ = some y := by rw [← hy]; simp only [World.cell?, f.now _ g3]
          rw [hw]
        · rfl
        · have hs := sizeOf_getElem hi
          have := Fits.run f sm n (v' := cs'[i]) (by simp at hn; omega) hyv (k2 i (by omega) hi)
          exact this.pure (pureL_get g5 i hi)
    | slcE b o len c l hl hc =>
      cases v' <;> simp only [fitV] at hf <;> try exact hf.elim
      · exact absurd rfl hu
      · obtain ⟨rfl, h2⟩ := hf
        simp only [Cap.ex.injEq] at h2
        subst h2; exact .zslcE _
      · obtain ⟨h1, rfl, rfl, rfl⟩ := hf
        exact .slcE _ _ _ c l (f.ren _ _ h1 l hl) hc
      · rcases hf with hf | ⟨rfl, rfl⟩
        · exact Fits.slc f sm n (Fits.run f sm n) hn hl hc hf
        · exact .fnone _ _ _
    | slcR b o len sz c l hl hc hfin =>
      cases v' <;> simp only [fitV] at hf <;> try exact hf.elim
      · exact absurd rfl hu
      · exact absurd hf.2 (by simp)
      · obtain ⟨h1, rfl, rfl, rfl⟩ := hf
        exact .slcR _ _ _ _ c l (f.ren _ _ h1 l hl) hc hfin
      · rcases hf with hf | ⟨rfl, rfl⟩
        · exact Fits.slc f sm n (Fits.run f sm n) hn hl hc hf
        · exact .fnone _ _ _
    | zslcN =>
      cases v' <;> simp only [fitV] at hf <;> try exact hf.elim
      · exact absurd rfl hu
      · exact .zslcN
      · subst hf; exact .fnil _
    | zslcE a =>
      cases v' <;> simp only [fitV] at hf <;> try exact hf.elim
      · exact absurd rfl hu
      · exact .zslcE a
      · subst hf; exact .fnone _ _ _
    | map b l hl =>
      cases v' <;> simp only [fitV] at hf <;> try exact hf.elim
      · exact absurd rfl hu
      · exact .map _ l (f.ren _ _ hf l hl)
    | nilS =>
      cases v' <;> simp only [fitV] at hf <;> try exact hf.elim
      · exact absurd rfl hu
      · exact .nilS
      · exact .zslcN
      · subst hf; exact .fnil _
    | eslc a c =>
      cases v' <;> simp only [fitV] at hf <;> try exact hf.elim
      · exact absurd rfl hu
      · exact .eslc _ _
      · subst hf; exact .fnone _ _ _
    | func fn a c a' c' ha hc hav hcv =>
      cases v' <;> simp only [fitV] at hf <;> try exact hf.elim
      · exact absurd rfl hu
      · rename_i fn' b d
        rcases hf with ⟨rfl, h1, h2⟩ | ⟨rfl, rfl, rfl, h1, h2⟩
        · obtain ⟨k1, k2⟩ := fitL_spec h1
          obtain ⟨m1, m2⟩ := fitL_spec h2
          refine .func _ b d a' c' (by omega) (by omega) (fun i g g' => ?_) (fun i g g' => ?_)
          · have := sizeOf_getElem g
            exact Fits.run f sm n (by simp at hn; omega) (hav i (by omega) g') (k2 i (by omega) g)
          · have := sizeOf_getElem g
            exact Fits.run f sm n (by simp at hn; omega) (hcv i (by omega) g') (m2 i (by omega) g)
        · exact pure_ (.func _ _ _ a' c' ha hc hav hcv) (by simp [pureV, h1, h2])
    | agg cs vs hl hv =>
      cases v' <;> simp only [fitV] at hf <;> try exact hf.elim
      · exact absurd rfl hu
      · rename_i ds
        rcases hf with h1 | ⟨rfl, h1⟩
        · obtain ⟨k1, k2⟩ := fitL_spec h1
          refine .agg ds vs (by omega) fun i g g' => ?_
          have := sizeOf_getElem g
          exact Fits.run f sm n (by simp at hn; omega) (hv i (by omega) g') (k2 i (by omega) g)
        · exact pure_ (.agg _ vs hl hv) (by simp [pureV, h1])
    | tup cs vs hl hv =>
      cases v' <;> simp only [fitV] at hf <;> try exact hf.elim
      · exact absurd rfl hu
      · rename_i ds
        rcases hf with h1 | ⟨rfl, h1⟩
        · obtain ⟨k1, k2⟩ := fitL_spec h1
          refine .tup ds vs (by omega) fun i g g' => ?_
          have := sizeOf_getElem g
          exact Fits.run f sm n (by simp at hn; omega) (hv i (by omega) g') (k2 i (by omega) g)
        · exact pure_ (.tup _ vs hl hv) (by simp [pureV, h1])
    | _ =>
      simp only [fitV] at hf
      rcases hf with hf | ⟨rfl, hp⟩
      · exact absurd hf hu
      · exact pure_ (by constructor <;> assumption) hp
end
end Go.Proofs.Ytpkplilgjdbhhaa
