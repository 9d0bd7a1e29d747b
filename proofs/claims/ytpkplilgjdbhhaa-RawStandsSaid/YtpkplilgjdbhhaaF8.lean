/- What is handed in is of its type's shape. No condition. -/
import Derived.Test.YtpkplilgjdbhhaaF7
namespace Go.Proofs.Ytpkplilgjdbhhaa
set_option linter.unusedSimpArgs false
set_option linter.unusedVariables false
open Go Go.RowKit

/-- the fields lie side by side, each of a type that is fit -/
def okFs (ok : TypeId → Bool) (P : Program) : Nat → List Field → Option Nat
  | o, [] => some o
  | o, f :: r => match Nat.beq f.offset o && ok f.type with
    | true => okFs ok P (o + P.cellsOf f.type) r
    | false => none
/-- types of bools, integers, texts, slices, structs -/
def okTy (P : Program) : Nat → TypeId → Bool
  | 0, _ => false
  | Nat.succ n, t => match P.underlying t with
    | some .bool => Nat.beq (P.cellsOf t) 1
    | some (.int _) => Nat.beq (P.cellsOf t) 1
    | some .string => Nat.beq (P.cellsOf t) 1
    | some (.slice e) => Nat.beq (P.cellsOf t) 1 && Nat.ble 1 (P.cellsOf e) && (aggT P e).isSome && okTy P n e && (match aggT P e with
      | some false => Nat.beq (P.cellsOf e) 1
      | _ => true)
    | some (.struct fs) => match okFs (okTy P n) P 0 fs.toList with
      | some k => Nat.beq k (P.cellsOf t)
      | none => false
    | _ => false
/-- the parts of a struct -/
inductive Parts (S : TypeId → List AV → Prop) : List Field → List AV → Prop
  | nil : Parts S [] []
  | cons (f : Field) (r : List Field) (a b : List AV) (h : S f.type a) (k : Parts S r b) : Parts S (f :: r) (a ++ b)
def ShapeT (P : Program) : Nat → TypeId → List AV → Prop
  | 0, _, _ => False
  | Nat.succ n, t, as => match P.underlying t with
    | some .bool => ∃ b, as = [.bool b]
    | some (.int k) => ∃ i, as = [.int k i] ∧ (Lit.int k i).wf = true
    | some .string => ∃ s : List UInt8, as = [.str s] ∧ s.length ≤ maxLen
    | some (.slice e) => ∃ es, as = [.fslc (P.cellsOf e) es] ∧ es.length ≤ maxLen ∧ ∀ x, x ∈ es → ∃ ag cs, aggT P e = some ag ∧ wrapA ag cs = some x ∧ ShapeT P n e cs
    | some (.struct fs) => Parts (ShapeT P n) fs.toList as
    | _ => False
section
variable {W : World} {H : Type} {enc : TypeId × Value → H} {P : Program} {base : Nat} {sp : Nat → Bool} {held : Bool}
/-- a shape has just so many cells, each of them single -/
theorem shape_len : ∀ {n : Nat} {t : TypeId} {as : List AV}, okTy P n t = true → ShapeT P n t as → as.length = P.cellsOf t ∧ allSingle as = true
  | 0, _, _, h, _ => by simp [okTy] at h
  | n + 1, t, as, h, hs => by
    unfold okTy at h
    unfold ShapeT at hs
    split at h
    · rename_i hu
      rw [hu] at hs
      obtain ⟨b, rfl⟩ := hs
      exact ⟨(Nat.eq_of_beq_eq_true h).symm, rfl⟩
    · rename_i hu
      rw [hu] at hs
      obtain ⟨b, rfl, _⟩ := hs
      exact ⟨(Nat.eq_of_beq_eq_true h).symm, rfl⟩
    · rename_i hu
      rw [hu] at hs
      obtain ⟨b, rfl, _⟩ := hs
      exact ⟨(Nat.eq_of_beq_eq_true h).symm, rfl⟩
    · rename_i hu
      rw [hu] at hs
      obtain ⟨es, rfl, _⟩ := hs
      simp only [Bool.and_eq_true] at h
      exact ⟨(Nat.eq_of_beq_eq_true h.1.1.1.1).symm, rfl⟩
    · rename_i fs hu
      rw [hu] at hs
      have key : ∀ (l : List Field) (o : Nat) (as : List AV) (k : Nat), okFs (okTy P n) P o l = some k → Parts (ShapeT P n) l as → o + as.length = k ∧ allSingle as = true := by
        intro l
        induction l with
        | nil =>
          intro o as k h1 h2
          cases h2
          simp only [okFs, Option.some.injEq] at h1
          exact ⟨by simpa using h1, rfl⟩
        | cons f r ih =>
          intro o as k h1 h2
          cases h2 with
          | cons _ _ a b ha hb =>
            unfold okFs at h1
            split at h1
            · rename_i hc
              simp only [Bool.and_eq_true] at hc
              obtain ⟨l1, l2⟩ := shape_len hc.2 ha
              obtain ⟨m1, m2⟩ := ih _ _ _ h1 hb
              exact ⟨by rw [List.length_append]; omega, by rw [allSingle_append, l2, m2]; rfl⟩
            · cases h1
      split at h
      · rename_i k hk
        obtain ⟨h1, h2⟩ := key _ _ _ _ hk hs
        exact ⟨by rw [← Nat.eq_of_beq_eq_true h]; omega, h2⟩
      · cases h
    · cases h
theorem shape_run : ∀ {n : Nat} {fuel : Nat} {t : TypeId} {cs : List Value} {x : DataW H × List MemPlace}, okTy P n t = true → DataW.trod enc P W base sp held fuel t cs = some x → ∃ as, cellsA P n t x.1 = some as ∧ ShapeT P n t as
  | 0, _, _, _, _, h, _ => by simp [okTy] at h
  | n + 1, fuel, t, cs, x, h, htr => by
    have hfu : ∃ m, fuel = m + 1 := by
      cases fuel with
      | zero => simp [DataW.trod] at htr
      | succ m => exact ⟨m, rfl⟩
    obtain ⟨m, rfl⟩ := hfu
    have h' := h
    unfold okTy at h
    split at h
    · rename_i hu
      unfold DataW.trod at htr
      rw [hu] at htr
      split at htr <;> simp_all
      obtain ⟨rfl⟩ := htr
      exact ⟨_, by simp [cellsA, hu, litA]; rfl, by simp [ShapeT, hu]⟩
    · rename_i k hu
      unfold DataW.trod at htr
      rw [hu] at htr
      split at htr <;> simp_all
      obtain ⟨⟨rfl, hw⟩, rfl⟩ := htr
      exact ⟨_, by simp [cellsA, hu, litA]; rfl, by simp [ShapeT, hu, hw]⟩
    · rename_i hu
      unfold DataW.trod at htr
      rw [hu] at htr
      split at htr <;> simp_all
      obtain ⟨hw, rfl⟩ := htr
      refine ⟨_, by simp [cellsA, hu, litA]; rfl, ?_⟩
      simp only [ShapeT, hu]
      refine ⟨_, rfl, ?_⟩
      have e : ∀ s : ByteArray, s.data.toList.length = s.size := fun s => by rw [Array.length_toList]; rfl
      rw [e]; exact hw
    · rename_i e hu
      simp only [Bool.and_eq_true] at h
      obtain ⟨⟨⟨⟨_, h1⟩, h2⟩, h3⟩, h4⟩ := h
      obtain ⟨ag, hag⟩ := Option.isSome_iff_exists.1 h2
      rw [hag] at h4
      rcases DataW.trod_slice hu htr with ⟨rfl, rfl⟩ | ⟨a, len, cap, elems, rest, m', hm, rfl, rfl, hb, hl, hc, hlen, hel, _⟩
      · refine ⟨_, by simp only [cellsA, hu, Option.bind_some]; rfl, ?_⟩
        simp only [ShapeT, hu]
        exact ⟨[], rfl, Nat.zero_le _, fun x hx => by cases hx⟩
      · -- each element
        have each : ∀ y, y ∈ elems → ∃ as a, cellsA P n e y.1 = some as ∧ ShapeT P n e as ∧ wrapA ag as = some a := by
          intro y hy
          obtain ⟨i, hi, rfl⟩ := List.getElem_of_mem hy
          have hi' := hel i (by omega)
          rw [List.getElem?_eq_getElem hi] at hi'
          obtain ⟨ci, _, hti⟩ := Option.bind_eq_some_iff.1 hi'
          obtain ⟨as, q1, q2⟩ := shape_run h3 hti
          obtain ⟨l1, l2⟩ := shape_len h3 q2
          refine ⟨as, ?_⟩
          cases ag with
          | true => exact ⟨_, q1, q2, rfl⟩
          | false =>
            have h5 := Nat.eq_of_beq_eq_true h4
            rw [h5] at l1
            match as, l1, l2 with
            | [a], _, l2 =>
              refine ⟨a, q1, q2, ?_⟩
              have hs : a.single = true := by
                cases hx : a.single with
                | true => rfl
                | false => simp [allSingle, hx] at l2
              simp only [wrapA, hs]
        have all : ∀ l : List (DataW H × List MemPlace), (∀ y, y ∈ l → ∃ as a, cellsA P n e y.1 = some as ∧ ShapeT P n e as ∧ wrapA ag as = some a) →
            ∃ es, mapOpt (fun d => (cellsA P n e d).bind (wrapA ag)) (l.map (·.1)) = some es ∧ es.length = l.length ∧ ∀ x, x ∈ es → ∃ ag cs, aggT P e = some ag ∧ wrapA ag cs = some x ∧ ShapeT P n e cs := by
          intro l
          induction l with
          | nil => intro _; exact ⟨[], rfl, rfl, fun x hx => by cases hx⟩
          | cons y r ih =>
            intro hy
            obtain ⟨as, a, q1, q2, q3⟩ := hy y (by simp)
            obtain ⟨es, r1, r2, r3⟩ := ih fun z hz => hy z (by simp [hz])
            refine ⟨a :: es, by simp [mapOpt, q1, q3, r1], by simp [r2], fun x hx => ?_⟩
            rcases List.mem_cons.1 hx with rfl | hx
            · exact ⟨ag, as, hag, q3, q2⟩
            · exact r3 x hx
        obtain ⟨es, r1, r2, r3⟩ := all elems each
        have hlenes : es.length ≤ maxLen := by omega
        cases elems with
        | nil =>
          refine ⟨_, by simp only [cellsA, hu, Option.bind_some, List.map_nil]; rfl, ?_⟩
          simp only [ShapeT, hu]
          exact ⟨[], rfl, Nat.zero_le _, fun x hx => by cases hx⟩
        | cons y r =>
          have hsz : allSize (P.cellsOf e) es = true := allSize_of fun x hx => by
            obtain ⟨ag', cs', k1, k2, k3⟩ := r3 x hx
            rw [wrapA_cells k2]
            exact (shape_len h3 k3).1
          refine ⟨[.fslc (P.cellsOf e) es], ?_, ?_⟩
          · simp only [cellsA, hu, Option.bind_some, List.map_cons, hag]
            simp only [List.map_cons] at r1
            simp only [r1, Option.bind_some, hsz, h1]
          · simp only [ShapeT, hu]
            exact ⟨es, rfl, hlenes, r3⟩
    · rename_i fs hu
      unfold DataW.trod at htr
      rw [hu] at htr
      have hst : (if cs.length = P.cellsOf t then (fs.toList.mapM fun f => DataW.trod enc P W base sp held m f.type ((cs.drop f.offset).take (P.cellsOf f.type))).map fun xs => (DataW.agg (xs.map (·.1)), xs.flatMap (·.2)) else none) = some x := by
        split at htr <;> simp_all
      split at hst
      · obtain ⟨xs, hxs, rfl⟩ := Option.map_eq_some_iff.1 hst
        have key : ∀ (l : List Field) (o k : Nat) (xs : List (DataW H × List MemPlace)), okFs (okTy P n) P o l = some k → l.mapM (fun f => DataW.trod enc P W base sp held m f.type ((cs.drop f.offset).take (P.cellsOf f.type))) = some xs →
            ∃ as, partsA (cellsA P n) P o l (xs.map (·.1)) = some as ∧ Parts (ShapeT P n) l as ∧ o + as.length = k := by
          intro l
          induction l with
          | nil =>
            intro o k xs h1 h2
            simp at h2
            subst h2
            simp only [okFs, Option.some.injEq] at h1
            exact ⟨[], rfl, .nil, by simpa using h1⟩
          | cons f r ih =>
            intro o k xs h1 h2
            rw [List.mapM_cons] at h2
            obtain ⟨y, hy, h2⟩ := Option.bind_eq_some_iff.1 h2
            obtain ⟨ys, hys, h2⟩ := Option.bind_eq_some_iff.1 h2
            obtain rfl : y :: ys = xs := by simpa using h2
            unfold okFs at h1
            split at h1
            · rename_i hc
              simp only [Bool.and_eq_true] at hc
              obtain ⟨as, q1, q2⟩ := shape_run hc.2 hy
              obtain ⟨bs, r1, r2, r3⟩ := ih _ _ _ h1 hys
              obtain ⟨l1, _⟩ := shape_len hc.2 q2
              have hb : Nat.beq as.length (P.cellsOf f.type) = true := by rw [l1]; exact Nat.beq_refl _
              refine ⟨as ++ bs, ?_, .cons f r as bs q2 r2, by rw [List.length_append]; omega⟩
              simp only [List.map_cons, partsA, hc.1, q1, Option.bind_some, hb, r1]
            · cases h1
        split at h
        · rename_i k hk
          obtain ⟨as, q1, q2, q3⟩ := key _ _ _ _ hk hxs
          have hb : Nat.beq as.length (P.cellsOf t) = true := by rw [← Nat.eq_of_beq_eq_true h, ← q3, Nat.zero_add]; exact Nat.beq_refl _
          refine ⟨as, ?_, by simp only [ShapeT, hu]; exact q2⟩
          simp only [cellsA, hu, Option.bind_some, q1, hb]
        · cases h
      · cases hst
    · cases h
end
end Go.Proofs.Ytpkplilgjdbhhaa
