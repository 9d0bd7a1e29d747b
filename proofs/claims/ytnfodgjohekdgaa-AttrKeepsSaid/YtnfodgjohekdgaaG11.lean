/- The table of contracts; the closed test; what is set, added, dropped. No condition. -/
import Derived.Test.YtnfodgjohekdgaaG10
namespace Go.Proofs.Ytnfodgjohekdgaa
set_option linter.unusedSimpArgs false
set_option linter.unusedVariables false
open Go Go.RowKit
set_option maxRecDepth 100000

def isTrueE : Option (AV × Heap) → Bool
  | some (.bool b, _) => b
  | _ => false
theorem awake_run : isTrueE (callN (ctx []) 200 6 [] ⟨0, []⟩) = true := by decide +kernel
theorem c6 : CallAt (ctx []) 6 [] ⟨0, []⟩ (.bool true) ⟨0, []⟩ := by
  have h := awake_run
  revert h
  cases hr : callN (ctx []) 200 6 [] ⟨0, []⟩ with
  | none => intro h; cases h
  | some r =>
    obtain ⟨v, H'⟩ := r
    intro h
    cases v <;> simp only [isTrueE] at h <;> first | (cases h; done) | skip
    subst h
    exact (call_ok mixed (mkC_ok _ _ _) 200 6 [] ⟨0, []⟩ _ _ hr).freeze (Φ := []) (by simp [fitV, pureV]) FitH.empty
noncomputable def e6 : Entry Try.prog := mkE 6 [] (fun _ : Unit => []) (fun _ => True) (fun _ => .bool true) fun _ _ => c6
theorem k6 {T : List (Entry Try.prog)} (hT : findE 6 T = some e6.g) (H : Heap) : callL (ctx T) 6 [] H = some (.bool true, H) :=
  mkE_scalar hT (fun _ _ _ => rfl) () trivial rfl rfl
noncomputable def e11 : Entry Try.prog := mkE 11 [[2], [2]] (fun x : List At1 × List At1 => [aAttrs x.1, aAttrs x.2]) (fun x => x.1.length ≤ 900 ∧ x.2.length ≤ 900) (fun x => .bool (alikeL x.1 x.2)) fun x hx => c11 (T := []) x.1 x.2 hx.1 hx.2
noncomputable def e13f : Entry Try.prog := mkE 13 [[2], []] (fun x : List At1 × At1 => [aAttrs x.1, aAttr x.2]) (fun x => x.1.length ≤ 900) (fun x => aAttrs (addL x.1 x.2)) fun x hx => (c13 (T := [e19, e22]) rfl rfl x.1 x.2 hx).froze (el_attr _)
noncomputable def e14 : Entry Try.prog := mkE 14 [[2], []] (fun x : List At1 × At1 => [aAttrs x.1, aAttr x.2]) (fun x => x.1.length ≤ 900) (fun x => aAttrs (radd x.1 x.2)) fun x hx => c14 (T := [e8]) rfl x.1 x.2 hx
noncomputable def e15 : Entry Try.prog := mkE 15 [[2], []] (fun x : List At1 × At1 => [aAttrs x.1, aAttr x.2]) (fun x => x.1.length ≤ 900) (fun x => aAttrs (setL1 x.1 x.2)) fun x hx => c15 (T := [e19, e13]) rfl rfl x.1 x.2 hx
noncomputable def e16 : Entry Try.prog := mkE 16 [[2], []] (fun x : List At1 × At1 => [aAttrs x.1, aAttr x.2]) (fun x => x.1.length ≤ 900) (fun x => aAttrs (rset x.2 x.1)) fun x hx => c16 (T := []) x.1 x.2 hx
noncomputable def e17 : Entry Try.prog := mkE 17 [[2], []] (fun x : List At1 × Str => [aAttrs x.1, .str x.2]) (fun x => x.1.length ≤ 900) (fun x => aAttrs (dropL x.2 x.1)) fun x hx => c17 (T := [e22, e24]) rfl rfl x.1 x.2 hx
noncomputable def e18 : Entry Try.prog := mkE 18 [[2], []] (fun x : List At1 × Str => [aAttrs x.1, .str x.2]) (fun x => x.1.length ≤ 900) (fun x => aAttrs (dropL x.2 x.1)) fun x hx => c18 (T := []) x.1 x.2 hx
noncomputable def TL : List (Entry Try.prog) := [e5, e6, e7, e8, e9, e10, e11, e12, e13f, e14, e15, e16, e17, e18]
section
variable {T : List (Entry Try.prog)} {L M : List At1} {a : At1} (nm : Str) (H : Heap)
theorem q11 (hT : findE 11 T = some e11.g) (hl : L.length ≤ 900) (hm : M.length ≤ 900) : callL (ctx T) 11 [aAttrs L, aAttrs M] H = some (.bool (alikeL L M), H) :=
  mkE_pure hT inj2 (L, M) ⟨hl, hm⟩ (by simp [pureL]) (by simp [thawA_ok]) H
theorem q13 (hT : findE 13 T = some e13f.g) (hl : L.length ≤ 900) : callL (ctx T) 13 [aAttrs L, aAttr a] H = some (aAttrs (addL L a), H) :=
  mkE_pure hT injA (L, a) hl (by simp [pureL]) (by simp [thawA_ok]) H
theorem q14 (hT : findE 14 T = some e14.g) (hl : L.length ≤ 900) : callL (ctx T) 14 [aAttrs L, aAttr a] H = some (aAttrs (radd L a), H) :=
  mkE_pure hT injA (L, a) hl (by simp [pureL]) (by simp [thawA_ok]) H
theorem q15 (hT : findE 15 T = some e15.g) (hl : L.length ≤ 900) : callL (ctx T) 15 [aAttrs L, aAttr a] H = some (aAttrs (setL1 L a), H) :=
  mkE_pure hT injA (L, a) hl (by simp [pureL]) (by simp [thawA_ok]) H
theorem q16 (hT : findE 16 T = some e16.g) (hl : L.length ≤ 900) : callL (ctx T) 16 [aAttrs L, aAttr a] H = some (aAttrs (rset a L), H) :=
  mkE_pure hT injA (L, a) hl (by simp [pureL]) (by simp [thawA_ok]) H
theorem q17 (hT : findE 17 T = some e17.g) (hl : L.length ≤ 900) : callL (ctx T) 17 [aAttrs L, .str nm] H = some (aAttrs (dropL nm L), H) :=
  mkE_pure hT injS (L, nm) hl (by simp [pureL, pureV]) (by simp [thawA_ok]) H
theorem q18 (hT : findE 18 T = some e18.g) (hl : L.length ≤ 900) : callL (ctx T) 18 [aAttrs L, .str nm] H = some (aAttrs (dropL nm L), H) :=
  mkE_pure hT injS (L, nm) hl (by simp [pureL, pureV]) (by simp [thawA_ok]) H
end
/-! ### The plain laws -/
theorem getAt_none {nm : Str} : ∀ {L : List At1}, getAt nm L = none ↔ ∀ a, a ∈ L → a.1 ≠ nm
  | [] => by simp [getAt]
  | a :: r => by
    unfold getAt
    split
    · rename_i h; simp [h]
    · rename_i h; rw [getAt_none]; simp [h]
theorem add_eq (L : List At1) (a : At1) : addL L a = radd L a := by
  unfold addL radd
  rcases place_spec L a.1 with ⟨h1, h2⟩ | ⟨i, hi, h1, h2, _⟩
  · rw [if_pos (by omega), getAt_none.2 h2]; simp
  · rw [if_neg (by omega)]
    have : getAt a.1 L ≠ none := fun e => getAt_none.1 e _ (List.getElem_mem hi) h2
    cases hg : getAt a.1 L with
    | none => exact absurd hg this
    | some v => simp
theorem set_eq (L : List At1) (a : At1) : setL1 L a = rset a L := by
  rcases place_spec L a.1 with ⟨h1, h2⟩ | ⟨i, hi, h1, h2, h3⟩
  · have ha : addL L a = L ++ [a] := if_pos (by omega)
    rw [rset_none h2]
    unfold setL1
    obtain ⟨i, hi, k1, k2, k3⟩ := place_add L a
    have hil : i = L.length := by
      rcases Nat.lt_or_ge i L.length with hlt | hge
      · exfalso
        have : (addL L a)[i] = L[i] := by simp only [ha]; rw [List.getElem_append_left hlt]
        rw [this] at k2
        exact h2 _ (List.getElem_mem hlt) k2
      · have : (addL L a).length = L.length + 1 := by rw [ha]; simp
        omega
    rw [k1, ha, hil]
    simp
  · have ha : addL L a = L := if_neg (by omega)
    rw [rset_found hi h3 h2]
    unfold setL1
    rw [ha, h1]
    have : (L[i].1, a.2) = a := by rw [h2]
    simp [this]
theorem get_set (L : List At1) (a : At1) : getAt a.1 (setL1 L a) = some a.2 := by
  rw [set_eq]
  induction L with
  | nil => simp [rset, getAt]
  | cons b r ih =>
    unfold rset
    split
    · rename_i h; simp [getAt, h]
    · rename_i h; simp [getAt, h, ih]
theorem get_drop (L : List At1) (nm : Str) : getAt nm (dropL nm L) = none := getAt_none.2 fun a ha => by
  have := (List.mem_filter.1 ha).2
  simpa using this
theorem alike_symm (L M : List At1) : alikeL L M = alikeL M L := by
  unfold alikeL
  have : decide (L.length = M.length) = decide (M.length = L.length) := by
    by_cases h : L.length = M.length
    · simp [h]
    · have h' : ¬ M.length = L.length := fun e => h e.symm
      simp [h, h']
  rw [this]
  cases decide (M.length = L.length) <;> cases amongL L M <;> cases amongL M L <;> rfl
theorem alike_self (L : List At1) : alikeL L L = true := by simp [alikeL, amongL]
theorem plain_len {L : List At1} (h : plainL L = true) : L.length ≤ 14 := by
  unfold plainL at h
  simp only [Bool.and_eq_true, decide_eq_true_eq] at h
  exact h.1
theorem set_len (L : List At1) (a : At1) : (setL1 L a).length ≤ L.length + 1 := by
  unfold setL1; rw [List.length_set]; exact addL_len L a
theorem drop_len (L : List At1) (nm : Str) : (dropL nm L).length ≤ L.length := List.length_filter_le _ _
end Go.Proofs.Ytnfodgjohekdgaa
