/- utf8.ValidString, by the shelf. No condition. -/
import Derived.Test.YtlgdgolobnbefaaGreatDoorMG
import Derived.Lib.ValidLaws
import Derived.Test.YtlgdgolobnbefaaGreatDoorMF
import Derived.Lib.TrimUEq
import Derived.Shelf.Unicode.ValidAny
import Derived.Test.YtlgdgolobnbefaaGreatDoorProg
namespace Go.Proofs.YtlgdgolobnbefaaGreatDoor
noncomputable section
set_option linter.unusedSimpArgs false
set_option linter.unusedVariables false
open Go Go.RowKit
set_option maxRecDepth 100000
def noneL : List AV → Bool
  | [] => true
  | _ :: _ => false
mutual
def fitVb (Φ : List (Nat × List AV)) : AV → AV → Bool
  | .slc b o len cap, v' => match v' with
    | .undef => true
    | .fslc sz es => (match lookC b Φ with
      | some cs => (match subL o (len * sz) cs with
        | some x => AV.beqL x (flatAV es) && Nat.beq es.length len && allSize sz es
        | none => false)
      | none => false) || (Nat.beq len 0 && noneL es)
    | _ => false
  | .ptr b o, v' => match v' with
    | .undef => true
    | .fptr cs o' => (match lookC b Φ with
      | some c => AV.beqL c cs
      | none => false) && Nat.beq o' o
    | _ => false
  | .nilS, v' => match v' with
    | .undef => true
    | .nilS => true
    | .fslc _ es => noneL es
    | _ => false
  | .fslc sz es, v' => match v' with
    | .undef => true
    | .fslc sz' es' => Nat.beq sz sz' && AV.beqL es es'
    | _ => false
  | .agg cs, v' => match v' with
    | .undef => true
    | .agg cs' => fitLb Φ cs cs'
    | _ => false
  | .tup cs, v' => match v' with
    | .undef => true
    | .tup cs' => fitLb Φ cs cs'
    | _ => false
  | .int k n, v' => match v' with
    | .undef => true
    | .int k' n' => decide (k' = k) && decide (n' = n)
    | _ => false
  | .str s, v' => match v' with
    | .undef => true
    | .str s' => eqN s' s
    | _ => false
  | .bool s, v' => match v' with
    | .undef => true
    | .bool s' => s' == s
    | _ => false
  | _, v' => match v' with
    | .undef => true
    | _ => false
def fitLb (Φ : List (Nat × List AV)) : List AV → List AV → Bool
  | [], l' => noneL l'
  | a :: r, l' => match l' with
    | [] => false
    | a' :: r' => fitVb Φ a a' && fitLb Φ r r'
end
theorem noneL_eq {l : List AV} (h : noneL l = true) : l = [] := by cases l <;> first | rfl | cases h
mutual
theorem fitVb_ok {Φ : List (Nat × List AV)} : ∀ {v v' : AV}, fitVb Φ v v' = true → fitV [] Φ v v' := by
  intro v v' h
  cases v with
  | slc b o len cap =>
    unfold fitVb at h
    unfold fitV
    cases v' <;> simp only [Bool.false_eq_true] at h ⊢
    rename_i sz es
    simp only [Bool.or_eq_true, Bool.and_eq_true] at h
    rcases h with h | h
    · left
      cases hl : lookC b Φ with
      | none => rw [hl] at h; cases h
      | some cs =>
        rw [hl] at h
        simp only at h
        cases hs : subL o (len * sz) cs with
        | none => rw [hs] at h; cases h
        | some x =>
          rw [hs] at h
          simp only [Bool.and_eq_true] at h
          exact ⟨cs, rfl, by rw [hs, AV.eqL_of_beq _ _ h.1.1], Nat.eq_of_beq_eq_true h.1.2, h.2⟩
    · exact .inr ⟨Nat.eq_of_beq_eq_true h.1, noneL_eq h.2⟩
  | fslc sz es =>
    cases v' with
    | undef => simp [fitV]
    | fslc sz' es' =>
      unfold fitVb at h
      simp only [Bool.and_eq_true] at h
      have h1 := Nat.eq_of_beq_eq_true h.1
      have h2 := AV.eqL_of_beq _ _ h.2
      subst h1; subst h2
      exact fitV_pure rfl
    | _ => simp [fitVb] at h
  | ptr b o =>
    unfold fitVb at h
    unfold fitV
    cases v' <;> simp only [Bool.false_eq_true] at h ⊢
    simp only [Bool.and_eq_true] at h
    cases hl : lookC b Φ with
    | none => rw [hl] at h; cases h.1
    | some cs =>
      rw [hl] at h
      exact ⟨by rw [AV.eqL_of_beq _ _ h.1], Nat.eq_of_beq_eq_true h.2⟩
  | nilS =>
    unfold fitVb at h
    unfold fitV
    cases v' <;> simp only [Bool.false_eq_true] at h ⊢
    exact noneL_eq h
  | agg cs =>
    unfold fitVb at h
    unfold fitV
    cases v' <;> simp only [Bool.false_eq_true] at h ⊢
    exact .inl (fitLb_ok h)
  | tup cs =>
    unfold fitVb at h
    unfold fitV
    cases v' <;> simp only [Bool.false_eq_true] at h ⊢
    exact .inl (fitLb_ok h)
  | int k n =>
    unfold fitVb at h
    unfold fitV
    cases v' <;> simp only [Bool.false_eq_true] at h ⊢
    · simp
    · simp only [Bool.and_eq_true, decide_eq_true_eq] at h
      obtain ⟨rfl, rfl⟩ := h
      exact .inr ⟨rfl, rfl⟩
  | str s =>
    unfold fitVb at h
    unfold fitV
    cases v' <;> simp only [Bool.false_eq_true] at h ⊢
    · simp
    · rw [eqN_eq, decide_eq_true_eq] at h
      subst h
      exact .inr ⟨rfl, rfl⟩
  | bool s =>
    unfold fitVb at h
    unfold fitV
    cases v' <;> simp only [Bool.false_eq_true] at h ⊢
    · simp
    · simp only [beq_iff_eq] at h
      subst h
      exact .inr ⟨rfl, rfl⟩
  | _ =>
    unfold fitVb at h
    cases v' <;> simp only [Bool.false_eq_true] at h
    simp [fitV]
theorem fitLb_ok {Φ : List (Nat × List AV)} : ∀ {l l' : List AV}, fitLb Φ l l' = true → fitL [] Φ l l' := by
  intro l l' h
  cases l with
  | nil =>
    unfold fitLb at h
    unfold fitL
    exact noneL_eq h
  | cons a r =>
    unfold fitLb at h
    unfold fitL
    cases l' with
    | nil => cases h
    | cons a' r' =>
      simp only [Bool.and_eq_true] at h
      exact ⟨fitVb_ok h.1, fitLb_ok h.2⟩
end
def undefL : Nat → List AV → List AV
  | 0, _ => []
  | _ + 1, [] => []
  | n + 1, _ :: r => .undef :: undefL n r
def undefA : List AV → List AV
  | [] => []
  | _ :: r => .undef :: undefA r
def pairsL : List AV → List AV → List (AV × AV) → List (AV × AV)
  | a :: r, b :: s, acc => (a, b) :: pairsL r s acc
  | _, _, acc => acc
def coll (H : Heap) : Nat → List (AV × AV) → List (Nat × List AV) → Option (List (Nat × List AV))
  | 0, _, _ => none
  | n + 1, todo, Φ => match todo with
    | [] => some Φ
    | x :: r => match x.1, x.2 with
      | .agg xs, .agg ys => coll H n (pairsL xs ys r) Φ
      | .tup xs, .tup ys => coll H n (pairsL xs ys r) Φ
      | .slc b o len _, .fslc sz es => match len with
        | 0 => coll H n r Φ
        | Nat.succ _ => match lookC b Φ with
          | some _ => coll H n r Φ
          | none => match H.get b with
            | some (.cells cs) => coll H n (pairsL (cs.drop o) (flatAV es) r) ((b, undefL o cs ++ flatAV es ++ undefA (cs.drop (o + len * sz))) :: Φ)
            | _ => none
      | .ptr b _, .fptr ys _ => match lookC b Φ with
        | some _ => coll H n r Φ
        | none => match H.get b with
          | some (.cells cs) => coll H n (pairsL cs ys r) ((b, ys) :: Φ)
          | _ => none
      | _, _ => coll H n r Φ
def nodupB : List Nat → Bool
  | [] => true
  | x :: r => match memT x r with
    | true => false
    | false => nodupB r
theorem memT_mem {n : Nat} : ∀ {l : List Nat}, memT n l = false → n ∉ l
  | [], _ => by simp
  | m :: r, h => by
    unfold memT at h
    split at h
    · cases h
    · rename_i hb
      have : n ≠ m := fun e => by rw [e, Nat.beq_refl] at hb; cases hb
      simp [this, memT_mem h]
theorem nodupB_ok : ∀ {l : List Nat}, nodupB l = true → l.Nodup
  | [], _ => List.nodup_nil
  | x :: r, h => by
    unfold nodupB at h
    split at h
    · cases h
    · rename_i hm
      exact List.nodup_cons.2 ⟨memT_mem hm, nodupB_ok h⟩
def frzOK (H : Heap) (Φ : List (Nat × List AV)) : List (Nat × List AV) → Bool
  | [] => true
  | x :: r => (match H.get x.1 with
    | some (.cells cs) => fitLb Φ cs x.2 && pureL x.2
    | _ => false) && frzOK H Φ r
theorem frzOK_ok {H : Heap} {Φ : List (Nat × List AV)} : ∀ {l : List (Nat × List AV)}, frzOK H Φ l = true → ∀ x, x ∈ l → ∃ cs, H.get x.1 = some (.cells cs) ∧ fitL [] Φ cs x.2 ∧ pureL x.2 = true
  | [], _, x, hx => by cases hx
  | y :: r, h, x, hx => by
    unfold frzOK at h
    simp only [Bool.and_eq_true] at h
    rcases List.mem_cons.1 hx with rfl | hx
    · have h1 := h.1
      split at h1
      · rename_i cs hg
        simp only [Bool.and_eq_true] at h1
        exact ⟨cs, hg, fitLb_ok h1.1, h1.2⟩
      · cases h1
    · exact frzOK_ok h.2 x hx
def litOK (lit : AV) : Option (AV × Heap) → Bool
  | some (v, H) => match coll H 100000 [(v, lit)] [] with
    | some Φ => nodupB (Φ.map (·.1)) && frzOK H Φ Φ && fitVb Φ v lit
    | none => false
  | none => false
theorem closedLit {T : List (Entry Tryz.prog)} {f : FuncId} {args : List AV} {lit : AV} (h : litOK lit (callN (ctx T) 100000 (.fn f) args ⟨0, []⟩) = true) : CallAt (ctx T) f args ⟨0, []⟩ lit ⟨0, []⟩ := by
  revert h
  cases hr : callN (ctx T) 100000 (.fn f) args ⟨0, []⟩ with
  | none => intro h; cases h
  | some r =>
    obtain ⟨v, H'⟩ := r
    intro h
    unfold litOK at h
    simp only at h
    cases hc : coll H' 100000 [(v, lit)] [] with
    | none => rw [hc] at h; cases h
    | some Φ =>
      rw [hc] at h
      simp only [Bool.and_eq_true] at h
      exact ((call_ok mixed (mkC_ok _ _ _) 100000).fn f args ⟨0, []⟩ _ _ hr).freeze (fitVb_ok h.2) (FitH.froze (nodupB_ok h.1.1) (frzOK_ok h.1.2))
end
end Go.Proofs.YtlgdgolobnbefaaGreatDoor
namespace Go.Proofs.YtlgdgolobnbefaaGreatDoor
set_option linter.unusedSimpArgs false
set_option linter.unusedVariables false
open Go Go.RowKit
set_option maxRecDepth 100000
abbrev enc3 : Str := [239, 191, 189]
theorem oneGo_le (s : Str) : ∀ k i lo hi, 1 ≤ i → i ≤ s.length → i ≤ (oneGo s k i lo hi).1 ∧ (oneGo s k i lo hi).1 ≤ s.length
  | 0, i, _, _, h1, h2 => ⟨Nat.le_refl _, h2⟩
  | k + 1, i, lo, hi, h1, h2 => by
    unfold oneGo
    split
    · rename_i hc
      simp only [contN, Bool.and_eq_true, decide_eq_true_eq] at hc
      obtain ⟨a, b⟩ := oneGo_le s k (i + 1) 128 191 (by omega) (by omega)
      exact ⟨by omega, b⟩
    · exact ⟨Nat.le_refl _, h2⟩
theorem oneR_le {s : Str} (h : 0 < s.length) : 1 ≤ (oneR s).1 ∧ (oneR s).1 ≤ s.length := by
  unfold oneR
  split
  · exact ⟨Nat.le_refl _, h⟩
  · split
    · exact ⟨Nat.le_refl _, h⟩
    · exact oneGo_le s _ 1 _ _ (Nat.le_refl _) h
def decStep (s : Str) : Str × Nat := if (oneR s).2 = false ∨ cN s 0 = 0 then (enc3, (oneR s).1) else if cN s 0 = 13 then ([10], if 1 < s.length ∧ cN s 1 = 10 then 2 else (oneR s).1) else (s.take (oneR s).1, (oneR s).1)
def decGo : Nat → Str → Str
  | 0, _ => []
  | k + 1, s => if s = [] then [] else (decStep s).1 ++ decGo k (s.drop (decStep s).2)
def decR (s : Str) : Str := decGo s.length s
theorem cN_drop {s : Str} {i j : Nat} : cN (s.drop i) j = cN s (i + j) := by
  unfold cN
  simp [List.getD_eq_getElem?_getD, List.getElem?_drop]
def validR (s : Str) : Bool := decide (decR s = s)
def oneN (n b0 b1 b2 b3 : Nat) : Nat × Bool :=
  if b0 < 128 then (1, true) else if moreN b0 = 0 then (1, false)
  else if ¬ (1 < n ∧ loN b0 ≤ b1 ∧ b1 ≤ hiN b0) then (1, false) else if moreN b0 = 1 then (2, true)
  else if ¬ (2 < n ∧ 128 ≤ b2 ∧ b2 ≤ 191) then (2, false) else if moreN b0 = 2 then (3, true)
  else if ¬ (3 < n ∧ 128 ≤ b3 ∧ b3 ≤ 191) then (3, false) else (4, true)
theorem oneR_N (s : Str) : oneR s = oneN s.length (cN s 0) (cN s 1) (cN s 2) (cN s 3) := by
  unfold oneR oneN
  generalize cN s 0 = c
  have h3 := moreN_le c
  have hc : ∀ i lo hi, (contN s i lo hi = true) = (i < s.length ∧ lo ≤ cN s i ∧ cN s i ≤ hi) := fun i lo hi => by simp [contN]
  obtain h | h | h | h : moreN c = 0 ∨ moreN c = 1 ∨ moreN c = 2 ∨ moreN c = 3 := by omega
  all_goals
    simp only [h, oneGo, hc, ite_not, Nat.reduceEqDiff, if_true, if_false, Nat.reduceAdd]
    try (repeat' split) <;> first | rfl | (exfalso; omega)
set_option maxHeartbeats 1000000 in
theorem one_decode (n b0 b1 b2 b3 : Nat) (hn : 1 ≤ n) (h0 : b0 < 256) (h1 : b1 < 256) (h2 : b2 < 256) (h3 : b3 < 256) :
    ((oneN n b0 b1 b2 b3).2 = false ∧ Lib.decodeN n b0 b1 b2 b3 = (65533, 1)) ∨ ((oneN n b0 b1 b2 b3).2 = true ∧ (Lib.decodeN n b0 b1 b2 b3).2 = (oneN n b0 b1 b2 b3).1 ∧ ¬ ((Lib.decodeN n b0 b1 b2 b3).1 = 65533 ∧ (Lib.decodeN n b0 b1 b2 b3).2 = 1)) := by
  by_cases ha : b0 < 128
  · exact .inr ⟨by simp [oneN, ha], by simp [oneN, Lib.decodeN, ha], by simp [Lib.decodeN, ha]; omega⟩
  rcases Lib.check_decode n b0 b1 b2 b3 hn (by omega) h0 h1 h2 h3 with ⟨g1, g2⟩ | ⟨k, hk, g1, g2⟩
  all_goals
    have cls : b0 < 194 ∨ (194 ≤ b0 ∧ b0 < 224) ∨ b0 = 224 ∨ (225 ≤ b0 ∧ b0 < 237) ∨ b0 = 237 ∨ (238 ≤ b0 ∧ b0 < 240) ∨ b0 = 240 ∨ (241 ≤ b0 ∧ b0 < 244) ∨ b0 = 244 ∨ 245 ≤ b0 := by omega
    have F : ∀ m l h x y z, moreN b0 = m → loN b0 = l → hiN b0 = h → Lib.firstT b0 % 8 = x → Lib.accLo (Lib.firstT b0 / 16) = y → Lib.accHi (Lib.firstT b0 / 16) = z → (m = 0 ∧ 4 < x ∨ m = 0 ∧ x < 2 ∨ x = m + 1 ∧ 1 ≤ m ∧ m ≤ 3 ∧ y = l ∧ z = h) →
        ((oneN n b0 b1 b2 b3).2 = false ∧ Lib.checkN n b1 b2 b3 x y z = none) ∨ ((oneN n b0 b1 b2 b3).2 = true ∧ Lib.checkN n b1 b2 b3 x y z = some (oneN n b0 b1 b2 b3).1) := by
      intro m l h x y z e1 e2 e3 _ _ _ hh
      simp only [oneN, ha, if_false, e1, e2, e3, Lib.checkN, ite_not]
      rcases hh with ⟨rfl, hx⟩ | ⟨rfl, hx⟩ | ⟨rfl, hm1, hm2, rfl, rfl⟩
      · left; simp only [if_true]; refine ⟨trivial, ?_⟩; rw [if_neg (by omega), if_neg (by omega), if_neg (by omega)]
      · left; simp only [if_true]; refine ⟨trivial, ?_⟩; rw [if_neg (by omega), if_neg (by omega), if_neg (by omega)]
      · obtain rfl | rfl | rfl : m = 1 ∨ m = 2 ∨ m = 3 := by omega
        all_goals
          simp only [Nat.reduceEqDiff, if_false, if_true, Nat.reduceAdd]
          (repeat' split) <;> first | (exfalso; omega) | (left; exact ⟨rfl, rfl⟩) | (right; exact ⟨rfl, rfl⟩)
    have G : ((oneN n b0 b1 b2 b3).2 = false ∧ Lib.checkN n b1 b2 b3 (Lib.firstT b0 % 8) (Lib.accLo (Lib.firstT b0 / 16)) (Lib.accHi (Lib.firstT b0 / 16)) = none) ∨ ((oneN n b0 b1 b2 b3).2 = true ∧ Lib.checkN n b1 b2 b3 (Lib.firstT b0 % 8) (Lib.accLo (Lib.firstT b0 / 16)) (Lib.accHi (Lib.firstT b0 / 16)) = some (oneN n b0 b1 b2 b3).1) := by
      refine F _ _ _ _ _ _ rfl rfl rfl rfl rfl rfl ?_
      have k1 : ∀ c : Fin 256, 128 ≤ c.val → (moreN c.val = 0 ∧ 4 < Lib.firstT c.val % 8 ∨ moreN c.val = 0 ∧ Lib.firstT c.val % 8 < 2 ∨ Lib.firstT c.val % 8 = moreN c.val + 1 ∧ 1 ≤ moreN c.val ∧ moreN c.val ≤ 3 ∧ Lib.accLo (Lib.firstT c.val / 16) = loN c.val ∧ Lib.accHi (Lib.firstT c.val / 16) = hiN c.val) := by decide +kernel
      exact k1 ⟨b0, h0⟩ (by simp only; omega)
    rcases G with ⟨G1, G2⟩ | ⟨G1, G2⟩
  · exact .inl ⟨G1, g2⟩
  · rw [g1] at G2; cases G2
  · rw [g1] at G2; cases G2
  · rw [g1] at G2
    simp only [Option.some.injEq] at G2
    exact .inr ⟨G1, by rw [g2, G2], by omega⟩
theorem one_dec (s : Str) (h : 0 < s.length) : ((oneR s).2 = false ∧ Lib.decodeL s = (65533, 1)) ∨ ((oneR s).2 = true ∧ (Lib.decodeL s).2 = (oneR s).1 ∧ ¬ ((Lib.decodeL s).1 = 65533 ∧ (Lib.decodeL s).2 = 1)) := by
  rw [oneR_N, Lib.decodeL_N]
  exact one_decode _ _ _ _ _ (by omega) (UInt8.toNat_lt _) (UInt8.toNat_lt _) (UInt8.toNat_lt _) (UInt8.toNat_lt _)
theorem one_high {s : Str} (h : (oneR s).2 = true) : cN s 0 < 128 ∧ (oneR s).1 = 1 ∨ 128 ≤ cN s 0 ∧ 2 ≤ (oneR s).1 ∧ (oneR s).1 ≤ s.length ∧ ∀ k, k < (oneR s).1 → 128 ≤ cN s k := by
  rw [oneR_N] at h ⊢
  unfold oneN at h ⊢
  by_cases ha : cN s 0 < 128
  · left; simp [ha]
  right
  simp only [ha, if_false] at h ⊢
  split at h
  · cases h
  rename_i hm
  rw [if_neg hm]
  have hlo : 128 ≤ loN (cN s 0) := by unfold loN; (repeat' split) <;> omega
  split at h
  · cases h
  rename_i g1
  rw [if_neg g1]
  simp only [Decidable.not_not] at g1
  have k4 : ∀ m k, k < m → m ≤ 4 → k = 0 ∨ k = 1 ∨ (2 < m ∧ k = 2) ∨ (3 < m ∧ k = 3) := fun m k h1 h2 => by omega
  split at h
  · rename_i m1
    rw [if_pos m1]
    refine ⟨by omega, by simp, by simp; omega, fun k hk => ?_⟩
    rcases k4 2 k hk (by omega) with rfl | rfl | h | h <;> omega
  rename_i m1
  rw [if_neg m1]
  split at h
  · cases h
  rename_i g2
  rw [if_neg g2]
  simp only [Decidable.not_not] at g2
  split at h
  · rename_i m2
    rw [if_pos m2]
    refine ⟨by omega, by simp, by simp; omega, fun k hk => ?_⟩
    rcases k4 3 k hk (by omega) with rfl | rfl | h | h
    · omega
    · omega
    · rw [h.2]; omega
    · omega
  rename_i m2
  rw [if_neg m2]
  split at h
  · cases h
  rename_i g3
  rw [if_neg g3]
  simp only [Decidable.not_not] at g3
  refine ⟨by omega, by simp, by simp; omega, fun k hk => ?_⟩
  rcases k4 4 k hk (by omega) with rfl | rfl | h | h
  · omega
  · omega
  · rw [h.2]; omega
  · rw [h.2]; omega
theorem mem_cN {s : Str} {c : UInt8} (h : c ∈ s) : ∃ i, i < s.length ∧ cN s i = c.toNat := by
  obtain ⟨i, hi, rfl⟩ := List.getElem_of_mem h
  exact ⟨i, hi, (cN_get hi).symm⟩
theorem cN_mem {s : Str} {i : Nat} (h : i < s.length) : ∃ c, c ∈ s ∧ c.toNat = cN s i := ⟨s[i], List.getElem_mem h, cN_get h⟩
theorem low_rest {s : Str} (n : Nat) (h : ∀ k, k < n → 128 ≤ cN s k) {m : Nat} (hm : m < 128) : (∃ i, i < s.length ∧ cN s i = m) ↔ ∃ i, i < (s.drop n).length ∧ cN (s.drop n) i = m := by
  constructor
  · rintro ⟨i, hi, hc⟩
    have : n ≤ i := by
      apply Decidable.byContradiction
      intro hn
      have := h i (by omega)
      omega
    exact ⟨i - n, by rw [List.length_drop]; omega, by rw [cN_drop, show n + (i - n) = i by omega]; exact hc⟩
  · rintro ⟨i, hi, hc⟩
    rw [List.length_drop] at hi
    exact ⟨n + i, by omega, by rw [← cN_drop]; exact hc⟩
def hasN (s : Str) (m : Nat) : Prop := ∃ i, i < s.length ∧ cN s i = m
theorem hasN_one {s : Str} (h : 0 < s.length) {m : Nat} : hasN s m ↔ cN s 0 = m ∨ hasN (s.drop 1) m := by
  constructor
  · rintro ⟨i, hi, hc⟩
    cases i with
    | zero => exact .inl hc
    | succ i => exact .inr ⟨i, by rw [List.length_drop]; omega, by rw [cN_drop, Nat.add_comm]; exact hc⟩
  · rintro (hc | ⟨i, hi, hc⟩)
    · exact ⟨0, h, hc⟩
    · rw [List.length_drop] at hi
      exact ⟨1 + i, by omega, by rw [← cN_drop]; exact hc⟩
theorem bad_enc {s : Str} (h : s = enc3 ++ s.drop 3) (h3 : 3 ≤ s.length) : (oneR s).2 = true := by
  have e : ∀ i, i < 3 → cN s i = cN enc3 i := fun i hi => by
    rw [h]
    unfold cN
    simp only [List.getD_eq_getElem?_getD]
    rw [List.getElem?_append_left (by simpa using hi)]
  have c0 := e 0 (by omega)
  have c1 := e 1 (by omega)
  have c2 := e 2 (by omega)
  rw [oneR_N, c0, c1, c2]
  have : oneN s.length (cN enc3 0) (cN enc3 1) (cN enc3 2) (cN s 3) = (3, true) := by
    have a0 : cN enc3 0 = 239 := by decide
    have a1 : cN enc3 1 = 191 := by decide
    have a2 : cN enc3 2 = 189 := by decide
    have m : moreN 239 = 2 := by decide
    have l : loN 239 = 128 := by decide
    have hh : hiN 239 = 191 := by decide
    unfold oneN
    rw [a0, a1, a2, m, l, hh, if_neg (by omega), if_neg (by omega), if_neg (by omega), if_neg (by omega), if_neg (by omega), if_pos rfl]
  rw [this]
theorem dec_fuel : ∀ (k m : Nat) (s : Str), s.length ≤ k → s.length ≤ m → decGo k s = decGo m s
  | 0, m, s, h, _ => by
    have : s = [] := List.eq_nil_of_length_eq_zero (by omega)
    subst this
    cases m <;> simp [decGo]
  | k + 1, 0, s, _, h => by
    have : s = [] := List.eq_nil_of_length_eq_zero (by omega)
    subst this
    simp [decGo]
  | k + 1, m + 1, s, h1, h2 => by
    unfold decGo
    by_cases hs : s = []
    · simp [hs]
    · rw [if_neg hs, if_neg hs]
      have hl : 0 < s.length := List.length_pos_iff.2 hs
      have hj : 1 ≤ (decStep s).2 := by
        have := (oneR_le hl).1
        unfold decStep
        (repeat' split) <;> simp only <;> omega
      rw [dec_fuel k m (s.drop (decStep s).2) (by rw [List.length_drop]; omega) (by rw [List.length_drop]; omega)]
theorem decR_step {s : Str} (hs : s ≠ []) : decR s = (decStep s).1 ++ decR (s.drop (decStep s).2) := by
  have hl : 0 < s.length := List.length_pos_iff.2 hs
  have hj : 1 ≤ (decStep s).2 := by
    have := (oneR_le hl).1
    unfold decStep
    (repeat' split) <;> simp only <;> omega
  unfold decR
  rw [dec_fuel s.length (s.length - 1 + 1) s (Nat.le_refl _) (by omega)]
  conv => lhs; unfold decGo
  rw [if_neg hs, dec_fuel (s.length - 1) (s.drop (decStep s).2).length _ (by rw [List.length_drop]; omega) (Nat.le_refl _)]
theorem valid_two : ∀ (k : Nat) (s : Str), s.length ≤ k → (decR s = s ↔ Lib.validD s = true ∧ ¬ hasN s 0 ∧ ¬ hasN s 13)
  | 0, s, h => by
    have : s = [] := List.eq_nil_of_length_eq_zero (by omega)
    subst this
    simp [decR, decGo, Lib.validD_nil, hasN]
  | k + 1, s, h => by
    by_cases hs : s = []
    · subst hs; simp [decR, decGo, Lib.validD_nil, hasN]
    have hl : 0 < s.length := List.length_pos_iff.2 hs
    have hone := oneR_le hl
    rw [decR_step hs, Lib.validD_step s hs]
    rcases one_dec s hl with ⟨g1, g2⟩ | ⟨g1, g2, g3⟩
    · rw [g2]
      simp only [and_self, if_true, Bool.false_eq_true, false_and, iff_false]
      intro he
      have hst : decStep s = (enc3, (oneR s).1) := by unfold decStep; rw [if_pos (.inl g1)]
      rw [hst] at he
      have hlen := congrArg List.length he
      simp only [List.length_append, List.length_cons, List.length_nil] at hlen
      have hd : s.drop 3 = decR (s.drop (oneR s).1) := by have := congrArg (List.drop 3) he; simpa using this.symm
      have : (oneR s).2 = true := bad_enc (by rw [hd]; exact he.symm) (by omega)
      rw [g1] at this; cases this
    · rw [if_neg g3, g2]
      have hdl : (s.drop (oneR s).1).length ≤ k := by rw [List.length_drop]; omega
      have ih := valid_two k (s.drop (oneR s).1) hdl
      by_cases h0 : cN s 0 = 0
      · have hst : decStep s = (enc3, (oneR s).1) := by unfold decStep; rw [if_pos (.inr h0)]
        rw [hst]
        constructor
        · intro he
          have hc : cN s 0 = 239 := by rw [← he]; rfl
          omega
        · exact fun ⟨_, hn, _⟩ => absurd ⟨0, hl, h0⟩ hn
      by_cases h13 : cN s 0 = 13
      · constructor
        · intro he
          have hst : (decStep s).1 = [10] := by unfold decStep; rw [if_neg (by simp [g1, h0]), if_pos h13]
          rw [hst] at he
          have hc : cN s 0 = 10 := by rw [← he]; rfl
          omega
        · exact fun ⟨_, _, hn⟩ => absurd ⟨0, hl, h13⟩ hn
      have hst : decStep s = (s.take (oneR s).1, (oneR s).1) := by unfold decStep; rw [if_neg (by simp [g1, h0]), if_neg h13]
      rw [hst]
      have e1 : (s.take (oneR s).1 ++ decR (s.drop (oneR s).1) = s) ↔ decR (s.drop (oneR s).1) = s.drop (oneR s).1 := by
        constructor
        · intro he
          have : s.take (oneR s).1 ++ decR (s.drop (oneR s).1) = s.take (oneR s).1 ++ s.drop (oneR s).1 := by rw [List.take_append_drop]; exact he
          exact List.append_cancel_left this
        · intro he; rw [he, List.take_append_drop]
      simp only
      rw [e1, ih]
      rcases one_high g1 with ⟨q1, q2⟩ | ⟨q1, q2, q3, q4⟩
      · rw [q2]
        have a0 := hasN_one hl (m := 0)
        have a1 := hasN_one hl (m := 13)
        rw [a0, a1]
        simp [h0, h13]
      · have a0 : hasN s 0 ↔ hasN (s.drop (oneR s).1) 0 := low_rest _ q4 (by omega)
        have a1 : hasN s 13 ↔ hasN (s.drop (oneR s).1) 13 := low_rest _ q4 (by omega)
        rw [a0, a1]
@[simp] theorem szT21 : sizeT Tryz.prog 21 = some 1 := rfl
@[simp] theorem agT21 : aggT Tryz.prog 21 = some false := rfl
@[simp] theorem byT21 : bytesT Tryz.prog 21 = some 4 := rfl
@[simp] theorem alT21 (H : Heap) : alV Tryz.prog H 21 = some (.ptr H.n 0, H.new (.cells [.int .i32 0])) := rfl
@[simp] theorem zeT21 : zeroOf Tryz.prog 21 = some (.int .i32 0) := rfl
attribute [simp] Tryz.underlying21
@[simp 500] theorem rvF21 (H : Heap) (cs : List AV) (o : Nat) : readVar Tryz.prog H 21 (.fptr cs o) = getL cs o := rfl
@[simp 500] theorem rvP21 (H : Heap) (b o : Nat) : readVar Tryz.prog H 21 (.ptr b o) = (H.get b).bind fun k => k.rd.bind fun cs => getL cs o := rfl
@[simp] theorem szT132 : sizeT Tryz.prog 132 = some 1 := rfl
@[simp] theorem agT132 : aggT Tryz.prog 132 = some false := rfl
@[simp] theorem byT132 : bytesT Tryz.prog 132 = some 24 := rfl
@[simp] theorem alT132 (H : Heap) : alV Tryz.prog H 132 = some (.ptr H.n 0, H.new (.cells [.nilS])) := rfl
@[simp] theorem zeT132 : zeroOf Tryz.prog 132 = some (.nilS) := rfl
attribute [simp] Tryz.underlying132
@[simp 500] theorem rvF132 (H : Heap) (cs : List AV) (o : Nat) : readVar Tryz.prog H 132 (.fptr cs o) = getL cs o := rfl
@[simp 500] theorem rvP132 (H : Heap) (b o : Nat) : readVar Tryz.prog H 132 (.ptr b o) = (H.get b).bind fun k => k.rd.bind fun cs => getL cs o := rfl
@[simp] theorem slz132 (sz : Nat) (e : AV) (r : List AV) : binA Tryz.prog .eql 132 (.fslc sz (e :: r)) .nilS = some (.bool false) := rfl
@[simp] theorem sln132 (sz : Nat) (e : AV) (r : List AV) : binA Tryz.prog .neq 132 (.fslc sz (e :: r)) .nilS = some (.bool true) := rfl
@[simp] theorem slze132 : binA Tryz.prog .eql 132 .eslc .nilS = some (.bool false) := rfl
@[simp] theorem slzz132 : binA Tryz.prog .eql 132 .nilS .nilS = some (.bool true) := rfl
@[simp] theorem szT134 : sizeT Tryz.prog 134 = some 2 := rfl
@[simp] theorem agT134 : aggT Tryz.prog 134 = some true := rfl
@[simp] theorem byT134 : bytesT Tryz.prog 134 = some 16 := rfl
@[simp] theorem alT134 (H : Heap) : alV Tryz.prog H 134 = some (.ptr H.n 0, H.new (.cells [.int .i64 0, .int .i64 0])) := rfl
@[simp] theorem zeT134 : zeroOf Tryz.prog 134 = some (.agg [.int .i64 0, .int .i64 0]) := rfl
attribute [simp] Tryz.underlying134
@[simp 500] theorem rvF134 (H : Heap) (cs : List AV) (o : Nat) : readVar Tryz.prog H 134 (.fptr cs o) = (subL o 2 cs).bind fun cs => some (.agg cs) := rfl
@[simp 500] theorem rvP134 (H : Heap) (b o : Nat) : readVar Tryz.prog H 134 (.ptr b o) = (readCells H b o 2).bind fun cs => some (.agg cs) := rfl
@[simp] theorem fa134_0 (x : AV) : fieldAddrA Tryz.prog 134 x 0 = (match x with | .ptr b o => some (.ptr b (o + 0)) | .fptr cs o => some (.fptr cs (o + 0)) | _ => none) := rfl
@[simp] theorem fd134_0 (cs : List AV) : fieldA Tryz.prog 134 (.agg cs) 0 = getL cs 0 := rfl
@[simp] theorem fa134_1 (x : AV) : fieldAddrA Tryz.prog 134 x 1 = (match x with | .ptr b o => some (.ptr b (o + 1)) | .fptr cs o => some (.fptr cs (o + 1)) | _ => none) := rfl
@[simp] theorem fd134_1 (cs : List AV) : fieldA Tryz.prog 134 (.agg cs) 1 = getL cs 1 := rfl
theorem c64 {T : List (Entry Tryz.prog)} (hS : findE 36 T = some e36.g) (c : UInt8) (hc : c.toNat < 128) : CallAt (ctx T) 64 [.int .i32 (c.toNat : Int)] ⟨0, []⟩ (.bool (sp c)) ⟨0, []⟩ := by
  have ks := fun H => k36 hS c H
  have h1 : (c.toNat : Int) < 128 := by omega
  have hw : IntKind.u8.wrap (c.toNat : Int) = (c.toNat : Int) := by
    simp [IntKind.wrap, IntKind.signed, IntKind.bits]
    omega
  have hcv : ∀ H, convA Tryz.prog H 21 5 (.int .i32 (c.toNat : Int)) = some (.int .u8 (c.toNat : Int), H) := fun H => by simp [convA, hw]
  refine callAt_body (fn := Tryz.f64) (s0 := ⟨[0, 2], [.int .i32 (c.toNat : Int), .undef], [], 10, ⟨0, [[]]⟩⟩) Tryz.func64 rfl rfl rfl ?_
  repeat refine wps_seq ?_
  refine wps_region callOK ?_
  simp [zS]
  repeat refine wps_seq ?_
  refine wps_region callOK ?_
  simp [zS, h1, hcv, ks]
  repeat refine wps_seq ?_
  refine wps_ret ?_
  simp [retVal, Tryz.f64, oneOr, thenQ, blockQ]
  exact ends_pure rfl (by rfl)
end Go.Proofs.YtlgdgolobnbefaaGreatDoor
namespace Go.Proofs.YtlgdgolobnbefaaGreatDoor
noncomputable section
set_option linter.unusedSimpArgs false
set_option linter.unusedVariables false
open Go Go.RowKit
def shrB (k k' : Blk) : Prop := k = k' ∨ ∃ cs G, k = .cells (cs ++ G) ∧ k' = .cells cs
def shrL : List (Nat × Blk) → List (Nat × Blk) → Prop
  | [], [] => True
  | e :: r, e' :: r' => e.1 = e'.1 ∧ shrB e.2 e'.2 ∧ shrL r r'
  | _, _ => False
theorem shrL_refl : ∀ (l : List (Nat × Blk)), shrL l l
  | [] => trivial
  | e :: r => ⟨rfl, .inl rfl, shrL_refl r⟩
theorem shrL_ids : ∀ {l l' : List (Nat × Blk)}, shrL l l' → l'.map (·.1) = l.map (·.1)
  | [], [], _ => rfl
  | e :: r, e' :: r', h => by simp [h.1, shrL_ids h.2.2]
  | [], _ :: _, h => h.elim
  | _ :: _, [], h => h.elim
theorem shrL_mem : ∀ {l l' : List (Nat × Blk)} {e' : Nat × Blk}, shrL l l' → e' ∈ l' → ∃ e, e ∈ l ∧ e.1 = e'.1 ∧ shrB e.2 e'.2
  | e :: r, e1 :: r', e', h, he => by
    rcases List.mem_cons.1 he with rfl | he
    · exact ⟨e, by simp, h.1, h.2.1⟩
    · obtain ⟨x, h1, h2⟩ := shrL_mem h.2.2 he
      exact ⟨x, by simp [h1], h2⟩
  | [], [], _, _, he => by cases he
  | [], _ :: _, _, h, _ => h.elim
  | _ :: _, [], _, h, _ => h.elim
structure Shr (H H' : Heap) : Prop where
  n : H'.n = H.n
  l : shrL H.ents H'.ents
theorem BlkR.shr {ρ : Place} {w : World} {l : Loc} {k k' : Blk} (r : BlkR ρ w l k) (h : shrB k k') : BlkR ρ w l k' := by
  rcases h with rfl | ⟨cs, G, rfl, rfl⟩
  · exact r
  · refine ⟨by have := r.1; simp at this; omega, r.2.1, fun i hi => ?_⟩
    have h2 := r.2.2 i (by simp; omega)
    rwa [List.getElem_append_left hi] at h2
theorem Sim.shr {ρ : Place} {H H' : Heap} {w : World} (s : Sim ρ H w) (h : Shr H H') : Sim ρ H' w where
  base := s.base
  below := s.below
  os := s.os
  tape := s.tape
  output := s.output
  dom := fun b hb => s.dom b (by rw [← h.n]; exact hb)
  nodup := by rw [shrL_ids h.l]; exact s.nodup
  live := fun e' he' => by
    obtain ⟨e, he, h1, h2⟩ := shrL_mem h.l he'
    obtain ⟨l, hl, hb, hlt, hr⟩ := s.live e he
    exact ⟨l, by rw [← h1]; exact hl, hb, hlt, hr.shr h2⟩
  inj := fun e1 e2 h1 h2 l1 l2 k1 k2 hcb => by
    obtain ⟨a1, ha1, b1, _⟩ := shrL_mem h.l h1
    obtain ⟨a2, ha2, b2, _⟩ := shrL_mem h.l h2
    rw [← b1, ← b2]
    exact s.inj a1 a2 ha1 ha2 l1 l2 (by rw [b1]; exact k1) (by rw [b2]; exact k2) hcb
theorem Step.shr {ρ : Place} {H H' : Heap} {w : World} (s : Sim ρ H w) (h : Shr H H') : Step ρ H w ρ H' w where
  le := Place.le_refl ρ
  size := Nat.le_refl _
  keeps := fun _ _ _ => rfl
  rows := fun e' he' l' hl' => by
    obtain ⟨e, he, h1, _⟩ := shrL_mem h.l he'
    exact .inl ⟨e, he, l', by rw [h1]; exact hl', rfl⟩
  num := Nat.le_of_eq h.n.symm
  low := fun _ _ => rfl
  cold := fun _ h => .inl h
theorem At.shr {b : Base} {s : St} {a : Act} {w : World} {H' : Heap} (h : At b s a w) (k : Shr s.H H') : At b (s.wH H') a w := by
  obtain ⟨ρ, h1, h2, h3, h4⟩ := h
  obtain ⟨ks, vs, ts, sz, H⟩ := s
  exact ⟨ρ, h1.step (Step.shr h2 k), h2.shr k, ⟨h3.1, h3.2⟩, h4.step (Step.shr h2 k)⟩
theorem WpSr.shr {C : Ctx} {n : Nat} {r : Option Nat} {c : Code} {s : St} {Q : Out → St → Prop} {H' : Heap} (k : Shr s.H H') (h : WpSr C n r c (s.wH H') Q) : WpSr C n r c s Q :=
  fun b a w hb ha K hK => h b a w hb (ha.shr k) K hK
def FitS (n : Nat) (σ : List (Nat × Nat)) (Φ : List (Nat × List AV)) (s s' : St) : Prop := ∃ H', Shr s.H H' ∧ Fit n σ Φ (s.wH H') s'
theorem Fit.s {n : Nat} {σ : List (Nat × Nat)} {Φ : List (Nat × List AV)} {s s' : St} (h : Fit n σ Φ s s') : FitS n σ Φ s s' := by
  obtain ⟨ks, vs, ts, sz, H⟩ := s
  exact ⟨H, ⟨rfl, shrL_refl _⟩, h⟩
section
variable {σ : List (Nat × Nat)} {Φ : List (Nat × List AV)} {ρ : Place} {H H1 : Heap} {w : World}
theorem FitH.step (f : FitH H.n σ Φ H H1) (sm : Sim ρ H w) : Step ρ H w (newPlace H.n σ Φ ρ w sm.below) H1 w where
  le := ⟨fun b l hb => by
    have hlt : b < H.n := by
      rcases Nat.lt_or_ge b H.n with h | h
      · exact h
      · rw [sm.dom b h] at hb; cases hb
    show (if b < H.n then ρ b else _) = _
    rw [if_pos hlt]; exact hb, fun k hk => ⟨.inl hk, sm.below k hk⟩, sm.os, sm.tape, sm.output⟩
  size := Nat.le_refl _
  keeps := fun _ _ _ => rfl
  rows := fun e he l hl => by
    obtain ⟨c, k, h1, h2, _⟩ := f.src e he
    rw [newPlace_at f h1] at hl
    exact .inl ⟨_, Heap.get_mem h2, l, hl, rfl⟩
  num := f.num
  low := fun b hb => by
    show (if b < H.n then ρ b else _) = _
    rw [if_pos hb]
  cold := fun k hk => by
    rcases hk with hk | ⟨c, cs, l, h1, h2, rfl⟩
    · exact .inl hk
    · obtain ⟨cs0, g1, _⟩ := f.frz _ h1
      exact .inr (.inl ⟨_, Heap.get_mem g1, l, h2, rfl⟩)
theorem CallAt.drop {C : Ctx} {f : FuncId} {args args' : List AV} {v : AV} {H' : Heap} (h : CallAt C f args' H1 v H') (fh : (H.ents.map (·.1)).Nodup → FitH H.n σ Φ H H1) (hf : fitL σ Φ args args') : CallAt C f args H v H' := by
  intro ρ w xs sm hx
  have f := fh sm.nodup
  have hx' : VRs (newPlace H.n σ Φ ρ w sm.below) args' xs := by
    obtain ⟨k1, k2⟩ := fitL_spec hf
    refine ⟨by rw [hx.1, k1], fun i h1 h2 => ?_⟩
    exact Fits.run (f.fits sm) sm _ (Nat.le_refl _) (hx.2 i (by omega) h2) (k2 i (by omega) h1)
  have st := f.step sm
  rcases h _ w xs (f.sim sm (Nat.le_refl _)) hx' with ⟨x, ρ', w', h0, h1, h2, h3⟩ | ⟨g, ys, h0, h1⟩
  · exact .inl ⟨x, ρ', w', h0, h1, h2, st.trans h3⟩
  · refine .inr ⟨g, ys, h0, h1.mono ?_⟩
    rintro e w' ⟨x, ρ', rfl, m1, m2, m3⟩
    exact ⟨x, ρ', rfl, m1, m2, st.trans m3⟩
end
structure RgA where
  C : Ctx
  call : CallE
  ops : Array Oper
  bef : Array Nat
  base : Nat
  H0 : Heap
open Classical in
section
variable {A : RgA} {i : Nat} {o : Oper} {r : List Oper} {s s' : St} {ps : List Pend} {v : AV} {H : Heap}
open Classical in
end
structure InvA (A : RgA) (d : DrawSt) (s : St) (ps : List Pend) : Prop where
  s_ : d.s = s
  H_ : s.H = A.H0
  ps : d.ps = ps
  hs : ∀ h, h ∈ d.hs → h.2 = A.H0
  rs : ∀ x, x ∈ d.rs → ∃ y, evalVal A.C A.call x.o { x.s with H := A.H0 } = some y ∧ y.1 = x.v
end
end Go.Proofs.YtlgdgolobnbefaaGreatDoor
namespace Go.Proofs.YtlgdgolobnbefaaGreatDoor
set_option linter.unusedSimpArgs false
set_option linter.unusedVariables false
open Go Go.RowKit
set_option maxRecDepth 100000
def asciiB (s : Str) : Prop := ∀ c, c ∈ s → c.toNat < 128
theorem dec_ascii {s : Str} {i : Nat} (h : i < s.length) (hc : s[i].toNat < 128) : Utf8.decode ⟨s.toArray⟩ i = (s[i].toNat, 1) := by
  have h0 : (ByteArray.get! ⟨s.toArray⟩ (i + 0)).toNat = s[i].toNat := by
    show (s.toArray[i + 0]!).toNat = _
    simp [h]
  unfold Utf8.decode
  simp only [h0, hc, if_true]
def spnC (L : List (Nat × Nat)) : List AV := L.flatMap fun p => [.int .i64 (p.1 : Int), .int .i64 (p.2 : Int)]
def spn (p : Nat × Nat) : AV := .agg [.int .i64 (p.1 : Int), .int .i64 (p.2 : Int)]
def zeros (n : Nat) : List AV := List.replicate n (.int .i64 0)
def spV (n : Nat) : AV := if n ≤ 32 then .slc 0 0 n (.ex 32) else .slc 0 0 n (.rest 2)
def spB (L : List (Nat × Nat)) : List AV := if L.length ≤ 32 then spnC L ++ zeros (64 - 2 * L.length) else spnC L
theorem spnC_len (L : List (Nat × Nat)) : (spnC L).length = 2 * L.length := by
  induction L with
  | nil => rfl
  | cons a r ih => simp only [spnC, List.flatMap_cons, List.length_append, List.length_cons, List.length_nil] at ih ⊢; omega
theorem spnC_app (L : List (Nat × Nat)) (p : Nat × Nat) : spnC (L ++ [p]) = spnC L ++ [.int .i64 (p.1 : Int), .int .i64 (p.2 : Int)] := by simp [spnC]
theorem spnC_pure (L : List (Nat × Nat)) : pureL (spnC L) = true := by
  induction L with
  | nil => rfl
  | cons a r ih =>
    have : spnC (a :: r) = [.int .i64 (a.1 : Int), .int .i64 (a.2 : Int)] ++ spnC r := rfl
    rw [this, pureL_append, ih]; rfl
theorem zeros_pure (n : Nat) : pureL (zeros n) = true := by
  induction n with
  | zero => rfl
  | succ n ih => simp only [zeros, List.replicate_succ] at ih ⊢; simp [pureL, pureV, ih]
theorem spB_pure (L : List (Nat × Nat)) : pureL (spB L) = true := by
  unfold spB
  split
  · rw [pureL_append, spnC_pure, zeros_pure]; rfl
  · exact spnC_pure L
theorem flat_spn (L : List (Nat × Nat)) : flatAV (L.map spn) = spnC L := by
  induction L with
  | nil => rfl
  | cons a r ih => simp only [List.map_cons, flatAV, ih]; rfl
theorem el_spn (L : List (Nat × Nat)) : Elems 2 (L.map spn) := .map (sz := 2) (f := spn) (by decide) (fun x => ⟨rfl, rfl, fun h => absurd h (by decide), fun _ => ⟨_, rfl⟩⟩) L
theorem sub_spB (L : List (Nat × Nat)) : subL 0 (L.length * 2) (spB L) = some (spnC L) := by
  have h : (spnC L).length = L.length * 2 := by rw [spnC_len]; omega
  unfold spB
  split
  · rw [subL_front (by simp; omega), List.drop_zero, List.take_append_of_le_length (by omega), List.take_of_length_le (by omega)]
  · rw [subL_front (by omega), List.drop_zero, List.take_of_length_le (by omega)]
theorem app_sp {L : List (Nat × Nat)} {p : Nat × Nat} {I : Blk} (hl : L.length ≤ 1000000) :
    ∃ b m f, b ≠ 1 ∧ appendA Tryz.prog ⟨3, [[(2, .cells [.int .i64 (p.1 : Int), .int .i64 (p.2 : Int)]), (1, I), (0, .cells (spB L))]]⟩ 134 (spV L.length) (.slc 2 0 1 (.ex 1)) =
      some ((if L.length + 1 ≤ 32 then .slc b 0 (L.length + 1) (.ex 32) else .slc b 0 (L.length + 1) (.rest 2)), ⟨m, f⟩) ∧ Heap.get ⟨m, f⟩ 1 = some I ∧ Heap.get ⟨m, f⟩ b = some (.cells (spB (L ++ [p]))) := by
  have hcs : ∀ H : Heap, Heap.get H 2 = some (.cells [.int .i64 (p.1 : Int), .int .i64 (p.2 : Int)]) → srcCells H 2 1 (.slc 2 0 1 (.ex 1)) = some [.int .i64 (p.1 : Int), .int .i64 (p.2 : Int)] := fun H h => by
    simp [srcCells, readCells, h]
  have g0 : Heap.get ⟨3, [[(2, .cells [.int .i64 (p.1 : Int), .int .i64 (p.2 : Int)]), (1, I), (0, .cells (spB L))]]⟩ 0 = some (.cells (spB L)) := by simp [Heap.get, getFs, getF]
  have hsrc := hcs ⟨3, [[(2, .cells [.int .i64 (p.1 : Int), .int .i64 (p.2 : Int)]), (1, I), (0, .cells (spB L))]]⟩ (by simp [Heap.get, getFs, getF])
  have hroom : roomOK (L.length + 1) 16 = true := by unfold roomOK; rw [Nat.ble_eq]; omega
  have hrow : ∀ cs, rowA Tryz.prog 134 cs = .cells cs := fun cs => rfl
  have h64 : (spnC L).length = 2 * L.length := spnC_len L
  have hlen1 : (L ++ [p]).length = L.length + 1 := by simp
  by_cases h1 : L.length + 1 ≤ 32
  · have hv : spV L.length = .slc 0 0 L.length (.ex 32) := by unfold spV; rw [if_pos (by omega)]
    have hb : Nat.ble (L.length + 1) 32 = true := by rw [Nat.ble_eq]; exact h1
    have hB : spB L = spnC L ++ zeros 2 ++ zeros (62 - 2 * L.length) := by
      unfold spB
      rw [if_pos (by omega), List.append_assoc]
      congr 1
      simp only [zeros]; rw [List.replicate_append_replicate]; congr 1; omega
    have hB2 : spB (L ++ [p]) = spnC L ++ [.int .i64 (p.1 : Int), .int .i64 (p.2 : Int)] ++ zeros (62 - 2 * L.length) := by
      unfold spB
      rw [hlen1, if_pos h1, spnC_app]
      congr 2
      omega
    have hlay : layL [.int .i64 (p.1 : Int), .int .i64 (p.2 : Int)] (0 + L.length * 2) (spB L) = some (spB (L ++ [p])) := by
      have := layL_app (a := spnC L) (b := zeros 2) (b' := [.int .i64 (p.1 : Int), .int .i64 (p.2 : Int)]) (c := zeros (62 - 2 * L.length)) rfl
      rw [h64] at this
      rw [hB, hB2, show 0 + L.length * 2 = 2 * L.length by omega, this]
    refine ⟨0, 3, [[(2, .cells [.int .i64 (p.1 : Int), .int .i64 (p.2 : Int)]), (1, I), (0, .cells (spB (L ++ [p])))]], by omega, ?_, by simp [Heap.get, getFs, getF], by simp [Heap.get, getFs, getF]⟩
    rw [if_pos h1, hv]
    unfold appendA
    simp only [szT134, byT134, zeT134, Option.bind_some, srcLen, hsrc, hroom, hb]
    simp only [writeCells, g0, Option.bind_some, Blk.wt, hlay, Blk.re]
    simp [Heap.ready, refs, Heap.set, setFs, setF, allSingle, AV.single]
    rfl
  · have hB2 : spB (L ++ [p]) = spnC L ++ [.int .i64 (p.1 : Int), .int .i64 (p.2 : Int)] := by
      unfold spB
      rw [hlen1, if_neg h1, spnC_app]
    have hread : readCells ⟨3, [[(2, .cells [.int .i64 (p.1 : Int), .int .i64 (p.2 : Int)]), (1, I), (0, .cells (spB L))]]⟩ 0 0 (L.length * 2) = some (spnC L) := by
      unfold readCells
      simp only [g0, Option.bind_some, rd_cells]
      exact sub_spB L
    by_cases h2 : L.length = 32
    · have hv : spV L.length = .slc 0 0 L.length (.ex 32) := by unfold spV; rw [if_pos (by omega)]
      have hb : Nat.ble (L.length + 1) 32 = false := by rw [← Bool.not_eq_true, Nat.ble_eq]; exact h1
      refine ⟨3, 4, [[(3, .cells (spB (L ++ [p]))), (2, .cells [.int .i64 (p.1 : Int), .int .i64 (p.2 : Int)]), (1, I), (0, .cells (spB L))]], by omega, ?_, by simp [Heap.get, getFs, getF], by simp [Heap.get, getFs, getF]⟩
      rw [if_neg h1, hv, hB2]
      unfold appendA
      simp only [szT134, byT134, zeT134, Option.bind_some, srcLen, hsrc, hroom, hb, hread, hrow]
      simp [Heap.new, pushF, allSingle, AV.single]
      rfl
    · have hv : spV L.length = .slc 0 0 L.length (.rest 2) := by unfold spV; rw [if_neg (by omega)]
      have hB : spB L = spnC L := by unfold spB; rw [if_neg (by omega)]
      have hk : knownCells ⟨3, [[(2, .cells [.int .i64 (p.1 : Int), .int .i64 (p.2 : Int)]), (1, I), (0, .cells (spB L))]]⟩ 0 = some (2 * L.length) := by
        rw [knownCells, g0, hB]; simp [h64]
      have hb1 : Nat.ble (0 + (L.length + 1) * 2) (2 * L.length) = false := by rw [← Bool.not_eq_true, Nat.ble_eq]; omega
      have hb2 : Nat.beq (0 + L.length * 2) (2 * L.length) = true := by rw [show 0 + L.length * 2 = 2 * L.length by omega]; exact Nat.beq_refl _
      refine ⟨3, 4, [[(3, .cells (spB (L ++ [p]))), (2, .cells [.int .i64 (p.1 : Int), .int .i64 (p.2 : Int)]), (1, I)]], by omega, ?_, by simp [Heap.get, getFs, getF], by simp [Heap.get, getFs, getF]⟩
      rw [if_neg h1, hv, hB2]
      unfold appendA
      simp only [szT134, byT134, zeT134, Option.bind_some, srcLen, hsrc, hroom, hk, hb1, hb2, hread, g0, goOn_cells]
      simp [Heap.new, pushF, allSingle, AV.single, Heap.drop, killFs, getF, killF]
      rfl
def hasB (p : Nat → Bool) (s : Str) : Bool := s.any fun c => p c.toNat
theorem hasB_iff {p : Nat → Bool} {s : Str} : hasB p s = true ↔ ∃ i, i < s.length ∧ p (cN s i) = true := by
  unfold hasB
  rw [List.any_eq_true]
  constructor
  · rintro ⟨c, hc, hp⟩
    obtain ⟨i, h1, h2⟩ := mem_cN hc
    exact ⟨i, h1, by rw [h2]; exact hp⟩
  · rintro ⟨i, hi, hp⟩
    obtain ⟨c, h1, h2⟩ := cN_mem hi
    exact ⟨c, h1, by rw [h2]; exact hp⟩
def rIdx (p : Nat → Bool) : Nat → Str → Nat → Int
  | 0, _, _ => -1
  | k + 1, s, pos => if s = [] then -1 else if p (Lib.decodeL s).1 = true then pos else rIdx p k (s.drop (Lib.decodeL s).2) (pos + (Lib.decodeL s).2)
theorem rune_high {n b0 b1 b2 b3 : Nat} (h : 128 ≤ b0) : 128 ≤ (Lib.decodeN n b0 b1 b2 b3).1 := by
  unfold Lib.decodeN
  (repeat' split) <;> simp only <;> omega
theorem dec_cases {s : Str} (h : 0 < s.length) : cN s 0 < 128 ∧ Lib.decodeL s = (cN s 0, 1) ∨ 128 ≤ cN s 0 ∧ 128 ≤ (Lib.decodeL s).1 ∧ 1 ≤ (Lib.decodeL s).2 ∧ (Lib.decodeL s).2 ≤ s.length ∧ ∀ k, k < (Lib.decodeL s).2 → 128 ≤ cN s k := by
  by_cases ha : cN s 0 < 128
  · left
    refine ⟨ha, ?_⟩
    rw [Lib.decodeL_N]
    exact Lib.decodeN_ascii _ _ _ _ _ ha
  right
  have hi : 128 ≤ (Lib.decodeL s).1 := by rw [Lib.decodeL_N]; exact rune_high (by show 128 ≤ cN s 0; omega)
  refine ⟨by omega, hi, ?_⟩
  rcases one_dec s h with ⟨g1, g2⟩ | ⟨g1, g2, g3⟩
  · rw [g2]
    refine ⟨Nat.le_refl _, h, fun k hk => ?_⟩
    have : k = 0 := by simp only at hk; omega
    subst this; omega
  · rw [g2]
    rcases one_high g1 with ⟨q1, _⟩ | ⟨q1, q2, q3, q4⟩
    · omega
    · exact ⟨by omega, q3, q4⟩
theorem dec_rune (s : Str) : (Lib.decodeL s).1 ≤ 1114111 := Lib.decodeL_rune s
theorem hasB_step {p : Nat → Bool} (hp : ∀ r, p r = true → r < 128) {s : Str} (n : Nat) (h : ∀ k, k < n → 128 ≤ cN s k) : hasB p s = hasB p (s.drop n) := by
  rw [Bool.eq_iff_iff, hasB_iff, hasB_iff]
  constructor
  · rintro ⟨i, hi, hc⟩
    have : n ≤ i := by
      apply Decidable.byContradiction
      intro hn
      have := h i (by omega)
      have := hp _ hc
      omega
    exact ⟨i - n, by rw [List.length_drop]; omega, by rw [cN_drop, show n + (i - n) = i by omega]; exact hc⟩
  · rintro ⟨i, hi, hc⟩
    rw [List.length_drop] at hi
    exact ⟨n + i, by omega, by rw [← cN_drop]; exact hc⟩
theorem hasB_cons {p : Nat → Bool} {s : Str} (h : 0 < s.length) : hasB p s = (p (cN s 0) || hasB p (s.drop 1)) := by
  cases s with
  | nil => simp at h
  | cons c r => simp [hasB, cN]
theorem rIdx_low {p : Nat → Bool} (hp : ∀ r, p r = true → r < 128) : ∀ (k : Nat) (s : Str) (pos : Nat), s.length ≤ k → (0 ≤ rIdx p k s pos ↔ hasB p s = true)
  | 0, s, pos, h => by
    have : s = [] := List.eq_nil_of_length_eq_zero (by omega)
    subst this; simp [rIdx, hasB]
  | k + 1, s, pos, h => by
    unfold rIdx
    by_cases hs : s = []
    · subst hs; simp [hasB]
    rw [if_neg hs]
    have hl : 0 < s.length := List.length_pos_iff.2 hs
    rcases dec_cases hl with ⟨g1, g2⟩ | ⟨g1, g2, g3, g4, g5⟩
    · rw [g2, hasB_cons hl]
      by_cases hc : p (cN s 0) = true
      · simp [hc]
      · rw [if_neg hc, rIdx_low hp k _ _ (by rw [List.length_drop]; omega)]
        simp [hc]
    · have hn : ¬ p (Lib.decodeL s).1 = true := fun e => by have := hp _ e; omega
      rw [if_neg hn, rIdx_low hp k _ _ (by rw [List.length_drop]; omega), hasB_step hp _ g5]
theorem rIdx_none {p : Nat → Bool} {k pos : Nat} : rIdx p k [] pos = -1 := by cases k <;> simp [rIdx]
theorem rIdx_yes {p : Nat → Bool} {k pos : Nat} {s : Str} (hs : s ≠ []) (h : p (Lib.decodeL s).1 = true) : rIdx p (k + 1) s pos = pos := by unfold rIdx; rw [if_neg hs, if_pos h]
theorem rIdx_no {p : Nat → Bool} {k pos : Nat} {s : Str} (hs : s ≠ []) (h : p (Lib.decodeL s).1 = false) : rIdx p (k + 1) s pos = rIdx p k (s.drop (Lib.decodeL s).2) (pos + (Lib.decodeL s).2) := by
  conv => lhs; unfold rIdx
  rw [if_neg hs, if_neg (by rw [h]; decide)]
theorem dec_pos {s : Str} {i : Nat} : Utf8.decode ⟨s.toArray⟩ i = Lib.decodeL (s.drop i) := by
  have := Lib.decodeL_drop ⟨s.toArray⟩ i
  simpa using this.symm
@[simp] theorem frU_range {d : Option Tmp} {t : TypeId} {l : Operand} {ty : TypeId} {pos : String} {af : Array Edge} {g : Option (Nat × Bool)} {s : St} : freshen s ⟨d, .range t l, ty, pos, af, g⟩ = s := rfl
@[simp] theorem frU_next {d : Option Tmp} {b : Bool} {l : Operand} {ty : TypeId} {pos : String} {af : Array Edge} {g : Option (Nat × Bool)} {s : St} : freshen s ⟨d, .next l b, ty, pos, af, g⟩ = s := rfl
theorem itU_yes {m b i : Nat} {s : Str} {g : List (Nat × Blk)} (h : i < s.length) : nextA ⟨m, [(b, .iter s i) :: g]⟩ b = some (.tup [.bool true, .int .i64 i, .int .i32 ((Lib.decodeL (s.drop i)).1 : Int)], ⟨m, [(b, .iter s (i + (Lib.decodeL (s.drop i)).2)) :: g]⟩) := by
  have hb : Nat.blt i s.length = true := by simpa using h
  simp [nextA, Heap.get, getFs, getF, hb, dec_pos, Heap.set, setFs, setF]
theorem itU_no {m b i : Nat} {s : Str} {g : List (Nat × Blk)} (h : ¬ i < s.length) : nextA ⟨m, [(b, .iter s i) :: g]⟩ b = some (.tup [.bool false], ⟨m, [(b, .iter s i) :: g]⟩) := by
  have hb : Nat.blt i s.length = false := by
    cases hq : Nat.blt i s.length with
    | false => rfl
    | true => exact absurd (by simpa using hq) h
  simp [nextA, Heap.get, getFs, getF, hb]
theorem fit_it {m : Nat} {s : Str} {i : Nat} : FitH 0 [(0, 0)] [] ⟨m, [[(0, .iter s i)]]⟩ ⟨1, [[(0, .iter s i)]]⟩ where
  nd1 := by simp
  nd2 := by simp
  nd3 := by simp [Heap.ents]
  lt := fun x hx => by simp at hx; subst hx; simp
  idn := fun x hx h => by rcases h with h | h <;> exact absurd h (Nat.not_lt_zero _)
  num := Nat.zero_le _
  src := fun e he => by
    simp [Heap.ents] at he
    subst he
    exact ⟨0, .iter s i, by simp, by simp [Heap.get, getFs, getF], rfl, rfl⟩
  frz := fun x hx => by cases hx
def lays196_ren : Go.Shelf.Ren := ⟨fun | 196 => 65 | 259 => 84 | n => n, fun | 0 => 0 | 3 => 3 | 4 => 4 | 5 => 5 | 9 => 9 | 12 => 12 | 46 => 131 | 53 => 159 | 119 => 136 | 138 => 138 | 139 => 139 | n => n, fun | 3 => 1 | 4 => 2 | n => n⟩
theorem lays196 : Go.Proofs.Lays.n196 Tryz.prog lays196_ren where
  mixed := by kernel_rfl
  f196 := Tryz.func65.trans (congrArg some (by kernel_rfl))
  f259 := Tryz.func84.trans (congrArg some (by kernel_rfl))
  t0 := Tryz.underlying0
  a0 := Tryz.isAgg0
  z0 := Tryz.sizeOf0
  v0 := Tryz.zeroValue0
  t3 := Tryz.underlying3
  a3 := Tryz.isAgg3
  z3 := Tryz.sizeOf3
  v3 := Tryz.zeroValue3
  t4 := Tryz.underlying4
  a4 := Tryz.isAgg4
  z4 := Tryz.sizeOf4
  v4 := Tryz.zeroValue4
  t5 := Tryz.underlying5
  a5 := Tryz.isAgg5
  z5 := Tryz.sizeOf5
  v5 := Tryz.zeroValue5
  t9 := Tryz.underlying9
  a9 := Tryz.isAgg9
  z9 := Tryz.sizeOf9
  v9 := Tryz.zeroValue9
  t12 := Tryz.underlying12
  a12 := Tryz.isAgg12
  z12 := Tryz.sizeOf12
  v12 := Tryz.zeroValue12
  t46 := Tryz.underlying131
  a46 := Tryz.isAgg131
  z46 := Tryz.sizeOf131
  v46 := Tryz.zeroValue131
  t53 := Tryz.underlying159
  a53 := Tryz.isAgg159
  z53 := Tryz.sizeOf159
  v53 := Tryz.zeroValue159
  t119 := Tryz.underlying136
  a119 := Tryz.isAgg136
  z119 := Tryz.sizeOf136
  t138 := Tryz.underlying138
  a138 := Tryz.isAgg138
  z138 := Tryz.sizeOf138
  v138 := Tryz.zeroValue138
  t139 := Tryz.underlying139
  a139 := Tryz.isAgg139
  z139 := Tryz.sizeOf139
  v139 := Tryz.zeroValue139
  g3 := by kernel_rfl
  g4 := by kernel_rfl
theorem sim_belowU {ρ : Place} {w w' : World} (sm : Sim ρ ⟨0, []⟩ w) (h : Below w.heap.size w w') : Sim ρ ⟨0, []⟩ w' where
  base := fun k hk => Nat.lt_of_lt_of_le (sm.base k hk) h.size
  below := fun k hk => (h.block k (sm.base k hk)).trans (sm.below k hk)
  os := h.os.trans sm.os
  tape := h.tape.trans sm.tape
  output := h.output.trans sm.output
  dom := sm.dom
  nodup := sm.nodup
  live := fun e he => by simp [Heap.ents] at he
  inj := fun e e' he => by simp [Heap.ents] at he
theorem step_belowU {ρ : Place} {w w' : World} (h : Below w.heap.size w w') : Step ρ ⟨0, []⟩ w ρ ⟨0, []⟩ w' where
  le := Place.le_refl ρ
  size := h.size
  keeps := fun k hk _ => h.block k hk
  rows := fun e' he' => by simp [Heap.ents] at he'
  num := Nat.le_refl _
  low := fun _ _ => rfl
  cold := fun k hk => .inl hk
theorem first_at : ∀ c : Fin 256, utfFirst[c.val]? = some (Lib.firstT c.val : Int) := by decide +kernel
theorem acc_lo : ∀ i : Fin 16, utfAcc[2 * i.val]? = some (Lib.accLo i.val : Int) := by decide +kernel
theorem acc_hi : ∀ i : Fin 16, utfAcc[2 * i.val + 1]? = some (Lib.accHi i.val : Int) := by decide +kernel
theorem tabs_in {ρ : Place} {w : World} (sm : Sim ρ ⟨0, []⟩ w) : Lib.Utf8Tabs (1) (2) w := by
  have cell : ∀ x, x ∈ pins → ∀ i n, x.2[i]? = some n → w.cell? ⟨x.1, i, none⟩ = some (.int .u8 n) := fun x hx i n hn => by
    obtain ⟨hB, hc⟩ := ρ.gp x hx
    rw [World.cell?, sm.below x.1 hB]; exact hc i n hn
  exact ⟨fun c hc => cell (1, utfFirst) (by decide +kernel) c _ (first_at ⟨c, hc⟩),
    fun i hi => ⟨cell (2, utfAcc) (by decide +kernel) _ _ (acc_lo ⟨i, hi⟩), cell (2, utfAcc) (by decide +kernel) _ _ (acc_hi ⟨i, hi⟩)⟩⟩
theorem c65 {T : List (Entry Tryz.prog)} (s : Str) (hl : s.length ≤ 1000000) : CallAt (ctx T) 65 [.str s] ⟨0, []⟩ (.bool (Lib.validD s)) ⟨0, []⟩ := by
  intro ρ w xs sm hx
  match xs, hx with
  | [x], hx =>
    have h0 := hx.2 0 (by simp) (by simp)
    simp only [List.getElem_cons_zero] at h0
    cases h0
    have hrun : (callFunc 65 #[.string ⟨s.toArray⟩]).run (ctx T).P w = .ok (.enter 65 #[.string ⟨s.toArray⟩]) w := by
      have hf : (ctx T).P.funcs[65]? = some Tryz.f65 := Tryz.func65
      have hn : ¬ Tryz.f65.name = "runtime.NumGoroutine" := by decide +kernel
      simp [callFunc, hf, hn, Tryz.f65]
    have hsz : (⟨s.toArray⟩ : ByteArray).size = s.length := by show s.toArray.size = _; simp
    refine .inr ⟨65, _, hrun, callsIn_wide.2 ?_⟩
    refine (Go.Proofs.Any.utf8_ValidString lays196 ⟨s.toArray⟩ w (by rw [hsz]; omega) (tabs_in sm)).mono ?_
    rintro e w' ⟨rfl, hb⟩
    exact ⟨_, ρ, rfl, .bool _, sim_belowU sm hb, step_belowU hb⟩
theorem injS1 (x y : Str) (h : [AV.str x] = [AV.str y]) : x = y := by simpa using h
noncomputable def e65 : Entry Tryz.prog := mkE 65 [[]] (fun x : Str => [.str x]) (fun x => x.length ≤ 1000000) (fun x => .bool (Lib.validD x)) fun x h => c65 (T := []) x h
theorem k65 {T : List (Entry Tryz.prog)} (hT : findE 65 T = some e65.g) {s : Str} (h1 : s.length ≤ 1000000) (H : Heap) : callL (ctx T) (.fn 65) [.str s] H = some (.bool (Lib.validD s), H) :=
  mkE_scalar hT injS1 s h1 rfl (by simp)
end Go.Proofs.YtlgdgolobnbefaaGreatDoor
