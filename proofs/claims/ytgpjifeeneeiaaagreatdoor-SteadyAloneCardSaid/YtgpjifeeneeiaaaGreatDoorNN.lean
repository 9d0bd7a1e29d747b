/- strings.ContainsAny of "\\x00\\r"; utf.Valid. No condition. -/
import Derived.Test.YtgpjifeeneeiaaaGreatDoorNI
import Derived.Test.YtgpjifeeneeiaaaGreatDoorNG
import Derived.Test.YtgpjifeeneeiaaaGreatDoorNM
import Derived.Lib.ValidLaws
import Derived.Test.YtgpjifeeneeiaaaGreatDoorNJ
import Derived.Lib.TrimUEq
import Derived.Shelf.Unicode.ValidAny
import Derived.Test.YtgpjifeeneeiaaaGreatDoorProg
import Derived.Lib.Bytealg
import Derived.Shelf.Strings.IndexAnyAll
namespace Go.Proofs.YtgpjifeeneeiaaaGreatDoor
noncomputable section
set_option linter.unusedSimpArgs false
set_option linter.unusedVariables false
open Go Go.RowKit
set_option maxRecDepth 100000
theorem closedCall {T : List (Entry Tryz.prog)} {f : FuncId} (h : isTrueE (callN (ctx T) 100000 (.fn f) [] ⟨0, []⟩) = true) : CallAt (ctx T) f [] ⟨0, []⟩ (.bool true) ⟨0, []⟩ := by
 revert h
 cases hr : callN (ctx T) 100000 (.fn f) [] ⟨0, []⟩ with
 | none => intro h; cases h
 | some r =>
  obtain ⟨v, H'⟩ := r
  intro h
  cases v <;> simp only [isTrueE] at h <;> first | (cases h; done) | skip
  subst h
  exact ((call_ok mixed (mkC_ok _ _ _) 100000).fn f [] ⟨0, []⟩ _ _ hr).freeze (Φ := []) (by simp [fitV, pureV]) FitH.empty
def noneL : List AV → Bool
 | [] => true
 | _ :: _ => false
mutual
def fitVb (Φ : List (Nat × List AV)) : AV → AV → Bool
 | .slc b o len cap, v' => match v' with
  | .undef => true
  | .fslc sz es => (match lookC b Φ with
   | some cs => (match subL o (len * sz) cs with
    | some x => AV.beqL x (flatAV es) && Nat.beq es.length len && allSize sz es
    | none => false)
   | none => false) || (Nat.beq len 0 && noneL es)
  | _ => false
 | .ptr b o, v' => match v' with
  | .undef => true
  | .fptr cs o' => (match lookC b Φ with
   | some c => AV.beqL c cs
   | none => false) && Nat.beq o' o
  | _ => false
 | .nilS, v' => match v' with
  | .undef => true
  | .nilS => true
  | .fslc _ es => noneL es
  | _ => false
 | .fslc sz es, v' => match v' with
  | .undef => true
  | .fslc sz' es' => Nat.beq sz sz' && AV.beqL es es'
  | _ => false
 | .agg cs, v' => match v' with
  | .undef => true
  | .agg cs' => fitLb Φ cs cs'
  | _ => false
 | .tup cs, v' => match v' with
  | .undef => true
  | .tup cs' => fitLb Φ cs cs'
  | _ => false
 | .int k n, v' => match v' with
  | .undef => true
  | .int k' n' => decide (k' = k) && decide (n' = n)
  | _ => false
 | .str s, v' => match v' with
  | .undef => true
  | .str s' => eqN s' s
  | _ => false
 | .bool s, v' => match v' with
  | .undef => true
  | .bool s' => s' == s
  | _ => false
 | _, v' => match v' with
  | .undef => true
  | _ => false
def fitLb (Φ : List (Nat × List AV)) : List AV → List AV → Bool
 | [], l' => noneL l'
 | a :: r, l' => match l' with
  | [] => false
  | a' :: r' => fitVb Φ a a' && fitLb Φ r r'
end
theorem noneL_eq {l : List AV} (h : noneL l = true) : l = [] := by cases l <;> first | rfl | cases h
mutual
theorem fitVb_ok {Φ : List (Nat × List AV)} : ∀ {v v' : AV}, fitVb Φ v v' = true → fitV [] Φ v v' := by
 intro v v' h
 cases v with
 | slc b o len cap =>
  unfold fitVb at h
  unfold fitV
  cases v' <;> simp only [Bool.false_eq_true] at h ⊢
  rename_i sz es
  simp only [Bool.or_eq_true, Bool.and_eq_true] at h
  rcases h with h | h
  ·left
   cases hl : lookC b Φ with
   | none => rw [hl] at h; cases h
   | some cs =>
    rw [hl] at h
    simp only at h
    cases hs : subL o (len * sz) cs with
    | none => rw [hs] at h; cases h
    | some x =>
     rw [hs] at h
     simp only [Bool.and_eq_true] at h
     exact ⟨cs, rfl, by rw [hs, AV.eqL_of_beq _ _ h.1.1], Nat.eq_of_beq_eq_true h.1.2, h.2⟩
  ·exact .inr ⟨Nat.eq_of_beq_eq_true h.1, noneL_eq h.2⟩
 | fslc sz es =>
  cases v' with
  | undef => simp [fitV]
  | fslc sz' es' =>
   unfold fitVb at h
   simp only [Bool.and_eq_true] at h
   have h1 := Nat.eq_of_beq_eq_true h.1
   have h2 := AV.eqL_of_beq _ _ h.2
   subst h1; subst h2
   exact fitV_pure rfl
  | _ => simp [fitVb] at h
 | ptr b o =>
  unfold fitVb at h
  unfold fitV
  cases v' <;> simp only [Bool.false_eq_true] at h ⊢
  simp only [Bool.and_eq_true] at h
  cases hl : lookC b Φ with
  | none => rw [hl] at h; cases h.1
  | some cs =>
   rw [hl] at h
   exact ⟨by rw [AV.eqL_of_beq _ _ h.1], Nat.eq_of_beq_eq_true h.2⟩
 | nilS =>
  unfold fitVb at h
  unfold fitV
  cases v' <;> simp only [Bool.false_eq_true] at h ⊢
  exact noneL_eq h
 | agg cs =>
  unfold fitVb at h
  unfold fitV
  cases v' <;> simp only [Bool.false_eq_true] at h ⊢
  exact .inl (fitLb_ok h)
 | tup cs =>
  unfold fitVb at h
  unfold fitV
  cases v' <;> simp only [Bool.false_eq_true] at h ⊢
  exact .inl (fitLb_ok h)
 | int k n =>
  unfold fitVb at h
  unfold fitV
  cases v' <;> simp only [Bool.false_eq_true] at h ⊢
  ·simp
  ·simp only [Bool.and_eq_true, decide_eq_true_eq] at h
   obtain ⟨rfl, rfl⟩ := h
   exact .inr ⟨rfl, rfl⟩
 | str s =>
  unfold fitVb at h
  unfold fitV
  cases v' <;> simp only [Bool.false_eq_true] at h ⊢
  ·simp
  ·rw [eqN_eq, decide_eq_true_eq] at h
   subst h
   exact .inr ⟨rfl, rfl⟩
 | bool s =>
  unfold fitVb at h
  unfold fitV
  cases v' <;> simp only [Bool.false_eq_true] at h ⊢
  ·simp
  ·simp only [beq_iff_eq] at h
   subst h
   exact .inr ⟨rfl, rfl⟩
 | _ =>
  unfold fitVb at h
  cases v' <;> simp only [Bool.false_eq_true] at h
  simp [fitV]
theorem fitLb_ok {Φ : List (Nat × List AV)} : ∀ {l l' : List AV}, fitLb Φ l l' = true → fitL [] Φ l l' := by
 intro l l' h
 cases l with
 | nil =>
  unfold fitLb at h
  unfold fitL
  exact noneL_eq h
 | cons a r =>
  unfold fitLb at h
  unfold fitL
  cases l' with
  | nil => cases h
  | cons a' r' =>
   simp only [Bool.and_eq_true] at h
   exact ⟨fitVb_ok h.1, fitLb_ok h.2⟩
end
def undefL : Nat → List AV → List AV
 | 0, _ => []
 | _ + 1, [] => []
 | n + 1, _ :: r => .undef :: undefL n r
def undefA : List AV → List AV
 | [] => []
 | _ :: r => .undef :: undefA r
def pairsL : List AV → List AV → List (AV × AV) → List (AV × AV)
 | a :: r, b :: s, acc => (a, b) :: pairsL r s acc
 | _, _, acc => acc
def coll (H : Heap) : Nat → List (AV × AV) → List (Nat × List AV) → Option (List (Nat × List AV))
 | 0, _, _ => none
 | n + 1, todo, Φ => match todo with
  | [] => some Φ
  | x :: r => match x.1, x.2 with
   | .agg xs, .agg ys => coll H n (pairsL xs ys r) Φ
   | .tup xs, .tup ys => coll H n (pairsL xs ys r) Φ
   | .slc b o len _, .fslc sz es => match len with
    | 0 => coll H n r Φ
    | Nat.succ _ => match lookC b Φ with
     | some _ => coll H n r Φ
     | none => match H.get b with
      | some (.cells cs) => coll H n (pairsL (cs.drop o) (flatAV es) r) ((b, undefL o cs ++ flatAV es ++ undefA (cs.drop (o + len * sz))) :: Φ)
      | _ => none
   | .ptr b _, .fptr ys _ => match lookC b Φ with
    | some _ => coll H n r Φ
    | none => match H.get b with
     | some (.cells cs) => coll H n (pairsL cs ys r) ((b, ys) :: Φ)
     | _ => none
   | _, _ => coll H n r Φ
def nodupB : List Nat → Bool
 | [] => true
 | x :: r => match memT x r with
  | true => false
  | false => nodupB r
theorem memT_mem {n : Nat} : ∀ {l : List Nat}, memT n l = false → n ∉ l
 | [], _ => by simp
 | m :: r, h => by
  unfold memT at h
  split at h
  ·cases h
  ·rename_i hb
   have : n ≠ m := fun e => by rw [e, Nat.beq_refl] at hb; cases hb
   simp [this, memT_mem h]
theorem nodupB_ok : ∀ {l : List Nat}, nodupB l = true → l.Nodup
 | [], _ => List.nodup_nil
 | x :: r, h => by
  unfold nodupB at h
  split at h
  ·cases h
  ·rename_i hm
   exact List.nodup_cons.2 ⟨memT_mem hm, nodupB_ok h⟩
def frzOK (H : Heap) (Φ : List (Nat × List AV)) : List (Nat × List AV) → Bool
 | [] => true
 | x :: r => (match H.get x.1 with
  | some (.cells cs) => fitLb Φ cs x.2 && pureL x.2
  | _ => false) && frzOK H Φ r
theorem frzOK_ok {H : Heap} {Φ : List (Nat × List AV)} : ∀ {l : List (Nat × List AV)}, frzOK H Φ l = true → ∀ x, x ∈ l → ∃ cs, H.get x.1 = some (.cells cs) ∧ fitL [] Φ cs x.2 ∧ pureL x.2 = true
 | [], _, x, hx => by cases hx
 | y :: r, h, x, hx => by
  unfold frzOK at h
  simp only [Bool.and_eq_true] at h
  rcases List.mem_cons.1 hx with rfl | hx
  ·have h1 := h.1
   split at h1
   ·rename_i cs hg
    simp only [Bool.and_eq_true] at h1
    exact ⟨cs, hg, fitLb_ok h1.1, h1.2⟩
   ·cases h1
  ·exact frzOK_ok h.2 x hx
def litOK (lit : AV) : Option (AV × Heap) → Bool
 | some (v, H) => match coll H 100000 [(v, lit)] [] with
  | some Φ => nodupB (Φ.map (·.1)) && frzOK H Φ Φ && fitVb Φ v lit
  | none => false
 | none => false
theorem closedLit {T : List (Entry Tryz.prog)} {f : FuncId} {args : List AV} {lit : AV} (h : litOK lit (callN (ctx T) 100000 (.fn f) args ⟨0, []⟩) = true) : CallAt (ctx T) f args ⟨0, []⟩ lit ⟨0, []⟩ := by
 revert h
 cases hr : callN (ctx T) 100000 (.fn f) args ⟨0, []⟩ with
 | none => intro h; cases h
 | some r =>
  obtain ⟨v, H'⟩ := r
  intro h
  unfold litOK at h
  simp only at h
  cases hc : coll H' 100000 [(v, lit)] [] with
  | none => rw [hc] at h; cases h
  | some Φ =>
   rw [hc] at h
   simp only [Bool.and_eq_true] at h
   exact ((call_ok mixed (mkC_ok _ _ _) 100000).fn f args ⟨0, []⟩ _ _ hr).freeze (fitVb_ok h.2) (FitH.froze (nodupB_ok h.1.1) (frzOK_ok h.1.2))
end
end Go.Proofs.YtgpjifeeneeiaaaGreatDoor
namespace Go.Proofs.YtgpjifeeneeiaaaGreatDoor
set_option linter.unusedSimpArgs false
set_option linter.unusedVariables false
open Go Go.RowKit
set_option maxRecDepth 100000
abbrev enc3 : Str := [239, 191, 189]
theorem oneGo_le (s : Str) : ∀ k i lo hi, 1 ≤ i → i ≤ s.length → i ≤ (oneGo s k i lo hi).1 ∧ (oneGo s k i lo hi).1 ≤ s.length
 | 0, i, _, _, h1, h2 => ⟨Nat.le_refl _, h2⟩
 | k + 1, i, lo, hi, h1, h2 => by
  unfold oneGo
  split
  ·rename_i hc
   simp only [contN, Bool.and_eq_true, decide_eq_true_eq] at hc
   obtain ⟨a, b⟩ := oneGo_le s k (i + 1) 128 191 (by omega) (by omega)
   exact ⟨by omega, b⟩
  ·exact ⟨Nat.le_refl _, h2⟩
theorem oneR_le {s : Str} (h : 0 < s.length) : 1 ≤ (oneR s).1 ∧ (oneR s).1 ≤ s.length := by
 unfold oneR
 split
 ·exact ⟨Nat.le_refl _, h⟩
 ·split
  ·exact ⟨Nat.le_refl _, h⟩
  ·exact oneGo_le s _ 1 _ _ (Nat.le_refl _) h
def decStep (s : Str) : Str × Nat := if (oneR s).2 = false ∨ cN s 0 = 0 then (enc3, (oneR s).1) else if cN s 0 = 13 then ([10], if 1 < s.length ∧ cN s 1 = 10 then 2 else (oneR s).1) else (s.take (oneR s).1, (oneR s).1)
def decGo : Nat → Str → Str
 | 0, _ => []
 | k + 1, s => if s = [] then [] else (decStep s).1 ++ decGo k (s.drop (decStep s).2)
def decR (s : Str) : Str := decGo s.length s
theorem cN_drop {s : Str} {i j : Nat} : cN (s.drop i) j = cN s (i + j) := by
 unfold cN
 simp [List.getD_eq_getElem?_getD, List.getElem?_drop]
def validR (s : Str) : Bool := decide (decR s = s)
def oneN (n b0 b1 b2 b3 : Nat) : Nat × Bool :=
 if b0 < 128 then (1, true) else if moreN b0 = 0 then (1, false)
 else if ¬ (1 < n ∧ loN b0 ≤ b1 ∧ b1 ≤ hiN b0) then (1, false) else if moreN b0 = 1 then (2, true)
 else if ¬ (2 < n ∧ 128 ≤ b2 ∧ b2 ≤ 191) then (2, false) else if moreN b0 = 2 then (3, true)
 else if ¬ (3 < n ∧ 128 ≤ b3 ∧ b3 ≤ 191) then (3, false) else (4, true)
theorem oneR_N (s : Str) : oneR s = oneN s.length (cN s 0) (cN s 1) (cN s 2) (cN s 3) := by
 unfold oneR oneN
 generalize cN s 0 = c
 have h3 := moreN_le c
 have hc : ∀ i lo hi, (contN s i lo hi = true) = (i < s.length ∧ lo ≤ cN s i ∧ cN s i ≤ hi) := fun i lo hi => by simp [contN]
 obtain h | h | h | h : moreN c = 0 ∨ moreN c = 1 ∨ moreN c = 2 ∨ moreN c = 3 := by omega
 all_goals
  simp only [h, oneGo, hc, ite_not, Nat.reduceEqDiff, if_true, if_false, Nat.reduceAdd]
  try (repeat' split) <;> first | rfl | (exfalso; omega)
set_option maxHeartbeats 1000000 in
theorem one_decode (n b0 b1 b2 b3 : Nat) (hn : 1 ≤ n) (h0 : b0 < 256) (h1 : b1 < 256) (h2 : b2 < 256) (h3 : b3 < 256) :
  ((oneN n b0 b1 b2 b3).2 = false ∧ Lib.decodeN n b0 b1 b2 b3 = (65533, 1)) ∨ ((oneN n b0 b1 b2 b3).2 = true ∧ (Lib.decodeN n b0 b1 b2 b3).2 = (oneN n b0 b1 b2 b3).1 ∧ ¬ ((Lib.decodeN n b0 b1 b2 b3).1 = 65533 ∧ (Lib.decodeN n b0 b1 b2 b3).2 = 1)) := by
 by_cases ha : b0 < 128
 ·exact .inr ⟨by simp [oneN, ha], by simp [oneN, Lib.decodeN, ha], by simp [Lib.decodeN, ha]; omega⟩
 rcases Lib.check_decode n b0 b1 b2 b3 hn (by omega) h0 h1 h2 h3 with ⟨g1, g2⟩ | ⟨k, hk, g1, g2⟩
 all_goals
  have cls : b0 < 194 ∨ (194 ≤ b0 ∧ b0 < 224) ∨ b0 = 224 ∨ (225 ≤ b0 ∧ b0 < 237) ∨ b0 = 237 ∨ (238 ≤ b0 ∧ b0 < 240) ∨ b0 = 240 ∨ (241 ≤ b0 ∧ b0 < 244) ∨ b0 = 244 ∨ 245 ≤ b0 := by omega
  have F : ∀ m l h x y z, moreN b0 = m → loN b0 = l → hiN b0 = h → Lib.firstT b0 % 8 = x → Lib.accLo (Lib.firstT b0 / 16) = y → Lib.accHi (Lib.firstT b0 / 16) = z → (m = 0 ∧ 4 < x ∨ m = 0 ∧ x < 2 ∨ x = m + 1 ∧ 1 ≤ m ∧ m ≤ 3 ∧ y = l ∧ z = h) →
    ((oneN n b0 b1 b2 b3).2 = false ∧ Lib.checkN n b1 b2 b3 x y z = none) ∨ ((oneN n b0 b1 b2 b3).2 = true ∧ Lib.checkN n b1 b2 b3 x y z = some (oneN n b0 b1 b2 b3).1) := by
   intro m l h x y z e1 e2 e3 _ _ _ hh
   simp only [oneN, ha, if_false, e1, e2, e3, Lib.checkN, ite_not]
   rcases hh with ⟨rfl, hx⟩ | ⟨rfl, hx⟩ | ⟨rfl, hm1, hm2, rfl, rfl⟩
   ·left; simp only [if_true]; refine ⟨trivial, ?_⟩; rw [if_neg (by omega), if_neg (by omega), if_neg (by omega)]
   ·left; simp only [if_true]; refine ⟨trivial, ?_⟩; rw [if_neg (by omega), if_neg (by omega), if_neg (by omega)]
   ·obtain rfl | rfl | rfl : m = 1 ∨ m = 2 ∨ m = 3 := by omega
    all_goals
     simp only [Nat.reduceEqDiff, if_false, if_true, Nat.reduceAdd]
     (repeat' split) <;> first | (exfalso; omega) | (left; exact ⟨rfl, rfl⟩) | (right; exact ⟨rfl, rfl⟩)
  have G : ((oneN n b0 b1 b2 b3).2 = false ∧ Lib.checkN n b1 b2 b3 (Lib.firstT b0 % 8) (Lib.accLo (Lib.firstT b0 / 16)) (Lib.accHi (Lib.firstT b0 / 16)) = none) ∨ ((oneN n b0 b1 b2 b3).2 = true ∧ Lib.checkN n b1 b2 b3 (Lib.firstT b0 % 8) (Lib.accLo (Lib.firstT b0 / 16)) (Lib.accHi (Lib.firstT b0 / 16)) = some (oneN n b0 b1 b2 b3).1) := by
   refine F _ _ _ _ _ _ rfl rfl rfl rfl rfl rfl ?_
   have k1 : ∀ c : Fin 256, 128 ≤ c.val → (moreN c.val = 0 ∧ 4 < Lib.firstT c.val % 8 ∨ moreN c.val = 0 ∧ Lib.firstT c.val % 8 < 2 ∨ Lib.firstT c.val % 8 = moreN c.val + 1 ∧ 1 ≤ moreN c.val ∧ moreN c.val ≤ 3 ∧ Lib.accLo (Lib.firstT c.val / 16) = loN c.val ∧ Lib.accHi (Lib.firstT c.val / 16) = hiN c.val) := by decide +kernel
   exact k1 ⟨b0, h0⟩ (by simp only; omega)
  rcases G with ⟨G1, G2⟩ | ⟨G1, G2⟩
 ·exact .inl ⟨G1, g2⟩
 ·rw [g1] at G2; cases G2
 ·rw [g1] at G2; cases G2
 ·rw [g1] at G2
  simp only [Option.some.injEq] at G2
  exact .inr ⟨G1, by rw [g2, G2], by omega⟩
theorem one_dec (s : Str) (h : 0 < s.length) : ((oneR s).2 = false ∧ Lib.decodeL s = (65533, 1)) ∨ ((oneR s).2 = true ∧ (Lib.decodeL s).2 = (oneR s).1 ∧ ¬ ((Lib.decodeL s).1 = 65533 ∧ (Lib.decodeL s).2 = 1)) := by
 rw [oneR_N, Lib.decodeL_N]
 exact one_decode _ _ _ _ _ (by omega) (UInt8.toNat_lt _) (UInt8.toNat_lt _) (UInt8.toNat_lt _) (UInt8.toNat_lt _)
theorem one_high {s : Str} (h : (oneR s).2 = true) : cN s 0 < 128 ∧ (oneR s).1 = 1 ∨ 128 ≤ cN s 0 ∧ 2 ≤ (oneR s).1 ∧ (oneR s).1 ≤ s.length ∧ ∀ k, k < (oneR s).1 → 128 ≤ cN s k := by
 rw [oneR_N] at h ⊢
 unfold oneN at h ⊢
 by_cases ha : cN s 0 < 128
 ·left; simp [ha]
 right
 simp only [ha, if_false] at h ⊢
 split at h
 ·cases h
 rename_i hm
 rw [if_neg hm]
 have hlo : 128 ≤ loN (cN s 0) := by unfold loN; (repeat' split) <;> omega
 split at h
 ·cases h
 rename_i g1
 rw [if_neg g1]
 simp only [Decidable.not_not] at g1
 have k4 : ∀ m k, k < m → m ≤ 4 → k = 0 ∨ k = 1 ∨ (2 < m ∧ k = 2) ∨ (3 < m ∧ k = 3) := fun m k h1 h2 => by omega
 split at h
 ·rename_i m1
  rw [if_pos m1]
  refine ⟨by omega, by simp, by simp; omega, fun k hk => ?_⟩
  rcases k4 2 k hk (by omega) with rfl | rfl | h | h <;> omega
 rename_i m1
 rw [if_neg m1]
 split at h
 ·cases h
 rename_i g2
 rw [if_neg g2]
 simp only [Decidable.not_not] at g2
 split at h
 ·rename_i m2
  rw [if_pos m2]
  refine ⟨by omega, by simp, by simp; omega, fun k hk => ?_⟩
  rcases k4 3 k hk (by omega) with rfl | rfl | h | h
  ·omega
  ·omega
  ·rw [h.2]; omega
  ·omega
 rename_i m2
 rw [if_neg m2]
 split at h
 ·cases h
 rename_i g3
 rw [if_neg g3]
 simp only [Decidable.not_not] at g3
 refine ⟨by omega, by simp, by simp; omega, fun k hk => ?_⟩
 rcases k4 4 k hk (by omega) with rfl | rfl | h | h
 ·omega
 ·omega
 ·rw [h.2]; omega
 ·rw [h.2]; omega
theorem mem_cN {s : Str} {c : UInt8} (h : c ∈ s) : ∃ i, i < s.length ∧ cN s i = c.toNat := by
 obtain ⟨i, hi, rfl⟩ := List.getElem_of_mem h
 exact ⟨i, hi, (cN_get hi).symm⟩
theorem cN_mem {s : Str} {i : Nat} (h : i < s.length) : ∃ c, c ∈ s ∧ c.toNat = cN s i := ⟨s[i], List.getElem_mem h, cN_get h⟩
theorem low_rest {s : Str} (n : Nat) (h : ∀ k, k < n → 128 ≤ cN s k) {m : Nat} (hm : m < 128) : (∃ i, i < s.length ∧ cN s i = m) ↔ ∃ i, i < (s.drop n).length ∧ cN (s.drop n) i = m := by
 constructor
 ·rintro ⟨i, hi, hc⟩
  have : n ≤ i := by
   apply Decidable.byContradiction
   intro hn
   have := h i (by omega)
   omega
  exact ⟨i - n, by rw [List.length_drop]; omega, by rw [cN_drop, show n + (i - n) = i by omega]; exact hc⟩
 ·rintro ⟨i, hi, hc⟩
  rw [List.length_drop] at hi
  exact ⟨n + i, by omega, by rw [← cN_drop]; exact hc⟩
def hasN (s : Str) (m : Nat) : Prop := ∃ i, i < s.length ∧ cN s i = m
theorem hasN_one {s : Str} (h : 0 < s.length) {m : Nat} : hasN s m ↔ cN s 0 = m ∨ hasN (s.drop 1) m := by
 constructor
 ·rintro ⟨i, hi, hc⟩
  cases i with
  | zero => exact .inl hc
  | succ i => exact .inr ⟨i, by rw [List.length_drop]; omega, by rw [cN_drop, Nat.add_comm]; exact hc⟩
 ·rintro (hc | ⟨i, hi, hc⟩)
  ·exact ⟨0, h, hc⟩
  ·rw [List.length_drop] at hi
   exact ⟨1 + i, by omega, by rw [← cN_drop]; exact hc⟩
theorem bad_enc {s : Str} (h : s = enc3 ++ s.drop 3) (h3 : 3 ≤ s.length) : (oneR s).2 = true := by
 have e : ∀ i, i < 3 → cN s i = cN enc3 i := fun i hi => by
  rw [h]
  unfold cN
  simp only [List.getD_eq_getElem?_getD]
  rw [List.getElem?_append_left (by simpa using hi)]
 have c0 := e 0 (by omega)
 have c1 := e 1 (by omega)
 have c2 := e 2 (by omega)
 rw [oneR_N, c0, c1, c2]
 have : oneN s.length (cN enc3 0) (cN enc3 1) (cN enc3 2) (cN s 3) = (3, true) := by
  have a0 : cN enc3 0 = 239 := by decide
  have a1 : cN enc3 1 = 191 := by decide
  have a2 : cN enc3 2 = 189 := by decide
  have m : moreN 239 = 2 := by decide
  have l : loN 239 = 128 := by decide
  have hh : hiN 239 = 191 := by decide
  unfold oneN
  rw [a0, a1, a2, m, l, hh, if_neg (by omega), if_neg (by omega), if_neg (by omega), if_neg (by omega), if_neg (by omega), if_pos rfl]
 rw [this]
theorem dec_fuel : ∀ (k m : Nat) (s : Str), s.length ≤ k → s.length ≤ m → decGo k s = decGo m s
 | 0, m, s, h, _ => by
  have : s = [] := List.eq_nil_of_length_eq_zero (by omega)
  subst this
  cases m <;> simp [decGo]
 | k + 1, 0, s, _, h => by
  have : s = [] := List.eq_nil_of_length_eq_zero (by omega)
  subst this
  simp [decGo]
 | k + 1, m + 1, s, h1, h2 => by
  unfold decGo
  by_cases hs : s = []
  ·simp [hs]
  ·rw [if_neg hs, if_neg hs]
   have hl : 0 < s.length := List.length_pos_iff.2 hs
   have hj : 1 ≤ (decStep s).2 := by
    have := (oneR_le hl).1
    unfold decStep
    (repeat' split) <;> simp only <;> omega
   rw [dec_fuel k m (s.drop (decStep s).2) (by rw [List.length_drop]; omega) (by rw [List.length_drop]; omega)]
theorem decR_step {s : Str} (hs : s ≠ []) : decR s = (decStep s).1 ++ decR (s.drop (decStep s).2) := by
 have hl : 0 < s.length := List.length_pos_iff.2 hs
 have hj : 1 ≤ (decStep s).2 := by
  have := (oneR_le hl).1
  unfold decStep
  (repeat' split) <;> simp only <;> omega
 unfold decR
 rw [dec_fuel s.length (s.length - 1 + 1) s (Nat.le_refl _) (by omega)]
 conv => lhs; unfold decGo
 rw [if_neg hs, dec_fuel (s.length - 1) (s.drop (decStep s).2).length _ (by rw [List.length_drop]; omega) (Nat.le_refl _)]
theorem valid_two : ∀ (k : Nat) (s : Str), s.length ≤ k → (decR s = s ↔ Lib.validD s = true ∧ ¬ hasN s 0 ∧ ¬ hasN s 13)
 | 0, s, h => by
  have : s = [] := List.eq_nil_of_length_eq_zero (by omega)
  subst this
  simp [decR, decGo, Lib.validD_nil, hasN]
 | k + 1, s, h => by
  by_cases hs : s = []
  ·subst hs; simp [decR, decGo, Lib.validD_nil, hasN]
  have hl : 0 < s.length := List.length_pos_iff.2 hs
  have hone := oneR_le hl
  rw [decR_step hs, Lib.validD_step s hs]
  rcases one_dec s hl with ⟨g1, g2⟩ | ⟨g1, g2, g3⟩
  ·rw [g2]
   simp only [and_self, if_true, Bool.false_eq_true, false_and, iff_false]
   intro he
   have hst : decStep s = (enc3, (oneR s).1) := by unfold decStep; rw [if_pos (.inl g1)]
   rw [hst] at he
   have hlen := congrArg List.length he
   simp only [List.length_append, List.length_cons, List.length_nil] at hlen
   have hd : s.drop 3 = decR (s.drop (oneR s).1) := by have := congrArg (List.drop 3) he; simpa using this.symm
   have : (oneR s).2 = true := bad_enc (by rw [hd]; exact he.symm) (by omega)
   rw [g1] at this; cases this
  ·rw [if_neg g3, g2]
   have hdl : (s.drop (oneR s).1).length ≤ k := by rw [List.length_drop]; omega
   have ih := valid_two k (s.drop (oneR s).1) hdl
   by_cases h0 : cN s 0 = 0
   ·have hst : decStep s = (enc3, (oneR s).1) := by unfold decStep; rw [if_pos (.inr h0)]
    rw [hst]
    constructor
    ·intro he
     have hc : cN s 0 = 239 := by rw [← he]; rfl
     omega
    ·exact fun ⟨_, hn, _⟩ => absurd ⟨0, hl, h0⟩ hn
   by_cases h13 : cN s 0 = 13
   ·constructor
    ·intro he
     have hst : (decStep s).1 = [10] := by unfold decStep; rw [if_neg (by simp [g1, h0]), if_pos h13]
     rw [hst] at he
     have hc : cN s 0 = 10 := by rw [← he]; rfl
     omega
    ·exact fun ⟨_, _, hn⟩ => absurd ⟨0, hl, h13⟩ hn
   have hst : decStep s = (s.take (oneR s).1, (oneR s).1) := by unfold decStep; rw [if_neg (by simp [g1, h0]), if_neg h13]
   rw [hst]
   have e1 : (s.take (oneR s).1 ++ decR (s.drop (oneR s).1) = s) ↔ decR (s.drop (oneR s).1) = s.drop (oneR s).1 := by
    constructor
    ·intro he
     have : s.take (oneR s).1 ++ decR (s.drop (oneR s).1) = s.take (oneR s).1 ++ s.drop (oneR s).1 := by rw [List.take_append_drop]; exact he
     exact List.append_cancel_left this
    ·intro he; rw [he, List.take_append_drop]
   simp only
   rw [e1, ih]
   rcases one_high g1 with ⟨q1, q2⟩ | ⟨q1, q2, q3, q4⟩
   ·rw [q2]
    have a0 := hasN_one hl (m := 0)
    have a1 := hasN_one hl (m := 13)
    rw [a0, a1]
    simp [h0, h13]
   ·have a0 : hasN s 0 ↔ hasN (s.drop (oneR s).1) 0 := low_rest _ q4 (by omega)
    have a1 : hasN s 13 ↔ hasN (s.drop (oneR s).1) 13 := low_rest _ q4 (by omega)
    rw [a0, a1]
def hasB (p : Nat → Bool) (s : Str) : Bool := s.any fun c => p c.toNat
theorem hasB_iff {p : Nat → Bool} {s : Str} : hasB p s = true ↔ ∃ i, i < s.length ∧ p (cN s i) = true := by
 unfold hasB
 rw [List.any_eq_true]
 constructor
 ·rintro ⟨c, hc, hp⟩
  obtain ⟨i, h1, h2⟩ := mem_cN hc
  exact ⟨i, h1, by rw [h2]; exact hp⟩
 ·rintro ⟨i, hi, hp⟩
  obtain ⟨c, h1, h2⟩ := cN_mem hi
  exact ⟨c, h1, by rw [h2]; exact hp⟩
def rIdx (p : Nat → Bool) : Nat → Str → Nat → Int
 | 0, _, _ => -1
 | k + 1, s, pos => if s = [] then -1 else if p (Lib.decodeL s).1 = true then pos else rIdx p k (s.drop (Lib.decodeL s).2) (pos + (Lib.decodeL s).2)
theorem rune_high {n b0 b1 b2 b3 : Nat} (h : 128 ≤ b0) : 128 ≤ (Lib.decodeN n b0 b1 b2 b3).1 := by
 unfold Lib.decodeN
 (repeat' split) <;> simp only <;> omega
theorem dec_cases {s : Str} (h : 0 < s.length) : cN s 0 < 128 ∧ Lib.decodeL s = (cN s 0, 1) ∨ 128 ≤ cN s 0 ∧ 128 ≤ (Lib.decodeL s).1 ∧ 1 ≤ (Lib.decodeL s).2 ∧ (Lib.decodeL s).2 ≤ s.length ∧ ∀ k, k < (Lib.decodeL s).2 → 128 ≤ cN s k := by
 by_cases ha : cN s 0 < 128
 ·left
  refine ⟨ha, ?_⟩
  rw [Lib.decodeL_N]
  exact Lib.decodeN_ascii _ _ _ _ _ ha
 right
 have hi : 128 ≤ (Lib.decodeL s).1 := by rw [Lib.decodeL_N]; exact rune_high (by show 128 ≤ cN s 0; omega)
 refine ⟨by omega, hi, ?_⟩
 rcases one_dec s h with ⟨g1, g2⟩ | ⟨g1, g2, g3⟩
 ·rw [g2]
  refine ⟨Nat.le_refl _, h, fun k hk => ?_⟩
  have : k = 0 := by simp only at hk; omega
  subst this; omega
 ·rw [g2]
  rcases one_high g1 with ⟨q1, _⟩ | ⟨q1, q2, q3, q4⟩
  ·omega
  ·exact ⟨by omega, q3, q4⟩
theorem dec_rune (s : Str) : (Lib.decodeL s).1 ≤ 1114111 := Lib.decodeL_rune s
theorem hasB_step {p : Nat → Bool} (hp : ∀ r, p r = true → r < 128) {s : Str} (n : Nat) (h : ∀ k, k < n → 128 ≤ cN s k) : hasB p s = hasB p (s.drop n) := by
 rw [Bool.eq_iff_iff, hasB_iff, hasB_iff]
 constructor
 ·rintro ⟨i, hi, hc⟩
  have : n ≤ i := by
   apply Decidable.byContradiction
   intro hn
   have := h i (by omega)
   have := hp _ hc
   omega
  exact ⟨i - n, by rw [List.length_drop]; omega, by rw [cN_drop, show n + (i - n) = i by omega]; exact hc⟩
 ·rintro ⟨i, hi, hc⟩
  rw [List.length_drop] at hi
  exact ⟨n + i, by omega, by rw [← cN_drop]; exact hc⟩
theorem hasB_cons {p : Nat → Bool} {s : Str} (h : 0 < s.length) : hasB p s = (p (cN s 0) || hasB p (s.drop 1)) := by
 cases s with
 | nil => simp at h
 | cons c r => simp [hasB, cN]
theorem rIdx_low {p : Nat → Bool} (hp : ∀ r, p r = true → r < 128) : ∀ (k : Nat) (s : Str) (pos : Nat), s.length ≤ k → (0 ≤ rIdx p k s pos ↔ hasB p s = true)
 | 0, s, pos, h => by
  have : s = [] := List.eq_nil_of_length_eq_zero (by omega)
  subst this; simp [rIdx, hasB]
 | k + 1, s, pos, h => by
  unfold rIdx
  by_cases hs : s = []
  ·subst hs; simp [hasB]
  rw [if_neg hs]
  have hl : 0 < s.length := List.length_pos_iff.2 hs
  rcases dec_cases hl with ⟨g1, g2⟩ | ⟨g1, g2, g3, g4, g5⟩
  ·rw [g2, hasB_cons hl]
   by_cases hc : p (cN s 0) = true
   ·simp [hc]
   ·rw [if_neg hc, rIdx_low hp k _ _ (by rw [List.length_drop]; omega)]
    simp [hc]
  ·have hn : ¬ p (Lib.decodeL s).1 = true := fun e => by have := hp _ e; omega
   rw [if_neg hn, rIdx_low hp k _ _ (by rw [List.length_drop]; omega), hasB_step hp _ g5]
theorem rIdx_none {p : Nat → Bool} {k pos : Nat} : rIdx p k [] pos = -1 := by cases k <;> simp [rIdx]
theorem rIdx_yes {p : Nat → Bool} {k pos : Nat} {s : Str} (hs : s ≠ []) (h : p (Lib.decodeL s).1 = true) : rIdx p (k + 1) s pos = pos := by unfold rIdx; rw [if_neg hs, if_pos h]
theorem rIdx_no {p : Nat → Bool} {k pos : Nat} {s : Str} (hs : s ≠ []) (h : p (Lib.decodeL s).1 = false) : rIdx p (k + 1) s pos = rIdx p k (s.drop (Lib.decodeL s).2) (pos + (Lib.decodeL s).2) := by
 conv => lhs; unfold rIdx
 rw [if_neg hs, if_neg (by rw [h]; decide)]
theorem dec_pos {s : Str} {i : Nat} : Utf8.decode ⟨s.toArray⟩ i = Lib.decodeL (s.drop i) := by
 have := Lib.decodeL_drop ⟨s.toArray⟩ i
 simpa using this.symm
@[simp] theorem frU_range {d : Option Tmp} {t : TypeId} {l : Operand} {ty : TypeId} {pos : String} {af : Array Edge} {g : Option (Nat × Bool)} {s : St} : freshen s ⟨d, .range t l, ty, pos, af, g⟩ = s := rfl
@[simp] theorem frU_next {d : Option Tmp} {b : Bool} {l : Operand} {ty : TypeId} {pos : String} {af : Array Edge} {g : Option (Nat × Bool)} {s : St} : freshen s ⟨d, .next l b, ty, pos, af, g⟩ = s := rfl
theorem itU_yes {m b i : Nat} {s : Str} {g : List (Nat × Blk)} (h : i < s.length) : nextA ⟨m, [(b, .iter s i) :: g]⟩ b = some (.tup [.bool true, .int .i64 i, .int .i32 ((Lib.decodeL (s.drop i)).1 : Int)], ⟨m, [(b, .iter s (i + (Lib.decodeL (s.drop i)).2)) :: g]⟩) := by
 have hb : Nat.blt i s.length = true := by simpa using h
 simp [nextA, Heap.get, getFs, getF, hb, dec_pos, Heap.set, setFs, setF]
theorem itU_no {m b i : Nat} {s : Str} {g : List (Nat × Blk)} (h : ¬ i < s.length) : nextA ⟨m, [(b, .iter s i) :: g]⟩ b = some (.tup [.bool false], ⟨m, [(b, .iter s i) :: g]⟩) := by
 have hb : Nat.blt i s.length = false := by
  cases hq : Nat.blt i s.length with
  | false => rfl
  | true => exact absurd (by simpa using hq) h
 simp [nextA, Heap.get, getFs, getF, hb]
theorem fit_it {m : Nat} {s : Str} {i : Nat} : FitH 0 [(0, 0)] [] ⟨m, [[(0, .iter s i)]]⟩ ⟨1, [[(0, .iter s i)]]⟩ where
 nd1 := by simp
 nd2 := by simp
 nd3 := by simp [Heap.ents]
 lt := fun x hx => by simp at hx; subst hx; simp
 idn := fun x hx h => by rcases h with h | h <;> exact absurd h (Nat.not_lt_zero _)
 num := Nat.zero_le _
 src := fun e he => by
  simp [Heap.ents] at he
  subst he
  exact ⟨0, .iter s i, by simp, by simp [Heap.get, getFs, getF], rfl, rfl⟩
 frz := fun x hx => by cases hx
def lays196_ren : Go.Shelf.Ren := ⟨fun | 196 => 119 | 259 => 146 | n => n, fun | 0 => 0 | 3 => 3 | 4 => 4 | 5 => 5 | 9 => 9 | 12 => 12 | 46 => 125 | 53 => 147 | 119 => 130 | 138 => 132 | 139 => 133 | n => n, fun | 3 => 1 | 4 => 2 | n => n⟩
theorem lays196 : Go.Proofs.Lays.n196 Tryz.prog lays196_ren where
 mixed := by kernel_rfl
 f196 := Tryz.func119.trans (congrArg some (by kernel_rfl))
 f259 := Tryz.func146.trans (congrArg some (by kernel_rfl))
 t0 := Tryz.underlying0
 a0 := Tryz.isAgg0
 z0 := Tryz.sizeOf0
 v0 := Tryz.zeroValue0
 t3 := Tryz.underlying3
 a3 := Tryz.isAgg3
 z3 := Tryz.sizeOf3
 v3 := Tryz.zeroValue3
 t4 := Tryz.underlying4
 a4 := Tryz.isAgg4
 z4 := Tryz.sizeOf4
 v4 := Tryz.zeroValue4
 t5 := Tryz.underlying5
 a5 := Tryz.isAgg5
 z5 := Tryz.sizeOf5
 v5 := Tryz.zeroValue5
 t9 := Tryz.underlying9
 a9 := Tryz.isAgg9
 z9 := Tryz.sizeOf9
 v9 := Tryz.zeroValue9
 t12 := Tryz.underlying12
 a12 := Tryz.isAgg12
 z12 := Tryz.sizeOf12
 v12 := Tryz.zeroValue12
 t46 := Tryz.underlying125
 a46 := Tryz.isAgg125
 z46 := Tryz.sizeOf125
 v46 := Tryz.zeroValue125
 t53 := Tryz.underlying147
 a53 := Tryz.isAgg147
 z53 := Tryz.sizeOf147
 v53 := Tryz.zeroValue147
 t119 := Tryz.underlying130
 a119 := Tryz.isAgg130
 z119 := Tryz.sizeOf130
 t138 := Tryz.underlying132
 a138 := Tryz.isAgg132
 z138 := Tryz.sizeOf132
 v138 := Tryz.zeroValue132
 t139 := Tryz.underlying133
 a139 := Tryz.isAgg133
 z139 := Tryz.sizeOf133
 v139 := Tryz.zeroValue133
 g3 := by kernel_rfl
 g4 := by kernel_rfl
theorem sim_belowU {ρ : Place} {w w' : World} (sm : Sim ρ ⟨0, []⟩ w) (h : Below w.heap.size w w') : Sim ρ ⟨0, []⟩ w' where
 base := fun k hk => Nat.lt_of_lt_of_le (sm.base k hk) h.size
 below := fun k hk => (h.block k (sm.base k hk)).trans (sm.below k hk)
 os := h.os.trans sm.os
 tape := h.tape.trans sm.tape
 output := h.output.trans sm.output
 dom := sm.dom
 nodup := sm.nodup
 live := fun e he => by simp [Heap.ents] at he
 inj := fun e e' he => by simp [Heap.ents] at he
theorem step_belowU {ρ : Place} {w w' : World} (h : Below w.heap.size w w') : Step ρ ⟨0, []⟩ w ρ ⟨0, []⟩ w' where
 le := Place.le_refl ρ
 size := h.size
 keeps := fun k hk _ => h.block k hk
 rows := fun e' he' => by simp [Heap.ents] at he'
 num := Nat.le_refl _
 low := fun _ _ => rfl
 cold := fun k hk => .inl hk
theorem first_at : ∀ c : Fin 256, utfFirst[c.val]? = some (Lib.firstT c.val : Int) := by decide +kernel
theorem acc_lo : ∀ i : Fin 16, utfAcc[2 * i.val]? = some (Lib.accLo i.val : Int) := by decide +kernel
theorem acc_hi : ∀ i : Fin 16, utfAcc[2 * i.val + 1]? = some (Lib.accHi i.val : Int) := by decide +kernel
theorem tabs_in {ρ : Place} {w : World} (sm : Sim ρ ⟨0, []⟩ w) : Lib.Utf8Tabs (1) (2) w := by
 have cell : ∀ x, x ∈ pins → ∀ i n, x.2[i]? = some n → w.cell? ⟨x.1, i, none⟩ = some (.int .u8 n) := fun x hx i n hn => by
  obtain ⟨hB, hc⟩ := ρ.gp x hx
  rw [World.cell?, sm.below x.1 hB]; exact hc i n hn
 exact ⟨fun c hc => cell (1, utfFirst) (by decide +kernel) c _ (first_at ⟨c, hc⟩),
  fun i hi => ⟨cell (2, utfAcc) (by decide +kernel) _ _ (acc_lo ⟨i, hi⟩), cell (2, utfAcc) (by decide +kernel) _ _ (acc_hi ⟨i, hi⟩)⟩⟩
theorem c119 {T : List (Entry Tryz.prog)} (s : Str) (hl : s.length ≤ 1000000) : CallAt (ctx T) 119 [.str s] ⟨0, []⟩ (.bool (Lib.validD s)) ⟨0, []⟩ := by
 intro ρ w xs sm hx
 match xs, hx with
 | [x], hx =>
  have h0 := hx.2 0 (by simp) (by simp)
  simp only [List.getElem_cons_zero] at h0
  cases h0
  have hrun : (callFunc 119 #[.string ⟨s.toArray⟩]).run (ctx T).P w = .ok (.enter 119 #[.string ⟨s.toArray⟩]) w := by
   have hf : (ctx T).P.funcs[119]? = some Tryz.f119 := Tryz.func119
   have hn : ¬ Tryz.f119.name = "runtime.NumGoroutine" := by decide +kernel
   simp [callFunc, hf, hn, Tryz.f119]
  have hsz : (⟨s.toArray⟩ : ByteArray).size = s.length := by show s.toArray.size = _; simp
  refine .inr ⟨119, _, hrun, callsIn_wide.2 ?_⟩
  refine (Go.Proofs.Any.utf8_ValidString lays196 ⟨s.toArray⟩ w (by rw [hsz]; omega) (tabs_in sm)).mono ?_
  rintro e w' ⟨rfl, hb⟩
  exact ⟨_, ρ, rfl, .bool _, sim_belowU sm hb, step_belowU hb⟩
theorem injS1 (x y : Str) (h : [AV.str x] = [AV.str y]) : x = y := by simpa using h
noncomputable def e119 : Entry Tryz.prog := mkE 119 [[]] (fun x : Str => [.str x]) (fun x => x.length ≤ 1000000) (fun x => .bool (Lib.validD x)) fun x h => c119 (T := []) x h
theorem k119 {T : List (Entry Tryz.prog)} (hT : findE 119 T = some e119.g) {s : Str} (h1 : s.length ≤ 1000000) (H : Heap) : callL (ctx T) (.fn 119) [.str s] H = some (.bool (Lib.validD s), H) :=
 mkE_scalar hT injS1 s h1 rfl (by simp)
theorem c155 {T : List (Entry Tryz.prog)} (s : Str) (c : UInt8) : CallAt (ctx T) 155 [.str s, .int .u8 (c.toNat : Int)] ⟨0, []⟩ (.int .i64 (Lib.indexByte s c)) ⟨0, []⟩ := by
 intro ρ w xs sm hx
 match xs, hx with
 | [x, y], hx =>
  have h0 := hx.2 0 (by simp) (by simp)
  have h1 := hx.2 1 (by simp) (by simp)
  simp only [List.getElem_cons_zero, List.getElem_cons_succ] at h0 h1
  cases h0; cases h1
  have hr := Lib.run_indexByteString (P := Tryz.prog) ⟨s.toArray⟩ (c.toNat : Int) w
  have hf : (ctx T).P.funcs[155]? = some Tryz.f155 := Tryz.func155
  have hn : ¬ Tryz.f155.name = "runtime.NumGoroutine" := by decide +kernel
  have e1 : (Extern.findNext Tryz.f155).isNone = true := by decide +kernel
  have e2 : Extern.find Tryz.f155 = some Extern.BytealgIndexByte.indexByte := by rfl
  have e1' : Extern.findNext Tryz.f155 = none := Option.isNone_iff_eq_none.1 e1
  have hb : Tryz.f155.body.isNone = true := rfl
  refine .inl ⟨_, ρ, w, ?_, .int _ _, sm, Step.refl _ _ _⟩
  have hc : (c.toNat : Int).toNat.toUInt8 = c := by simp
  rw [hc] at hr
  have hr' : Sem.run (ctx T).P (Extern.BytealgIndexByte.indexByte #[.string ⟨s.toArray⟩, .int .u8 (c.toNat : Int)]) w = .ok (.int .i64 (Lib.indexByte s c)) w := hr
  have hb2 : Tryz.f155.body = none := rfl
  have hr2 : Sem.run Tryz.prog (Extern.BytealgIndexByte.indexByte #[.string ⟨s.toArray⟩, .int .u8 (c.toNat : Int)]) w = .ok (.int .i64 (Lib.indexByte s c)) w := hr
  simp [callFunc, hf, hn, hb2, e1', e2, hr2]
theorem inj_sb (x y : Str × UInt8) (h : [AV.str x.1, AV.int .u8 (x.2.toNat : Int)] = [AV.str y.1, AV.int .u8 (y.2.toNat : Int)]) : x = y := by
 simp at h
 exact Prod.ext h.1 (UInt8.toNat_inj.1 (by omega))
theorem wps_scope0 {C : Ctx} {n : Nat} {r : Option Nat} {s : St} {Q : Out → St → Prop} {body : Code} (h : WpSr C n r body s (gotoQ body (fun _ _ => False) Q)) : WpSr C n r (.scope body) s Q := by
 repeat apply wq
 refine wps_scope (fun _ : Unit => body) (fun _ => s) (fun _ => True) (fun _ => 0) () trivial rfl ?_
 intro _ _ B _
 refine h.mono fun x s' hq => ?_
 cases x with
 | goto l =>
  simp only [gotoQ] at hq ⊢
  cases hl : findLabel body l with
  | none => rw [hl] at hq; exact hq
  | some rest => rw [hl] at hq; exact hq.elim
 | normal => exact hq
 | exit k => exact hq
 | ret => exact hq
@[simp] theorem gotoQ_ret {body : Code} {R : Code → St → Prop} {Q : Out → St → Prop} {s : St} : gotoQ body R Q .ret s = Q .ret s := rfl
@[simp] theorem gotoQ_normal {body : Code} {R : Code → St → Prop} {Q : Out → St → Prop} {s : St} : gotoQ body R Q .normal s = Q .normal s := rfl
@[simp] theorem gotoQ_exit {body : Code} {R : Code → St → Prop} {Q : Out → St → Prop} {s : St} {k : Nat} : gotoQ body R Q (.exit k) s = Q (.exit k) s := rfl
theorem c124 {T : List (Entry Tryz.prog)} (s : Str) (c : UInt8) : CallAt (ctx T) 124 [.str s, .int .u8 (c.toNat : Int)] ⟨0, []⟩ (.int .i64 (Lib.indexByte s c)) ⟨0, []⟩ := by
 have hc := (c155 (T := T) s c).lift (by simp [pureL, pureV]) ⟨0, [[]]⟩
 generalize Lib.indexByte s c = v at *
 refine callAt_body (fn := Tryz.f124) (s0 := ⟨[0, 1, 4], [.str s, .int .u8 (c.toNat : Int), .undef], [], 8, ⟨0, [[]]⟩⟩) Tryz.func124 rfl rfl rfl ?_
 repeat apply wq
 refine wps_region callOK ?_
 simp [zS]
 repeat apply wq
 refine wps_region (callOKF [⟨155, _, _, _, _, hc⟩]) ?_
 simp [zS, callF]
 repeat apply wq
 refine wps_ret ?_
 simp [retVal, Tryz.f124, oneOr, thenQ, blockQ]
 exact ends_pure rfl (by rfl)
theorem c91 {T : List (Entry Tryz.prog)} (s : Str) (c : UInt8) : CallAt (ctx T) 91 [.str s, .int .u8 (c.toNat : Int)] ⟨0, []⟩ (.int .i64 (Lib.indexByte s c)) ⟨0, []⟩ := by
 have hc := (c124 (T := T) s c).lift (by simp [pureL, pureV]) ⟨0, [[]]⟩
 generalize Lib.indexByte s c = v at *
 refine callAt_body (fn := Tryz.f91) (s0 := ⟨[0, 1, 4], [.str s, .int .u8 (c.toNat : Int), .undef], [], 8, ⟨0, [[]]⟩⟩) Tryz.func91 rfl rfl rfl ?_
 repeat apply wq
 refine wps_region callOK ?_
 simp [zS]
 repeat apply wq
 refine wps_region (callOKF [⟨124, _, _, _, _, hc⟩]) ?_
 simp [zS, callF]
 repeat apply wq
 refine wps_ret ?_
 simp [retVal, Tryz.f91, oneOr, thenQ, blockQ]
 exact ends_pure rfl (by rfl)
noncomputable def e91 : Entry Tryz.prog := mkE 91 [[], []] (fun x : Str × UInt8 => [.str x.1, .int .u8 (x.2.toNat : Int)]) (fun _ => True) (fun x => .int .i64 (Lib.indexByte x.1 x.2)) fun x _ => c91 (T := []) x.1 x.2
theorem k91 {T : List (Entry Tryz.prog)} (hT : findE 91 T = some e91.g) (s : Str) (c : UInt8) (H : Heap) : callL (ctx T) (.fn 91) [.str s, .int .u8 (c.toNat : Int)] H = some (.int .i64 (Lib.indexByte s c), H) :=
 mkE_scalar hT inj_sb (s, c) trivial rfl (by simp)
def okRune (r : Nat) : Bool := decide (r < 55296) || (decide (57343 < r) && decide (r ≤ 1114111))
theorem c173 {T : List (Entry Tryz.prog)} (r : Nat) : CallAt (ctx T) 173 [.int .i32 (r : Int)] ⟨0, []⟩ (.bool (okRune r)) ⟨0, []⟩ := by
 have h0 : (0 : Int) ≤ r := by omega
 by_cases h1 : r < 55296
 ·have h1' : (r : Int) < 55296 := by omega
  refine callAt_body (fn := Tryz.f173) (s0 := ⟨[0, 2], [.int .i32 (r : Int), .undef], [], 17, ⟨0, [[]]⟩⟩) Tryz.func173 rfl rfl rfl ?_
  (repeat (first
   | (refine wps_seq ?_)
   | (refine wps_block ?_)
   | (refine wps_label ?_; simp only [thenQ, blockQ])
   | ((refine wps_region callOK ?_); simp [zS, h0, h1, h1'])
   | (refine wps_ct rfl ?_)
   | (refine wps_cf rfl ?_)
   | ((refine wps_skip ?_); simp only [thenQ, blockQ])
   | ((refine wps_exit ?_); simp [thenQ, blockQ])))
  repeat apply wq
  refine wps_ret ?_
  simp [retVal, Tryz.f173, oneOr, thenQ, blockQ]
  exact ends_pure rfl (by simp [okRune, h1])
 ·have h1' : ¬ (r : Int) < 55296 := by omega
  by_cases h2 : 57343 < r
  ·have h2' : (57343 : Int) < r := by omega
   by_cases h3 : r ≤ 1114111
   ·have h3' : (r : Int) ≤ 1114111 := by omega
    refine callAt_body (fn := Tryz.f173) (s0 := ⟨[0, 2], [.int .i32 (r : Int), .undef], [], 17, ⟨0, [[]]⟩⟩) Tryz.func173 rfl rfl rfl ?_
    (repeat (first
     | (refine wps_seq ?_)
     | (refine wps_block ?_)
     | (refine wps_label ?_; simp only [thenQ, blockQ])
     | ((refine wps_region callOK ?_); simp [zS, h0, h1, h1', h2, h2', h3, h3'])
     | (refine wps_ct rfl ?_)
     | (refine wps_cf rfl ?_)
     | ((refine wps_skip ?_); simp only [thenQ, blockQ])
     | ((refine wps_exit ?_); simp [thenQ, blockQ])))
    repeat apply wq
    refine wps_ret ?_
    simp [retVal, Tryz.f173, oneOr, thenQ, blockQ]
    exact ends_pure rfl (by simp [okRune, h1, h2, h3])
   ·have h3' : ¬ (r : Int) ≤ 1114111 := by omega
    refine callAt_body (fn := Tryz.f173) (s0 := ⟨[0, 2], [.int .i32 (r : Int), .undef], [], 17, ⟨0, [[]]⟩⟩) Tryz.func173 rfl rfl rfl ?_
    (repeat (first
     | (refine wps_seq ?_)
     | (refine wps_block ?_)
     | (refine wps_label ?_; simp only [thenQ, blockQ])
     | ((refine wps_region callOK ?_); simp [zS, h0, h1, h1', h2, h2', h3, h3'])
     | (refine wps_ct rfl ?_)
     | (refine wps_cf rfl ?_)
     | ((refine wps_skip ?_); simp only [thenQ, blockQ])
     | ((refine wps_exit ?_); simp [thenQ, blockQ])))
    repeat apply wq
    refine wps_ret ?_
    simp [retVal, Tryz.f173, oneOr, thenQ, blockQ]
    exact ends_pure rfl (by simp [okRune, h1, h2, h3])
  ·have h2' : ¬ (57343 : Int) < r := by omega
   refine callAt_body (fn := Tryz.f173) (s0 := ⟨[0, 2], [.int .i32 (r : Int), .undef], [], 17, ⟨0, [[]]⟩⟩) Tryz.func173 rfl rfl rfl ?_
   (repeat (first
    | (refine wps_seq ?_)
    | (refine wps_block ?_)
    | (refine wps_label ?_; simp only [thenQ, blockQ])
    | ((refine wps_region callOK ?_); simp [zS, h0, h1, h1', h2, h2'])
    | (refine wps_ct rfl ?_)
    | (refine wps_cf rfl ?_)
    | ((refine wps_skip ?_); simp only [thenQ, blockQ])
    | ((refine wps_exit ?_); simp [thenQ, blockQ])))
   repeat apply wq
   refine wps_ret ?_
   simp [retVal, Tryz.f173, oneOr, thenQ, blockQ]
   exact ends_pure rfl (by simp [okRune, h1, h2])
noncomputable def e173 : Entry Tryz.prog := mkE 173 [[]] (fun x : Nat => [.int .i32 (x : Int)]) (fun _ => True) (fun x => .bool (okRune x)) fun x _ => c173 (T := []) x
theorem k173 {T : List (Entry Tryz.prog)} (hT : findE 173 T = some e173.g) (r : Nat) (H : Heap) : callL (ctx T) (.fn 173) [.int .i32 (r : Int)] H = some (.bool (okRune r), H) :=
 mkE_scalar hT (fun x y h => by simp at h; omega) r trivial rfl (by simp)
abbrev anyC : Str := [0, 13]
def anyV (r : Nat) : Int := if r = 0 then 0 else if r = 13 then 1 else -1
theorem bad_rune : litOK (.int .i64 (-1)) (callN (ctx []) 100000 (.fn 164) [.str anyC, .int .i32 65533] ⟨0, []⟩) = true := by decide +kernel
theorem anyV_low : ∀ c : Fin 128, anyV c.val = Lib.indexByte anyC (UInt8.ofNat c.val) := by decide +kernel
theorem enc_shape {r : Nat} (h : 128 ≤ r) (hv : okRune r = true) : (∃ a b : UInt8, (Utf8.encode (r : Int)).data.toList = [a, b] ∧ 128 ≤ b.toNat) ∨ 3 ≤ (Utf8.encode (r : Int)).data.toList.length ∧ (Utf8.encode (r : Int)).data.toList.length ≤ 4 := by
 have hval : Utf8.valid (r : Int) = true := by
  simp only [okRune, Bool.or_eq_true, Bool.and_eq_true, decide_eq_true_eq] at hv
  simp only [Utf8.valid, Bool.or_eq_true, Bool.and_eq_true, decide_eq_true_eq]
  omega
 unfold Utf8.encode
 simp only [hval, if_true, Int.toNat_natCast]
 rw [if_neg (by omega)]
 split
 ·left
  refine ⟨_, _, rfl, ?_⟩
  simp only [UInt8.toNat_ofNat']
  omega
 ·right
  split <;> simp
theorem c164 {T : List (Entry Tryz.prog)} (hB : findE 91 T = some e91.g) (hV : findE 173 T = some e173.g) (r : Nat) (hr : r ≤ 1114111) : CallAt (ctx T) 164 [.str anyC, .int .i32 (r : Int)] ⟨0, []⟩ (.int .i64 (anyV r)) ⟨0, []⟩ := by
 have h0 : (0 : Int) ≤ r := by omega
 by_cases h1 : r < 128
 ·have h1' : (r : Int) < 128 := by omega
  have hw : IntKind.u8.wrap (r : Int) = ((UInt8.ofNat r).toNat : Int) := by
   have e : (UInt8.ofNat r).toNat = r := by simp; omega
   rw [e]
   simp [IntKind.wrap, IntKind.signed, IntKind.bits]
   omega
  have hcv : ∀ H, convA Tryz.prog H 21 5 (.int .i32 (r : Int)) = some (.int .u8 ((UInt8.ofNat r).toNat : Int), H) := fun H => by simp [convA, hw]
  have hk := fun H => k91 hB anyC (UInt8.ofNat r) H
  have hv := anyV_low ⟨r, h1⟩
  simp only at hv
  rw [← hv] at hk
  generalize UInt8.ofNat r = c at *
  generalize anyV r = v at *
  refine callAt_body (fn := Tryz.f164) (s0 := ⟨[0, 1, 4, 5, 6, 7, 8, 9, 10, 11, 12, 13, 14, 15, 16, 175, 176], [.str anyC, .int .i32 (r : Int), .undef, .undef, .undef, .undef, .undef, .undef, .undef, .undef, .undef, .undef, .undef, .undef, .undef, .undef, .undef], [], 187, ⟨0, [[]]⟩⟩) Tryz.func164 rfl rfl rfl ?_
  repeat apply wq
  refine wps_region callOK ?_
  simp [zS]
  repeat apply wq
  refine wps_block ?_
  repeat apply wq
  refine wps_region callOK ?_
  simp [zS, h0, h1, h1']
  repeat apply wq
  refine wps_ct rfl ?_
  repeat apply wq
  refine wps_region callOK ?_
  simp [zS, hcv, hk]
  repeat apply wq
  refine wps_ret ?_
  simp [retVal, Tryz.f164, oneOr, thenQ, blockQ]
  exact ends_pure rfl (by rfl)
 have hn : anyV r = -1 := by unfold anyV; rw [if_neg (by omega), if_neg (by omega)]
 by_cases h2 : r = 65533
 ·subst h2
  rw [hn]
  exact closedLit (T := []) bad_rune
 have h1' : ¬ (r : Int) < 128 := by omega
 have h2' : ¬ (r : Int) = 65533 := by omega
 have kv := fun H => k173 hV r H
 rw [hn]
 cases hok : okRune r with
 | false =>
  rw [hok] at kv
  refine callAt_body (fn := Tryz.f164) (s0 := ⟨[0, 1, 4, 5, 6, 7, 8, 9, 10, 11, 12, 13, 14, 15, 16, 175, 176], [.str anyC, .int .i32 (r : Int), .undef, .undef, .undef, .undef, .undef, .undef, .undef, .undef, .undef, .undef, .undef, .undef, .undef, .undef, .undef], [], 187, ⟨0, [[]]⟩⟩) Tryz.func164 rfl rfl rfl ?_
  repeat apply wq
  refine wps_region callOK ?_
  simp [zS]
  repeat apply wq
  refine wps_block ?_
  repeat apply wq
  refine wps_region callOK ?_
  simp [zS, h0, h1, h1']
  repeat apply wq
  refine wps_cf rfl ?_
  repeat apply wq
  refine wps_region callOK ?_
  simp [zS, h2, h2']
  repeat apply wq
  refine wps_cf rfl ?_
  repeat apply wq
  refine wps_region callOK ?_
  simp [zS, kv]
  repeat apply wq
  refine wps_ct rfl ?_
  repeat apply wq
  refine wps_region callOK ?_
  simp [zS]
  repeat apply wq
  refine wps_ret ?_
  simp [retVal, Tryz.f164, oneOr, thenQ, blockQ]
  exact ends_pure rfl (by rfl)
 | true =>
  rw [hok] at kv
  have hsh := enc_shape (by omega) hok
  have hcv : ∀ H, convA Tryz.prog H 21 9 (.int .i32 (r : Int)) = some (.str (Utf8.encode (r : Int)).data.toList, H) := fun H => by simp [convA]
  generalize (Utf8.encode (r : Int)).data.toList = rs at *
  refine callAt_body (fn := Tryz.f164) (s0 := ⟨[0, 1, 4, 5, 6, 7, 8, 9, 10, 11, 12, 13, 14, 15, 16, 175, 176], [.str anyC, .int .i32 (r : Int), .undef, .undef, .undef, .undef, .undef, .undef, .undef, .undef, .undef, .undef, .undef, .undef, .undef, .undef, .undef], [], 187, ⟨0, [[]]⟩⟩) Tryz.func164 rfl rfl rfl ?_
  repeat apply wq
  refine wps_region callOK ?_
  simp [zS]
  repeat apply wq
  refine wps_block ?_
  repeat apply wq
  refine wps_region callOK ?_
  simp [zS, h0, h1, h1']
  repeat apply wq
  refine wps_cf rfl ?_
  repeat apply wq
  refine wps_region callOK ?_
  simp [zS, h2, h2']
  repeat apply wq
  refine wps_cf rfl ?_
  repeat apply wq
  refine wps_region callOK ?_
  simp [zS, kv]
  repeat apply wq
  refine wps_cf rfl ?_
  refine wps_scope0 ?_
  rcases hsh with ⟨a, b, rfl, hb⟩ | ⟨g1, g2⟩
  ·have hkb := fun H => k91 hB [] b H
   have hib : Lib.indexByte [] b = -1 := rfl
   rw [hib] at hkb
   have hne : ¬ (13 : Int) = (b.toNat : Int) := by omega
   have hne' : ¬ (b.toNat : Int) = 13 := by omega
   have ix1 : indexA Tryz.prog 9 (.str anyC) (.int .i64 1) = some (.int .u8 13) := rfl
   have ix2 : indexA Tryz.prog 9 (.str [a, b]) (.int .i64 1) = some (.int .u8 (b.toNat : Int)) := rfl
   have sl : ∀ H, sliceA Tryz.prog H 9 (.str anyC) (some (.int .i64 2)) none none = some (.str []) := fun H => rfl
   repeat apply wq
   refine wps_region callOK ?_
   simp [zS, hcv]
   have w1 : wr .i64 1 = some 1 := rfl
   repeat apply wq
   refine wps_region callOK ?_
   simp [zS, w1]
   repeat apply wq
   refine wps_region callOK ?_
   simp [zS]
   repeat apply wq
   refine wps_region callOK ?_
   simp [zS]
   repeat apply wq
   refine wps_block (wps_loop' (fun _ : Unit => (⟨[0, 1, 4, 5, 6, 7, 8, 9, 10, 11, 12, 13, 14, 15, 16, 175, 176], [.str anyC, .int .i32 (r : Int), .int .i64 0, .undef, .undef, .str [a, b], .int .i64 1, .int .i64 1, .int .i64 0, .undef, .undef, .undef, .undef, .undef, .undef, .undef, .undef], [], 187, ⟨0, [[]]⟩⟩ : St)) (fun _ => True) (fun _ => 0) [] [] () trivial ⟨rfl, rfl, rfl, by simp [fitL, fitV, pureV, pureL], FitH.nothing⟩ ?_)
   intro _ _ B hB
   repeat apply wq
   refine wps_region callOK ?_
   simp [zS]
   repeat apply wq
   refine wps_ct rfl ?_
   repeat apply wq
   refine wps_skip ?_
   simp
   repeat apply wq
   refine wps_block ?_
   refine wps_scope0 ?_
   repeat apply wq
   refine wps_drawK mixed callOK (by decide +kernel) (by decide +kernel) ?_
   simp [zS, evalK_c, evalK_nil, thenK_some, ix1, ix2, hne, hne']
   repeat apply wq
   refine wps_ct rfl ?_
   have w2 : wr .i64 2 = some 2 := rfl
   repeat apply wq
   refine wps_drawK mixed callOK (by decide +kernel) (by decide +kernel) ?_
   simp [zS, evalK_c, evalK_nil, thenK_some, ix2, w2, sl, hkb]
   repeat apply wq
   refine wps_region callOK ?_
   simp [zS]
   repeat apply wq
   refine wps_ct rfl ?_
   repeat apply wq
   refine wps_region callOK ?_
   simp [zS]
   repeat apply wq
   refine wps_ret ?_
   simp [retVal, Tryz.f164, oneOr, thenQ, blockQ]
   exact ends_pure rfl (by rfl)
  ·obtain ⟨L, hL⟩ : ∃ L, rs.length = L + 1 := ⟨rs.length - 1, by omega⟩
   have hw : wr .i64 ((rs.length : Int) - 1) = some ((L : Nat) : Int) := by rw [wr_small (by omega) (by omega), hL]; congr 1; omega
   have hlt : ¬ (L : Int) < 2 := by omega
   have hlt' : ¬ L < 2 := by omega
   repeat apply wq
   refine wps_region callOK ?_
   simp [zS, hcv]
   repeat apply wq
   refine wps_region callOK ?_
   simp [zS, hw]
   repeat apply wq
   refine wps_region callOK ?_
   simp [zS]
   repeat apply wq
   refine wps_region callOK ?_
   simp [zS]
   repeat apply wq
   refine wps_block (wps_loop' (fun _ : Unit => (⟨[0, 1, 4, 5, 6, 7, 8, 9, 10, 11, 12, 13, 14, 15, 16, 175, 176], [.str anyC, .int .i32 (r : Int), .int .i64 0, .undef, .undef, .str rs, .int .i64 (L : Nat), .int .i64 (L : Nat), .int .i64 0, .undef, .undef, .undef, .undef, .undef, .undef, .undef, .undef], [], 187, ⟨0, [[]]⟩⟩ : St)) (fun _ => True) (fun _ => 0) [] [] () trivial ⟨rfl, rfl, rfl, by simp [fitL, fitV, pureV, pureL], FitH.nothing⟩ ?_)
   intro _ _ B hB
   repeat apply wq
   refine wps_region callOK ?_
   simp [zS, hlt, hlt']
   repeat apply wq
   refine wps_cf (by simp [opnd, St.get, hlt, hlt']) ?_
   repeat apply wq
   refine wps_exit ?_
   simp
   repeat apply wq
   refine wps_region callOK ?_
   simp [zS]
   repeat apply wq
   refine wps_ret ?_
   simp [retVal, Tryz.f164, oneOr, thenQ, blockQ]
   exact ends_pure rfl (by rfl)
noncomputable def e164 : Entry Tryz.prog := mkE 164 [[], []] (fun x : Nat => [.str anyC, .int .i32 (x : Int)]) (fun x => x ≤ 1114111) (fun x => .int .i64 (anyV x)) fun x h => c164 (T := [e91, e173]) rfl rfl x h
theorem k164 {T : List (Entry Tryz.prog)} (hT : findE 164 T = some e164.g) {r : Nat} (hr : r ≤ 1114111) (H : Heap) : callL (ctx T) (.fn 164) [.str anyC, .int .i32 (r : Int)] H = some (.int .i64 (anyV r), H) :=
 mkE_scalar hT (fun x y h => by simp at h; omega) r hr rfl (by simp)
def lays153_ren : Go.Shelf.Ren := ⟨fun | 119 => 173 | 137 => 91 | 152 => 164 | 153 => 147 | 217 => 124 | 224 => 144 | 225 => 143 | 226 => 165 | 227 => 150 | 228 => 166 | 266 => 155 | n => n, fun | 0 => 0 | 3 => 3 | 4 => 4 | 5 => 5 | 9 => 9 | 21 => 21 | 46 => 125 | 116 => 136 | 117 => 137 | 124 => 140 | n => n, fun | n => n⟩
theorem lays153 : Go.Proofs.Lays.n153 Tryz.prog lays153_ren where
 mixed := by kernel_rfl
 f119 := Tryz.func173.trans (congrArg some (by kernel_rfl))
 f137 := Tryz.func91.trans (congrArg some (by kernel_rfl))
 f152 := Tryz.func164.trans (congrArg some (by kernel_rfl))
 f153 := Tryz.func147.trans (congrArg some (by kernel_rfl))
 f217 := Tryz.func124.trans (congrArg some (by kernel_rfl))
 f224 := Tryz.func144.trans (congrArg some (by kernel_rfl))
 f225 := Tryz.func143.trans (congrArg some (by kernel_rfl))
 f226 := Tryz.func165.trans (congrArg some (by kernel_rfl))
 f227 := Tryz.func150.trans (congrArg some (by kernel_rfl))
 f228 := Tryz.func166.trans (congrArg some (by kernel_rfl))
 f266 := Tryz.func155.trans (congrArg some (by kernel_rfl))
 t0 := Tryz.underlying0
 a0 := Tryz.isAgg0
 z0 := Tryz.sizeOf0
 v0 := Tryz.zeroValue0
 t3 := Tryz.underlying3
 a3 := Tryz.isAgg3
 z3 := Tryz.sizeOf3
 v3 := Tryz.zeroValue3
 t4 := Tryz.underlying4
 a4 := Tryz.isAgg4
 z4 := Tryz.sizeOf4
 v4 := Tryz.zeroValue4
 t5 := Tryz.underlying5
 a5 := Tryz.isAgg5
 z5 := Tryz.sizeOf5
 v5 := Tryz.zeroValue5
 t9 := Tryz.underlying9
 a9 := Tryz.isAgg9
 z9 := Tryz.sizeOf9
 v9 := Tryz.zeroValue9
 t21 := Tryz.underlying21
 a21 := Tryz.isAgg21
 z21 := Tryz.sizeOf21
 v21 := Tryz.zeroValue21
 t46 := Tryz.underlying125
 a46 := Tryz.isAgg125
 z46 := Tryz.sizeOf125
 v46 := Tryz.zeroValue125
 t116 := Tryz.underlying136
 a116 := Tryz.isAgg136
 z116 := Tryz.sizeOf136
 t117 := Tryz.underlying137
 a117 := Tryz.isAgg137
 z117 := Tryz.sizeOf137
 v117 := Tryz.zeroValue137
 t124 := Tryz.underlying140
 a124 := Tryz.isAgg140
 z124 := Tryz.sizeOf140
 v124 := Tryz.zeroValue140
def badR (r : Nat) : Bool := decide (r = 0) || decide (r = 13)
def idxAny (s : Str) : Int := if s.length ≤ 8 then rIdx badR s.length s 0 else Lib.indexAny s anyC
theorem any_idx : ∀ (s : Str), 0 ≤ Lib.indexAny s anyC ↔ hasB badR s = true
 | [] => by simp [Lib.indexAny, hasB]
 | c :: r => by
  have ih := any_idx r
  have hc : (anyC.contains c) = badR c.toNat := by
   have key : ∀ n : Fin 256, (anyC.contains (UInt8.ofNat n.val)) = badR n.val := by decide +kernel
   have := key ⟨c.toNat, c.toNat_lt⟩
   simpa using this
  have hcons : hasB badR (c :: r) = (badR c.toNat || hasB badR r) := by simp [hasB]
  unfold Lib.indexAny
  rw [hc, hcons]
  cases badR c.toNat with
  | true => simp
  | false =>
   have hge := Lib.indexAny_ge anyC r
   simp only [Bool.false_eq_true, if_false, Bool.false_or]
   rw [← ih]
   split
   ·rename_i h
    simp only [beq_iff_eq] at h
    omega
   ·rename_i h
    simp only [beq_iff_eq] at h
    omega
theorem idxAny_iff (s : Str) : 0 ≤ idxAny s ↔ hasB badR s = true := by
 unfold idxAny
 split
 ·exact rIdx_low (fun r h => by simp [badR] at h; omega) _ _ _ (Nat.le_refl _)
 ·exact any_idx s
theorem set_info : (Tryz.prog.info? 136).map (fun i => (i.zero, i.size)) = some (some (.agg (Array.replicate 256 (.bool false))), 256) := by kernel_rfl
theorem c165 {T : List (Entry Tryz.prog)} (n : Nat) (h : n ≤ 8) : CallAt (ctx T) 165 [.int .i64 (n : Int)] ⟨0, []⟩ (.bool false) ⟨0, []⟩ := by
 have h1 : ¬ (8 : Int) < (n : Int) := by omega
 have h2 : ¬ 8 < n := by omega
 refine callAt_body (fn := Tryz.f165) (s0 := ⟨[0, 2], [.int .i64 (n : Int), .undef], [], 5, ⟨0, [[]]⟩⟩) Tryz.func165 rfl rfl rfl ?_
 (repeat (first
  | (refine wps_seq ?_)
  | (refine wps_block ?_)
  | (refine wps_label ?_; simp only [thenQ, blockQ])
  | ((refine wps_region callOK ?_); simp [zS, h1, h2])
  | (refine wps_ct rfl ?_)
  | (refine wps_cf rfl ?_)
  | ((refine wps_skip ?_); simp only [thenQ, blockQ])
  | ((refine wps_exit ?_); simp [thenQ, blockQ])))
 repeat apply wq
 refine wps_ret ?_
 simp [retVal, Tryz.f165, oneOr, thenQ, blockQ]
 exact ends_pure rfl (by rfl)
theorem c147 {T : List (Entry Tryz.prog)} (hR : findE 164 T = some e164.g) (s : Str) (hl : s.length ≤ 900000) : CallAt (ctx T) 147 [.str s, .str anyC] ⟨0, []⟩ (.int .i64 (idxAny s)) ⟨0, []⟩ := by
 by_cases h8 : s.length ≤ 8
 ·have hv : idxAny s = rIdx badR s.length s 0 := by unfold idxAny; rw [if_pos h8]
  rw [hv]
  have hu := (c165 (T := T) s.length h8).lift (by simp [pureL, pureV]) ⟨0, [[]]⟩
  refine callAt_body (fn := Tryz.f147) (s0 := ⟨[0, 1, 4, 5, 6, 7, 8, 9, 10, 45, 46], [.str s, .str anyC, .undef, .undef, .undef, .undef, .undef, .undef, .undef, .undef, .undef], [], 55, ⟨0, [[]]⟩⟩) Tryz.func147 rfl rfl rfl ?_
  repeat apply wq
  refine wps_region callOK ?_
  simp [zS]
  repeat apply wq
  refine wps_region callOK ?_
  simp [zS]
  repeat apply wq
  refine wps_cf rfl ?_
  repeat apply wq
  refine wps_skip ?_
  simp
  repeat apply wq
  refine wps_region callOK ?_
  simp [zS]
  repeat apply wq
  refine wps_cf rfl ?_
  repeat apply wq
  refine wps_skip ?_
  simp
  repeat apply wq
  repeat apply wq
  refine wps_region (callOKF [⟨165, _, _, _, _, hu⟩]) ?_
  simp [zS, callF]
  repeat apply wq
  refine wps_cf rfl ?_
  repeat apply wq
  refine wps_skip ?_
  simp
  repeat apply wq
  refine wps_region callOK ?_
  simp [zS, rgV]
  repeat apply wq
  refine wps_block (wps_loop' (fun x : Nat × Nat => (⟨[0, 1, 4, 5, 6, 7, 8, 9, 10, 45, 46], [.str s, .str anyC, .int .i64 0, .undef, .undef, .undef, .undef, .undef, .undef, .ptr 0 0, .undef], [], 55, ⟨1, [[(0, .iter s x.2)]]⟩⟩ : St))
   (fun x => x.2 ≤ s.length ∧ s.length ≤ x.2 + x.1 ∧ rIdx badR x.1 (s.drop x.2) x.2 = rIdx badR s.length s 0) (fun x => x.1) [(0, 0)] [] (s.length, 0) ⟨Nat.zero_le _, by simp, by simp⟩
   ⟨rfl, rfl, rfl, by simp [fitL, fitV, lookN, pureV, pureL], fit_it⟩ ?_)
  rintro ⟨k, i⟩ ⟨hi, hk, hd⟩ B hB
  simp only at hi hk hd hB
  by_cases h : i < s.length
  ·obtain ⟨k, rfl⟩ : ∃ k', k = k' + 1 := ⟨k - 1, by omega⟩
   have hne : s.drop i ≠ [] := fun e => by have := congrArg List.length e; simp at this; omega
   have hdl : 0 < (s.drop i).length := by rw [List.length_drop]; omega
   have hr := dec_rune (s.drop i)
   have hw : 1 ≤ (Lib.decodeL (s.drop i)).2 ∧ (Lib.decodeL (s.drop i)).2 ≤ s.length - i := by
    rcases dec_cases hdl with ⟨g1, g2⟩ | ⟨g1, g2, g3, g4, g5⟩
    ·rw [g2]; simp only; omega
    ·rw [List.length_drop] at g4; omega
   have hn := fun m => itU_yes (m := m) (b := 0) (g := []) h
   have hyes := rIdx_yes (p := badR) (k := k) (pos := i) hne
   have hno := rIdx_no (p := badR) (k := k) (pos := i) hne
   generalize Lib.decodeL (s.drop i) = d at *
   obtain ⟨r, w⟩ := d
   simp only at hr hw hn hyes hno
   have hcall := fun H => k164 hR hr H
   have hbv : (0 ≤ anyV r) ↔ badR r = true := by
    unfold anyV badR
    by_cases h1 : r = 0
    ·simp [h1]
    ·by_cases h2 : r = 13
     ·simp [h2]
     ·simp [h1, h2]
   generalize anyV r = v at *
   repeat apply wq
   refine wps_region callOK ?_
   simp [zS, nxV, hn]
   repeat apply wq
   refine wps_ct rfl ?_
   repeat apply wq
   refine wps_skip ?_
   simp
   repeat apply wq
   refine wps_block ?_
   repeat apply wq
   refine wps_region callOK ?_
   simp [zS]
   by_cases hpr : 0 ≤ v
   ·repeat apply wq
    refine wps_region callOK ?_
    simp [zS, hcall, hpr]
    repeat apply wq
    refine wps_ct rfl ?_
    repeat apply wq
    refine wps_region callOK ?_
    simp [zS]
    repeat apply wq
    refine wps_ret ?_
    simp [retVal, Tryz.f147, oneOr, thenQ, blockQ]
    exact ends_pure rfl (by rw [← hd, hyes (hbv.1 hpr)])
   ·have hpf : badR r = false := by
     cases hq : badR r with
     | false => rfl
     | true => exact absurd (hbv.2 hq) hpr
    repeat apply wq
    refine wps_region callOK ?_
    simp [zS, hcall, hpr]
    repeat apply wq
    refine wps_cf rfl ?_
    repeat apply wq
    refine wps_skip ?_
    simp
    refine hB _ (k, i + w) (by simp only; omega) ⟨by simp only; omega, by simp only; omega, ?_⟩ ⟨[(0, 0)], [], rfl, rfl, rfl, by simp [fitL, fitV, lookN, pureV, pureL], fit_it⟩
    simp only
    rw [← hd, hno hpf, List.drop_drop]
  ·have hie : i = s.length := by omega
   subst hie
   have hn := fun m => itU_no (m := m) (b := 0) (g := []) h
   rw [List.drop_length, rIdx_none] at hd
   repeat apply wq
   refine wps_region callOK ?_
   simp [zS, nxV, hn]
   repeat apply wq
   refine wps_cf rfl ?_
   repeat apply wq
   refine wps_exit ?_
   simp
   repeat apply wq
   refine wps_region callOK ?_
   simp [zS]
   repeat apply wq
   refine wps_ret ?_
   simp [retVal, Tryz.f147, oneOr, thenQ, blockQ]
   exact ends_pure rfl (by rw [← hd])
 ·have hv : idxAny s = Lib.indexAny s anyC := by unfold idxAny; rw [if_neg h8]
  rw [hv]
  intro ρ w xs sm hx
  match xs, hx with
  | [x, y], hx =>
   have h0 := hx.2 0 (by simp) (by simp)
   have h1 := hx.2 1 (by simp) (by simp)
   simp only [List.getElem_cons_zero, List.getElem_cons_succ] at h0 h1
   cases h0; cases h1
   have hrun : (callFunc 147 #[.string ⟨s.toArray⟩, .string ⟨anyC.toArray⟩]).run (ctx T).P w = .ok (.enter 147 #[.string ⟨s.toArray⟩, .string ⟨anyC.toArray⟩]) w := by
    have hf : (ctx T).P.funcs[147]? = some Tryz.f147 := Tryz.func147
    have hn : ¬ Tryz.f147.name = "runtime.NumGoroutine" := by decide +kernel
    simp [callFunc, hf, hn, Tryz.f147]
   have hsz : (⟨s.toArray⟩ : ByteArray).size = s.length := by show s.toArray.size = _; simp
   refine .inr ⟨147, _, hrun, callsIn_wide.2 ?_⟩
   refine (Go.Proofs.Any.strings_IndexAny_long lays153 (zero_of_info set_info).1 (zero_of_info set_info).2 ⟨s.toArray⟩ ⟨anyC.toArray⟩ w (by decide) (by rw [hsz]; omega) (by rw [hsz]; omega) (by decide) (fun j b hj => ?_)).mono ?_
   ·have hm : b ∈ anyC := List.mem_of_getElem? hj
    simp at hm
    rcases hm with rfl | rfl <;> decide
   ·rintro e w' ⟨rfl, hb⟩
    have hb' : Below w.heap.size w w' := by
     rw [hb]
     exact ((Below.refl _ _).alloc (Nat.le_refl _) _).alloc (by simp) _
    exact ⟨_, ρ, rfl, .int _ _, sim_belowU sm hb', step_belowU hb'⟩
theorem c120 {T : List (Entry Tryz.prog)} (hR : findE 164 T = some e164.g) (s : Str) (hl : s.length ≤ 900000) : CallAt (ctx T) 120 [.str s, .str anyC] ⟨0, []⟩ (.bool (hasB badR s)) ⟨0, []⟩ := by
 have hc := (c147 hR s hl).lift (by simp [pureL, pureV]) ⟨0, [[]]⟩
 have hi := idxAny_iff s
 generalize idxAny s = v at *
 refine callAt_body (fn := Tryz.f120) (s0 := ⟨[0, 1, 4], [.str s, .str anyC, .undef], [], 9, ⟨0, [[]]⟩⟩) Tryz.func120 rfl rfl rfl ?_
 repeat apply wq
 refine wps_region callOK ?_
 simp [zS]
 repeat apply wq
 refine wps_region (callOKF [⟨147, _, _, _, _, hc⟩]) ?_
 simp [zS, callF]
 repeat apply wq
 refine wps_ret ?_
 simp [retVal, Tryz.f120, oneOr, thenQ, blockQ]
 exact ends_pure rfl (by simp [hi])
noncomputable def e120 : Entry Tryz.prog := mkE 120 [[], []] (fun x : Str => [.str x, .str anyC]) (fun x => x.length ≤ 900000) (fun x => .bool (hasB badR x)) fun x h => c120 (T := [e164]) rfl x h
theorem k120 {T : List (Entry Tryz.prog)} (hT : findE 120 T = some e120.g) {s : Str} (h1 : s.length ≤ 900000) (H : Heap) : callL (ctx T) (.fn 120) [.str s, .str anyC] H = some (.bool (hasB badR s), H) :=
 mkE_scalar hT (fun x y h => by simpa using h) s h1 rfl (by simp)
theorem valid_eq (s : Str) : (Lib.validD s && !hasB badR s) = validR s := by
 have h := valid_two s.length s (Nat.le_refl _)
 have e : hasB badR s = true ↔ hasN s 0 ∨ hasN s 13 := by
  rw [hasB_iff]
  constructor
  ·rintro ⟨i, hi, hc⟩
   simp [badR] at hc
   rcases hc with hc | hc
   ·exact .inl ⟨i, hi, hc⟩
   ·exact .inr ⟨i, hi, hc⟩
  ·rintro (⟨i, hi, hc⟩ | ⟨i, hi, hc⟩)
   ·exact ⟨i, hi, by simp [badR, hc]⟩
   ·exact ⟨i, hi, by simp [badR, hc]⟩
 unfold validR
 rw [Bool.eq_iff_iff]
 simp only [Bool.and_eq_true, Bool.not_eq_true', decide_eq_true_eq]
 rw [h, ← Bool.not_eq_true, e, not_or]
theorem c81 {T : List (Entry Tryz.prog)} (hV : findE 119 T = some e119.g) (hC : findE 120 T = some e120.g) (s : Str) (hl : s.length ≤ 900000) : CallAt (ctx T) 81 [.str s] ⟨0, []⟩ (.bool (validR s)) ⟨0, []⟩ := by
 have k1 := fun H => k119 hV (s := s) (by omega) H
 have k2 := fun H => k120 hC (s := s) hl H
 have hv := valid_eq s
 generalize validR s = v at *
 rcases Bool.eq_false_or_eq_true (Lib.validD s) with h | h
 ·rw [h] at k1 hv
  refine callAt_body (fn := Tryz.f81) (s0 := ⟨[0, 2], [.str s, .undef], [], 10, ⟨0, [[]]⟩⟩) Tryz.func81 rfl rfl rfl ?_
  repeat apply wq
  refine wps_region callOK ?_
  simp [zS]
  repeat apply wq
  refine wps_region callOK ?_
  simp [zS, k1, k2]
  repeat apply wq
  refine wps_ret ?_
  simp [retVal, Tryz.f81, oneOr, thenQ, blockQ]
  exact ends_pure rfl (by simpa using hv)
 ·rw [h] at k1 hv
  refine callAt_body (fn := Tryz.f81) (s0 := ⟨[0, 2], [.str s, .undef], [], 10, ⟨0, [[]]⟩⟩) Tryz.func81 rfl rfl rfl ?_
  repeat apply wq
  refine wps_region callOK ?_
  simp [zS]
  repeat apply wq
  refine wps_region callOK ?_
  simp [zS, k1]
  repeat apply wq
  refine wps_ret ?_
  simp [retVal, Tryz.f81, oneOr, thenQ, blockQ]
  exact ends_pure rfl (by simpa using hv)
noncomputable def e81 : Entry Tryz.prog := mkE 81 [[]] (fun x : Str => [.str x]) (fun x => x.length ≤ 900000) (fun x => .bool (validR x)) fun x h => c81 (T := [e119, e120]) rfl rfl x h
theorem k81 {T : List (Entry Tryz.prog)} (hT : findE 81 T = some e81.g) {s : Str} (h1 : s.length ≤ 900000) (H : Heap) : callL (ctx T) (.fn 81) [.str s] H = some (.bool (validR s), H) :=
 mkE_scalar hT inj_str s h1 rfl (by simp)
end Go.Proofs.YtgpjifeeneeiaaaGreatDoor