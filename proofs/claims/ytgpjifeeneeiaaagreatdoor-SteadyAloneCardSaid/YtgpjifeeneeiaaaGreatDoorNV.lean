/- SteadyAlone's walk. No condition. -/
import Derived.Test.YtgpjifeeneeiaaaGreatDoorNT
import Derived.Test.YtgpjifeeneeiaaaGreatDoorNU
import Derived.Test.YtgpjifeeneeiaaaGreatDoorRows
import Derived.Test.YtgpjifeeneeiaaaGreatDoorTie
import Derived.Test.YtgpjifeeneeiaaaGreatDoorCards
import Derived.Test.YtgpjifeeneeiaaaGreatDoorNF
import Derived.Test.YtgpjifeeneeiaaaGreatDoorNI
import Derived.HandedShaped
import Derived.Shelf.Vars
import Derived.ChangeMaps5
import Derived.LaidMore
import Derived.Stop.LaidErr
import Derived.SevenTiedAt
import Derived.Lib.LaidU8
import Derived.Test.YtgpjifeeneeiaaaGreatDoorNS
namespace Go.Proofs.YtgpjifeeneeiaaaGreatDoor
set_option linter.unusedSimpArgs false
set_option linter.unusedVariables false
open Go Go.RowKit
section
variable {t : Tr}
theorem at_nd {K : List Int} (hn : K.Nodup) {j : Nat} (hj : j < K.length) : atP K K[j] = (j : Int) := by
 have hc := idx_cases (p := fun y => decide (y = K[j])) K 0
 rw [show idxFrom (fun y => decide (y = K[j])) K 0 = atP K K[j] from rfl] at hc
 rcases hc with ⟨h1, h2⟩ | ⟨q, hq, h1, h2, h3⟩
 ·have := h2 K[j] (List.getElem_mem hj)
  simp at this
 ·have he : K[q] = K[j] := by simpa using h2
  have hq2 : q = j := by
   rcases Nat.lt_trichotomy q j with hlt | hlt | hlt
   ·exact absurd he (List.pairwise_iff_getElem.1 hn q j hq hj hlt)
   ·exact hlt
   ·exact absurd he.symm (List.pairwise_iff_getElem.1 hn j q hj hq hlt)
  rw [h1, hq2]; simp
theorem kid_order (h : rightB t = true) {i : Nat} (hi : i < t.length) (ho : (i : Int) ∈ orderOf t.length (kidsOf t)) {k : Int} (hk : k ∈ (nodeAt t i).kids) : k ∈ orderOf t.length (kidsOf t) ∧ k ≠ 0 := by
 obtain ⟨k0, k1, k2, _⟩ := right_kid h hi hk
 refine ⟨order_all (right_tree h) (right_pos h) ho (by rw [Int.toNat_natCast, ← kidsOf_at hi, ← nodeAt_get hi]; exact hk), fun he => ?_⟩
 subst he
 have := (right_top h).1
 omega
end
section
variable {t : Tr}
def newN (t : Tr) (pos : Int → Int) (x : Int) : Nd := { nodeAt t x with up := pos (nodeAt t x).up, kids := (nodeAt t x).kids.map pos }
theorem unsB_none : ∀ {s : List Bool}, unsB s = 0 → ∀ i, s.getD i true = true
 | [], _, i => by simp
 | x :: r, h, 0 => by
  cases x with
  | true => rfl
  | false => simp [unsB] at h
 | x :: r, h, i + 1 => by
  have : unsB r = 0 := by
   simp only [unsB, List.count_cons] at h ⊢
   omega
  simpa using unsB_none this i
theorem set_uns {s : List Bool} {i j : Nat} (hi : i < s.length) : (s.set i true).getD j true = false ↔ s.getD j true = false ∧ j ≠ i := by
 simp only [List.getD_eq_getElem?_getD, List.getElem?_set]
 by_cases h : i = j
 ·subst h; simp [hi]
 ·simp [h, fun e => h (Eq.symm e)]
  exact fun _ e => h e.symm
structure PutR (t : Tr) (pos : Int → Int) (s : List Bool) (S : List Int) (a : List Nd × List Bool) : Prop where
 nd : a.1 = S.map (newN t pos)
 ln : a.2.length = t.length
 sn : ∀ x : Nat, a.2.getD x true = false ↔ s.getD x true = false ∧ (x : Int) ∉ S
 un : unsB a.2 ≤ unsB s
theorem putL_tree (h : rightB t = true) {pos : Int → Int} {i : Nat} (hi : i < t.length) {f : Nat} {rec : Int → Nat → List Bool → List Nd × List Bool}
  (hrec : ∀ k, k ∈ (nodeAt t i).kids → ∀ (z : Nat) (s : List Bool), s.length = t.length → unsB s ≤ f → (∀ x, Bel t.length (fun x => (nodeAt t x).up) (depF t (t.length + 1)) k x → s.getD x.toNat true = false) → (∀ p (hp : p < (preT (kidsOf t) f k.toNat).length), pos (preT (kidsOf t) f k.toNat)[p] = (z : Int) + p) →
   PutR t pos s (preT (kidsOf t) f k.toNat) (rec k z s)) :
  ∀ (K : List Int), (∀ k, k ∈ K → k ∈ (nodeAt t i).kids) → K.Nodup → ∀ (z : Nat) (s : List Bool), s.length = t.length → unsB s ≤ f → (∀ k, k ∈ K → ∀ x, Bel t.length (fun x => (nodeAt t x).up) (depF t (t.length + 1)) k x → s.getD x.toNat true = false) →
   (∀ p (hp : p < (K.flatMap fun k => preT (kidsOf t) f k.toNat).length), pos (K.flatMap fun k => preT (kidsOf t) f k.toNat)[p] = (z : Int) + p) →
   (putL rec t.length K z s).1 = K.map pos ∧ PutR t pos s (K.flatMap fun k => preT (kidsOf t) f k.toNat) (putL rec t.length K z s).2
 | [], _, _, z, s, hs, hf, hu, hp => ⟨rfl, { nd := rfl, ln := hs, sn := fun x => by simp [putL], un := Nat.le_refl _ }⟩
 | k :: r, hK, hnd, z, s, hs, hf, hu, hp => by
  have ht := right_tree h
  have hkm := hK k (by simp)
  obtain ⟨k0, k1, k2, _⟩ := right_kid h hi hkm
  rw [List.nodup_cons] at hnd
  have hks : ∀ k, k ∈ (nodeAt t i).kids → k ∈ kidsOf t i := fun k hk => by rw [← kidsOf_at hi, ← nodeAt_get hi]; exact hk
  have hks0 := hu k (by simp) k (bel_self k0 k1)
  have hf1 : 0 < f := by
   rcases Nat.eq_zero_or_pos f with rfl | h1
   ·have := unsB_none (s := s) (by omega) k.toNat
    rw [this] at hks0; cases hks0
   ·exact h1
  obtain ⟨f', rfl⟩ : ∃ f', f = f' + 1 := ⟨f - 1, by omega⟩
  have eN : ((k.toNat : Nat) : Int) = k := by omega
  simp only [List.flatMap_cons] at hp ⊢
  have ra := hrec k hkm z s hs hf (hu k (by simp)) (fun p hp1 => by
   have := hp p (by rw [List.length_append]; omega)
   rwa [List.getElem_append_left hp1] at this)
  have hpk : pos k = (z : Int) := by
   have := hp 0 (by simp [preT])
   simpa [preT, eN] using this
  have hmem : ∀ k2, k2 ∈ r → k2 ∈ (nodeAt t i).kids := fun k2 hk2 => hK k2 (by simp [hk2])
  have hin : ∀ x, x ∈ preT (kidsOf t) (f' + 1) k.toNat → Bel t.length (fun x => (nodeAt t x).up) (depF t (t.length + 1)) k x := fun x hx => by
   have := pre_bel ht (f' + 1) k.toNat (by omega) x hx
   rwa [eN] at this
  obtain ⟨a, ha⟩ : ∃ a, a = rec k z s := ⟨_, rfl⟩
  rw [← ha] at ra
  have hal : a.1.length = (preT (kidsOf t) (f' + 1) k.toNat).length := by rw [ra.nd, List.length_map]
  obtain ⟨q1, q2⟩ := putL_tree h hi hrec r hmem hnd.2 (z + a.1.length) a.2 ra.ln (by have := ra.un; omega) (fun k2 hk2 x hx => by
   rw [ra.sn]
   refine ⟨hu k2 (by simp [hk2]) x hx, fun hx2 => ?_⟩
   rw [show ((x.toNat : Nat) : Int) = x by have := hx.1; omega] at hx2
   exact bel_dis ht hi (hks k hkm) (hks k2 (hmem k2 hk2)) (fun e => hnd.1 (e ▸ hk2)) (hin x hx2) hx) (fun p hp1 => by
   have := hp ((preT (kidsOf t) (f' + 1) k.toNat).length + p) (by rw [List.length_append]; exact Nat.add_lt_add_left hp1 _)
   rw [List.getElem_append_right (by omega)] at this
   simp only [Nat.add_sub_cancel_left] at this
   rw [this, hal]; omega)
  unfold putL
  rw [if_pos ⟨k0, k1, hks0⟩]
  simp only [← ha]
  refine ⟨by rw [q1]; simp [hpk], { nd := ?_, ln := q2.ln, sn := fun x => ?_, un := Nat.le_trans q2.un ra.un }⟩
  ·have e1 := q2.nd
   show a.1 ++ (putL rec t.length r (z + a.1.length) a.2).2.1 = _
   rw [List.map_append, ← e1, ← ra.nd]
  ·show (putL rec t.length r (z + a.1.length) a.2).2.2.getD x true = false ↔ _
   rw [q2.sn x, ra.sn x, List.mem_append, not_or]
   constructor
   ·rintro ⟨⟨a1, a2⟩, a3⟩; exact ⟨a1, a2, a3⟩
   ·rintro ⟨a1, a2, a3⟩; exact ⟨⟨a1, a2⟩, a3⟩
theorem putP_tree (h : rightB t = true) {pos : Int → Int} : ∀ (f i : Nat), i < t.length → ∀ (z : Nat) (s : List Bool), s.length = t.length → unsB s ≤ f → (∀ x, Bel t.length (fun x => (nodeAt t x).up) (depF t (t.length + 1)) (i : Int) x → s.getD x.toNat true = false) →
      (∀ p (hp : p < (preT (kidsOf t) f i).length), pos (preT (kidsOf t) f i)[p] = (z : Int) + p) → PutR t pos s (preT (kidsOf t) f i) (putP f t i (pos (nodeAt t i).up) z s)
 | 0, i, hi, z, s, hs, hf, hu, hp => by
  have h1 := hu i (bel_self (by omega) (by omega))
  have := unsB_none (s := s) (by omega) (i : Int).toNat
  rw [this] at h1; cases h1
 | f + 1, i, hi, z, s, hs, hf, hu, hp => by
  have ht := right_tree h
  have h1 := hu i (bel_self (by omega) (by omega))
  simp only [Int.toNat_natCast] at h1
  have hus := unsB_set h1
  have hkk : (nodeAt t i).kids = kidsOf t i := by rw [nodeAt_get hi, kidsOf_at hi]
  have hpi : pos (i : Int) = (z : Int) := by
   have := hp 0 (by simp [preT])
   simpa [preT] using this
  have key := putL_tree h hi (pos := pos) (f := f) (rec := fun k z' s' => putP f t k (z : Int) z' s') (fun k hk z' s' a b c d => by
   obtain ⟨k0, k1, k2, _⟩ := right_kid h hi hk
   have eN : ((k.toNat : Nat) : Int) = k := by omega
   have := putP_tree h f k.toNat (by omega) z' s' a b (by rw [eN]; exact c) d
   rw [eN, k2, hpi] at this
   exact this) (nodeAt t i).kids (fun _ h => h) (times_nd fun k hk => (right_kid h hi hk).2.2.2.1) (z + 1) (s.set i true) (by simpa using hs) (by omega) (fun k hk x hx => by
   have hx0 := hx.1
   rw [set_uns (by omega)]
   have hb := bel_up ht hi (by rw [← hkk]; exact hk) hx
   refine ⟨hu x hb, fun e => ?_⟩
   have : x = (i : Int) := by omega
   subst this
   exact bel_not ht hi (by rw [← hkk]; exact hk) hx) (fun p hp1 => by
   have := hp (p + 1) (by simp only [preT, List.length_cons]; rw [hkk] at hp1; omega)
   simp only [preT, List.getElem_cons_succ] at this
   simp only [hkk]
   rw [this]; omega)
  obtain ⟨q1, q2⟩ := key
  unfold putP
  simp only [Int.toNat_natCast]
  refine { nd := ?_, ln := q2.ln, sn := fun x => ?_, un := ?_ }
  ·simp only [preT, List.map_cons]
   have e2 := q2.nd
   rw [hkk] at e2 q1
   rw [← e2]
   congr 1
   ·unfold newN
    rw [hkk, ← q1]
   ·rw [hkk]
  ·have := q2.sn x
   simp only at this ⊢
   rw [this, set_uns (by omega), hkk]
   simp only [preT, List.mem_cons, not_or]
   constructor
   ·rintro ⟨⟨a1, a2⟩, a3⟩; exact ⟨a1, by omega, a3⟩
   ·rintro ⟨a1, a2, a3⟩; exact ⟨⟨a1, by omega⟩, a3⟩
  ·have := q2.un
   simp only at this ⊢
   omega
theorem tidy_new (h : rightB t = true) : tidyT t = (orderOf t.length (kidsOf t)).map (newN t (atP (orderOf t.length (kidsOf t)))) := by
 have ht := right_tree h
 have hn := right_pos h
 have ho := order_pre ht hn
 have hnd := order_nodup (n := t.length) (ks := kidsOf t)
 have hm1 : atP (orderOf t.length (kidsOf t)) (-1) = -1 := by
  have hc := idx_cases (p := fun y => decide (y = (-1 : Int))) (orderOf t.length (kidsOf t)) 0
  rw [show idxFrom (fun y => decide (y = (-1 : Int))) (orderOf t.length (kidsOf t)) 0 = atP (orderOf t.length (kidsOf t)) (-1) from rfl] at hc
  rcases hc with ⟨h1, _⟩ | ⟨q, hq, h1, h2, _⟩
  ·exact h1
  ·have := order_mem (List.getElem_mem hq)
   simp at h2
   omega
 have key := putP_tree h (pos := atP (orderOf t.length (kidsOf t))) t.length 0 hn 0 (List.replicate t.length false) (by simp) (by rw [unsB_rep]; exact Nat.le_refl _) (fun x hx => by
  have h1 : x.toNat < t.length := by have := hx.1; have := hx.2.1; omega
  simp [List.getD_eq_getElem?_getD, h1]) (fun p hp => by
  have hp2 : p < (orderOf t.length (kidsOf t)).length := by rw [ho]; exact hp
  have := at_nd hnd hp2
  simp only [ho] at this ⊢
  rw [this]; omega)
 have e0 : ((0 : Nat) : Int) = 0 := rfl
 rw [e0, (right_top h).1, hm1] at key
 rw [ho] at key ⊢
 exact key.nd
end
section
variable {t : Tr}
theorem ordF_iff {L : List Int} : ordF L 0 = true ↔ ∀ p (h : p < L.length), L[p] = (p : Int) := by
 unfold ordF
 rw [List.drop_zero, List.all_eq_true]
 constructor
 ·intro h p hp
  have := h p (by simpa using hp)
  simpa [List.getD_eq_getElem?_getD, hp] using this
 ·intro h p hp
  have hp : p < L.length := by simpa using hp
  simp [List.getD_eq_getElem?_getD, hp, h p hp]
theorem at_none {L : List Int} {x : Int} (h : x ∉ L) : atP L x = -1 := by
 have hc := idx_cases (p := fun y => decide (y = x)) L 0
 rw [show idxFrom (fun y => decide (y = x)) L 0 = atP L x from rfl] at hc
 rcases hc with ⟨h1, _⟩ | ⟨q, hq, h1, h2, _⟩
 ·exact h1
 ·simp at h2
  exact absurd (h2 ▸ List.getElem_mem hq) h
end
end Go.Proofs.YtgpjifeeneeiaaaGreatDoor
namespace Go.Proofs.YtgpjifeeneeiaaaGreatDoor
set_option linter.unusedSimpArgs false
set_option linter.unusedVariables false
open Go Go.RowKit
set_option maxRecDepth 100000
theorem few_okN {t : Tr} {m : Int} (h : fewTr t m = true) : ∀ n, n ∈ t → okN n := by
 simp only [fewTr, Bool.and_eq_true, decide_eq_true_eq, List.all_eq_true] at h
 intro n hn
 have := h.2 n hn
 simp only [fewNd, fewAts, Bool.and_eq_true, decide_eq_true_eq, List.all_eq_true] at this
 refine ⟨by omega, by omega, by omega, fun a ha => ?_⟩
 have ha := this.2.2.2.2 a ha
 simp only [fewAt, decide_eq_true_eq] at ha
 omega
end Go.Proofs.YtgpjifeeneeiaaaGreatDoor
namespace Go.Proofs.YtgpjifeeneeiaaaGreatDoor
set_option linter.unusedSimpArgs false
set_option linter.unusedVariables false
open Go Go.RowKit Go.ChangeShapes Go.WideShapes Go.ChangeAt
set_option maxRecDepth 100000
theorem own_ : ownKnob Tryz.prog.godebug = none := by kernel_rfl
theorem laid_ : laidOutB Tryz.prog = true := by kernel_rfl
abbrev laid5 : List (String × DataW Unit) := [("unicode/utf8.acceptRanges", Rows.laid_unicode_utf8_acceptRanges), ("unicode/utf8.first", Rows.laid_unicode_utf8_first)]
theorem first_data : (Rows.laid_unicode_utf8_first : DataW Unit) = Lib.tabData .u8 utfFirst := by kernel_rfl
theorem accept_data : (Rows.laid_unicode_utf8_acceptRanges : DataW Unit) = .agg ((List.range 16).map fun i => .agg ([utfAcc.getD (2 * i) 0, utfAcc.getD (2 * i + 1) 0].map fun z => .lit (.int .u8 z))) := by kernel_rfl
theorem acc_len : utfAcc.length = 32 := by decide +kernel
theorem gFirst : Tryz.prog.globalNamed "unicode/utf8.first" = some (1) := by kernel_rfl
theorem gAcc : Tryz.prog.globalNamed "unicode/utf8.acceptRanges" = some (2) := by kernel_rfl
theorem tFirst : (Tryz.prog.globals[1]?).map (·.type) = some 130 := by kernel_rfl
theorem tAcc : (Tryz.prog.globals[2]?).map (·.type) = some 133 := by kernel_rfl
theorem cells_u8 : Tryz.prog.cellsOf 5 = 1 := by kernel_rfl
theorem cells_256 : Tryz.prog.cellsOf 130 = 256 := by kernel_rfl
theorem cells_acc : Tryz.prog.cellsOf 132 = 2 := by kernel_rfl
theorem pins_met {W : World} (hL : laidMetH Tryz.prog laid5 W) : ∀ x, x ∈ pins → ∀ i n, x.2[i]? = some n → W.cell? ⟨x.1, i, none⟩ = some (.int .u8 n) := by
 rw [MakeChecks.laidMetH_plain _ _ _ (by kernel_rfl)] at hL
 have r1 := Lib.laidMet.reads hL (n := "unicode/utf8.first") (d := Rows.laid_unicode_utf8_first) (by simp)
 have r2 := Lib.laidMet.reads hL (n := "unicode/utf8.acceptRanges") (d := Rows.laid_unicode_utf8_acceptRanges) (by simp)
 rw [first_data] at r1
 rw [accept_data] at r2
 intro x hx i n hn
 simp only [pins, List.mem_cons, List.not_mem_nil, or_false] at hx
 rcases hx with rfl | rfl
 ·obtain ⟨g, t, cs, fuel, p, hg, hty, hvar, hd⟩ := r1
  obtain rfl := Option.some.inj (gFirst.symm.trans hg)
  obtain rfl := Option.some.inj (tFirst.symm.trans hty)
  have hcs := Lib.cells_of_tab Tryz.underlying130 Tryz.underlying5 cells_u8 cells_256 hd
  rw [World.var?_cell hg hvar i, ← Array.getElem?_toList, hcs, List.getElem?_map, hn]
  rfl
 ·obtain ⟨g, t, cs, fuel, p, hg, hty, hvar, hd⟩ := r2
  obtain rfl := Option.some.inj (gAcc.symm.trans hg)
  obtain rfl := Option.some.inj (tAcc.symm.trans hty)
  have hi : i < 32 := by
   have := (List.getElem?_eq_some_iff.1 hn).1
   rw [acc_len] at this; exact this
  obtain ⟨fuel', d, q, hdi, he⟩ := Lib.array_elem Tryz.underlying133 hd (i / 2) (by omega)
  simp only [List.getElem?_map, List.getElem?_range (show i / 2 < 16 by omega), Option.map_some, Option.some.injEq] at hdi
  subst hdi
  rw [cells_acc] at he
  have hcs := Lib.ints_of_struct Tryz.underlying132 (fun j f hj => by
   match j, hj with
   | 0, hj => simp at hj; subst hj; exact ⟨Tryz.underlying5, rfl, cells_u8⟩
   | 1, hj => simp at hj; subst hj; exact ⟨Tryz.underlying5, rfl, cells_u8⟩
   | j + 2, hj => simp at hj) (by rw [cells_acc]; rfl) he
  have hn' : utfAcc.getD i 0 = n := by simp [List.getD_eq_getElem?_getD, hn]
  rw [World.var?_cell hg hvar i, ← Array.getElem?_toList]
  rcases Nat.mod_two_eq_zero_or_one i with h2 | h2
  ·have e0 := congrArg (·[0]?) hcs
   simp only [List.getElem?_take, List.getElem?_drop] at e0
   have hidx : i / 2 * 2 + 0 = i := by omega
   have hidx2 : 2 * (i / 2) = i := by omega
   rw [hidx] at e0
   simpa [hidx2, hn', ← List.getD_eq_getElem?_getD] using e0
  ·have e1 := congrArg (·[1]?) hcs
   simp only [List.getElem?_take, List.getElem?_drop] at e1
   have hidx : i / 2 * 2 + 1 = i := by omega
   have hidx2 : 2 * (i / 2) + 1 = i := by omega
   rw [hidx] at e1
   simpa [hidx2, hn', ← List.getD_eq_getElem?_getD] using e1
theorem hgs {W : World} (hsh : W.ShapedOpen Tryz.prog) (hL : laidMetH Tryz.prog laid5 W) : GlobsIn W where
 gl := by
  intro g h
  simp [globs] at h
  subst h
  exact cell_of_shapedOpen_int (P := Tryz.prog) (g := 0) (t := 3) (zero := #[.int .i64 0]) hsh (of_decide_eq_true (by kernel_rfl)) (by kernel_rfl) rfl (by kernel_rfl) (by kernel_rfl) Tryz.underlying3
 gi := by
  intro g h
  simp [ivars] at h
 gp := pins_met hL
 gx := by
  intro x h
  simp [tabs] at h
noncomputable def doorW (os : Os) : World :=
 let w0 := World.doorLaid Tryz.prog 4000 os
 { w0 with heap := w0.heap.modify 1 fun
  | .cells _ t frozen => .cells (Lib.firstTab.map fun z => Value.int .u8 z).toArray t frozen
  | o => o }
theorem door_met (os : Os) (args : Array Value) : laidMetH Tryz.prog laid5 ((doorW os).forCall (fun _ _ => 0) ⟨#[], args, []⟩).memory :=
 laidMetH_of_parts3 (fuel := 8) (laidMet_of_run' 8 (by kernel_rfl) (by kernel_rfl)) (by kernel_rfl) (by kernel_rfl)
theorem door_shaped (os : Os) (args : Array Value) : ((doorW os).forCall (fun _ _ => 0) ⟨#[], args, []⟩).Shaped Tryz.prog := World.shaped_of_RefB (by kernel_rfl) (by kernel_rfl)
theorem returns_and_shaped {H : Type} {enc : TypeId × Value → H} {a : Assume} {C : Checked} {os : Os} {f : FuncId} {fn : Func} {s : ChangeSpec} {conds : List PathCond} {apart fresh handsOn again : Bool} {X : World → Array Value → Prop}
  (hX : ∀ (w w' : World) (args : Array Value), w.heap = w'.heap → X w args → X w' args)
  (own : ownKnob C.prog.godebug = none) (started : os.Started) (noInit : C.prog.inits.idxOf? f = none) (hfn : C.prog.funcs[f]? = some fn)
  (witness : ∃ (w : World) (tape : Tape) (i : Input), w.os = os ∧ (w.forCall tape i).Shaped C.prog ∧ i.vars = [] ∧ Input.okWide C.prog (w.forCall tape i) .any w.heap.size f i ∧
   ((s.pre enc C.prog fn conds apart (w.forCall tape i).memory i.args ∧ X (w.forCall tape i).memory i.args) ∧ sizedMet enc C.prog fn (OpenSpec.ofChange s) apart (w.forCall tape i).memory i.args) ∧ a.holds C.prog (lone (Frame.enter C.prog f i.args .normal) [] (w.forCall tape i)))
  (contract : ∀ (W : World) (base : Nat) (args : Array Value) (ds gs : List (DataW H)) (before : List MemPlace),
   (∀ (j : Nat) t v, fn.params[j]? = some t → args[j]? = some v → Value.okWide C.prog W .any base t v) →
   DataW.Whole enc C.prog fn.params.toList s.vars apart W args.toList ds gs before → W.ShapedOpen C.prog → X W args →
   Calls C.prog f args W fun e W' => ∃ v, e = .returned v ∧ s.post enc C.prog fn apart fresh handsOn again W args v W') :
  ReturnsInHanded a C os f .any (fun w args => (s.pre enc C.prog fn conds apart w args ∧ X w args) ∧ sizedMet enc C.prog fn (OpenSpec.ofChange s) apart w args) (s.post enc C.prog fn apart fresh handsOn again) := by
 refine returnsInHanded_of_calls own started noInit witness ?_
 intro w tape i _ hsh _ hok hpre hholds
 obtain ⟨_, _, _, fn', hfn', _, _, _, _, hval⟩ := hok
 have e : fn' = fn := Option.some.inj (hfn'.symm.trans hfn)
 subst e
 obtain ⟨⟨⟨ds, gs, before, hw, hc⟩, hx⟩, hz⟩ := hpre
 have hw' := DataW.Whole.of_heap (w' := w.forCall tape i) (by rfl) hw
 refine (contract (w.forCall tape i) w.heap.size i.args ds gs before hval hw' hsh (hX _ _ _ (by rfl) hx)).mono fun e W' ⟨v, he, hp⟩ => ?_
 subst he
 exact ChangeSpec.post_blind hp
end Go.Proofs.YtgpjifeeneeiaaaGreatDoor
namespace Go.Proofs.YtgpjifeeneeiaaaGreatDoor
set_option linter.unusedSimpArgs false
set_option linter.unusedVariables false
open Go Go.RowKit
def stripN (n : Nd) : Nd := { n with up := 0, kids := [] }
theorem at_strip (L : List Nd) (j : Int) : nodeAt (L.map stripN) j = stripN (nodeAt L j) := by
 unfold nodeAt
 simp only [List.getD_eq_getElem?_getD, List.getElem?_map]
 cases L[j.toNat]? with
 | none => rfl
 | some n => rfl
theorem parent_strip (L : List Nd) : parentN (L.map stripN) = stripN (parentN L) := by
 unfold parentN
 by_cases h : L = []
 ·subst h; rfl
 ·rw [if_neg h, if_neg (fun e => h (List.map_eq_nil_iff.1 e)), at_strip, List.length_map]
theorem outw_strip {p q : Nd → Bool} (hp : ∀ n, p (stripN n) = p n) (hq : ∀ n, q (stripN n) = q n) (L : List Nd) : outwB p q (L.map stripN) = outwB p q L := by
 have e : goOut p q (L.map stripN) = goOut p q L := by
  funext j
  unfold goOut
  rw [at_strip, hp, hq]
 unfold outwB
 rw [e, List.length_map]
theorem scope_strip (L : List Nd) (W : Str) (sc : Int) : scopeB (L.map stripN) W sc = scopeB L W sc := outw_strip (fun _ => rfl) (fun _ => rfl) L
theorem listed_strip (L : List Nd) (W : Str) : listedB (L.map stripN) W = listedB L W := outw_strip (fun _ => rfl) (fun _ => rfl) L
theorem linked_strip (L : List Nd) : linkedB (L.map stripN) = linkedB L := outw_strip (fun _ => rfl) (fun _ => rfl) L
theorem form_strip (L : List Nd) : formB (L.map stripN) = formB L := by
 unfold formB
 rw [List.any_map]
 rfl
theorem free_strip (L : List Nd) (x : Str) : freeN (L.map stripN) x = freeN L x := by
 unfold freeN
 rw [scope_strip, scope_strip, listed_strip, listed_strip, linked_strip, form_strip, parent_strip]
 rfl
theorem strict_strip (L : List Nd) : strictN (L.map stripN) = strictN L := by
 unfold strictN
 rw [scope_strip, parent_strip]
 rfl
theorem may_strip (L : List Nd) (n : Nd) : mayB (L.map stripN) (stripN n) = mayB L n := by
 unfold mayB
 rw [strict_strip, parent_strip, show (stripN n).name = n.name from rfl, free_strip]
 rfl
theorem chars_strip (L : List Nd) (s : Str) : charsB (L.map stripN) s = charsB L s := by
 unfold charsB
 rw [parent_strip]
 rfl
theorem may_same {L L' : List Nd} {n n' : Nd} (h : L.map stripN = L'.map stripN) (hn : stripN n = stripN n') : mayB L n = mayB L' n' := by rw [← may_strip, h, hn, may_strip]
theorem chars_same {L L' : List Nd} (h : L.map stripN = L'.map stripN) (s : Str) : charsB L s = charsB L' s := by rw [← chars_strip, h, chars_strip]
theorem parent_same {L L' : List Nd} (h : L.map stripN = L'.map stripN) (W : Str) : elB (parentN L) W = elB (parentN L') W := by
 have := congrArg parentN h
 rw [parent_strip, parent_strip] at this
 show elB (stripN (parentN L)) W = elB (stripN (parentN L')) W
 rw [this]
section
variable {t v : Tr} {pos : Int → Int}
theorem kidsL_same {rec rec' : List Nd → Int → Bool} {P P' : List Nd} (hP : P.map stripN = P'.map stripN) : ∀ (K : List Int), (∀ k, k ∈ K → stripN (nodeAt t k) = stripN (nodeAt v (pos k)) ∧ rec (P ++ [nodeAt t k]) k = rec' (P' ++ [nodeAt v (pos k)]) (pos k)) → ∀ (fst : Bool) (last : Int),
  kidsL rec t P K fst last = kidsL rec' v P' (K.map pos) fst last
 | [], _, _, _ => rfl
 | k :: r, h, fst, last => by
  obtain ⟨h1, h2⟩ := h k (by simp)
  have ih := kidsL_same hP r (fun k hk => h k (by simp [hk]))
  have e1 : (nodeAt t k).kind = (nodeAt v (pos k)).kind := by have := congrArg Nd.kind h1; exact this
  have e2 : (nodeAt t k).data = (nodeAt v (pos k)).data := by have := congrArg Nd.data h1; exact this
  have e3 : attrsB (nodeAt t k) = attrsB (nodeAt v (pos k)) := by have := congrArg attrsB h1; exact this
  have e4 : namelessB (nodeAt t k) = namelessB (nodeAt v (pos k)) := by have := congrArg namelessB h1; exact this
  rw [List.map_cons, kidsL, kidsL, ih, ih, e1, e2, e3, e4, h2, may_same hP h1, chars_same hP, parent_same hP]
theorem kidsF_same {S : Int → Prop} (hS : ∀ x, S x → ∀ k, k ∈ (nodeAt t x).kids → S k) (hn : ∀ x, S x → stripN (nodeAt t x) = stripN (nodeAt v (pos x)) ∧ (nodeAt v (pos x)).kids = (nodeAt t x).kids.map pos) :
  ∀ (f : Nat) (P P' : List Nd) (i : Int), S i → P.map stripN = P'.map stripN → kidsF f t P i = kidsF f v P' (pos i)
 | 0, _, _, _, _, _ => rfl
 | f + 1, P, P', i, hi, hP => by
  rw [kidsF, kidsF, (hn i hi).2]
  refine kidsL_same hP _ (fun k hk' => ?_) _ _
  have hks := hS i hi k hk'
  refine ⟨(hn k hks).1, kidsF_same hS hn f _ _ k hks ?_⟩
  rw [List.map_append, List.map_append, hP, List.map_cons, List.map_cons, (hn k hks).1]
end
section
variable {t : Tr}
theorem dep_lt : ∀ (f : Nat) (i : Int), heldF t f i = true → depF t f i < f
 | 0, i, h => by simp [heldF] at h
 | f + 1, i, h => by
  rw [heldF] at h
  rw [depF]
  by_cases hu : (nodeAt t i).up = -1
  ·simp [hu]
  ·simp only [hu, if_false] at h ⊢
   have := dep_lt f _ h
   omega
theorem ups_right (h : rightB t = true) : upsOK t := ups_of (right_top h).1 fun j hj => right_nd h hj
theorem dep_n (h : rightB t = true) {i : Nat} (hi : i < t.length) : depF t (t.length + 1) (i : Int) < t.length := by
 have hh := held_n0 (ups_right h) hi (right_held h hi)
 rw [← dep_stable _ _ hh]
 exact dep_lt _ _ hh
theorem pre_more (h : rightB t = true) : ∀ (f i : Nat), i < t.length → t.length ≤ f + depF t (t.length + 1) (i : Int) → preT (kidsOf t) (f + 1) i = preT (kidsOf t) f i
 | 0, i, hi, hf => by have := dep_n h hi; omega
 | f + 1, i, hi, hf => by
  rw [preT, preT]
  have e : (kidsOf t i).flatMap (fun k => preT (kidsOf t) (f + 1) k.toNat) = (kidsOf t i).flatMap fun k => preT (kidsOf t) f k.toNat := by
   unfold List.flatMap
   congr 1
   refine List.map_congr_left fun k hk => ?_
   obtain ⟨k0, k1, _, k2⟩ := (right_tree h).kd i hi k hk
   have eN : ((k.toNat : Nat) : Int) = k := by omega
   exact pre_more h f k.toNat (by omega) (by rw [eN]; omega)
  rw [e]
theorem pre_fuel (h : rightB t = true) : ∀ k, preT (kidsOf t) (t.length + k) 0 = preT (kidsOf t) t.length 0
 | 0 => rfl
 | k + 1 => by
  rw [show t.length + (k + 1) = (t.length + k) + 1 by omega, pre_more h _ 0 (right_pos h) (by omega), pre_fuel h k]
theorem kids_more : ∀ (f : Nat) (P : List Nd) (i : Int), fits f t i → kidsF (f + 1) t P i = kidsF f t P i
 | 0, P, i, h => absurd h (fun h => h)
 | f + 1, P, i, h => by
  rw [kidsF, kidsF]
  have key : ∀ (K : List Int), (∀ k, k ∈ K → k ∈ (nodeAt t i).kids) → ∀ fst last, kidsL (kidsF (f + 1) t) t P K fst last = kidsL (kidsF f t) t P K fst last := by
   intro K
   induction K with
   | nil => intro _ _ _; rfl
   | cons k r ih =>
    intro hK fst last
    have ih := ih fun k hk => hK k (by simp [hk])
    rw [kidsL, kidsL, ih, ih]
    by_cases hk1 : (nodeAt t k).kind = 1
    ·rw [kids_more f _ k (h k (hK k (by simp)) hk1)]
    ·simp only [hk1, if_false]
  exact key _ (fun _ h => h) _ _
theorem kids_fuel (h : rightB t = true) (P : List Nd) : ∀ k, kidsF (t.length + 2 + k) t P 0 = kidsF (t.length + 2) t P 0
 | 0 => rfl
 | k + 1 => by
  have hf := fits_of h (t.length + 2 + k) 0 (right_pos h) (by omega)
  have e0 : ((0 : Nat) : Int) = 0 := rfl
  rw [e0] at hf
  rw [show t.length + 2 + (k + 1) = (t.length + 2 + k) + 1 by omega, kids_more _ _ _ hf, kids_fuel h P k]
structure NewT (t v : Tr) (O : List Int) (pos : Int → Int) : Prop where
 len : v.length = O.length
 zero : (0 : Int) ∈ O ∧ pos 0 = 0
 neg : pos (-1) = -1
 rng : ∀ x, x ∈ O → 0 ≤ x ∧ x < (t.length : Int)
 out : ∀ x, x ∉ O → pos x = -1
 ps : ∀ x, x ∈ O → 0 ≤ pos x ∧ pos x < (v.length : Int)
 inj : ∀ x y, x ∈ O → y ∈ O → pos x = pos y → x = y
 cl : ∀ x, x ∈ O → ∀ k, k ∈ (nodeAt t x).kids → k ∈ O
 all : ∀ j : Nat, j < v.length → ∃ x, x ∈ O ∧ pos x = (j : Int)
 nd : ∀ x, x ∈ O → nodeAt v (pos x) = newN t pos x
 od : O.map pos = (List.range v.length).map fun j => ((j : Nat) : Int)
 pre : O = preT (kidsOf t) t.length 0
theorem new_tidy (h : rightB t = true) : NewT t (tidyT t) (orderOf t.length (kidsOf t)) (atP (orderOf t.length (kidsOf t))) := by
 have ht := right_tree h
 have hn := right_pos h
 have ho := order_pre ht hn
 have hnd := order_nodup (n := t.length) (ks := kidsOf t)
 have hm : ∀ x, x ∈ orderOf t.length (kidsOf t) → 0 ≤ x ∧ x < (t.length : Int) := fun x hx => order_mem hx
 have hv := tidy_new h
 have hcl : ∀ x, x ∈ orderOf t.length (kidsOf t) → ∀ k, k ∈ (nodeAt t x).kids → k ∈ orderOf t.length (kidsOf t) := fun x hx k hk => by
  obtain ⟨x0, x1⟩ := hm x hx
  have eN : ((x.toNat : Nat) : Int) = x := by omega
  exact (kid_order h (i := x.toNat) (by omega) (by rw [eN]; exact hx) (by rw [eN]; exact hk)).1
 have hz := order_root ht hn
 obtain ⟨O, hO⟩ : ∃ O, O = orderOf t.length (kidsOf t) := ⟨_, rfl⟩
 rw [← hO] at ho hnd hm hv hcl hz ⊢
 have hat : ∀ j (hj : j < O.length), atP O O[j] = (j : Int) := fun j hj => at_nd hnd hj
 have hidx : ∀ x, x ∈ O → ∃ j, ∃ hj : j < O.length, O[j] = x := fun x hx => by
  obtain ⟨j, hj, e⟩ := List.getElem_of_mem hx
  exact ⟨j, hj, e⟩
 have hl : (tidyT t).length = O.length := by rw [hv, List.length_map]
 refine { len := hl, zero := ⟨hz, ?_⟩, neg := at_none (fun hx => by have := (hm _ hx).1; omega), rng := hm, out := fun x hx => at_none hx, ps := fun x hx => ?_, inj := fun x y hx hy e => ?_, cl := hcl, all := fun j hj => ?_, nd := fun x hx => ?_, od := ?_, pre := ho }
 ·have e : ∃ r, O = 0 :: r := by
   rw [ho]
   obtain ⟨n', hn'⟩ : ∃ n', t.length = n' + 1 := ⟨t.length - 1, by omega⟩
   rw [hn', preT]
   exact ⟨_, rfl⟩
  obtain ⟨r, e⟩ := e
  have := hat 0 (by rw [e]; simp)
  simp only [e, List.getElem_cons_zero] at this
  rw [← e] at this
  exact this
 ·obtain ⟨j, hj, rfl⟩ := hidx x hx
  rw [hat j hj, hl]
  omega
 ·obtain ⟨j, hj, rfl⟩ := hidx x hx
  obtain ⟨j2, hj2, rfl⟩ := hidx y hy
  rw [hat j hj, hat j2 hj2] at e
  have : j = j2 := by omega
  subst this; rfl
 ·rw [hl] at hj
  exact ⟨O[j], List.getElem_mem hj, hat j hj⟩
 ·obtain ⟨j, hj, rfl⟩ := hidx x hx
  rw [hat j hj, nodeAt_get (by rw [hl]; exact hj)]
  simp only [hv, List.getElem_map]
 ·refine List.ext_getElem (by simp [hl]) fun j h1 h2 => ?_
  rw [List.getElem_map, List.getElem_map, List.getElem_range]
  exact hat j (by simpa using h1)
section
variable {v : Tr} {O : List Int} {pos : Int → Int}
theorem pos_up (h : rightB t = true) (w : NewT t v O pos) {x : Int} (hx : x ∈ O) : (nodeAt v (pos x)).up = pos (nodeAt t x).up ∧ (nodeAt v (pos x)).kids = (nodeAt t x).kids.map pos ∧ (nodeAt v (pos x)).kind = (nodeAt t x).kind := by
 rw [w.nd x hx]
 exact ⟨rfl, rfl, rfl⟩
theorem times_new (w : NewT t v O pos) {L : List Int} (hL : ∀ k, k ∈ L → k ∈ O) {x : Int} (hx : x ∈ O) : timesB (L.map pos) (pos x) = timesB L x := by
 unfold timesB
 rw [List.countP_map]
 refine List.countP_congr fun k hk => ?_
 simp only [Function.comp_apply, decide_eq_true_eq]
 exact ⟨fun e => w.inj _ _ (hL k hk) hx e, fun e => by rw [e]⟩
theorem held_new (w : NewT t v O pos) : ∀ (f : Nat) (x : Int), x ∈ O → heldF t f x = true → heldF v f (pos x) = true
 | 0, x, _, h => by simp [heldF] at h
 | f + 1, x, hx, h => by
  rw [heldF] at h ⊢
  rw [w.nd x hx, show (newN t pos x).up = pos (nodeAt t x).up from rfl]
  by_cases hu : (nodeAt t x).up ∈ O
  ·have hne : ¬ (nodeAt t x).up = -1 := fun e => by have := (w.rng _ hu).1; omega
   have hne2 : ¬ pos (nodeAt t x).up = -1 := fun e => by have := (w.ps _ hu).1; omega
   rw [if_neg hne] at h
   rw [if_neg hne2]
   exact held_new w f _ hu h
  ·rw [if_pos (w.out _ hu)]
theorem right_new (h : rightB t = true) (w : NewT t v O pos) : rightB v = true := by
 have hne : v ≠ [] := fun e => by
  have := w.len
  have h0 := List.length_pos_of_mem w.zero.1
  rw [e] at this
  simp only [List.length_nil] at this
  omega
 have h0 := w.nd 0 w.zero.1
 rw [w.zero.2] at h0
 have hk0 : (nodeAt v 0).kind = 0 := by rw [h0]; exact (right_top h).2
 have hu0 : (nodeAt v 0).up = -1 := by
  rw [h0]
  show pos (nodeAt t 0).up = -1
  rw [(right_top h).1]; exact w.neg
 have hok : ∀ j, j < v.length → okNd v j = true := fun j hj => by
  obtain ⟨x, hx, hxj⟩ := w.all j hj
  obtain ⟨x0, x1⟩ := w.rng x hx
  obtain ⟨i, rfl⟩ : ∃ i : Nat, x = (i : Int) := ⟨x.toNat, by omega⟩
  have hi : i < t.length := by omega
  obtain ⟨n1, n2, n3⟩ := pos_up h w hx
  have hok := right_nd h hi
  simp only [okNd, Bool.and_eq_true, Bool.not_eq_true'] at hok ⊢
  have hups : pos (nodeAt t i).up = -1 ∨ ((nodeAt t i).up ∈ O ∧ 0 ≤ pos (nodeAt t i).up ∧ pos (nodeAt t i).up < (v.length : Int)) := by
   by_cases hm : (nodeAt t i).up ∈ O
   ·exact .inr ⟨hm, w.ps _ hm⟩
   ·exact .inl (w.out _ hm)
  rw [hxj] at n1 n2 n3
  refine ⟨?_, ?_, ?_⟩
  ·unfold badA
   rw [n1, n3]
   by_cases hz : i = 0
   ·subst hz
    have : j = 0 := by have := w.zero.2; have e0 : ((0 : Nat) : Int) = 0 := rfl; rw [e0] at hxj; omega
    subst this
    simp
   ·have ha := hok.1
    have hp : 0 < i := by omega
    simp only [badA, hp, decide_true, Bool.true_and, Bool.or_eq_false_iff, decide_eq_false_iff_not] at ha
    simp only [Bool.and_eq_false_iff, Bool.or_eq_false_iff, decide_eq_false_iff_not]
    exact .inr ⟨ha.1, ha.2.1, by omega, by omega⟩
  ·unfold badB
   rw [n1]
   rcases hups with hu | ⟨hu, hu0, hu1⟩
   ·simp [hu]
   ·obtain ⟨p1, p2, p3⟩ := pos_up h w hu
    have hb := hok.2.1
    have hup0 := (w.rng _ hu).1
    simp only [badB, hup0, decide_true, Bool.true_and, Bool.or_eq_false_iff, decide_eq_false_iff_not] at hb
    rw [p2, p3, ← hxj, times_new w (fun k hk => w.cl _ hu k hk) hx]
    simp only [hu0, decide_true, Bool.true_and, Bool.or_eq_false_iff, decide_eq_false_iff_not]
    exact hb
  ·rw [n2, List.any_eq_false]
   intro k' hk'
   obtain ⟨k, hk, rfl⟩ := List.mem_map.1 hk'
   have hkO := w.cl _ hx k hk
   obtain ⟨p1, p2⟩ := w.ps k hkO
   obtain ⟨q1, _, _⟩ := pos_up h w hkO
   obtain ⟨_, _, k2, _⟩ := right_kid h hi hk
   simp only [badC, q1, k2, hxj, Bool.or_eq_true, decide_eq_true_eq, not_or]
   exact ⟨by omega, by omega, fun e => e rfl⟩
 have hups := ups_of hu0 hok
 refine rightB_yes hne hk0 hu0 hok fun j hj => ?_
 obtain ⟨x, hx, hxj⟩ := w.all j hj
 obtain ⟨x0, x1⟩ := w.rng x hx
 have hh := right_held h (i := x.toNat) (by omega)
 rw [show ((x.toNat : Nat) : Int) = x by omega] at hh
 have := held_new w _ x hx hh
 rw [hxj] at this
 exact held_n hups hj this
theorem pre_new (w : NewT t v O pos) : ∀ (f i : Nat), (i : Int) ∈ O → preT (kidsOf v) f (pos i).toNat = (preT (kidsOf t) f i).map pos
 | 0, _, _ => rfl
 | f + 1, i, hi => by
  obtain ⟨p0, p1⟩ := w.ps _ hi
  obtain ⟨x0, x1⟩ := w.rng _ hi
  have ek : kidsOf v (pos i).toNat = (kidsOf t i).map pos := by
   have a1 := kidsOf_at (t := v) (i := (pos i).toNat) (by omega)
   have a2 := kidsOf_at (t := t) (i := i) (by omega)
   rw [← a1, ← a2, ← nodeAt_get, ← nodeAt_get, show (((pos i).toNat : Nat) : Int) = pos i by omega, w.nd _ hi]
   rfl
  rw [preT, preT, ek, List.map_cons, show (((pos i).toNat : Nat) : Int) = pos i by omega, List.flatMap_map, List.map_flatMap]
  congr 1
  unfold List.flatMap
  congr 1
  refine List.map_congr_left fun k hk => ?_
  have hk' : k ∈ (nodeAt t i).kids := by rw [nodeAt_get (by omega), kidsOf_at (by omega)]; exact hk
  have hkO := w.cl _ hi k hk'
  have eN : ((k.toNat : Nat) : Int) = k := by have := (w.rng _ hkO).1; omega
  have := pre_new w f k.toNat (by rw [eN]; exact hkO)
  rwa [eN] at this
theorem order_new (h : rightB t = true) (w : NewT t v O pos) : orderOf v.length (kidsOf v) = (List.range v.length).map fun j => ((j : Nat) : Int) := by
 have hr := right_new h w
 have hv := right_tree hr
 rw [order_pre hv (right_pos hr)]
 have hle : v.length ≤ t.length := by
  rw [w.len, w.pre, ← order_pre (right_tree h) (right_pos h)]
  exact order_len
 obtain ⟨d, hd⟩ := Nat.exists_eq_add_of_le hle
 have e1 := pre_fuel hr d
 rw [← hd] at e1
 rw [← e1]
 have e2 := pre_new w t.length 0 (by have := w.zero.1; exact this)
 have e0 : ((0 : Nat) : Int) = 0 := rfl
 rw [e0, w.zero.2] at e2
 rw [show (0 : Int).toNat = 0 from rfl] at e2
 rw [e2, ← w.pre, w.od]
theorem kids_new (h : rightB t = true) (w : NewT t v O pos) : kidsF (v.length + 2) v [] 0 = kidsF (t.length + 2) t [] 0 := by
 have hr := right_new h w
 have hle : v.length ≤ t.length := by
  rw [w.len, w.pre, ← order_pre (right_tree h) (right_pos h)]
  exact order_len
 obtain ⟨d, hd⟩ := Nat.exists_eq_add_of_le hle
 have e1 := kids_fuel hr [] d
 rw [← e1, show v.length + 2 + d = t.length + 2 by omega]
 have key := kidsF_same (t := t) (v := v) (pos := pos) (S := fun x => x ∈ O) (fun x hx => w.cl x hx) (fun x hx => by
  rw [w.nd x hx]
  exact ⟨rfl, rfl⟩) (t.length + 2) [] [] 0 w.zero.1 rfl
 rw [w.zero.2] at key
 exact key.symm
theorem tidy_steady (h : rightB t = true) (h0 : namelessB (nodeAt t 0) = true) (h1 : (nodeAt t 0).data = []) (hk : kidsF (t.length + 2) t [] 0 = true) : treeS (tidyT t) = true := by
 have w := new_tidy h
 have hr := right_new h w
 have ho := order_new h w
 have hd := w.nd 0 w.zero.1
 rw [w.zero.2] at hd
 unfold treeS
 rw [hr, ho, kids_new h w, hk, hd, show namelessB (newN t _ 0) = namelessB (nodeAt t 0) from rfl, h0, show (newN t _ 0).data = (nodeAt t 0).data from rfl, h1]
 have e1 : ordF ((List.range (tidyT t).length).map fun j => ((j : Nat) : Int)) 0 = true := by
  rw [ordF_iff]
  intro p hp
  simp
 rw [e1]
 simp
end
end
def oneKid (t : Tr) (k : Int) : Tr := t.set 0 { nodeAt t 0 with kids := [k] }
def cutOff (t : Tr) (k : Int) (i : Nat) : Nd := if i = 0 then { nodeAt t 0 with kids := [k] } else if (nodeAt t i).up = 0 ∧ (i : Int) ≠ k then { nodeAt t i with up := -1 } else nodeAt t i
def aloneT (t : Tr) (k : Int) : Tr := (List.range t.length).map (cutOff t k)
section
variable {t : Tr} {k : Int}
theorem alone_len : (aloneT t k).length = t.length := by simp [aloneT]
theorem alone_at {i : Nat} (hi : i < t.length) : nodeAt (aloneT t k) (i : Int) = cutOff t k i := by
 rw [nodeAt_get (by rw [alone_len]; exact hi)]
 simp [aloneT]
theorem cut_kids (i : Nat) : (cutOff t k i).kids = if i = 0 then [k] else (nodeAt t i).kids := by
 unfold cutOff
 split
 ·rfl
 ·split <;> rfl
theorem cut_kind (i : Nat) : (cutOff t k i).kind = (nodeAt t i).kind := by
 unfold cutOff
 split
 ·rename_i h; subst h; rfl
 ·split <;> rfl
theorem cut_strip (i : Nat) (hi : i ≠ 0) : stripN (cutOff t k i) = stripN (nodeAt t i) := by
 unfold cutOff
 rw [if_neg hi]
 split <;> rfl
theorem cut_up (h0 : (nodeAt t 0).up = -1) (i : Nat) : (cutOff t k i).up = if (nodeAt t i).up = 0 ∧ (i : Int) ≠ k then -1 else (nodeAt t i).up := by
 unfold cutOff
 by_cases hi : i = 0
 ·subst hi
  have e0 : ((0 : Nat) : Int) = 0 := rfl
  rw [if_pos rfl, e0, h0, if_neg (fun e => by have := e.1; omega)]
 ·rw [if_neg hi]
  split <;> rfl
theorem held_alone (h : rightB t = true) : ∀ (f i : Nat), i < t.length → heldF t f (i : Int) = true → heldF (aloneT t k) f (i : Int) = true
 | 0, i, _, h => by simp [heldF] at h
 | f + 1, i, hi, hh => by
  rw [heldF] at hh ⊢
  rw [alone_at hi, cut_up (right_top h).1]
  split
  ·simp
  ·rename_i hc
   by_cases hu : (nodeAt t i).up = -1
   ·rw [if_pos hu]
   ·rw [if_neg hu] at hh ⊢
    obtain ⟨u, hu', e⟩ : ∃ u : Nat, u < t.length ∧ (nodeAt t i).up = (u : Int) := by
     have := ups_at (ups_right h) (i := (i : Int)) (by omega) (by omega)
     exact ⟨(nodeAt t i).up.toNat, by omega, by omega⟩
    rw [e] at hh ⊢
    exact held_alone h f u hu' hh
theorem right_alone (h : rightB t = true) (hk : k ∈ (nodeAt t 0).kids) : rightB (aloneT t k) = true := by
 have hn := right_pos h
 have h0 := (right_top h).1
 have e0 : ((0 : Nat) : Int) = 0 := rfl
 obtain ⟨k0, k1, k2, _⟩ := right_kid h hn hk
 rw [e0] at k2
 have hkz : k ≠ 0 := fun e => by rw [e, h0] at k2; omega
 have hz : nodeAt (aloneT t k) 0 = { nodeAt t 0 with kids := [k] } := by
  have := alone_at (k := k) hn
  rw [e0] at this
  rw [this]; rfl
 have hu0 : (nodeAt (aloneT t k) 0).up = -1 := by rw [hz]; exact h0
 have hok : ∀ j, j < (aloneT t k).length → okNd (aloneT t k) j = true := fun i hi => by
  rw [alone_len] at hi
  have hok := right_nd h hi
  simp only [okNd, Bool.and_eq_true, Bool.not_eq_true'] at hok ⊢
  have hup := cut_up (k := k) h0 i
  have hups := ups_at (ups_right h) (i := (i : Int)) (by omega) (by omega)
  have hc : (cutOff t k i).up = -1 ∨ ((cutOff t k i).up = (nodeAt t i).up ∧ 0 ≤ (nodeAt t i).up ∧ (nodeAt t i).up < (t.length : Int) ∧ ((nodeAt t i).up = 0 → (i : Int) = k)) := by
   rw [hup]
   split
   ·exact .inl rfl
   ·rename_i hc
    rcases hups with hu | hu
    ·exact .inl hu
    ·exact .inr ⟨rfl, hu.1, hu.2, fun e => Classical.byContradiction fun hne => hc ⟨e, hne⟩⟩
  refine ⟨?_, ?_, ?_⟩
  ·unfold badA
   rw [alone_at hi, cut_kind, alone_len]
   by_cases hz : i = 0
   ·subst hz; simp
   ·have ha := hok.1
    have hp : 0 < i := by omega
    simp only [badA, hp, decide_true, Bool.true_and, Bool.or_eq_false_iff, decide_eq_false_iff_not] at ha
    simp only [Bool.and_eq_false_iff, Bool.or_eq_false_iff, decide_eq_false_iff_not]
    exact .inr ⟨ha.1, ha.2.1, by omega, by omega⟩
  ·unfold badB
   rw [alone_at hi]
   rcases hc with hu | ⟨hu, u0, u1, u2⟩
   ·simp [hu]
   ·rw [hu]
    have hb := hok.2.1
    simp only [badB, u0, decide_true, Bool.true_and, Bool.or_eq_false_iff, decide_eq_false_iff_not] at hb
    obtain ⟨u, hu', e⟩ : ∃ u : Nat, u < t.length ∧ (nodeAt t i).up = (u : Int) := ⟨(nodeAt t i).up.toNat, by omega, by omega⟩
    rw [e] at hb u2 ⊢
    rw [alone_at hu', cut_kind, cut_kids]
    simp only [show (0 : Int) ≤ (u : Int) by omega, decide_true, Bool.true_and, Bool.or_eq_false_iff, decide_eq_false_iff_not]
    refine ⟨hb.1, ?_⟩
    by_cases hz : u = 0
    ·subst hz
     rw [if_pos rfl, u2 rfl]
     simp [timesB]
    ·rw [if_neg hz]; exact hb.2
  ·rw [alone_at hi, cut_kids, List.any_eq_false]
   intro c hc'
   by_cases hz : i = 0
   ·subst hz
    rw [if_pos rfl] at hc'
    have hck : c = k := by simpa using hc'
    subst hck
    have ec : ((c.toNat : Nat) : Int) = c := by omega
    have hat := alone_at (t := t) (k := c) (i := c.toNat) (by omega)
    rw [ec] at hat
    have hcu := cut_up (k := c) h0 c.toNat
    rw [ec, k2, if_neg (fun e => e.2 rfl)] at hcu
    simp only [badC, alone_len, hat, hcu, Bool.or_eq_true, decide_eq_true_eq, not_or]
    exact ⟨by omega, by omega, fun e => e rfl⟩
   ·rw [if_neg hz] at hc'
    obtain ⟨c0, c1, c2, _⟩ := right_kid h hi hc'
    have ec : ((c.toNat : Nat) : Int) = c := by omega
    have hat := alone_at (t := t) (k := k) (i := c.toNat) (by omega)
    rw [ec] at hat
    have hcu := cut_up (k := k) h0 c.toNat
    rw [ec, c2, if_neg (fun e => by have := e.1; omega)] at hcu
    simp only [badC, alone_len, hat, hcu, Bool.or_eq_true, decide_eq_true_eq, not_or]
    exact ⟨by omega, by omega, fun e => e rfl⟩
 refine rightB_yes (fun e => by have := alone_len (t := t) (k := k); rw [e] at this; simp at this; omega) (by rw [hz]; exact (right_top h).2) hu0 hok fun j hj => ?_
 rw [alone_len] at hj ⊢
 exact held_alone h _ j hj (right_held h hj)
theorem putL_same {n : Nat} {rec rec' : Int → Nat → List Bool → List Nd × List Bool} (h : ∀ k z s, rec k z s = rec' k z s) (K : List Int) (z : Nat) (s : List Bool) : putL rec n K z s = putL rec' n K z s := by
 have : rec = rec' := by funext k z s; exact h k z s
 rw [this]
theorem putP_same {t u : Tr} (hl : t.length = u.length) (hn : ∀ i, { nodeAt t i with up := 0 } = { nodeAt u i with up := 0 }) : ∀ (f : Nat) (i up : Int) (z : Nat) (s : List Bool), putP f t i up z s = putP f u i up z s
 | 0, _, _, _, _ => rfl
 | f + 1, i, up, z, s => by
  have e1 : (nodeAt t i).kids = (nodeAt u i).kids := by have := congrArg Nd.kids (hn i); exact this
  have e2 : ∀ K, ({ nodeAt t i with up := up, kids := K } : Nd) = { nodeAt u i with up := up, kids := K } := fun K => by
   have := congrArg (fun n : Nd => ({ n with up := up, kids := K } : Nd)) (hn i)
   exact this
  unfold putP
  simp only [e1, e2, hl]
  rw [putL_same (rec := fun k z' s' => putP f t k (z : Int) z' s') (rec' := fun k z' s' => putP f u k (z : Int) z' s') (fun k z s => putP_same hl hn f k _ z s)]
theorem at_out {t : Tr} {i : Nat} (h : ¬ i < t.length) : nodeAt t (i : Int) = nd0 := by
 unfold nodeAt
 simp [List.getD_eq_getElem?_getD, List.getElem?_eq_none (Nat.le_of_not_lt h)]
theorem tidy_alone (h : rightB t = true) : tidyT (oneKid t k) = tidyT (aloneT t k) := by
 have hl : (oneKid t k).length = (aloneT t k).length := by rw [alone_len]; simp [oneKid]
 have hlt : (oneKid t k).length = t.length := by simp [oneKid]
 have hn := right_pos h
 unfold tidyT
 rw [hl]
 rw [putP_same hl fun x => ?_]
 have key : ∀ i : Nat, ({ nodeAt (oneKid t k) (i : Int) with up := 0 } : Nd) = { nodeAt (aloneT t k) (i : Int) with up := 0 } := fun i => by
  by_cases hi : i < t.length
  ·rw [alone_at hi, nodeAt_get (by rw [hlt]; exact hi)]
   unfold oneKid cutOff
   rw [List.getElem_set]
   by_cases hz : i = 0
   ·subst hz; simp
   ·rw [if_neg (fun e => hz e.symm), if_neg hz, ← nodeAt_get hi]
    split <;> rfl
  ·rw [at_out (by rw [hlt]; exact hi), at_out (by rw [alone_len]; exact hi)]
 have hx : ∀ u : Tr, nodeAt u x = nodeAt u ((x.toNat : Nat) : Int) := fun u => by
  show u.getD x.toNat nd0 = u.getD ((x.toNat : Nat) : Int).toNat nd0
  rw [Int.toNat_natCast]
 rw [hx, hx]
 exact key x.toNat
theorem kidsL_alone {rec : List Nd → Int → Bool} : ∀ (K : List Int) (fst : Bool) (last : Int), kidsL rec t [] K fst last = true → ∀ k, k ∈ K → kidsL rec t [] [k] true (-1) = true
 | [], _, _, _, k, hk => by cases hk
 | c :: r, fst, last, h, k, hk => by
  have hp : elB (parentN []) [112, 114, 101, 32, 116, 101, 120, 116, 97, 114, 101, 97] = false := by decide
  rw [kidsL] at h
  rcases List.mem_cons.1 hk with rfl | hk
  ·rw [kidsL, hp]
   split
   ·rename_i h1
    rw [if_pos h1] at h
    simp only [Bool.and_eq_true] at h ⊢
    exact ⟨h.1, rfl⟩
   ·rename_i h1
    rw [if_neg h1] at h
    split
    ·rename_i h2
     rw [if_pos h2] at h
     simp only [Bool.and_eq_true] at h ⊢
     exact ⟨⟨⟨⟨by decide, h.1.1.1.2⟩, h.1.1.2⟩, by simp⟩, rfl⟩
    ·rename_i h2
     rw [if_neg h2] at h; cases h
  ·split at h
   ·simp only [Bool.and_eq_true] at h
    exact kidsL_alone r _ _ h.2 k hk
   ·split at h
    ·simp only [Bool.and_eq_true] at h
     exact kidsL_alone r _ _ h.2 k hk
    ·cases h
theorem kids_alone (h : rightB t = true) (hk : k ∈ (nodeAt t 0).kids) (hF : kidsF (t.length + 2) t [] 0 = true) : kidsF ((aloneT t k).length + 2) (aloneT t k) [] 0 = true := by
 have hn := right_pos h
 have h0 := (right_top h).1
 have e0 : ((0 : Nat) : Int) = 0 := rfl
 have hz := alone_at (k := k) hn
 rw [e0] at hz
 rw [alone_len]
 rw [show t.length + 2 = (t.length + 1) + 1 by omega, kidsF] at hF ⊢
 have h1 := kidsL_alone _ _ _ hF k hk
 rw [hz, cut_kids, if_pos rfl]
 have hS : ∀ x : Int, (0 < x ∧ x < (t.length : Int)) → ∀ c, c ∈ (nodeAt t x).kids → 0 < c ∧ c < (t.length : Int) := fun x hx c hc => by
  have ex : ((x.toNat : Nat) : Int) = x := by omega
  obtain ⟨c0, c1, c2, _⟩ := right_kid h (i := x.toNat) (by omega) (by rw [ex]; exact hc)
  have : c ≠ 0 := fun e => by rw [e, h0] at c2; omega
  omega
 have hN : ∀ x : Int, (0 < x ∧ x < (t.length : Int)) → stripN (nodeAt t x) = stripN (nodeAt (aloneT t k) x) ∧ (nodeAt (aloneT t k) x).kids = (nodeAt t x).kids := fun x hx => by
  have ex : ((x.toNat : Nat) : Int) = x := by omega
  have hat := alone_at (t := t) (k := k) (i := x.toNat) (by omega)
  rw [ex] at hat
  have hs := cut_strip (t := t) (k := k) x.toNat (by omega)
  have hc := cut_kids (t := t) (k := k) x.toNat
  rw [if_neg (by omega)] at hc
  rw [ex] at hs hc
  rw [hat]
  exact ⟨hs.symm, hc⟩
 have hkr : 0 < k ∧ k < (t.length : Int) := by
  obtain ⟨c0, c1, c2, _⟩ := right_kid h hn hk
  have : k ≠ 0 := fun e => by rw [e, h0] at c2; omega
  omega
 have key := kidsL_same (t := t) (v := aloneT t k) (pos := id) (rec := kidsF (t.length + 1) t) (rec' := kidsF (t.length + 1) (aloneT t k)) (P := []) (P' := []) rfl [k] (fun c hc => by
  have hck : c = k := by simpa using hc
  subst hck
  refine ⟨(hN c hkr).1, ?_⟩
  exact kidsF_same (t := t) (v := aloneT t c) (pos := id) (S := fun x => 0 < x ∧ x < (t.length : Int)) hS (fun x hx => ⟨(hN x hx).1, by rw [List.map_id]; exact (hN x hx).2⟩) _ _ _ c hkr (by
   simp only [List.nil_append, List.map_cons, List.map_nil, id]
   rw [(hN c hkr).1])) true (-1)
 exact key.symm.trans h1
theorem alone_steady (h : treeS t = true) (hk : k ∈ (nodeAt t 0).kids) : treeS (tidyT (oneKid t k)) = true := by
 unfold treeS at h
 simp only [Bool.and_eq_true, decide_eq_true_eq] at h
 obtain ⟨hr, hn, hd, _, _, hF⟩ := h
 have e0 : ((0 : Nat) : Int) = 0 := rfl
 have hz := alone_at (k := k) (right_pos hr)
 rw [e0] at hz
 rw [tidy_alone hr]
 refine tidy_steady (right_alone hr hk) ?_ ?_ (kids_alone hr hk hF)
 ·rw [hz]; exact hn
 ·rw [hz]; exact hd
end
end Go.Proofs.YtgpjifeeneeiaaaGreatDoor
namespace Go.Proofs.YtgpjifeeneeiaaaGreatDoor
set_option linter.unusedSimpArgs false
set_option linter.unusedVariables false
open Go Go.RowKit
set_option maxRecDepth 100000
theorem app_fresh {m sz by_ k : Nat} {g : List (Nat × Blk)} {fs : List (List (Nat × Blk))} {ty : TypeId} {z : AV} {M F : List AV} (hsz : sizeT Tryz.prog ty = some sz) (hby : bytesT Tryz.prog ty = some by_) (hz : zeroOf Tryz.prog ty = some z) (hzl : z.cells.length = sz) (h0 : sz ≠ 0) (hb : 0 < by_ ∧ by_ ≤ 1000)
  (hrow : ∀ cs, rowA Tryz.prog ty cs = .cells cs) (hM : M.length = k) (hk : 0 < k) (hl : k ≤ 100000) (hF : flatAV M = F) (hel : F.length = k * sz) (hsg : allSingle F = true) :
  appendA Tryz.prog ⟨m + 1, ((m, .cells []) :: g) :: fs⟩ ty (.slc m 0 0 (.ex 0)) (.fslc sz M) = some (.slc (m + 1) 0 k (.rest sz), ⟨m + 2, ((m + 1, .cells F) :: (m, .cells []) :: g) :: fs⟩) := by
 have hb1 : Nat.blt 0 by_ = true := by simp; omega
 have hr : roomOK k by_ = true := by
  unfold roomOK; rw [Nat.ble_eq]
  have : k * by_ ≤ 100000 * 1000 := Nat.mul_le_mul hl hb.2
  omega
 have htk : M.take k = M := by rw [List.take_of_length_le]; omega
 have h2 : Nat.ble k 0 = false := by rw [← Bool.not_eq_true, Nat.ble_eq]; omega
 have hs0 : Nat.beq sz 0 = false := beqN_ne h0
 obtain ⟨k', rfl⟩ : ∃ k', k = k' + 1 := ⟨k - 1, by omega⟩
 unfold appendA
 simp only [hsz, hby, hz, hzl, srcLen, hb1, Option.bind_some, hM]
 simp [srcCells, htk, hF, hr, hsg, h2, hel, readCells, Heap.get, getFs, getF, subL, takeL, hrow, Heap.new, pushF, hs0, h0]
theorem app_freshA {m : Nat} {g : List (Nat × Blk)} {fs : List (List (Nat × Blk))} (A : List At1) (hA : A ≠ []) (hl : A.length ≤ 100000) :
  appendA Tryz.prog ⟨m + 1, ((m, .cells []) :: g) :: fs⟩ 43 (.slc m 0 0 (.ex 0)) (aAttrs A) =
   some (.slc (m + 1) 0 A.length (.rest 2), ⟨m + 2, ((m + 1, .cells (flatAV (A.map aAttr))) :: (m, .cells []) :: g) :: fs⟩) := by
 have hel := (el_attr A).len
 rw [List.length_map] at hel
 have hbv := byT43
 exact app_fresh szT43 byT43 zeT43 rfl (by omega) (by omega) (by intro cs; rfl) (by simp) (List.length_pos_iff.2 hA) hl rfl hel (single_attr A)
theorem single_ints' : ∀ (L : List Int), allSingle (ints L) = true
 | [] => rfl
 | x :: r => single_ints' r
theorem app_freshI {m : Nat} {g : List (Nat × Blk)} {fs : List (List (Nat × Blk))} (A : List Int) (hA : A ≠ []) (hl : A.length ≤ 100000) :
  appendA Tryz.prog ⟨m + 1, ((m, .cells []) :: g) :: fs⟩ 3 (.slc m 0 0 (.ex 0)) (aInts A) =
   some (.slc (m + 1) 0 A.length (.rest 1), ⟨m + 2, ((m + 1, .cells (ints A)) :: (m, .cells []) :: g) :: fs⟩) :=
 app_fresh szT3 byT3 zeT3 rfl (by omega) (by omega) (by intro cs; rfl) (by simp) (List.length_pos_iff.2 hA) hl (flat_ints A) (by simp [ints]) (single_ints' A)
abbrev clR (t : Tr) (L : List Nd) : List (Nat × Blk) := [(2, .cells [ownV 3 7 (L.map aNode)]), (1, .cells [.nilS]), (0, .cells [aNodes t])]
theorem fit_clv {r : Nat} {v : AV} {L : List Nd} {σ : List (Nat × Nat)} {Φ : List (Nat × List AV)} (hv : v = ownV r 7 (L.map aNode) ∨ (v = .nilS ∧ L = [])) (hr : lookN r σ = some 3) : fitV σ Φ v (ownV 3 7 (L.map aNode)) := by
 cases L with
 | nil => rcases hv with rfl | ⟨rfl, _⟩ <;> simp [ownV, fitV]
 | cons x l => rcases hv with rfl | ⟨_, h⟩ <;> first | (simp [ownV, fitV, hr]; done) | cases h
theorem fit_cl {t : Tr} {L : List Nd} {H : Heap} {r : Nat} {v : AV} (hr : r ≠ 0 ∧ r ≠ 1 ∧ r ≠ 2) (hv : v = ownV r 7 (L.map aNode) ∨ (v = .nilS ∧ L = [])) (h3 : L ≠ [] → H.get r = some (.cells (flatAV (L.map aNode)))) (h2 : H.get 2 = some (.cells [v])) (h1 : H.get 1 = some (.cells [.nilS])) (h0 : H.get 0 = some (.cells [aNodes t])) :
  FitH 0 [(r, 3), (2, 2), (1, 1), (0, 0)] [] H ⟨4, [clR t L, ownF 3 (L.map aNode)]⟩ where
 nd1 := by simp; omega
 nd2 := by simp
 nd3 := by cases L <;> simp [Heap.ents, ownF]
 lt := by simp
 idn := by simp
 num := by simp
 src := by
  intro e he
  have hN := pure_aNodes t
  have hre := (el_node L).pure
  simp only [Heap.ents, List.flatten_cons, List.flatten_nil, List.append_nil, List.mem_cons, List.mem_append, List.not_mem_nil, or_false] at he
  rcases he with (rfl | rfl | rfl) | he
  ·exact ⟨2, _, by simp, h2, ⟨fit_clv hv (by simp [lookN]), by simp [fitL]⟩⟩
  ·exact ⟨1, _, by simp, h1, by simp [fitB, fitL, fitV]⟩
  ·exact ⟨0, _, by simp, h0, fitL_pure (by simp [pureL])⟩
  ·by_cases hL : L = []
   ·subst hL; cases he
   ·rw [ownF_ne (by simpa using hL)] at he
    simp at he
    subst he
    exact ⟨r, _, by simp, h3 hL, fitL_pure hre⟩
 frz := fun x h => by cases h
theorem fit_c4 {t : Tr} {L : List Nd} {x : Nd} {c3 c6 : AV} {Φ : List (Nat × List AV)} {H : Heap} (hΦ : Φ = [] ∨ ∃ q cs, Φ = [(q, cs)] ∧ 5 ≤ q ∧ H.get q = some (.cells cs) ∧ pureL cs = true) (f3 : ∀ σ, fitV σ Φ c3 (aAttrs x.attrs)) (f6 : ∀ σ, fitV σ Φ c6 (aInts x.kids))
  (h4 : H.get 4 = some (.cells [aInt x.kind, aInt x.space, .str x.name, c3, .str x.data, aInt x.up, c6])) (h3 : L ≠ [] → H.get 3 = some (.cells (flatAV (L.map aNode)))) (h2 : H.get 2 = some (.cells [ownV 3 7 (L.map aNode)])) (h1 : H.get 1 = some (.cells [.nilS])) (h0 : H.get 0 = some (.cells [aNodes t])) :
  FitH 0 [(4, 4), (3, 3), (2, 2), (1, 1), (0, 0)] Φ H ⟨5, [(4, .cells x.cs) :: clR t L, ownF 3 (L.map aNode)]⟩ where
 nd1 := by rcases hΦ with rfl | ⟨q, cs, rfl, hq, _⟩ <;> simp; omega
 nd2 := by simp
 nd3 := by cases L <;> simp [Heap.ents, ownF]
 lt := by simp
 idn := by simp
 num := by simp
 src := by
  intro e he
  have hN := pure_aNodes t
  have hre := (el_node L).pure
  simp only [Heap.ents, List.flatten_cons, List.flatten_nil, List.append_nil, List.mem_cons, List.mem_append, List.not_mem_nil, or_false] at he
  rcases he with (rfl | rfl | rfl | rfl) | he
  ·exact ⟨4, _, by simp, h4, by simp [fitB, Nd.cs, fitL, fitV, aInt, pureV, f3, f6]⟩
  ·exact ⟨2, _, by simp, h2, ⟨fit_clv (.inl rfl) (by simp [lookN]), by simp [fitL]⟩⟩
  ·exact ⟨1, _, by simp, h1, by simp [fitB, fitL, fitV]⟩
  ·exact ⟨0, _, by simp, h0, fitL_pure (by simp [pureL])⟩
  ·by_cases hL : L = []
   ·subst hL; cases he
   ·rw [ownF_ne (by simpa using hL)] at he
    simp at he
    subst he
    exact ⟨3, _, by simp, h3 hL, fitL_pure hre⟩
 frz := fun y hy => by
  rcases hΦ with rfl | ⟨q, cs, rfl, hq, h, hp⟩
  ·cases hy
  ·simp at hy; subst hy
   exact ⟨cs, h, fitL_pure hp, hp⟩
theorem app_cl {t : Tr} {L : List Nd} {nc : List AV} {A : Blk} (hnl : nc.length = 7) (hns : allSingle nc = true) (hl : L.length ≤ 100000) :
  appendA Tryz.prog ⟨6, [(5, .cells nc) :: (4, A) :: clR t L, ownF 3 (L.map aNode)]⟩ 31 (ownV 3 7 (L.map aNode)) (.slc 5 0 1 (.ex 1)) =
   some (.slc 6 0 (L.length + 1) (.rest 7), ⟨7, [(6, .cells (flatAV (L.map aNode) ++ nc)) :: (5, .cells nc) :: (4, A) :: clR t L, []]⟩) := by
 have hrow : ∀ cs, rowA Tryz.prog 31 cs = .cells cs := by intro cs; rfl
 have htk : takeL 7 nc = some nc := by rw [← hnl]; exact takeL_all nc
 obtain ⟨by_, hby⟩ : ∃ b, bytesT Tryz.prog 31 = some b := ⟨_, byT31⟩
 have hbv : 0 < by_ ∧ by_ ≤ 1000 := by
  have := hby.symm.trans byT31
  simp at this; omega
 obtain ⟨zz, hzz, hzl⟩ : ∃ b, zeroOf Tryz.prog 31 = some b ∧ b.cells.length = 7 := ⟨_, zeT31, rfl⟩
 have hb1 : Nat.blt 0 by_ = true := by simp; omega
 by_cases hL : L = []
 ·subst hL
  have hr : roomOK 1 by_ = true := by unfold roomOK; rw [Nat.ble_eq]; omega
  unfold appendA
  simp [szT31, hby, hzz, hzl, srcLen, hb1, hr, srcCells, readCells, Heap.get, getFs, getF, subL, htk, hnl, hrow, Heap.new, pushF, ownV, ownF, flatAV]
 ·have hpl := (el_node L).len
  have hro : roomOK (L.length + 1) by_ = true := by
   unfold roomOK; rw [Nat.ble_eq]
   have : (L.length + 1) * by_ ≤ 100001 * 1000 := Nat.mul_le_mul (by omega) hbv.2
   omega
  rw [List.length_map] at hpl
  rw [ownF_ne (by simpa using hL), ownV_ne (by simpa using hL), clR, ownV_ne (by simpa using hL), List.length_map]
  generalize flatAV (L.map aNode) = pre at *
  generalize L.length = z at *
  have h2 : Nat.ble ((z + 1) * 7) (z * 7) = false := by rw [← Bool.not_eq_true, Nat.ble_eq]; omega
  have htp : takeL (z * 7) pre = some pre := by rw [← hpl]; exact takeL_all pre
  unfold appendA
  simp [szT31, hby, hzz, hzl, srcLen, hb1, hro, srcCells, readCells, Heap.get, getFs, getF, subL, htk, hnl, hrow, Heap.new, pushF, hns, knownCells, hpl, h2, htp, Heap.drop, killFs, killF]
theorem clone_at {T : List (Entry Tryz.prog)} (t : Tr) (ht : okTr t) (hne : t ≠ []) : CallAt (ctx T) 9 [aTree t] ⟨0, []⟩ (.agg [.slc 0 0 t.length (.rest 7)]) ⟨1, [[(0, .cells (flatAV (t.map aNode)))]]⟩ := by
 have lenT : ∀ H, lenA Tryz.prog H 22 (aNodes t) = some t.length := fun H => by simp [lenA]
 refine callAt_body (fn := Tryz.f9) (s0 := ⟨[0, 1, 2, 3, 4, 5], [aTree t, .undef, .undef, .undef, .undef, .undef], [], 35, ⟨0, [[]]⟩⟩) Tryz.func9 rfl rfl rfl ?_
 repeat apply wq
 refine wps_region callOK ?_
 simp [zS, aTree]
 repeat apply wq
 refine wps_region callOK ?_
 simp [zS]
 repeat apply wq
 refine wps_region callOK ?_
 simp [zS]
 try refine wps_seq ?_
 repeat apply wq
 refine wps_block (wps_loop' (fun i : Nat => (⟨[0, 1, 2, 3, 4, 5], [.undef, .ptr 0 0, .ptr 1 0, .ptr 2 0, .int .i64 (i : Int), .undef], [], 35, ⟨4, [clR t (t.take i), ownF 3 ((t.take i).map aNode)]⟩⟩ : St))
  (fun i => i ≤ t.length) (fun i => t.length - i) [(3, 3), (2, 2), (1, 1), (0, 0)] [] 0 (Nat.zero_le _) ⟨rfl, rfl, rfl, by simp [fitL, fitV, lookN, pureV, pureL], fit_cl (L := []) (by omega) (.inr ⟨rfl, rfl⟩) (fun h => absurd rfl h) rfl rfl rfl⟩ ?_)
 rintro i hi B hB
 by_cases h : i < t.length
 ·have hc : (i : Int) < (t.length : Int) := by omega
  have hix := atX (t := t) (i := (i : Int)) (by omega) (by omega)
  have hok := ht.2 _ (nodeAt_mem (t := t) (i := (i : Int)) (by omega) (by omega))
  have hac := add_one (show i ≤ 1000000000 by have := ht.1; omega)
  have htk : t.take (i + 1) = t.take i ++ [nodeAt t (i : Int)] := by rw [List.take_succ_eq_append_getElem h, nodeAt_get h]
  have hLl : (t.take i).length = i := by simp; omega
  have hlen := ht.1
  generalize nodeAt t (i : Int) = x at *
  generalize t.take i = L at *
  repeat apply wq
  refine wps_region callOK ?_
  simp [zS, lenT, hc, h]
  repeat apply wq
  refine wps_ct rfl ?_
  repeat apply wq
  refine wps_skip ?_
  simp
  repeat apply wq
  refine wps_block ?_
  repeat apply wq
  refine wps_region callOK ?_
  simp [zS, hix]
  have hat3 : getL x.cs 3 = some (aAttrs x.attrs) := rfl
  have hst3 : ∀ v, layL [v] 3 x.cs = some [aInt x.kind, aInt x.space, .str x.name, v, .str x.data, aInt x.up, aInts x.kids] := fun v => rfl
  have hat6 : getL x.cs 6 = some (aInts x.kids) := rfl
  have hst6 : ∀ v, layL [v] 6 x.cs = some [aInt x.kind, aInt x.space, .str x.name, aAttrs x.attrs, .str x.data, aInt x.up, v] := fun v => rfl
  have g3 : L ≠ [] → ∀ m f, getF 3 f = none → Heap.get ⟨m, [f, ownF 3 (L.map aNode)]⟩ 3 = some (.cells (flatAV (L.map aNode))) := fun hL m f hf => by
   rw [ownF_ne (by simpa using hL)]
   simp [Heap.get, getFs, hf, getF]
  refine wps_joinG ((⟨[0, 1, 2, 3, 4, 5], [.undef, .ptr 0 0, .ptr 1 0, .ptr 2 0, .int .i64 (i : Int), .ptr 4 0], [], 35, ⟨5, [(4, .cells x.cs) :: clR t L, ownF 3 (L.map aNode)]⟩⟩ : St)) ?_ fun hj => ?_
  rotate_left
  ·by_cases hA : x.attrs = []
   ·rw [hA] at hat3
    have e1 : appendA Tryz.prog ⟨6, ((5, .cells []) :: (4, .cells x.cs) :: clR t L) :: [ownF 3 (L.map aNode)]⟩ 43 (.slc 5 0 0 (.ex 0)) (aAttrs []) = some (.slc 5 0 0 (.ex 0), ⟨6, ((5, .cells []) :: (4, .cells x.cs) :: clR t L) :: [ownF 3 (L.map aNode)]⟩) := rfl
    repeat apply wq
    refine wps_region callOK ?_
    simp [zS, e1, hat3, hst3, prom_top]
    exact hj _ ⟨[(4, 4), (3, 3), (2, 2), (1, 1), (0, 0)], [], rfl, rfl, rfl, by simp [fitL, fitV, lookN, pureV, pureL], fit_c4 (x := x) (c3 := .slc 5 0 0 (.ex 0)) (c6 := aInts x.kids) (.inl rfl) (fun σ => by rw [hA]; simp [fitV, aAttrs]) (fun σ => fitV_pure (by simp)) rfl (fun hL => g3 hL _ _ rfl) rfl rfl rfl⟩
   ·have happ1 := app_freshA (m := 5) (g := (4, .cells x.cs) :: clR t L) (fs := [ownF 3 (L.map aNode)]) x.attrs hA (by omega)
    simp only [Nat.reduceAdd] at happ1
    repeat apply wq
    refine wps_region callOK ?_
    simp [zS, happ1, hat3, hst3, prom_top]
    have hel := el_attr x.attrs
    exact hj _ ⟨[(4, 4), (3, 3), (2, 2), (1, 1), (0, 0)], [(6, flatAV (x.attrs.map aAttr))], rfl, rfl, rfl, by simp [fitL, fitV, lookN, pureV, pureL], fit_c4 (x := x) (c3 := .slc 6 0 x.attrs.length (.rest 2)) (c6 := aInts x.kids) (.inr ⟨6, _, rfl, by omega, rfl, hel.pure⟩) (fun σ => by
     simp only [aAttrs, fitV, lookC, if_true]
     refine .inl ⟨_, rfl, ?_, by simp, hel.size⟩
     have hl := hel.len
     rw [List.length_map] at hl
     unfold subL
     rw [List.drop_zero, ← hl, takeL_all]) (fun σ => fitV_pure (by simp)) rfl (fun hL => g3 hL _ _ rfl) rfl rfl rfl⟩
  clear hat3 hst3
  refine wps_joinG ((⟨[0, 1, 2, 3, 4, 5], [.undef, .ptr 0 0, .ptr 1 0, .ptr 2 0, .int .i64 (i : Int), .ptr 4 0], [], 35, ⟨5, [(4, .cells x.cs) :: clR t L, ownF 3 (L.map aNode)]⟩⟩ : St)) ?_ fun hj => ?_
  rotate_left
  ·by_cases hA : x.kids = []
   ·rw [hA] at hat6
    have e1 : appendA Tryz.prog ⟨6, ((5, .cells []) :: (4, .cells x.cs) :: clR t L) :: [ownF 3 (L.map aNode)]⟩ 3 (.slc 5 0 0 (.ex 0)) (aInts []) = some (.slc 5 0 0 (.ex 0), ⟨6, ((5, .cells []) :: (4, .cells x.cs) :: clR t L) :: [ownF 3 (L.map aNode)]⟩) := rfl
    repeat apply wq
    refine wps_region callOK ?_
    simp [zS, e1, hat6, hst6, prom_top]
    exact hj _ ⟨[(4, 4), (3, 3), (2, 2), (1, 1), (0, 0)], [], rfl, rfl, rfl, by simp [fitL, fitV, lookN, pureV, pureL], fit_c4 (x := x) (c3 := aAttrs x.attrs) (c6 := .slc 5 0 0 (.ex 0)) (.inl rfl) (fun σ => fitV_pure (by simp)) (fun σ => by rw [hA]; simp [fitV, aInts]) rfl (fun hL => g3 hL _ _ rfl) rfl rfl rfl⟩
   ·have happ1 := app_freshI (m := 5) (g := (4, .cells x.cs) :: clR t L) (fs := [ownF 3 (L.map aNode)]) x.kids hA (by omega)
    simp only [Nat.reduceAdd] at happ1
    repeat apply wq
    refine wps_region callOK ?_
    simp [zS, happ1, hat6, hst6, prom_top]
    have hel := el_int x.kids
    exact hj _ ⟨[(4, 4), (3, 3), (2, 2), (1, 1), (0, 0)], [(6, ints x.kids)], rfl, rfl, rfl, by simp [fitL, fitV, lookN, pureV, pureL], fit_c4 (x := x) (c3 := aAttrs x.attrs) (c6 := .slc 6 0 x.kids.length (.rest 1)) (.inr ⟨6, _, rfl, by omega, rfl, pure_ints _⟩) (fun σ => fitV_pure (by simp)) (fun σ => by
     simp only [aInts, fitV, lookC, if_true]
     refine .inl ⟨_, rfl, ?_, by simp, hel.size⟩
     have hl := hel.len
     rw [flat_ints] at hl
     have h2 : (ints x.kids).length = x.kids.length := by simp [ints]
     show subL 0 (x.kids.length * 1) (ints x.kids) = some (flatAV (ints x.kids))
     rw [flat_ints, Nat.mul_one, ← h2]
     unfold subL
     rw [List.drop_zero, takeL_all]) rfl (fun hL => g3 hL _ _ rfl) rfl rfl rfl⟩
  clear hat6 hst6
  have happ := app_cl (t := t) (L := L) (nc := x.cs) (A := .cells x.cs) rfl rfl (by omega)
  repeat apply wq
  refine wps_region callOK ?_
  simp [zS, happ, prom_top]
  repeat apply wq
  refine wps_region callOK ?_
  simp [zS, hac]
  have hfl : flatAV ((L ++ [x]).map aNode) = flatAV (L.map aNode) ++ x.cs := by rw [List.map_append, flat_append]; simp [flatAV, aNode, AV.cells]
  have hfit := fit_cl (t := t) (L := L ++ [x]) (H := ⟨7, [[(6, .cells (flatAV (L.map aNode) ++ x.cs)), (5, .cells x.cs), (4, .cells x.cs), (2, .cells [.slc 6 0 (L.length + 1) (.rest 7)]), (1, .cells [.nilS]), (0, .cells [aNodes t])], []]⟩) (r := 6) (v := .slc 6 0 (L.length + 1) (.rest 7)) (by omega) (.inl (by rw [ownV_ne (by simp)]; simp)) (fun _ => by rw [hfl]; rfl) rfl rfl rfl
  rw [← htk] at hfit
  exact hB _ (i + 1) (by omega) (by omega) ⟨[(6, 3), (2, 2), (1, 1), (0, 0)], [], rfl, rfl, rfl, by simp [fitL, fitV, lookN, pureV, pureL], hfit⟩
 ·have hc : ¬ (i : Int) < (t.length : Int) := by omega
  have hie : i = t.length := by omega
  subst hie
  have hpos := List.length_pos_iff.2 hne
  have e1 : clR t t = [(2, .cells [.slc 3 0 t.length (.rest 7)]), (1, .cells [.nilS]), (0, .cells [aNodes t])] := by
   unfold clR
   rw [ownV_ne (by simpa using hne), List.length_map]
  rw [List.take_length, e1, ownF_ne (by simpa using hne)]
  repeat apply wq
  refine wps_region callOK ?_
  simp [zS, lenT, hc]
  repeat apply wq
  refine wps_cf rfl ?_
  repeat apply wq
  refine wps_exit ?_
  simp
  repeat apply wq
  refine wps_region callOK ?_
  simp [zS, prom_top]
  have hpn := (el_node t).pure
  repeat apply wq
  refine wps_ret ?_
  simp [retVal, Tryz.f9, oneOr]
  refine ⟨[.agg [.slc 3 0 t.length (.rest 7)]], rfl, [(3, 0)], [], by simp [oneOr, fitV, fitL, lookN], ?_⟩
  exact {
   nd1 := by simp
   nd2 := by simp
   nd3 := by simp [Heap.ents]
   lt := by simp
   idn := by simp
   num := by simp
   src := by
    intro e he
    simp [Heap.ents] at he
    subst he
    exact ⟨3, _, by simp, rfl, fitL_pure hpn⟩
   frz := fun x h => by cases h }
theorem cut_like (t : Tr) (k : Int) (i : Nat) : (cutOff t k i).name = (nodeAt t i).name ∧ (cutOff t k i).attrs = (nodeAt t i).attrs ∧ (cutOff t k i).data = (nodeAt t i).data := by
 unfold cutOff
 split
 ·rename_i h; subst h; exact ⟨rfl, rfl, rfl⟩
 ·split <;> exact ⟨rfl, rfl, rfl⟩
theorem tidy_like {t : Tr} {k : Int} (h : rightB t = true) (hk : k ∈ (nodeAt t 0).kids) : (tidyT (oneKid t k)).length ≤ t.length ∧ ∀ n, n ∈ tidyT (oneKid t k) → ∃ m, m ∈ t ∧ n.name = m.name ∧ n.attrs = m.attrs ∧ n.data = m.data ∧ (n.kids.length ≤ 1 ∨ n.kids.length = m.kids.length) := by
 rw [tidy_alone h]
 have hr := right_alone h hk
 have w := new_tidy hr
 refine ⟨?_, fun n hn => ?_⟩
 ·rw [w.len]
  have := order_len (n := (aloneT t k).length) (ks := kidsOf (aloneT t k))
  rw [alone_len] at this ⊢
  exact this
 ·rw [tidy_new hr] at hn
  obtain ⟨x, hx, rfl⟩ := List.mem_map.1 hn
  obtain ⟨x0, x1⟩ := w.rng x hx
  rw [alone_len] at x1
  have ex : ((x.toNat : Nat) : Int) = x := by omega
  have hat := alone_at (t := t) (k := k) (i := x.toNat) (by omega)
  rw [ex] at hat
  obtain ⟨a, b, c⟩ := cut_like t k x.toNat
  rw [ex] at a b c
  refine ⟨nodeAt t x, nodeAt_mem x0 x1, ?_, ?_, ?_, ?_⟩
  ·show (nodeAt (aloneT t k) x).name = _
   rw [hat]; exact a
  ·show (nodeAt (aloneT t k) x).attrs = _
   rw [hat]; exact b
  ·show (nodeAt (aloneT t k) x).data = _
   rw [hat]; exact c
  ·show ((nodeAt (aloneT t k) x).kids.map _).length ≤ 1 ∨ ((nodeAt (aloneT t k) x).kids.map _).length = _
   rw [hat, cut_kids, List.length_map]
   by_cases hz : x.toNat = 0
   ·rw [if_pos hz]; exact .inl (Nat.le_refl _)
   ·rw [if_neg hz, ex]; exact .inr rfl
theorem one_ok {t : Tr} {k : Int} (h : rightB t = true) (hk : k ∈ (nodeAt t 0).kids) (ht : okTr t) (hn : ∀ n, n ∈ t → okN n) : okT (oneKid t k) ∧ oneKid t k ≠ [] := by
 have hp := right_pos h
 have hl : (oneKid t k).length = t.length := by simp [oneKid]
 have e0 : ((0 : Nat) : Int) = 0 := rfl
 have h0m : nodeAt t 0 ∈ t := nodeAt_mem (by omega) (by omega)
 have hkr := right_kid h hp hk
 have hm : ∀ n, n ∈ oneKid t k → n ∈ t ∨ n = { nodeAt t 0 with kids := [k] } := fun n hn => List.mem_or_eq_of_mem_set hn
 refine ⟨⟨⟨by rw [hl]; exact ht.1, fun n hn => ?_⟩, fun n h' => ?_, fun n h' c hc => ?_⟩, fun e => by rw [e] at hl; simp at hl; omega⟩
 ·rcases hm n hn with h | rfl
  ·exact ht.2 n h
  ·exact ⟨by simp, (ht.2 _ h0m).2⟩
 ·rcases hm n h' with h | rfl
  ·exact hn n h
  ·exact (show okN (nodeAt t 0) from hn _ h0m)
 ·rw [hl]
  rcases hm n h' with h2 | rfl
  ·exact right_kd h n h2 c hc
  ·simp at hc; subst hc
   exact ⟨hkr.1, hkr.2.1⟩
theorem tidy_ok {t : Tr} {k : Int} (h : rightB t = true) (hk : k ∈ (nodeAt t 0).kids) (ht : smallTr t) (hn : ∀ n, n ∈ t → okN n) : smallTr (tidyT (oneKid t k)) ∧ ∀ n, n ∈ tidyT (oneKid t k) → okN n := by
 obtain ⟨hl, hx⟩ := tidy_like h hk
 refine ⟨⟨by have := ht.1; omega, by have := ht.2.1; omega, fun n hn' => ?_⟩, fun n hn' => ?_⟩
 ·obtain ⟨m, hm, a, b, c, d⟩ := hx n hn'
  have := ht.2.2 m hm
  rw [b]
  omega
 ·obtain ⟨m, hm, a, b, c, d⟩ := hx n hn'
  have := hn m hm
  unfold okN at this ⊢
  rw [a, b, c]
  exact this
theorem fit_one2 {t u : Tr} {x : Nd} {R : List AV} {k : Int} {n : Nat} {H : Heap} (hu : flatAV (u.map aNode) = aInt x.kind :: aInt x.space :: .str x.name :: aAttrs x.attrs :: .str x.data :: aInt x.up :: aInts [k] :: R) (hR : pureL R = true) (hn : n = u.length) (hne : 0 < n)
  (h3 : H.get 3 = some (.cells [.int .i64 k])) (h2 : H.get 2 = some (.cells [.slc 1 0 n (.rest 7)])) (h1 : H.get 1 = some (.cells (aInt x.kind :: aInt x.space :: .str x.name :: aAttrs x.attrs :: .str x.data :: aInt x.up :: .slc 3 0 1 (.ex 1) :: R))) (h0 : H.get 0 = some (.cells [aNodes t])) :
  FitH 0 [(2, 2), (0, 0)] [(1, flatAV (u.map aNode)), (3, [.int .i64 k])] H ⟨3, [[(2, .cells [aNodes u]), (0, .cells [aNodes t])]]⟩ where
 nd1 := by simp
 nd2 := by simp
 nd3 := by simp [Heap.ents]
 lt := by simp
 idn := by simp
 num := by simp
 src := by
  intro e he
  have hN := pure_aNodes t
  have hel := el_node u
  simp [Heap.ents] at he
  rcases he with rfl | rfl
  ·refine ⟨2, _, by simp, h2, ?_⟩
   simp only [fitB, fitL, aNodes, fitV, lookC, if_true]
   refine ⟨.inl ⟨_, rfl, ?_, by simp [hn], hel.size⟩, trivial⟩
   have hl := hel.len
   rw [List.length_map] at hl
   unfold subL
   rw [List.drop_zero, hn, ← hl, takeL_all]
  ·exact ⟨0, _, by simp, h0, fitL_pure (by simp [pureL])⟩
 frz := fun y hy => by
  simp only [List.mem_cons, List.not_mem_nil, or_false] at hy
  rcases hy with rfl | rfl
  ·refine ⟨_, h1, ?_, (el_node u).pure⟩
   rw [hu]
   have hk : fitV [(2, 2), (0, 0)] [(1, aInt x.kind :: aInt x.space :: .str x.name :: aAttrs x.attrs :: .str x.data :: aInt x.up :: aInts [k] :: R), (3, [.int .i64 k])] (.slc 3 0 1 (.ex 1)) (aInts [k]) := by
    simp only [aInts, fitV]
    exact .inl ⟨_, rfl, rfl, rfl, rfl⟩
   have hRR : fitL [(2, 2), (0, 0)] [(1, aInt x.kind :: aInt x.space :: .str x.name :: aAttrs x.attrs :: .str x.data :: aInt x.up :: aInts [k] :: R), (3, [.int .i64 k])] R R := fitL_pure hR
   simp only [fitL]
   exact ⟨fitV_pure rfl, fitV_pure rfl, fitV_pure rfl, fitV_pure (by simp), fitV_pure rfl, fitV_pure rfl, hk, hRR⟩
  ·exact ⟨_, h3, fitL_pure rfl, rfl⟩
structure L29 (T : List (Entry Tryz.prog)) : Prop where
 hP : findE 5 T = some e5.g
 hW : findE 6 T = some e6.g
 hS : findE 7 T = some e7.g
 hY : findE 10 T = some e10.g
theorem fit_al {t : Tr} {H : Heap} (h0 : H.get 0 = some (.cells [aNodes t])) : FitH 0 [(0, 0)] [] H ⟨1, [[(0, .cells [aNodes t])]]⟩ where
 nd1 := by simp
 nd2 := by simp
 nd3 := by simp [Heap.ents]
 lt := by simp
 idn := by simp
 num := by simp
 src := by
  intro e he
  have hN := pure_aNodes t
  simp [Heap.ents] at he
  subst he
  exact ⟨0, .cells [aNodes t], by simp, h0, fitL_pure (by simp [pureL])⟩
 frz := fun x h => by cases h
theorem c4 {T : List (Entry Tryz.prog)} (hT : L29 T) (t : Tr) : CallAt (ctx T) 4 [aTree t] ⟨0, []⟩ (.bool true) ⟨0, []⟩ := by
 have k0 := fun H => k5 hT.hP t (m := 40) (by omega) H
 have k1 := fun H => k6 hT.hW H
 cases q : fewTr t 40 with
 | false =>
  rw [q] at k0
  simp only [aTree] at k0
  refine callAt_body (fn := Tryz.f4) (s0 := ⟨[0, 1, 2, 4, 5, 19, 20, 21], [aTree t, .undef, .undef, .undef, .undef, .undef, .undef, .undef], [], 39, ⟨0, [[]]⟩⟩) Tryz.func4 rfl rfl rfl ?_
  (repeat' (first
   | with_reducible refine wps_seq ?_
   | (with_reducible refine wps_region callOK ?_; apply runE; simp [zS, *, aTree]; exact rfl)
   | (with_reducible refine run_end ?_; simp only [thenQ, blockQ])
   | (refine wps_ct rfl ?_)
   | (with_reducible refine wps_ret ?_; simp [retVal, Tryz.f4, oneOr, thenQ, blockQ])))
  all_goals first | exact ends_pure rfl (by rfl) | (exfalso; omega)
 | true =>
  have hs := few_small (by omega) q
  have hn := few_okN q
  have k2 := fun H => k7 hT.hS t hs hn H
  rw [q] at k0
  cases q2 : treeS t with
  | false =>
   rw [q2] at k2
   simp only [aTree] at k0 k2
   refine callAt_body (fn := Tryz.f4) (s0 := ⟨[0, 1, 2, 4, 5, 19, 20, 21], [aTree t, .undef, .undef, .undef, .undef, .undef, .undef, .undef], [], 39, ⟨0, [[]]⟩⟩) Tryz.func4 rfl rfl rfl ?_
   (repeat' (first
    | with_reducible refine wps_seq ?_
    | (with_reducible refine wps_region callOK ?_; apply runE; simp [zS, *, aTree]; exact rfl)
    | (with_reducible refine run_end ?_; simp only [thenQ, blockQ])
    | (refine wps_ct rfl ?_)
    | (with_reducible refine wps_ret ?_; simp [retVal, Tryz.f4, oneOr, thenQ, blockQ])))
   all_goals first | exact ends_pure rfl (by rfl) | (exfalso; omega)
  | true =>
   rw [q2] at k2
   have hr : rightB t = true := by
    unfold treeS at q2
    simp only [Bool.and_eq_true] at q2
    exact q2.1
   have hpos := right_pos hr
   have hcl := clone_at (T := T) t hs.2 (right_ne hr)
   have hix := atX (t := t) (i := 0) (by omega) (by omega)
   have hokt := hs.2.2 _ (nodeAt_mem (t := t) (i := 0) (by omega) (by omega))
   obtain ⟨K, hK⟩ : ∃ K, K = (nodeAt t 0).kids := ⟨_, rfl⟩
   have hone : ∀ k, k ∈ K → okT (oneKid t k) ∧ oneKid t k ≠ [] := fun k hk => one_ok hr (by rw [← hK]; exact hk) hs.2 hn
   have htid : ∀ k, k ∈ K → smallTr (tidyT (oneKid t k)) ∧ ∀ n, n ∈ tidyT (oneKid t k) → okN n := fun k hk => tidy_ok hr (by rw [← hK]; exact hk) hs hn
   have hst : ∀ k, k ∈ K → treeS (tidyT (oneKid t k)) = true := fun k hk => alone_steady q2 (by rw [← hK]; exact hk)
   have g6 : getL (nodeAt t 0).cs 6 = some (aInts K) := by rw [hK]; rfl
   have hKl : K.length ≤ 1000 := by rw [hK]; exact hokt.1
   simp only [aTree] at k0 k2
   refine callAt_body (fn := Tryz.f4) (s0 := ⟨[0, 1, 2, 4, 5, 19, 20, 21], [aTree t, .undef, .undef, .undef, .undef, .undef, .undef, .undef], [], 39, ⟨0, [[]]⟩⟩) Tryz.func4 rfl rfl rfl ?_
   repeat apply wq
   refine wps_region callOK ?_
   simp [zS, aTree]
   repeat apply wq
   refine wps_region callOK ?_
   simp [zS, k0, k2]
   repeat apply wq
   refine wps_cf rfl ?_
   repeat apply wq
   refine wps_skip ?_
   simp
   repeat apply wq
   refine wps_region callOK ?_
   simp [zS, hix, g6, lenI]
   try refine wps_seq ?_
   repeat apply wq
   refine wps_block (wps_loop' (fun j : Nat => (⟨[0, 1, 2, 4, 5, 19, 20, 21], [.undef, .ptr 0 0, .bool false, .undef, .undef, aInts K, .int .i64 (K.length : Nat), .int .i64 (j : Int)], [], 39, ⟨1, [[(0, .cells [aNodes t])]]⟩⟩ : St))
    (fun j => j ≤ K.length) (fun j => K.length - j) [(0, 0)] [] 0 (Nat.zero_le _) ⟨rfl, rfl, rfl, by simp [fitL, fitV, lookN, pureV, pureL], fit_al rfl⟩ ?_)
   rintro j hj B hB
   by_cases h : j < K.length
   ·have hc : (j : Int) < (K.length : Int) := by omega
    have hac := add_one (show j ≤ 1000000000 by omega)
    have hmem := List.getElem_mem h
    obtain ⟨o1, o2⟩ := hone _ hmem
    obtain ⟨p1, p2⟩ := htid _ hmem
    have p3 := hst _ hmem
    have hat := atI h
    generalize K[j] = k at *
    repeat apply wq
    refine wps_region callOK ?_
    simp [zS, hc, h]
    repeat apply wq
    refine wps_ct rfl ?_
    repeat apply wq
    refine wps_skip ?_
    simp
    repeat apply wq
    refine wps_block ?_
    repeat apply wq
    refine wps_region callOK ?_
    simp [zS, hat]
    have hcall : CallAt (ctx T) 9 [aTree t] ⟨1, [[(0, .cells [aNodes t])]]⟩ (.agg [.slc 1 0 t.length (.rest 7)]) ⟨2, [[(1, .cells (flatAV (t.map aNode))), (0, .cells [aNodes t])]]⟩ :=
     hcl.framed (σ := []) (H := ⟨1, [[(0, .cells [aNodes t])]]⟩) (H' := ⟨2, [[(1, .cells (flatAV (t.map aNode))), (0, .cells [aNodes t])]]⟩) (args := [aTree t]) (fit00 _) (by simp [fitL]) (by
     have hren := renL_pure (outN [] 1 0) (el_node t).pure
     refine ⟨by simp, fun _ _ => by simp [Heap.ents], ?_⟩
     intro e he
     simp [Heap.ents] at he
     rcases he with rfl | rfl
     ·exact .inl ⟨(0, .cells (flatAV (t.map aNode))), by simp [Heap.ents], by simp [renB, hren]; simp [outN, lookR]⟩
     ·exact .inr ⟨by simp [Heap.ents], by simp⟩) (by simp)
    simp only [aTree] at hcall
    refine wps_seq ?_
    repeat apply wq
    refine wps_region (callOKF [⟨9, _, _, _, _, hcall⟩]) ?_
    simp [zS, callF, prom_top]
    obtain ⟨x, r, htx⟩ : ∃ x r, t = x :: r := by
     cases hq : t with
     | nil => rw [hq] at hpos; simp at hpos
     | cons x r => exact ⟨x, r, rfl⟩
    have hF : flatAV (t.map aNode) = aInt x.kind :: aInt x.space :: .str x.name :: aAttrs x.attrs :: .str x.data :: aInt x.up :: aInts x.kids :: flatAV (r.map aNode) := by rw [htx]; rfl
    have hU : flatAV ((oneKid t k).map aNode) = aInt x.kind :: aInt x.space :: .str x.name :: aAttrs x.attrs :: .str x.data :: aInt x.up :: aInts [k] :: flatAV (r.map aNode) := by rw [htx]; rfl
    have hRp := (el_node r).pure
    have hul : t.length = (oneKid t k).length := by simp [oneKid]
    have hixu : indexAddrA Tryz.prog 22 (.slc 1 0 t.length (.rest 7)) (.int .i64 0) = some (.ptr 1 0) := by
     have := idx_nat hpos
     have e0 : ((0 : Nat) : Int) = 0 := rfl
     rw [e0] at this
     simp [indexAddrA, this]
    rw [hF]
    obtain ⟨R, hR⟩ : ∃ R, R = flatAV (r.map aNode) := ⟨_, rfl⟩
    rw [← hR] at hU hRp ⊢
    have hst6 : layL [.slc 3 0 1 (.ex 1)] 6 (aInt x.kind :: aInt x.space :: .str x.name :: aAttrs x.attrs :: .str x.data :: aInt x.up :: aInts x.kids :: R) = some (aInt x.kind :: aInt x.space :: .str x.name :: aAttrs x.attrs :: .str x.data :: aInt x.up :: .slc 3 0 1 (.ex 1) :: R) := rfl
    clear hF hR htx hcall hcl
    obtain ⟨n, hn⟩ : ∃ n, n = t.length := ⟨_, rfl⟩
    rw [← hn] at hixu hul hpos ⊢
    repeat apply wq
    refine wps_region callOK ?_
    simp [zS, hixu, hst6, prom_top]
    repeat apply wq
    refine .fit [(2, 2), (0, 0)] [(1, flatAV ((oneKid t k).map aNode)), (3, [.int .i64 k])] (s' := (⟨[0, 1, 2, 4, 5, 19, 20, 21], [.undef, .ptr 0 0, .bool false, .undef, .ptr 2 0, aInts K, .int .i64 (K.length : Nat), .int .i64 (j : Int)], [], 39, ⟨3, [[(2, .cells [aNodes (oneKid t k)]), (0, .cells [aNodes t])]]⟩⟩ : St)) ⟨rfl, rfl, rfl, by simp [fitL, fitV, lookN, pureV, pureL], fit_one2 hU hRp hul hpos rfl rfl rfl rfl⟩ ?_
    have k3 := fun H => k10 hT.hY (oneKid t k) o1 o2 H
    have k4 := fun H => k7 hT.hS (tidyT (oneKid t k)) p1 p2 H
    rw [p3] at k4
    simp only [aTree] at k3 k4
    repeat apply wq
    refine wps_region callOK ?_
    simp [zS, k3, k4]
    repeat apply wq
    refine wps_cf rfl ?_
    repeat apply wq
    refine wps_skip ?_
    simp
    repeat apply wq
    refine wps_region callOK ?_
    simp [zS, hac]
    exact hB _ (j + 1) (by omega) (by omega) ⟨[(0, 0)], [], rfl, rfl, rfl, by simp [fitL, fitV, lookN, pureV, pureL], fit_al rfl⟩
   ·have hc : ¬ (j : Int) < (K.length : Int) := by omega
    repeat apply wq
    refine wps_region callOK ?_
    simp [zS, hc, h]
    repeat apply wq
    refine wps_cf rfl ?_
    repeat apply wq
    refine wps_exit ?_
    simp
    repeat apply wq
    refine wps_region callOK ?_
    simp [zS, k1]
    repeat apply wq
    refine wps_ret ?_
    simp [retVal, Tryz.f4, oneOr, thenQ, blockQ]
    exact ends_pure rfl (by rfl)
end Go.Proofs.YtgpjifeeneeiaaaGreatDoor