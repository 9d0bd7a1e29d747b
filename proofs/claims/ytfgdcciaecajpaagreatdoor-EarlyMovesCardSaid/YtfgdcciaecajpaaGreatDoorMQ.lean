/- Closed runs that answer a value written out. No condition. -/
import Derived.Test.YtfgdcciaecajpaaGreatDoorMP
import Derived.Test.YtfgdcciaecajpaaGreatDoorMO
import Derived.Test.YtfgdcciaecajpaaGreatDoorMH
import Derived.Test.YtfgdcciaecajpaaGreatDoorMG
namespace Go.Proofs.YtfgdcciaecajpaaGreatDoor
set_option linter.unusedSimpArgs false
set_option linter.unusedVariables false
open Go Go.RowKit
set_option maxRecDepth 100000
set_option maxHeartbeats 4000000
def stR (s : SS) (t : Tk) : Bool × SS :=
 if s.mode = 0 then iniR s t else if s.mode = 1 then bhR s t else if s.mode = 2 then bdR s t
 else if s.mode = 3 then ihR (chS s (blS t [])) t else if s.mode = 4 then ahR (chS s (blS t [])) t
 else (decide (t.kind = 0), inX s t)
def stT (s : SS) (t : Tk) : Tk := if s.mode = 6 then t else blT t
theorem stR_ne {s : SS} (ne : s.tree ≠ []) (t : Tk) : (stR s t).2.tree ≠ [] := by
 unfold stR
 split
 ·exact iniR_ne ne _
 split
 ·exact bhR_ne ne _
 split
 ·exact bdR_ne ne _
 split
 ·exact ihR_ne (chS_ne ne _) _
 split
 ·exact ahR_ne (chS_ne ne _) _
 ·exact inX_ne ne _
structure StOk (s : SS) (t : Tk) : Prop where
 hm : s.mode = 0 ∨ s.mode = 1 ∨ s.mode = 2 ∨ s.mode = 3 ∨ s.mode = 4 ∨ s.mode = 6
 hf : s.foster = false
 ok : SOk s
 kk : KOk s.tree
 h : HtOk s
 hx : (blS t []).length ≤ 1000000000
 okc : SOk (chS s (blS t []))
 hc : HtOk (chS s (blS t []))
 ho : s.mode = 4 → s.opn.length ≤ 900 ∧ s.opn ≠ []
 hl : t.data.length ≤ 1000000
 ha : t.attrs.length ≤ 14
 hn : t.name.length ≤ 1000000000
theorem c6 {T : List (Entry Tryz.prog)} (hc0 : findE 14 T = some e14.g) (hc1 : findE 15 T = some e15.g) (hc2 : findE 16 T = some e16.g) (hc3 : findE 17 T = some e17.g) (hc4 : findE 18 T = some e18.g) (hc5 : findE 19 T = some e19.g) {s : SS} {t : Tk} (ne : s.tree ≠ [])  (q : StOk s t) : TC T 6 [] ⟨s, t⟩ (.bool (stR s t).1) ⟨(stR s t).2, stT s t⟩ := by
 have kc0 := @k14 T hc0
 have kc1 := @k15 T hc1
 have kc2 := @k16 T hc2
 have kc3 := @k17 T hc3
 have kc4 := @k18 T hc4
 have kc5 := @k19 T hc5
 have g0 := @vg0
 have v0 := @vset
 obtain ⟨kd, nm, L, sf, dt⟩ := t
 obtain ⟨hm, hf, ok, kk, h, hx, okc, hc, ho, hl, ha, hn⟩ := q
 have k0 := fun n k jb tb fr => @kc0 s ⟨kd, nm, L, sf, dt⟩ [] ne hf ok hl n k jb tb fr
 have k1 := fun n k jb tb fr => @kc1 s ⟨kd, nm, L, sf, dt⟩ [] ne hf ok hl (by simp only at ha ⊢; omega) hn n k jb tb fr
 have k2 := fun n k jb tb fr => @kc2 s ⟨kd, nm, L, sf, dt⟩ [] ne hf ok h hl ha hn n k jb tb fr
 have k3 := fun n k jb tb fr => @kc3 s ⟨kd, nm, L, sf, dt⟩ [] ne hf ok kk hx okc hc hl ha hn n k jb tb fr
 have k4 := fun hm n k jb tb fr => @kc4 s ⟨kd, nm, L, sf, dt⟩ [] ne hf ok kk hx okc hc (ho hm) hl ha hn n k jb tb fr
 have k6 := fun n k jb tb fr => @kc5 s ⟨kd, nm, L, sf, dt⟩ [] ne hf ok kk hl n k jb tb fr
 have bld : buildA Tryz.prog 48 [(0, .ptr 0 0), (1, .ptr 1 0)] = some (.agg [.ptr 0 0, .ptr 1 0, .str []]) := rfl
 have pr : ∀ X f g, promote 3 [0, 1] [] [(3, X) :: f, g] = [(3, X) :: f, g] := fun X f g => by unfold promote; simp [getF]
 have h9 := stR_ne ne ⟨kd, nm, L, sf, dt⟩
 clear kc0 kc1 kc2 kc3 kc4 kc5 hf ok kk h hx okc hc ho hl ha hn
 have e0 : s.mode = 0 → stR s ⟨kd, nm, L, sf, dt⟩ = iniR s ⟨kd, nm, L, sf, dt⟩ := fun e => by unfold stR; rw [if_pos e]
 have e1 : s.mode = 1 → stR s ⟨kd, nm, L, sf, dt⟩ = bhR s ⟨kd, nm, L, sf, dt⟩ := fun e => by unfold stR; simp [e]
 have e2 : s.mode = 2 → stR s ⟨kd, nm, L, sf, dt⟩ = bdR s ⟨kd, nm, L, sf, dt⟩ := fun e => by unfold stR; simp [e]
 have e3 : s.mode = 3 → stR s ⟨kd, nm, L, sf, dt⟩ = ihR (chS s (blS ⟨kd, nm, L, sf, dt⟩ [])) ⟨kd, nm, L, sf, dt⟩ := fun e => by unfold stR; simp [e]
 have e4 : s.mode = 4 → stR s ⟨kd, nm, L, sf, dt⟩ = ahR (chS s (blS ⟨kd, nm, L, sf, dt⟩ [])) ⟨kd, nm, L, sf, dt⟩ := fun e => by unfold stR; simp [e]
 have e6 : s.mode = 6 → stR s ⟨kd, nm, L, sf, dt⟩ = (decide (kd = 0), inX s ⟨kd, nm, L, sf, dt⟩) := fun e => by unfold stR; simp [e]
 have eb : ¬ s.mode = 6 → stT s ⟨kd, nm, L, sf, dt⟩ = blT ⟨kd, nm, L, sf, dt⟩ := fun e => by unfold stT; rw [if_neg e]
 have et : s.mode = 6 → stT s ⟨kd, nm, L, sf, dt⟩ = ⟨kd, nm, L, sf, dt⟩ := fun e => by unfold stT; rw [if_pos e]
 have k4 := fun hm => k4 hm
 simp only [Tk.cs] at k6
 rw [show Tk.cs ⟨kd, nm, L, sf, dt⟩ = [.int .i64 kd, .str nm, aAttrs L, .bool sf, .str dt] from rfl] at k0 k1 k2 k3
 simp only [show Tk.cs ⟨kd, nm, L, sf, dt⟩ = [.int .i64 kd, .str nm, aAttrs L, .bool sf, .str dt] from rfl] at k4
 generalize blS ⟨kd, nm, L, sf, dt⟩ [] = b2 at *
 rcases hm with hm | hm | hm | hm | hm | hm
 rw [e0 hm] at h9 ⊢
 rw [eb (by omega)]
 rotate_left
 rw [e1 hm] at h9 ⊢
 rw [eb (by omega)]
 rotate_left
 rw [e2 hm] at h9 ⊢
 rw [eb (by omega)]
 rotate_left
 rw [e3 hm] at h9 ⊢
 rw [eb (by omega)]
 rotate_left
 rw [e4 hm] at h9 ⊢
 rw [eb (by omega)]
 rotate_left
 rw [e6 hm] at h9 ⊢
 rw [et hm]
 rotate_left
 all_goals clear e0 e1 e2 e3 e4 e6 eb et
 all_goals generalize iniR s ⟨kd, nm, L, sf, dt⟩ = r0 at *
 all_goals generalize bhR s ⟨kd, nm, L, sf, dt⟩ = r1 at *
 all_goals generalize bdR s ⟨kd, nm, L, sf, dt⟩ = r2 at *
 all_goals generalize ihR (chS s b2) ⟨kd, nm, L, sf, dt⟩ = r3 at *
 all_goals generalize ahR (chS s b2) ⟨kd, nm, L, sf, dt⟩ = r4 at *
 all_goals generalize inX s ⟨kd, nm, L, sf, dt⟩ = r6 at *
 all_goals generalize blT ⟨kd, nm, L, sf, dt⟩ = t2 at *
 all_goals obtain ⟨kd2, nm2, L2, sf2, dt2⟩ := t2
 all_goals
  (try simp only [Tk.cs] at *)
  refine callAt_body (fn := Tryz.f6) (s0 := ⟨[0, 1, 4, 5, 12], [.ptr 0 0, .ptr 1 0, .undef, .undef, .undef], [], 43, ⟨3, [] :: [_]⟩⟩) Tryz.func6 rfl rfl rfl ?_
  refine permT ?_
  try simp only [Tk.cs]
  (repeat' (first
   | with_reducible refine wps_seq ?_
   | with_reducible refine wps_block ?_
   | (with_reducible refine wps_label ?_; simp only [thenQ, blockQ])
   | (with_reducible refine wps_region callOK ?_; apply runE; simp [zS, *, SS.post]; exact rfl)
   | (with_reducible refine run_end ?_; simp only [thenQ, blockQ])
   | (refine wps_drawQ mixed callOK (by decide +kernel) (by decide +kernel) rfl ?_; apply runQ; simp [zS, zW, clsOf, mkBlk, guardA, Heap.lay, ontoF, *, SS.post]; exact rfl)
   | (with_reducible refine run_endQ ?_; refine ⟨by repeat first | exact okC_n | refine okC_c (by decide +kernel) ?_, ?_⟩; simp only [thenQ, blockQ, allPend, Heap.lay, ontoF])
   | (with_reducible refine gate_splitQ (fun hc => ?_) (fun hc => ?_) <;> ((have hd := hc); (try simp at hd); (try subst hd); apply runQ; simp [zS, zW, clsOf, mkBlk, guardA, Heap.lay, ontoF, *, SS.post]; exact rfl))
   | (with_reducible refine gate_splitX (fun hc => ?_) (fun hc => ?_) <;> ((have hd := hc); (try simp at hd); (try subst hd); apply runQ; simp [zS, zW, clsOf, mkBlk, guardA, Heap.lay, ontoF, *, SS.post]; exact rfl))
   | (with_reducible refine pick_splitQ (fun hc => ?_) (fun hc => ?_) <;> ((have hd := hc); (try simp at hd); (try subst hd); apply runQ; simp [zS, zW, clsOf, mkBlk, guardA, Heap.lay, ontoF, *, SS.post]; exact rfl))
   | (with_reducible refine gate_split (fun hc => ?_) (fun hc => ?_) <;> ((have hd := hc); (try simp at hd); (try subst hd); apply runE; simp [zS, *, SS.post]; exact rfl))
   | (with_reducible refine pick_split (fun hc => ?_) (fun hc => ?_) <;> ((have hd := hc); (try simp at hd); (try subst hd); apply runE; simp [zS, *, SS.post]; exact rfl))
   | (refine wps_ct rfl ?_)
   | (refine wps_cf rfl ?_)
   | (refine wps_cond rfl (fun hc => ?_) (fun hc => ?_) <;> ((have hd := hc); (try simp at hd); (try subst hd)))
   | (with_reducible refine wps_skip ?_; simp only [thenQ, blockQ])
   | (with_reducible refine wps_exit ?_; simp [thenQ, blockQ])
   | (with_reducible refine wps_ret ?_; simp [retVal, Tryz.f6, oneOr, thenQ, blockQ])))
  all_goals first | (((try simp [retVal, Tryz.f6, oneOr]); refine ends_T2 (by simp [*]) (by first | rfl | (simp [*]; done)) (by simp [pureV, pureL]) (by omega) (by first | exact h9 | (simp [*] at h9 ⊢; exact h9)) (by simp [getF]) (by simp [getF]) (by first | (simp [getF, Tk.cs]; done) | (simp [getF, Tk.cs, *]; done)))) | (exfalso; omega)
theorem inj_6 (x y : Unit) (h : (fun z : Unit => ([] : List AV)) x = (fun z : Unit => ([] : List AV)) y) : x = y := by
 rfl
noncomputable def e6 : Entry Tryz.prog := mkT 6 [] (fun z : Unit => []) (fun z x => (StOk x.s x.t)) (fun z x => .bool (stR x.s x.t).1) (fun z x => ⟨(stR x.s x.t).2, stT x.s x.t⟩) fun z x ne h => ⟨c6 (T := [e14, e15, e16, e17, e18, e19]) rfl rfl rfl rfl rfl rfl ne  h, by simp [pureL, pureV], by simp [pureV, pureL], by (try exact h9); (all_goals exact stR_ne ne _)⟩
theorem k6 {T : List (Entry Tryz.prog)} (hT : findE 6 T = some e6.g) {s : SS} {t : Tk} (ne : s.tree ≠ [])  (q : StOk s t) {n k tb : Nat} {fr : List (Nat × Blk)} (d : dT n k tb) (of : offT k tb fr) : callL (ctx T) (.fn 6) [.ptr 0 0, .ptr tb 0] ⟨n, [(tb, .cells t.cs) :: fr, VS k s]⟩ = some (.bool (stR s t).1, ⟨n + 1, [(tb, .cells (Tk.cs (stT s t))) :: fr, VS n ((stR s t).2)]⟩) :=
 mkT_eq (x := ⟨s, t⟩) (f1 := []) hT inj_6 () ne q (by simp [pureL, pureV]) (by simp [thawL, thawA_ok]) d (by simp) of
end Go.Proofs.YtfgdcciaecajpaaGreatDoor
namespace Go.Proofs.YtfgdcciaecajpaaGreatDoor
set_option linter.unusedSimpArgs false
set_option linter.unusedVariables false
open Go Go.RowKit
set_option maxRecDepth 100000
theorem nd_set {t : Tr} {i : Nat} (h : i < t.length) (x : Nd) (j : Int) : nodeAt (t.take i ++ x :: t.drop (i + 1)) j = if j.toNat = i then x else nodeAt t j := by
 unfold nodeAt
 rw [List.getD_eq_getElem?_getD, List.getD_eq_getElem?_getD]
 have hl : (t.take i).length = i := by simp; omega
 by_cases h1 : j.toNat < i
 ·rw [List.getElem?_append_left (by omega), List.getElem?_take, if_pos h1, if_neg (by omega)]
 ·by_cases h2 : j.toNat = i
  ·rw [List.getElem?_append_right (by omega), hl, h2, if_pos rfl]; simp
  ·rw [List.getElem?_append_right (by omega), hl, if_neg h2]
   obtain ⟨d, hd⟩ : ∃ d, j.toNat - i = d + 1 := ⟨j.toNat - i - 1, by omega⟩
   rw [hd, List.getElem?_cons_succ, List.getElem?_drop, show i + 1 + d = j.toNat by omega]
theorem set_len {t : Tr} {i : Nat} (h : i < t.length) (x : Nd) : (t.take i ++ x :: t.drop (i + 1)).length = t.length := by simp; omega
theorem nd_add (t : Tr) (nd : Nd) (j : Int) : nodeAt (addT t nd) j = if j.toNat = t.length then fresh nd else nodeAt t j := by
 unfold nodeAt addT
 rw [List.getD_eq_getElem?_getD, List.getD_eq_getElem?_getD]
 by_cases h1 : j.toNat < t.length
 ·rw [List.getElem?_append_left h1, if_neg (by omega)]
 ·rw [List.getElem?_append_right (by omega)]
  by_cases h2 : j.toNat = t.length
  ·simp [h2]
  ·rw [if_neg h2, List.getElem?_eq_none (by simp; omega), List.getElem?_eq_none (by omega)]
theorem holdsF_last {t : Tr} {x : Int} (hup : ∀ i : Int, isB t i = true → i < x → (nodeAt t i).up < x) : ∀ (n : Nat) (kid : Int), kid < x → holdsF t x n kid = false
 | 0, kid, _ => rfl
 | n + 1, kid, h => by
  unfold holdsF
  cases hb : isB t kid with
  | false => simp
  | true =>
   have h1 : ¬ kid = x := by omega
   simp only [if_true, if_neg h1]
   exact holdsF_last hup n _ (hup kid hb h)
theorem holdsB_last {t : Tr} {x kid : Int} (hup : ∀ i : Int, isB t i = true → i < x → (nodeAt t i).up < x) (h : kid < x) : holdsB t x kid = false := by
 unfold holdsB
 rw [holdsF_last hup _ _ h, Bool.and_false]
theorem ins_end {K : List Int} {a : Int} (h : (K.length : Int) ≤ a) (x : Int) : insP K a x = K ++ [x] := by
 unfold insP insAt
 have : (min (max a 0) (K.length : Int)).toNat = K.length := by omega
 rw [this]
 simp
structure Grew (t t' : Tr) (u : Nat) (nd : Nd) : Prop where
 len : t'.length = t.length + 1
 new : nodeAt t' (t.length : Nat) = { nd with up := u, kids := [] }
 at_ : nodeAt t' u = { nodeAt t u with kids := (nodeAt t u).kids ++ [(t.length : Int)] }
 old : ∀ j : Nat, j < t.length → j ≠ u → nodeAt t' j = nodeAt t j
theorem newT_growA {t : Tr} {u : Nat} (hu : u < t.length) (hup : ∀ j : Nat, j < t.length → (nodeAt t j).up < (t.length : Int)) {a : Int} (ha : ((nodeAt t u).kids.length : Int) ≤ a) (nd : Nd) : Grew t (newT t u a nd) u nd := by
 have la : (addT t nd).length = t.length + 1 := by simp [addT]
 have nu : nodeAt (addT t nd) (u : Int) = nodeAt t u := by rw [nd_add, if_neg (by simp; omega)]
 have nn : nodeAt (addT t nd) (t.length : Int) = fresh nd := by rw [nd_add, if_pos (by simp)]
 have pl : placeT (addT t nd) (t.length : Int) = -1 := by
  unfold placeT; rw [nn]; simp [fresh, isB]
 have ck : cutK (addT t nd) t.length = addT t nd := by unfold cutK; rw [pl]; simp
 have b2 : isB (addT t nd) (t.length : Int) = true := by simp [isB, la]; omega
 have b1 : isB (addT t nd) (u : Int) = true := by simp [isB, la]; omega
 have ct : cutT (addT t nd) t.length = setUp (addT t nd) t.length (-1) := by
  unfold cutT; rw [ck, if_pos ⟨by omega, b2⟩]; simp
 have hold : holdsB (addT t nd) (t.length : Int) (u : Int) = false := holdsB_last (fun i hi hl => by
  simp only [isB, Bool.and_eq_true, decide_eq_true_eq] at hi
  obtain ⟨j, rfl⟩ : ∃ j : Nat, i = j := ⟨i.toNat, by omega⟩
  rw [nd_add, if_neg (by simp; omega)]
  exact hup j (by omega)) (by omega)
 have ok : putOK (addT t nd) u t.length = true := by
  unfold putOK
  rw [b1, b2, hold]
  have : ¬ ((t.length : Int) = 0) := by omega
  simp only [this, decide_false, Bool.not_false, Bool.and_true]
 obtain ⟨A, hA⟩ : ∃ A, A = addT t nd := ⟨_, rfl⟩
 obtain ⟨B, hB⟩ : ∃ B, B = setUp A t.length (-1) := ⟨_, rfl⟩
 have lB : B.length = t.length + 1 := by rw [hB, hA]; unfold setUp; rw [set_len (by omega), la]
 have nB : ∀ j : Int, nodeAt B j = if j.toNat = t.length then fresh nd else nodeAt t j := fun j => by
  rw [hB]
  unfold setUp
  rw [nd_set (show t.length < A.length by rw [hA, la]; omega), hA, nn, nd_add]
  by_cases h : j.toNat = t.length
  ·simp [h, fresh]
  ·simp [h]
 have nBu : nodeAt B (u : Int) = nodeAt t u := by rw [nB, if_neg (by simp; omega)]
 obtain ⟨C, hC⟩ : ∃ C, C = setKids B u ((nodeAt t u).kids ++ [(t.length : Int)]) := ⟨_, rfl⟩
 have lC : C.length = t.length + 1 := by rw [hC]; unfold setKids; rw [set_len (by omega), lB]
 have nC : ∀ j : Int, nodeAt C j = if j.toNat = u then { nodeAt t u with kids := (nodeAt t u).kids ++ [(t.length : Int)] } else nodeAt B j := fun j => by
  rw [hC]
  unfold setKids
  rw [nd_set (by omega), nBu]
 have e : newT t u a nd = setUp C t.length u := by
  unfold newT putT
  rw [if_pos ok, ct, ← hA, ← hB, nBu, ins_end ha, Int.toNat_natCast, Int.toNat_natCast, ← hC]
 have nE : ∀ j : Int, nodeAt (setUp C t.length u) j = if j.toNat = t.length then { nodeAt C t.length with up := u } else nodeAt C j := fun j => by
  unfold setUp
  rw [nd_set (by omega)]
 have nCl : nodeAt C (t.length : Int) = fresh nd := by
  rw [nC, if_neg (by simp; omega), nB, if_pos (by simp)]
 rw [e]
 refine ⟨?_, ?_, ?_, fun j hj hne => ?_⟩
 ·unfold setUp; rw [set_len (by omega), lC]
 ·rw [nE, if_pos (by simp), nCl]; rfl
 ·rw [nE, if_neg (by simp; omega), nC, if_pos (by simp)]
 ·rw [nE, if_neg (by simp; omega), nC, if_neg (by simp; omega), nB, if_neg (by simp; omega)]
theorem newT_grew {t : Tr} {u : Nat} (hu : u < t.length) (hup : ∀ j : Nat, j < t.length → (nodeAt t j).up < (t.length : Int)) (nd : Nd) : Grew t (newT t u ((nodeAt t u).kids.length : Int) nd) u nd := newT_growA hu hup (Int.le_refl _) nd
theorem fold_len : ∀ (l A : List At1), (l.foldl addA A).length ≤ A.length + l.length
 | [], A => by simp
 | a :: l, A => by
  have := fold_len l (addA A a)
  have h1 : (addA A a).length ≤ A.length + 1 := by unfold addA; split <;> simp
  simp only [List.foldl_cons, List.length_cons]
  omega
theorem all_nd {t : Tr} {p : Nd → Prop} (h : ∀ i : Nat, i < t.length → p (nodeAt t i)) : ∀ n, n ∈ t → p n := fun n hn => by
 obtain ⟨i, hi, rfl⟩ := List.getElem_of_mem hn
 rw [← nodeAt_get hi]
 exact h i hi
structure EI (n d a : Nat) (t : Tr) : Prop where
 n0 : 1 ≤ t.length
 n1 : t.length ≤ n
 up : ∀ i : Nat, i < t.length → (nodeAt t i).up < (t.length : Int)
 kid : ∀ i : Nat, i < t.length → ∀ k, k ∈ (nodeAt t i).kids → 0 ≤ k ∧ k < (t.length : Int)
 kl : ∀ i : Nat, i < t.length → (nodeAt t i).kids.length < t.length
 dl : ∀ i : Nat, i < t.length → (nodeAt t i).data.length ≤ d
 nl : ∀ i : Nat, i < t.length → (nodeAt t i).name.length ≤ 40
 al : ∀ i : Nat, i < t.length → (nodeAt t i).attrs.length ≤ a
theorem EI.mono {n d a n' d' a' : Nat} {t : Tr} (h : EI n d a t) (h1 : n ≤ n') (h2 : d ≤ d') (h3 : a ≤ a') : EI n' d' a' t :=
 ⟨h.n0, by have := h.n1; omega, h.up, h.kid, h.kl, fun i hi => by have := h.dl i hi; omega, h.nl, fun i hi => by have := h.al i hi; omega⟩
theorem EI.grow {n d a : Nat} {t t' : Tr} {u : Nat} {nd : Nd} (h : EI n d a t) (g : Grew t t' u nd) (hu : u < t.length) (hnl : nd.name.length ≤ 40) (hdl : nd.data.length ≤ d) (hal : nd.attrs.length ≤ a) : EI (n + 1) d a t' := by
 have sm : ∀ i : Nat, i < t.length → nodeAt t' i = { nodeAt t i with kids := if i = u then (nodeAt t u).kids ++ [(t.length : Int)] else (nodeAt t i).kids } := fun i hi => by
  by_cases e : i = u
  ·subst e; rw [g.at_, if_pos rfl]
  ·rw [g.old i hi e, if_neg e]
 have n0 := h.n0
 have n1 := h.n1
 have gl := g.len
 have cs : ∀ i : Nat, i < t'.length → i < t.length ∨ i = t.length := fun i hi => by omega
 refine ⟨by omega, by omega, fun i hl => ?_, fun i hl => ?_, fun i hl => ?_, fun i hl => ?_, fun i hl => ?_, fun i hl => ?_⟩
 ·rcases cs i hl with hl | rfl
  ·rw [sm i hl]; have := h.up i hl; simp only; omega
  ·rw [g.new]; simp only; omega
 ·rcases cs i hl with hl | rfl
  ·rw [sm i hl]
   simp only
   intro k hk
   by_cases e : i = u
   ·subst e
    rw [if_pos rfl] at hk
    rcases List.mem_append.1 hk with hk | hk
    ·have := h.kid i hl k hk; omega
    ·simp at hk; omega
   ·rw [if_neg e] at hk; have := h.kid i hl k hk; omega
  ·rw [g.new]; intro k hk; cases hk
 ·rcases cs i hl with hl | rfl
  ·rw [sm i hl]
   simp only
   have := h.kl i hl
   have := h.kl u hu
   split
   ·simp; omega
   ·omega
  ·rw [g.new]; simp only [List.length_nil]; omega
 ·rcases cs i hl with hl | rfl
  ·rw [sm i hl]; exact h.dl i hl
  ·rw [g.new]; exact hdl
 ·rcases cs i hl with hl | rfl
  ·rw [sm i hl]; exact h.nl i hl
  ·rw [g.new]; exact hnl
 ·rcases cs i hl with hl | rfl
  ·rw [sm i hl]; exact h.al i hl
  ·rw [g.new]; exact hal
theorem EI.set {n d a d' a' : Nat} {t : Tr} (h : EI n d a t) {u : Nat} (hu : u < t.length) (D : Str) (A : List At1) (h1 : d ≤ d') (h2 : a ≤ a') (hD : D.length ≤ d') (hA : A.length ≤ a') : EI n d' a' (t.take u ++ { nodeAt t u with data := D, attrs := A } :: t.drop (u + 1)) := by
 obtain ⟨t', ht⟩ : ∃ t', t' = t.take u ++ { nodeAt t u with data := D, attrs := A } :: t.drop (u + 1) := ⟨_, rfl⟩
 have hl : t'.length = t.length := by rw [ht, set_len hu]
 have sm : ∀ i : Int, ∃ D' A', nodeAt t' i = { nodeAt t i with data := D', attrs := A' } ∧ (D'.length ≤ (nodeAt t i).data.length ∨ D'.length ≤ d') ∧ (A'.length ≤ (nodeAt t i).attrs.length ∨ A'.length ≤ a') := fun i => by
  rw [ht, nd_set hu]
  by_cases e : i.toNat = u
  ·have e' : nodeAt t i = nodeAt t u := by unfold nodeAt; rw [e]; rfl
   rw [if_pos e, e']
   exact ⟨D, A, rfl, .inr hD, .inr hA⟩
  ·rw [if_neg e]
   exact ⟨_, _, rfl, .inl (Nat.le_refl _), .inl (Nat.le_refl _)⟩
 rw [← ht]
 clear ht
 have eu : ∀ i : Int, (nodeAt t' i).up = (nodeAt t i).up := fun i => by obtain ⟨_, _, e, _⟩ := sm i; rw [e]
 have en : ∀ i : Int, (nodeAt t' i).name = (nodeAt t i).name := fun i => by obtain ⟨_, _, e, _⟩ := sm i; rw [e]
 have eK : ∀ i : Int, (nodeAt t' i).kids = (nodeAt t i).kids := fun i => by obtain ⟨_, _, e, _⟩ := sm i; rw [e]
 have n0 := h.n0
 have n1 := h.n1
 refine ⟨by omega, by omega, fun i hl2 => ?_, fun i hl2 k hk => ?_, fun i hl2 => ?_, fun i hl2 => ?_, fun i hl2 => ?_, fun i hl2 => ?_⟩
 ·rw [eu, hl]; exact h.up i (by omega)
 ·rw [eK] at hk; rw [hl]; exact h.kid i (by omega) k hk
 ·rw [eK, hl]; exact h.kl i (by omega)
 ·have := h.dl i (by omega)
  obtain ⟨_, _, e, b, _⟩ := sm i
  rw [e]; simp only; omega
 ·rw [en]; exact h.nl i (by omega)
 ·have := h.al i (by omega)
  obtain ⟨_, _, e, _, b⟩ := sm i
  rw [e]; simp only; omega
theorem EI.new {n d a : Nat} {t : Tr} (h : EI n d a t) (i : Int) (nd : Nd) (hnl : nd.name.length ≤ 40) (hdl : nd.data.length ≤ d) (hal : nd.attrs.length ≤ a) :
  EI (n + 1) d a (newT t (whP t i) ((nodeAt t (whP t i)).kids.length : Int) nd) ∧ (newT t (whP t i) ((nodeAt t (whP t i)).kids.length : Int) nd).length = t.length + 1 := by
 obtain ⟨u, hu, hul⟩ := whP_nat (t := t) (fun e => by have := h.n0; rw [e] at this; simp at this) i
 rw [hu]
 have g := newT_grew hul h.up nd
 exact ⟨h.grow g hul hnl hdl hal, g.len⟩
structure SE (n d a : Nat) (s : SS) : Prop where
 ei : EI n d a s.tree
 fo : s.foster = false
 rg : ∀ i, i ∈ s.opn → 0 ≤ i ∧ i < (s.tree.length : Int)
 ol : s.opn.length ≤ n
theorem SE.mono {n d a n' d' a' : Nat} {s : SS} (h : SE n d a s) (h1 : n ≤ n') (h2 : d ≤ d') (h3 : a ≤ a') : SE n' d' a' s :=
 ⟨h.ei.mono h1 h2 h3, h.fo, h.rg, by have := h.ol; omega⟩
theorem SE.ne {n d a : Nat} {s : SS} (h : SE n d a s) : s.tree ≠ [] := fun e => by have := h.ei.n0; rw [e] at this; simp at this
theorem SE.sok {n d a : Nat} {s : SS} (h : SE n d a s) (hn : n ≤ 1000) : SOk s := by
 have := h.ei.n1
 have := h.ol
 exact ⟨by omega, all_nd fun i hi => by have := h.ei.kl i hi; omega, by omega⟩
theorem SE.kok {n d a : Nat} {s : SS} (h : SE n d a s) (hd : d ≤ 100000) : KOk s.tree :=
 ⟨all_nd fun i hi k hk => h.ei.kid i hi k hk, all_nd fun i hi => by have := h.ei.dl i hi; omega⟩
theorem SE.html {n d a : Nat} {s : SS} (h : SE n d a s) (hn : n ≤ 1000) (ha : a ≤ 850) : HtOk s := by
 have n0 := h.ei.n0
 refine ⟨fun i => ?_, by have := h.ol; omega, h.rg, ?_⟩
 ·unfold nodeS
  split
  ·rename_i hb
   simp only [isB, Bool.and_eq_true, decide_eq_true_eq] at hb
   obtain ⟨p, rfl⟩ : ∃ p : Nat, i = p := ⟨i.toNat, by omega⟩
   have := h.ei.nl p (by omega)
   omega
  ·simp
 ·obtain ⟨x, hx⟩ : ∃ x, x = s.opn.getD 0 0 := ⟨_, rfl⟩
  rw [← hx]
  have hr : 0 ≤ x ∧ x < (s.tree.length : Int) := by
   cases ho : s.opn with
   | nil => rw [hx, ho]; simp; omega
   | cons y r =>
    rw [hx, ho]
    exact h.rg y (by rw [ho]; simp)
  obtain ⟨p, rfl⟩ : ∃ p : Nat, x = p := ⟨x.toNat, by omega⟩
  have := h.ei.al p (by omega)
  omega
theorem el_len {n d a : Nat} {s : SS} (h : SE n d a s) (sp : Int) (nm : Str) (L : List At1) (hn : nm.length ≤ 40) (hL : L.length ≤ a) : EI (n + 1) d a (elT s.tree (topI s.opn) sp nm L) ∧ (elT s.tree (topI s.opn) sp nm L).length = s.tree.length + 1 :=
 h.ei.new (topI s.opn) ⟨1, sp, nm, L, [], 0, []⟩ hn (by simp) hL
theorem SE.el {n d a : Nat} {s : SS} (h : SE n d a s) {s' : SS} {nm : Str} {L : List At1} (hn : nm.length ≤ 40) (hL : L.length ≤ a) (ht : s'.tree = elT s.tree (topI s.opn) 0 nm L) (hf : s'.foster = s.foster) (ho : ∀ i, i ∈ s'.opn → i ∈ s.opn ∨ i = (s.tree.length : Int)) (hol : s'.opn.length ≤ s.opn.length + 1) : SE (n + 1) d a s' := by
 obtain ⟨h1, h2⟩ := el_len h 0 nm L hn hL
 refine ⟨by rw [ht]; exact h1, by rw [hf]; exact h.fo, fun i hi => ?_, by have := h.ol; omega⟩
 rw [ht, h2]
 rcases ho i hi with hi | rfl
 ·have := h.rg i hi; omega
 ·omega
theorem SE.chs {n d a : Nat} {s : SS} (h : SE n d a s) {x : Str} {m : Nat} (hx : x.length ≤ m) : SE (n + 1) (d + m) a (chS s x) ∧ s.tree.length ≤ (chS s x).tree.length ∧ (x = [] → chS s x = s) := by
 have keep : ∀ t' : Tr, EI (n + 1) (d + m) a t' → s.tree.length ≤ t'.length → SE (n + 1) (d + m) a { s with tree := t' } ∧ s.tree.length ≤ t'.length := fun t' h1 h2 =>
  ⟨⟨h1, h.fo, fun i hi => by have := h.rg i hi; simp only at this ⊢; omega, by have := h.ol; simp only; omega⟩, h2⟩
 have hb := h.ei.mono (Nat.le_refl n) (show d ≤ d + m by omega) (Nat.le_refl a)
 have main : SE (n + 1) (d + m) a (chS s x) ∧ s.tree.length ≤ (chS s x).tree.length := by
  unfold chS chT
  split
  ·exact keep _ (hb.mono (by omega) (by omega) (by omega)) (Nat.le_refl _)
  split
  ·rename_i k hk
   split
   ·obtain ⟨u, hu, hul⟩ := whP_nat (t := s.tree) h.ne (topI s.opn)
    rw [hu] at hk
    obtain ⟨c1, c2⟩ := h.ei.kid u hul k (List.mem_of_getLast? hk)
    obtain ⟨q, rfl⟩ : ∃ q : Nat, k = q := ⟨k.toNat, by omega⟩
    have hd := h.ei.dl q (by omega)
    have ha := h.ei.al q (by omega)
    have hs := h.ei.set (d' := d + m) (a' := a) (u := q) (by omega) ((nodeAt s.tree q).data ++ x) (nodeAt s.tree q).attrs (by omega) (by omega) (by rw [List.length_append]; omega) ha
    have hs2 := hs.mono (show n ≤ n + 1 by omega) (Nat.le_refl _) (Nat.le_refl _)
    exact keep _ (by rw [Int.toNat_natCast]; exact hs2) (by rw [Int.toNat_natCast, setDt_len (by omega)]; exact Nat.le_refl _)
   ·obtain ⟨e1, e2⟩ := hb.new (topI s.opn) ⟨2, 0, [], [], x, 0, []⟩ (by simp) (by simp only; omega) (by simp)
    exact keep _ e1 (by unfold chN; rw [e2]; omega)
  ·obtain ⟨e1, e2⟩ := hb.new (topI s.opn) ⟨2, 0, [], [], x, 0, []⟩ (by simp) (by simp only; omega) (by simp)
   exact keep _ e1 (by unfold chN; rw [e2]; omega)
 refine ⟨main.1, main.2, fun e => ?_⟩
 unfold chS chT
 rw [if_pos (.inl e)]
theorem SE.note {n d a : Nat} {s : SS} (h : SE n d a s) (t : Tk) (up : Int) (hx : t.data.length ≤ d) (hup : isB s.tree up = true → up = 0) : SE (n + 1) d a (noteS s t up) ∧ s.tree.length ≤ (noteS s t up).tree.length := by
 unfold noteS
 split
 ·have hw : ∃ i, ntP s up = whP s.tree i := by
   unfold ntP
   split
   ·rename_i hb
    exact ⟨0, by rw [hup hb]; unfold whP; rw [if_pos (by have := h.ei.n0; simp [isB]; omega)]⟩
   ·exact ⟨_, rfl⟩
  obtain ⟨i, hi⟩ := hw
  obtain ⟨e1, e2⟩ := h.ei.new i ⟨3, 0, [], [], t.data, 0, []⟩ (by simp) hx (by simp)
  unfold ntT
  rw [hi]
  exact ⟨⟨e1, h.fo, fun j hj => by have := h.rg j hj; simp only at this ⊢; rw [e2]; omega, by have := h.ol; simp only; omega⟩, by simp only; rw [e2]; omega⟩
 ·exact ⟨h.mono (by omega) (by omega) (by omega), Nat.le_refl _⟩
theorem SE.lend {n d a : Nat} {s : SS} (h : SE n d a s) (L : List At1) {m : Nat} (hL : L.length ≤ m) : SE n d (a + m) (lendS s 0 [] L) ∧ s.tree.length ≤ (lendS s 0 [] L).tree.length := by
 unfold lendS
 split
 ·rename_i hb
  have hlt : 0 < s.opn.length := by unfold lendB at hb; simp at hb; omega
  obtain ⟨y, r, e⟩ : ∃ y r, s.opn = y :: r := List.exists_cons_of_ne_nil (fun e => by rw [e] at hlt; simp at hlt)
  have hy := h.rg y (by rw [e]; simp)
  have e1 : s.opn.getD 0 0 = y := by rw [e]; rfl
  rw [e1]
  obtain ⟨p, rfl⟩ : ∃ p : Nat, y = p := ⟨y.toNat, by omega⟩
  rw [Int.toNat_natCast]
  have hal := h.ei.al p (by omega)
  have hdl := h.ei.dl p (by omega)
  have hf := fold_len L (nodeAt s.tree p).attrs
  have hs := h.ei.set (d' := d) (a' := a + m) (u := p) (by omega) (nodeAt s.tree p).data (L.foldl addA (nodeAt s.tree p).attrs) (by omega) (by omega) (by omega) (by omega)
  have hlen : (setAts s.tree p (L.foldl addA (nodeAt s.tree p).attrs)).length = s.tree.length := setAts_len (by omega) _
  exact ⟨⟨hs, h.fo, fun j hj => by have := h.rg j hj; show 0 ≤ j ∧ j < ((setAts s.tree p (L.foldl addA (nodeAt s.tree p).attrs)).length : Int); rw [hlen]; exact this, h.ol⟩, by show s.tree.length ≤ (setAts s.tree p (L.foldl addA (nodeAt s.tree p).attrs)).length; rw [hlen]; exact Nat.le_refl _⟩
 ·exact ⟨h.mono (by omega) (by omega) (by omega), Nat.le_refl _⟩
theorem SE.com {n d a : Nat} {s : SS} (h : SE n d a s) (t : Tk) (hx : t.data.length ≤ d) (ha : t.attrs.length ≤ 14) : SE (n + 1) d (a + 14) (comS s t) ∧ s.tree.length ≤ (comS s t).tree.length := by
 unfold comS
 split
 ·obtain ⟨e1, e2⟩ := h.note t (-1) hx (fun e => by simp [isB] at e)
  exact ⟨e1.mono (by omega) (by omega) (by omega), e2⟩
 split
 ·exact ⟨h.mono (by omega) (by omega) (by omega), Nat.le_refl _⟩
 split
 ·obtain ⟨e1, e2⟩ := h.lend t.attrs ha
  exact ⟨e1.mono (by omega) (by omega) (by omega), e2⟩
 ·exact ⟨h.mono (by omega) (by omega) (by omega), Nat.le_refl _⟩
def FH (o : List Int) (h : Int) : Prop := ∃ h0 r, o = h0 :: r ∧ h0 ≠ h
def MM (mode back head : Int) (o : List Int) : Prop :=
 mode = 0 ∨ mode = 1 ∨ (mode = 2 ∧ 1 ≤ o.length) ∨ (mode = 3 ∧ FH o head ∧ 2 ≤ o.length) ∨ (mode = 4 ∧ FH o head) ∨ mode = 5 ∨ (mode = 6 ∧ FH o head ∧ ((back = 3 ∧ 3 ≤ o.length) ∨ (back = 4 ∧ 2 ≤ o.length)))
structure MI (s : SS) : Prop where
 hd : s.head < (s.tree.length : Int)
 m : MM s.mode s.back s.head s.opn
def same (s s' : SS) : Prop := s'.mode = s.mode ∧ s'.back = s.back ∧ s'.head = s.head ∧ s'.opn = s.opn ∧ s.tree.length ≤ s'.tree.length
theorem MI.same {s s' : SS} (h : MI s) (e : same s s') : MI s' := by
 obtain ⟨e1, e2, e3, e4, e5⟩ := e
 exact ⟨by have := h.hd; rw [e3]; omega, by rw [e1, e2, e3, e4]; exact h.m⟩
theorem same_refl (s : SS) : same s s := ⟨rfl, rfl, rfl, rfl, Nat.le_refl _⟩
theorem note_same {n d a : Nat} {s : SS} (h : SE n d a s) (t : Tk) (up : Int) (hx : t.data.length ≤ d) (hup : isB s.tree up = true → up = 0) : same s (noteS s t up) := by
 have := (h.note t up hx hup).2
 refine ⟨?_, ?_, ?_, ?_, this⟩ <;> (unfold noteS; split <;> rfl)
theorem com_same {n d a : Nat} {s : SS} (h : SE n d a s) (t : Tk) (hx : t.data.length ≤ d) (ha : t.attrs.length ≤ 14) : same s (comS s t) := by
 have := (h.com t hx ha).2
 refine ⟨?_, ?_, ?_, ?_, this⟩ <;> (unfold comS; split; · (unfold noteS; split <;> rfl)) <;> (split; · rfl) <;> (split; · (unfold lendS; split <;> rfl)) <;> rfl
theorem chs_same {n d a : Nat} {s : SS} (h : SE n d a s) (x : Str) : same s (chS s x) := ⟨rfl, rfl, rfl, rfl, (h.chs (Nat.le_refl x.length)).2.1⟩
structure TkE (t : Tk) : Prop where
 nm : t.name.length ≤ 40
 at_ : t.attrs.length ≤ 14
 dt : t.data.length ≤ 200
def Went (n d a : Nat) (s : SS) (r : Bool × SS) : Prop := SE (n + 2) (d + 200) (a + 14) r.2 ∧ MI r.2 ∧ (r.1 = true → r.2.mode ≠ s.mode)
theorem went_same {n d a : Nat} {s s' : SS} (m : MI s) (h : SE (n + 2) (d + 200) (a + 14) s') (e : same s s') : Went n d a s (false, s') := ⟨h, m.same e, fun h => by simp at h⟩
section
variable {n d a : Nat} {s : SS} {t : Tk}
theorem went_ini (h : SE n d a s) (m : MI s) (hm : s.mode = 0) (ht : TkE t) (hd : 200 ≤ d) (ha : 14 ≤ a) : Went n d a s (iniR s t) := by
 have h2 := h.mono (show n ≤ n + 2 by omega) (show d ≤ d + 200 by omega) (show a ≤ a + 14 by omega)
 unfold iniR
 split
 ·exact went_same m h2 (same_refl s)
 split
 ·have hx : t.data.length ≤ d := by have := ht.dt; omega
  exact went_same m ((h.note t 0 hx (fun _ => rfl)).1.mono (by omega) (by omega) (by omega)) (note_same h t 0 hx fun _ => rfl)
 split
 ·have n0 := h.ei.n0
  have k0 := h.ei.kl 0 (by omega)
  have g := newT_growA (t := s.tree) (u := 0) (by omega) h.ei.up (a := ((s.tree.length + 1 : Nat) : Int)) (by simp only [Int.natCast_zero] at k0 ⊢; omega) ⟨4, 0, [], [], t.name, 0, []⟩
  have e := h.ei.grow g (by omega) (by simp) (by have := ht.nm; simp only; omega) (by simp)
  simp only [Int.natCast_zero] at e g
  refine ⟨⟨e.mono (by omega) (by omega) (by omega), h.fo, fun i hi => ?_, by have := h.ol; simp only; omega⟩, ⟨?_, .inr (.inl rfl)⟩, fun h => by simp at h⟩
  ·have := h.rg i hi; simp only; rw [g.len]; omega
  ·have := m.hd; simp only; rw [g.len]; omega
 ·exact ⟨⟨h2.ei, h2.fo, h2.rg, h2.ol⟩, ⟨m.hd, .inr (.inl rfl)⟩, fun _ => by rw [hm]; show (1 : Int) ≠ 0; decide⟩
theorem el_in {s s' : SS} (ho : s'.opn = s.opn ++ [(s.tree.length : Int)]) : (∀ i, i ∈ s'.opn → i ∈ s.opn ∨ i = (s.tree.length : Int)) ∧ s'.opn.length ≤ s.opn.length + 1 := by
 rw [ho]
 exact ⟨fun i hi => by simpa using hi, by simp⟩
theorem went_bh (h : SE n d a s) (m : MI s) (hm : s.mode = 1) (ht : TkE t) (hd : 200 ≤ d) (ha : 14 ≤ a) : Went n d a s (bhR s t) := by
 have h2 := h.mono (show n ≤ n + 2 by omega) (show d ≤ d + 200 by omega) (show a ≤ a + 14 by omega)
 have hx : t.data.length ≤ d := by have := ht.dt; omega
 have key : ∀ (nm : Str) (L : List At1), nm.length ≤ 40 → L.length ≤ a → SE (n + 2) (d + 200) (a + 14) (elS (m2S s) 0 nm L) ∧ MI (elS (m2S s) 0 nm L) := fun nm L h1 h3 => by
  obtain ⟨i1, i2⟩ := el_in (s := s) (s' := elS (m2S s) 0 nm L) rfl
  have e := h.el (s' := elS (m2S s) 0 nm L) h1 h3 rfl rfl i1 i2
  have el := (el_len h 0 nm L h1 h3).2
  refine ⟨e.mono (by omega) (by omega) (by omega), ⟨?_, .inr (.inr (.inl ⟨rfl, by simp [elS]⟩))⟩⟩
  show s.head < ((elT s.tree (topI s.opn) 0 nm L).length : Int)
  have := m.hd
  rw [el]; omega
 unfold bhR
 split
 ·exact went_same m h2 (same_refl s)
 split
 ·exact went_same m ((h.note t 0 hx (fun _ => rfl)).1.mono (by omega) (by omega) (by omega)) (note_same h t 0 hx fun _ => rfl)
 split
 ·exact went_same m h2 (same_refl s)
 split
 ·exact went_same m h2 (same_refl s)
 split
 ·obtain ⟨k1, k2⟩ := key t.name t.attrs ht.nm (by have := ht.at_; omega)
  exact ⟨k1, k2, fun h => by simp at h⟩
 ·obtain ⟨k1, k2⟩ := key [104, 116, 109, 108] [] (by decide) (by simp)
  exact ⟨k1, k2, fun _ => by rw [hm]; show (2 : Int) ≠ 1; decide⟩
theorem went_bd (h : SE n d a s) (m : MI s) (hm : s.mode = 2) (ht : TkE t) (hd : 200 ≤ d) (ha : 14 ≤ a) : Went n d a s (bdR s t) := by
 have h2 := h.mono (show n ≤ n + 2 by omega) (show d ≤ d + 200 by omega) (show a ≤ a + 14 by omega)
 have hx : t.data.length ≤ d := by have := ht.dt; omega
 have ol : 1 ≤ s.opn.length := by
  have := m.m
  unfold MM at this
  rw [hm] at this
  simpa using this
 have key : ∀ (nm : Str) (L : List At1), nm.length ≤ 40 → L.length ≤ a → SE (n + 2) (d + 200) (a + 14) (hdS s nm L) ∧ MI (hdS s nm L) := fun nm L h1 h3 => by
  obtain ⟨i1, i2⟩ := el_in (s := s) (s' := hdS s nm L) rfl
  have e := h.el (s' := hdS s nm L) h1 h3 rfl rfl i1 i2
  have el := (el_len h 0 nm L h1 h3).2
  refine ⟨e.mono (by omega) (by omega) (by omega), ⟨?_, .inr (.inr (.inr (.inl ⟨rfl, ?_, ?_⟩)))⟩⟩
  ·show (s.tree.length : Int) < ((elT s.tree (topI s.opn) 0 nm L).length : Int)
   rw [el]; omega
  ·obtain ⟨y, r, e⟩ : ∃ y r, s.opn = y :: r := List.exists_cons_of_ne_nil (fun e => by rw [e] at ol; simp at ol)
   refine ⟨y, r ++ [(s.tree.length : Int)], by show s.opn ++ _ = _; rw [e]; rfl, ?_⟩
   have := h.rg y (by rw [e]; simp)
   show y ≠ (s.tree.length : Int)
   omega
  ·show 2 ≤ (s.opn ++ [(s.tree.length : Int)]).length
   simp; omega
 unfold bdR
 split
 ·exact went_same m h2 (same_refl s)
 split
 ·exact went_same m h2 (same_refl s)
 split
 ·exact went_same m ((h.com t hx ht.at_).1.mono (by omega) (by omega) (by omega)) (com_same h t hx ht.at_)
 split
 ·obtain ⟨k1, k2⟩ := key t.name t.attrs ht.nm (by have := ht.at_; omega)
  exact ⟨k1, k2, fun h => by simp at h⟩
 ·obtain ⟨k1, k2⟩ := key [104, 101, 97, 100] [] (by decide) (by simp)
  exact ⟨k1, k2, fun _ => by rw [hm]; show (3 : Int) ≠ 2; decide⟩
theorem bl_len (ht : TkE t) : (blS t []).length ≤ 200 := by
 unfold blS
 split
 ·exact Nat.le_trans (List.takeWhile_sublist _).length_le ht.dt
 ·simp
theorem SE.meta {n d a : Nat} {c : SS} (h : SE n d a c) (t : Tk) (hn : t.name.length ≤ 40) (hL : t.attrs.length ≤ a) : SE (n + 1) d a (metaS c t) ∧ c.tree.length ≤ (metaS c t).tree.length ∧ (metaS c t).head = c.head ∧
  (((metaS c t).mode = c.mode ∧ (metaS c t).back = c.back ∧ (metaS c t).opn = c.opn) ∨ ((metaS c t).mode = 6 ∧ (metaS c t).back = c.mode ∧ (metaS c t).opn = c.opn ++ [(c.tree.length : Int)])) := by
 have el := (el_len h 0 t.name t.attrs hn hL).2
 unfold metaS
 split
 ·split
  ·have e := h.el (s' := aloneS c t.name t.attrs) hn hL rfl rfl (fun i hi => .inl hi) (by show c.opn.length ≤ _; omega)
   exact ⟨e, by show c.tree.length ≤ (elT c.tree (topI c.opn) 0 t.name t.attrs).length; rw [el]; omega, rfl, .inl ⟨rfl, rfl, rfl⟩⟩
  ·split
   ·obtain ⟨i1, i2⟩ := el_in (s := c) (s' := textsS c t.name t.attrs) rfl
    have e := h.el (s' := textsS c t.name t.attrs) hn hL rfl rfl i1 i2
    exact ⟨e, by show c.tree.length ≤ (elT c.tree (topI c.opn) 0 t.name t.attrs).length; rw [el]; omega, rfl, .inr ⟨rfl, rfl, rfl⟩⟩
   ·exact ⟨h.mono (by omega) (by omega) (by omega), Nat.le_refl _, rfl, .inl ⟨rfl, rfl, rfl⟩⟩
 ·exact ⟨h.mono (by omega) (by omega) (by omega), Nat.le_refl _, rfl, .inl ⟨rfl, rfl, rfl⟩⟩
theorem FH.app {o : List Int} {h : Int} (f : FH o h) (l : List Int) : FH (o ++ l) h := by
 obtain ⟨h0, r, e, ne⟩ := f
 exact ⟨h0, r ++ l, by rw [e]; rfl, ne⟩
theorem FH.shut {s : SS} {h : Int} (f : FH s.opn h) : FH (shutJ s).opn h ∧ s.opn.length ≤ (shutJ s).opn.length + 1 ∧ ∀ i, i ∈ (shutJ s).opn → i ∈ s.opn := by
 unfold shutJ
 split
 ·rename_i hl
  obtain ⟨h0, r, e, ne⟩ := f
  refine ⟨⟨h0, r.dropLast, ?_, ne⟩, by simp; omega, fun i hi => (List.dropLast_sublist _).subset hi⟩
  cases r with
  | nil => rw [e] at hl; simp at hl
  | cons x q => simp only [e, List.dropLast_cons_cons]
 ·exact ⟨f, by omega, fun i hi => hi⟩
theorem went_ih (h : SE n d a s) (m : MI s) (hm : s.mode = 3) (ht : TkE t) (hd : 200 ≤ d) (ha : 14 ≤ a) : Went n d a s (ihR (chS s (blS t [])) t) := by
 obtain ⟨c, hc⟩ : ∃ c, c = chS s (blS t []) := ⟨_, rfl⟩
 have hs := (h.chs (bl_len ht)).1
 have sm := chs_same h (blS t [])
 rw [← hc] at hs sm ⊢
 have mc := m.same sm
 have cm : c.mode = 3 := by rw [sm.1]; exact hm
 have fh : FH c.opn c.head ∧ 2 ≤ c.opn.length := by
  have := mc.m
  unfold MM at this
  rw [cm] at this
  simpa using this
 have hx : t.data.length ≤ d + 200 := by have := ht.dt; omega
 have h2 := hs.mono (show n + 1 ≤ n + 2 by omega) (Nat.le_refl (d + 200)) (show a ≤ a + 14 by omega)
 unfold ihR
 split
 ·exact went_same m h2 sm
 split
 ·exact went_same m h2 sm
 split
 ·exact went_same m h2 sm
 split
 ·have q := com_same hs t hx ht.at_
  exact ⟨(hs.com t hx ht.at_).1.mono (by omega) (by omega) (by omega), mc.same q, fun h => by simp at h⟩
 split
 ·obtain ⟨k1, k2, k3, k4⟩ := hs.meta t ht.nm (by have := ht.at_; omega)
  refine ⟨k1.mono (by omega) (by omega) (by omega), ⟨by show (metaS c t).head < ((metaS c t).tree.length : Int); have := mc.hd; rw [k3]; omega, ?_⟩, fun h => by simp at h⟩
  simp only
  rw [k3]
  rcases k4 with ⟨e1, e2, e3⟩ | ⟨e1, e2, e3⟩
  ·rw [e1, e2, e3]; exact mc.m
  ·rw [e1, e2, e3, cm]
   exact .inr (.inr (.inr (.inr (.inr (.inr ⟨rfl, fh.1.app _, .inl ⟨rfl, by have := fh.2; simp; omega⟩⟩)))))
 ·obtain ⟨f1, f2, f3⟩ := fh.1.shut
  have hol : (shutJ c).opn.length ≤ c.opn.length := by unfold shutJ; split <;> simp
  refine ⟨⟨h2.ei, h2.fo, fun i hi => h2.rg i (f3 i hi), by have := h2.ol; simp only [m4S]; omega⟩, ⟨mc.hd, .inr (.inr (.inr (.inr (.inl ⟨rfl, f1⟩))))⟩, fun _ => by rw [hm]; show (4 : Int) ≠ 3; decide⟩
theorem drop_FH {o : List Int} {h : Int} (f : FH o h) : FH (dropL o h) h := by
 obtain ⟨h0, r, e, ne⟩ := f
 exact ⟨h0, dropL r h, by rw [e]; simp [dropL, ne], ne⟩
theorem went_ah (h : SE n d a s) (m : MI s) (hm : s.mode = 4) (ht : TkE t) (hd : 200 ≤ d) (ha : 14 ≤ a) : Went n d a s (ahR (chS s (blS t [])) t) := by
 obtain ⟨c, hc⟩ : ∃ c, c = chS s (blS t []) := ⟨_, rfl⟩
 have hs := (h.chs (bl_len ht)).1
 have sm := chs_same h (blS t [])
 rw [← hc] at hs sm ⊢
 have mc := m.same sm
 have cm : c.mode = 4 := by rw [sm.1]; exact hm
 have co : c.opn = s.opn := sm.2.2.2.1
 have fh : FH c.opn c.head := by
  have := mc.m
  unfold MM at this
  rw [cm] at this
  simpa using this
 have hx : t.data.length ≤ d + 200 := by have := ht.dt; omega
 have h2 := hs.mono (show n + 1 ≤ n + 2 by omega) (Nat.le_refl (d + 200)) (show a ≤ a + 14 by omega)
 have key : ∀ (nm : Str) (L : List At1), nm.length ≤ 40 → L.length ≤ a → SE (n + 2) (d + 200) (a + 14) (elS (m5S c) 0 nm L) ∧ MI (elS (m5S c) 0 nm L) := fun nm L h1 h3 => by
  obtain ⟨i1, i2⟩ := el_in (s := c) (s' := elS (m5S c) 0 nm L) rfl
  have e := hs.el (s' := elS (m5S c) 0 nm L) h1 h3 rfl rfl i1 i2
  have el := (el_len hs 0 nm L h1 h3).2
  refine ⟨e.mono (by omega) (by omega) (by omega), ⟨?_, .inr (.inr (.inr (.inr (.inr (.inl rfl)))))⟩⟩
  show c.head < ((elT c.tree (topI c.opn) 0 nm L).length : Int)
  have := mc.hd
  rw [el]; omega
 unfold ahR
 split
 ·exact went_same m h2 sm
 split
 ·exact went_same m h2 sm
 split
 ·exact went_same m h2 sm
 split
 ·have q := com_same hs t hx ht.at_
  exact ⟨(hs.com t hx ht.at_).1.mono (by omega) (by omega) (by omega), mc.same q, fun h => by simp at h⟩
 split
 ·have hol : c.opn.length ≤ n := by rw [co]; exact h.ol
  obtain ⟨M, hM⟩ : ∃ M, M = metaS (pushH c) t := ⟨_, rfl⟩
  have l1 := metaS_op (pushH c) t
  have tr : (metaS (pushH c) t).tree = (metaS (pushH c) t).tree := rfl
  have ei : EI (n + 2) (d + 200) a (metaS (pushH c) t).tree ∧ c.tree.length ≤ (metaS (pushH c) t).tree.length ∧ ((metaS (pushH c) t).opn = c.opn ++ [c.head] ∨ ((metaS (pushH c) t).opn = c.opn ++ [c.head] ++ [(c.tree.length : Int)] ∧ c.tree.length + 1 ≤ (metaS (pushH c) t).tree.length)) ∧ (metaS (pushH c) t).foster = c.foster ∧ (metaS (pushH c) t).head = c.head ∧
    (((metaS (pushH c) t).mode = 4 ∧ (metaS (pushH c) t).opn = c.opn ++ [c.head]) ∨ ((metaS (pushH c) t).mode = 6 ∧ (metaS (pushH c) t).back = 4 ∧ (metaS (pushH c) t).opn = c.opn ++ [c.head] ++ [(c.tree.length : Int)])) := by
   have e2 := hs.ei.new (topI (c.opn ++ [c.head])) ⟨1, 0, t.name, t.attrs, [], 0, []⟩ ht.nm (by simp) (by have := ht.at_; simp only; omega)
   unfold metaS
   split
   ·split
    ·exact ⟨e2.1, by show c.tree.length ≤ (elT c.tree (topI (c.opn ++ [c.head])) 0 t.name t.attrs).length; unfold elT; rw [e2.2]; omega, .inl rfl, rfl, rfl, .inl ⟨cm, rfl⟩⟩
    ·split
     ·refine ⟨e2.1, ?_, .inr ⟨rfl, ?_⟩, rfl, rfl, .inr ⟨rfl, cm, rfl⟩⟩
      ·show c.tree.length ≤ (elT c.tree (topI (c.opn ++ [c.head])) 0 t.name t.attrs).length
       unfold elT; rw [e2.2]; omega
      ·show c.tree.length + 1 ≤ (elT c.tree (topI (c.opn ++ [c.head])) 0 t.name t.attrs).length
       unfold elT; rw [e2.2]; omega
     ·exact ⟨hs.ei.mono (by omega) (by omega) (by omega), Nat.le_refl _, .inl rfl, rfl, rfl, .inl ⟨cm, rfl⟩⟩
   ·exact ⟨hs.ei.mono (by omega) (by omega) (by omega), Nat.le_refl _, .inl rfl, rfl, rfl, .inl ⟨cm, rfl⟩⟩
  rw [← hM] at ei l1
  obtain ⟨x1, x2, x3, x4, x5, x6⟩ := ei
  have dr : ∀ l : List Int, dropL (c.opn ++ [c.head] ++ l) c.head = dropL c.opn c.head ++ dropL l c.head := fun l => by simp [dropL]
  have dl : (dropL c.opn c.head).length ≤ c.opn.length := List.length_filter_le _ _
  have dn : dropL [(c.tree.length : Int)] c.head = [(c.tree.length : Int)] := by
   have := mc.hd
   simp [dropL]; omega
  have hfh := drop_FH fh
  rw [← hM]
  refine ⟨⟨x1.mono (by omega) (by omega) (by omega), by show M.foster = false; rw [x4]; exact hs.fo, fun i hi => ?_, ?_⟩, ⟨by show M.head < (M.tree.length : Int); rw [x5]; have := mc.hd; omega, ?_⟩, fun h => by simp at h⟩
  ·simp only [dropH] at hi ⊢
   rw [x5] at hi
   have hcm : ∀ i, i ∈ dropL c.opn c.head → i ∈ c.opn := fun i hi => (List.mem_filter.1 hi).1
   rcases x3 with e | ⟨e, e'⟩
   ·rw [e, show c.opn ++ [c.head] = c.opn ++ [c.head] ++ [] by simp, dr] at hi
    simp [dropL] at hi
    have := hs.rg i hi.1
    omega
   ·rw [e, dr, dn] at hi
    rcases List.mem_append.1 hi with hi | hi
    ·have := hs.rg i (hcm i hi); omega
    ·simp at hi; omega
  ·simp only [dropH]
   rw [x5]
   rcases x3 with e | ⟨e, e'⟩
   ·rw [e, show c.opn ++ [c.head] = c.opn ++ [c.head] ++ [] by simp, dr]
    simp [dropL] at dl ⊢; omega
   ·rw [e, dr, dn]
    simp; omega
  ·simp only [dropH]
   rw [x5]
   rcases x6 with ⟨e1, e2⟩ | ⟨e1, e2, e3⟩
   ·rw [e1, e2, show c.opn ++ [c.head] = c.opn ++ [c.head] ++ [] by simp, dr]
    exact .inr (.inr (.inr (.inr (.inl ⟨rfl, hfh.app _⟩))))
   ·rw [e1, e2, e3, dr, dn]
    refine .inr (.inr (.inr (.inr (.inr (.inr ⟨rfl, hfh.app _, .inr ⟨rfl, ?_⟩⟩)))))
    obtain ⟨h0, r, e, _⟩ := hfh
    rw [e]
    simp
 split
 ·obtain ⟨k1, k2⟩ := key t.name t.attrs ht.nm (by have := ht.at_; omega)
  exact ⟨k1, k2, fun h => by simp at h⟩
 ·obtain ⟨k1, k2⟩ := key [98, 111, 100, 121] [] (by decide) (by simp)
  exact ⟨k1, k2, fun _ => by rw [hm]; show (5 : Int) ≠ 4; decide⟩
theorem went_in (h : SE n d a s) (m : MI s) (hm : s.mode = 6) (ht : TkE t) : Went n d a s (decide (t.kind = 0), inX s t) := by
 have fh : FH s.opn s.head ∧ ((s.back = 3 ∧ 3 ≤ s.opn.length) ∨ (s.back = 4 ∧ 2 ≤ s.opn.length)) := by
  have := m.m
  unfold MM at this
  rw [hm] at this
  simpa using this
 unfold inX
 split
 ·rename_i hk
  have e := h.chs (x := t.data) (m := 200) ht.dt
  refine ⟨e.1.mono (by omega) (by omega) (by omega), m.same (chs_same h t.data), fun h => by simp [hk] at h⟩
 split
 ·obtain ⟨f1, f2, f3⟩ := fh.1.shut
  have hol : (shutJ s).opn.length ≤ s.opn.length := by unfold shutJ; split <;> simp
  have e1 : (shutJ s).tree = s.tree ∧ (shutJ s).foster = s.foster ∧ (shutJ s).head = s.head := by unfold shutJ; split <;> exact ⟨rfl, rfl, rfl⟩
  have h2 := h.mono (show n ≤ n + 2 by omega) (show d ≤ d + 200 by omega) (show a ≤ a + 14 by omega)
  refine ⟨⟨by simp only; rw [e1.1]; exact h2.ei, by simp only; rw [e1.2.1]; exact h.fo, fun i hi => by simp only; rw [e1.1]; exact h.rg i (f3 i hi), by have := h2.ol; simp only; omega⟩, ⟨by simp only; rw [e1.1, e1.2.2]; exact m.hd, ?_⟩, fun _ => ?_⟩
  ·simp only
   rw [e1.2.2]
   rcases fh.2 with ⟨b1, b2⟩ | ⟨b1, b2⟩
   ·rw [b1]; exact .inr (.inr (.inr (.inl ⟨rfl, f1, by omega⟩)))
   ·rw [b1]; exact .inr (.inr (.inr (.inr (.inl ⟨rfl, f1⟩))))
  ·simp only
   rw [hm]
   rcases fh.2 with ⟨b1, b2⟩ | ⟨b1, b2⟩ <;> omega
 ·rename_i hk
  exact ⟨h.mono (by omega) (by omega) (by omega), m, fun h => absurd (.inl (by simpa using h)) hk⟩
theorem went (h : SE n d a s) (m : MI s) (hm : s.mode ≠ 5) (ht : TkE t) (hd : 200 ≤ d) (ha : 14 ≤ a) : Went n d a s (stR s t) := by
 have hmm := m.m
 unfold MM at hmm
 unfold stR
 split
 ·exact went_ini h m (by assumption) ht hd ha
 split
 ·exact went_bh h m (by assumption) ht hd ha
 split
 ·exact went_bd h m (by assumption) ht hd ha
 split
 ·exact went_ih h m (by assumption) ht hd ha
 split
 ·exact went_ah h m (by assumption) ht hd ha
 ·exact went_in h m (by omega) ht
theorem st_ok (h : SE n d a s) (m : MI s) (hm : s.mode ≠ 5) (ht : TkE t) (hn : n ≤ 850) (hd : d ≤ 50000) (ha : a ≤ 800) : StOk s t := by
 have hmm := m.m
 unfold MM at hmm
 have hs := (h.chs (bl_len ht)).1
 have h1 := ht.nm
 have h2 := ht.at_
 have h3 := ht.dt
 refine ⟨by omega, h.fo, h.sok (by omega), h.kok (by omega), h.html (by omega) (by omega), by have := bl_len ht; omega, hs.sok (by omega), hs.html (by omega) (by omega), fun e => ?_, by omega, h2, by omega⟩
 have fh : FH s.opn s.head := by
  rw [e] at hmm
  simpa using hmm
 obtain ⟨h0, r, e2, _⟩ := fh
 exact ⟨by have := h.ol; omega, by rw [e2]; simp⟩
end
def z0 : SS := ⟨[⟨0, 0, [], [], [], -1, []⟩], [], [], 0, 0, 0, 0, 0, false, false, []⟩
theorem z0_ok : SE 1 200 14 z0 ∧ MI z0 := by
 refine ⟨⟨⟨by decide, by decide, fun i hi => ?_, fun i hi => ?_, fun i hi => ?_, fun i hi => ?_, fun i hi => ?_, fun i hi => ?_⟩, rfl, (fun i hi => by cases hi), by decide⟩, ⟨by decide, .inl rfl⟩⟩
 all_goals
  have hi : i < 1 := hi
  obtain rfl : i = 0 := by omega
  decide
end Go.Proofs.YtfgdcciaecajpaaGreatDoor
namespace Go.Proofs.YtfgdcciaecajpaaGreatDoor
noncomputable section
set_option linter.unusedSimpArgs false
set_option linter.unusedVariables false
open Go Go.RowKit
set_option maxRecDepth 100000
theorem closedCall {T : List (Entry Tryz.prog)} {f : FuncId} (h : isTrueE (callN (ctx T) 100000 (.fn f) [] ⟨0, []⟩) = true) : CallAt (ctx T) f [] ⟨0, []⟩ (.bool true) ⟨0, []⟩ := by
 revert h
 cases hr : callN (ctx T) 100000 (.fn f) [] ⟨0, []⟩ with
 | none => intro h; cases h
 | some r =>
  obtain ⟨v, H'⟩ := r
  intro h
  cases v <;> simp only [isTrueE] at h <;> first | (cases h; done) | skip
  subst h
  exact ((call_ok mixed (mkC_ok _ _ _) 100000).fn f [] ⟨0, []⟩ _ _ hr).freeze (Φ := []) (by simp [fitV, pureV]) FitH.empty
def noneL : List AV → Bool
 | [] => true
 | _ :: _ => false
mutual
def fitVb (Φ : List (Nat × List AV)) : AV → AV → Bool
 | .slc b o len cap, v' => match v' with
  | .undef => true
  | .fslc sz es => (match lookC b Φ with
   | some cs => (match subL o (len * sz) cs with
    | some x => AV.beqL x (flatAV es) && Nat.beq es.length len && allSize sz es
    | none => false)
   | none => false) || (Nat.beq len 0 && noneL es)
  | _ => false
 | .ptr b o, v' => match v' with
  | .undef => true
  | .fptr cs o' => (match lookC b Φ with
   | some c => AV.beqL c cs
   | none => false) && Nat.beq o' o
  | _ => false
 | .nilS, v' => match v' with
  | .undef => true
  | .nilS => true
  | .fslc _ es => noneL es
  | _ => false
 | .fslc sz es, v' => match v' with
  | .undef => true
  | .fslc sz' es' => Nat.beq sz sz' && AV.beqL es es'
  | _ => false
 | .agg cs, v' => match v' with
  | .undef => true
  | .agg cs' => fitLb Φ cs cs'
  | _ => false
 | .tup cs, v' => match v' with
  | .undef => true
  | .tup cs' => fitLb Φ cs cs'
  | _ => false
 | .int k n, v' => match v' with
  | .undef => true
  | .int k' n' => decide (k' = k) && decide (n' = n)
  | _ => false
 | .str s, v' => match v' with
  | .undef => true
  | .str s' => eqN s' s
  | _ => false
 | .bool s, v' => match v' with
  | .undef => true
  | .bool s' => s' == s
  | _ => false
 | _, v' => match v' with
  | .undef => true
  | _ => false
def fitLb (Φ : List (Nat × List AV)) : List AV → List AV → Bool
 | [], l' => noneL l'
 | a :: r, l' => match l' with
  | [] => false
  | a' :: r' => fitVb Φ a a' && fitLb Φ r r'
end
theorem noneL_eq {l : List AV} (h : noneL l = true) : l = [] := by cases l <;> first | rfl | cases h
mutual
theorem fitVb_ok {Φ : List (Nat × List AV)} : ∀ {v v' : AV}, fitVb Φ v v' = true → fitV [] Φ v v' := by
 intro v v' h
 cases v with
 | slc b o len cap =>
  unfold fitVb at h
  unfold fitV
  cases v' <;> simp only [Bool.false_eq_true] at h ⊢
  rename_i sz es
  simp only [Bool.or_eq_true, Bool.and_eq_true] at h
  rcases h with h | h
  ·left
   cases hl : lookC b Φ with
   | none => rw [hl] at h; cases h
   | some cs =>
    rw [hl] at h
    simp only at h
    cases hs : subL o (len * sz) cs with
    | none => rw [hs] at h; cases h
    | some x =>
     rw [hs] at h
     simp only [Bool.and_eq_true] at h
     exact ⟨cs, rfl, by rw [hs, AV.eqL_of_beq _ _ h.1.1], Nat.eq_of_beq_eq_true h.1.2, h.2⟩
  ·exact .inr ⟨Nat.eq_of_beq_eq_true h.1, noneL_eq h.2⟩
 | fslc sz es =>
  cases v' with
  | undef => simp [fitV]
  | fslc sz' es' =>
   unfold fitVb at h
   simp only [Bool.and_eq_true] at h
   have h1 := Nat.eq_of_beq_eq_true h.1
   have h2 := AV.eqL_of_beq _ _ h.2
   subst h1; subst h2
   exact fitV_pure rfl
  | _ => simp [fitVb] at h
 | ptr b o =>
  unfold fitVb at h
  unfold fitV
  cases v' <;> simp only [Bool.false_eq_true] at h ⊢
  simp only [Bool.and_eq_true] at h
  cases hl : lookC b Φ with
  | none => rw [hl] at h; cases h.1
  | some cs =>
   rw [hl] at h
   exact ⟨by rw [AV.eqL_of_beq _ _ h.1], Nat.eq_of_beq_eq_true h.2⟩
 | nilS =>
  unfold fitVb at h
  unfold fitV
  cases v' <;> simp only [Bool.false_eq_true] at h ⊢
  exact noneL_eq h
 | agg cs =>
  unfold fitVb at h
  unfold fitV
  cases v' <;> simp only [Bool.false_eq_true] at h ⊢
  exact .inl (fitLb_ok h)
 | tup cs =>
  unfold fitVb at h
  unfold fitV
  cases v' <;> simp only [Bool.false_eq_true] at h ⊢
  exact .inl (fitLb_ok h)
 | int k n =>
  unfold fitVb at h
  unfold fitV
  cases v' <;> simp only [Bool.false_eq_true] at h ⊢
  ·simp
  ·simp only [Bool.and_eq_true, decide_eq_true_eq] at h
   obtain ⟨rfl, rfl⟩ := h
   exact .inr ⟨rfl, rfl⟩
 | str s =>
  unfold fitVb at h
  unfold fitV
  cases v' <;> simp only [Bool.false_eq_true] at h ⊢
  ·simp
  ·rw [eqN_eq, decide_eq_true_eq] at h
   subst h
   exact .inr ⟨rfl, rfl⟩
 | bool s =>
  unfold fitVb at h
  unfold fitV
  cases v' <;> simp only [Bool.false_eq_true] at h ⊢
  ·simp
  ·simp only [beq_iff_eq] at h
   subst h
   exact .inr ⟨rfl, rfl⟩
 | _ =>
  unfold fitVb at h
  cases v' <;> simp only [Bool.false_eq_true] at h
  simp [fitV]
theorem fitLb_ok {Φ : List (Nat × List AV)} : ∀ {l l' : List AV}, fitLb Φ l l' = true → fitL [] Φ l l' := by
 intro l l' h
 cases l with
 | nil =>
  unfold fitLb at h
  unfold fitL
  exact noneL_eq h
 | cons a r =>
  unfold fitLb at h
  unfold fitL
  cases l' with
  | nil => cases h
  | cons a' r' =>
   simp only [Bool.and_eq_true] at h
   exact ⟨fitVb_ok h.1, fitLb_ok h.2⟩
end
end
end Go.Proofs.YtfgdcciaecajpaaGreatDoor