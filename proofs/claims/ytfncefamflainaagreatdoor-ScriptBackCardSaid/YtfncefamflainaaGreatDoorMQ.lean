/- What the listed variables give, where texts, tables and errors are listed. No condition. -/
import Derived.Test.YtfncefamflainaaGreatDoorMP
import Derived.Test.YtfncefamflainaaGreatDoorMM
import Derived.Test.YtfncefamflainaaGreatDoorRows
import Derived.Test.YtfncefamflainaaGreatDoorTie
import Derived.Test.YtfncefamflainaaGreatDoorCards
import Derived.Test.YtfncefamflainaaGreatDoorMF
import Derived.HandedShaped
import Derived.Shelf.Vars
import Derived.ChangeMaps5
import Derived.LaidMore
import Derived.Stop.LaidErr
import Derived.SevenTiedAt
import Derived.Lib.LaidU8
namespace Go.Proofs.YtfncefamflainaaGreatDoor
set_option linter.unusedSimpArgs false
set_option linter.unusedVariables false
open Go Go.RowKit
set_option maxRecDepth 100000
theorem dig_nat {d : Nat} (h : d < 10) : (UInt8.ofNat (48 + d)).toNat = 48 + d := by
 rw [UInt8.toNat_ofNat']
 omega
theorem dec_dig : ∀ (n : Nat), ∀ c, c ∈ Lib.decDigits n → 48 ≤ c.toNat ∧ c.toNat ≤ 57 := by
 intro n
 induction n using Nat.strongRecOn with
 | _ n ih =>
  intro c hc
  by_cases h : n < 10
  ·rw [dec_small h] at hc
   simp only [List.mem_singleton] at hc
   rw [hc, dig_nat h]; omega
  ·rw [dec_step h] at hc
   rcases List.mem_append.1 hc with hc | hc
   ·exact ih (n / 10) (by omega) c hc
   ·simp only [List.mem_singleton] at hc
    rw [hc, dig_nat (Nat.mod_lt _ (by omega))]
    have := Nat.mod_lt n (show 0 < 10 by omega)
    omega
theorem dec_lenK : ∀ (k n : Nat), n < 10 ^ (k + 1) → (Lib.decDigits n).length ≤ k + 1
 | 0, n, h => by rw [dec_small (by simpa using h)]; simp
 | k + 1, n, h => by
  by_cases h1 : n < 10
  ·rw [dec_small h1]; simp
  ·rw [dec_step h1, List.length_append]
   have : n / 10 < 10 ^ (k + 1) := by
    rw [Nat.pow_succ] at h
    omega
   have := dec_lenK k (n / 10) this
   simp; omega
theorem par_dec : ∀ (n : Nat) (r : Str), n ≤ 1048576 → Lib.parseUint10 0 (Lib.decDigits n ++ r) = Lib.parseUint10 n r := by
 intro n
 induction n using Nat.strongRecOn with
 | _ n ih =>
  intro r hn
  by_cases h : n < 10
  ·rw [dec_small h]
   simp only [List.cons_append, List.nil_append, Lib.parseUint10, dig_nat h]
   rw [if_pos (by omega), if_neg (by omega), if_neg (by omega)]
   congr 1; omega
  ·have hm := Nat.mod_lt n (show 0 < 10 by omega)
   rw [dec_step h, List.append_assoc, ih (n / 10) (by omega) _ (by omega)]
   simp only [List.cons_append, List.nil_append, Lib.parseUint10, dig_nat hm]
   rw [if_pos (by omega), if_neg (by omega), if_neg (by omega)]
   congr 1; omega
theorem dec_ne (n : Nat) : Lib.decDigits n ≠ [] := by
 by_cases h : n < 10
 ·rw [dec_small h]; simp
 ·rw [dec_step h]; simp
theorem atoiN_itoa {n : Int} (h : 0 ≤ n ∧ n ≤ 1048576) : atoiN (Lib.itoa n) = n := by
 obtain ⟨m, rfl⟩ := Int.eq_ofNat_of_zero_le h.1
 rw [Lib.itoa_nonneg]
 have hm : m ≤ 1048576 := by omega
 have hp := par_dec m [] hm
 have hd := dec_dig m
 have hne := dec_ne m
 rw [List.append_nil] at hp
 unfold atoiN Lib.atoiAll
 generalize Lib.decDigits m = l at *
 cases l with
 | nil => exact absurd rfl hne
 | cons c r =>
  have hc := hd c (by simp)
  have e1 : ¬ c.toNat = 43 := by omega
  have e2 : ¬ c.toNat = 45 := by omega
  have hp2 : Lib.parseMag (c :: r) = .ok m := by
   unfold Lib.parseMag
   rw [if_neg (by simp), hp]
   rfl
  simp only [e1, e2, or_self, not_false_eq_true, true_and, false_and, if_false]
  rw [hp2]
  simp only
  rw [if_neg (by omega)]
theorem fold_dec : ∀ (n : Nat), (Lib.decDigits n).foldl numStep 0 = (n : Int) := by
 intro n
 induction n using Nat.strongRecOn with
 | _ n ih =>
  by_cases h : n < 10
  ·rw [dec_small h]
   simp only [List.foldl_cons, List.foldl_nil, numStep, dig_nat h]
   omega
  ·have hm := Nat.mod_lt n (show 0 < 10 by omega)
   rw [dec_step h, List.foldl_append, ih (n / 10) (by omega)]
   simp only [List.foldl_cons, List.foldl_nil, numStep, dig_nat hm]
   omega
theorem numR_itoa {n : Int} (h : 0 ≤ n ∧ n ≤ 1048576) : numR (Lib.itoa n) = n := by
 obtain ⟨m, rfl⟩ := Int.eq_ofNat_of_zero_le h.1
 rw [Lib.itoa_nonneg]
 unfold numR
 have := dec_lenK 6 m (by simp; omega)
 rw [List.take_of_length_le (by omega)]
 exact fold_dec m
theorem progGo_line {w x t : Str} {q : PolR} (h1 : (10 : UInt8) ∉ w) (h2 : (32 : UInt8) ∉ w) (h3 : (10 : UInt8) ∉ x) : progGo (lineP w x ++ t).length (lineP w x ++ t) q = progGo t.length t (takeV atoiN q w x) := by
 have e : lineP w x ++ t = (w ++ 32 :: x) ++ 10 :: t := by simp [lineP]
 have hi : Lib.indexByte (lineP w x ++ t) 10 = ((w ++ 32 :: x).length : Int) := idxB_at e (by
  simp only [List.mem_append, List.mem_cons, not_or]
  exact ⟨h1, by decide, h3⟩)
 have hln : lineOf (lineP w x ++ t) = (lineP w x, t) := by
  unfold lineOf
  rw [hi, if_pos (by omega), Int.toNat_natCast, e]
  have l1 : ((w ++ 32 :: x) ++ 10 :: t).take ((w ++ 32 :: x).length + 1) = (w ++ 32 :: x) ++ [10] := by
   rw [List.take_length_add_append]; rfl
  have l2 : ((w ++ 32 :: x) ++ 10 :: t).drop ((w ++ 32 :: x).length + 1) = t := by
   rw [List.drop_length_add_append]; rfl
  rw [l1, l2]
  simp [lineP]
 have htr : trimV (lineP w x) [10] = w ++ 32 :: x := by
  have hl : lineP w x = (w ++ 32 :: x) ++ [10] := by simp [lineP]
  rw [hl]
  generalize w ++ 32 :: x = a
  have hs : sufB (a ++ [10]) [10] = true := by simp [sufB]
  unfold trimV
  rw [if_pos hs]
  simp
 have hcw : cutW (w ++ 32 :: x) = (w, x) := by
  have hk : Lib.indexByte (w ++ 32 :: x) 32 = (w.length : Int) := idxB_at rfl h2
  unfold cutW
  rw [hk, if_pos (by omega), Int.toNat_natCast]
  simp
 have htk : takeLn q (lineP w x) = takeV atoiN q w x := by unfold takeLn; rw [htr, hcw]
 cases hl : lineP w x ++ t with
 | nil => simp [lineP] at hl
 | cons c r =>
  show progGo r.length (lineOf (c :: r)).2 (takeLn q (lineOf (c :: r)).1) = _
  rw [← hl, hln]
  simp only
  rw [htk]
  have hlen : (lineP w x ++ t).length = r.length + 1 := by rw [hl]; rfl
  rw [List.length_append, lineP_len] at hlen
  exact progGo_fuel _ _ _ (by omega)
theorem ref_word : ∀ (w : Str) (l : Str) (q : PolR), (10 : UInt8) ∉ w → (32 : UInt8) ∉ w → w.foldl (refStep numR) ⟨l, [], false, q⟩ = ⟨l ++ w, [], false, q⟩
 | [], l, q, _, _ => by simp
 | c :: r, l, q, h1, h2 => by
  simp only [List.mem_cons, not_or] at h1 h2
  have e : refStep numR ⟨l, [], false, q⟩ c = ⟨l ++ [c], [], false, q⟩ := by
   unfold refStep
   rw [if_neg (fun e => h1.1 e.symm), if_neg (fun e => h2.1 e.1.symm)]
  rw [List.foldl_cons, e, ref_word r _ q h1.2 h2.2]
  simp
theorem ref_rest : ∀ (x : Str) (l w : Str) (q : PolR), (10 : UInt8) ∉ x → x.foldl (refStep numR) ⟨l, w, true, q⟩ = ⟨l ++ x, w, true, q⟩
 | [], l, w, q, _ => by simp
 | c :: r, l, w, q, h1 => by
  simp only [List.mem_cons, not_or] at h1
  have e : refStep numR ⟨l, w, true, q⟩ c = ⟨l ++ [c], w, true, q⟩ := by
   unfold refStep
   rw [if_neg (fun e => h1.1 e.symm), if_neg (fun e => by cases e.2)]
  rw [List.foldl_cons, e, ref_rest r _ w q h1.2]
  simp
theorem ref_line {w x t : Str} {q : PolR} (h1 : (10 : UInt8) ∉ w) (h2 : (32 : UInt8) ∉ w) (h3 : (10 : UInt8) ∉ x) : (lineP w x ++ t).foldl (refStep numR) ⟨[], [], false, q⟩ = t.foldl (refStep numR) ⟨[], [], false, takeV numR q w x⟩ := by
 have e : lineP w x ++ t = w ++ (32 :: (x ++ (10 :: t))) := by simp [lineP]
 rw [e, List.foldl_append, ref_word w [] q h1 h2, List.foldl_cons]
 have e1 : refStep numR ⟨[] ++ w, [], false, q⟩ 32 = ⟨[], w, true, q⟩ := by
  unfold refStep
  rw [if_neg (by decide), if_pos ⟨rfl, rfl⟩]
  simp
 rw [e1, List.foldl_append, ref_rest x [] w q h3, List.foldl_cons]
 have e2 : refStep numR ⟨[] ++ x, w, true, q⟩ 10 = ⟨[], [], false, takeV numR q w x⟩ := by
  unfold refStep
  rw [if_pos rfl]
  simp
 rw [e2]
structure Reads (num : Str → Int) (G : Str → PolR → PolR) : Prop where
 line : ∀ w x t q, (10 : UInt8) ∉ w → (32 : UInt8) ∉ w → (10 : UInt8) ∉ x → G (lineP w x ++ t) q = G t (takeV num q w x)
 nil : ∀ q, G [] q = q
 num : ∀ n : Int, 0 ≤ n ∧ n ≤ 1048576 → num (Lib.itoa n) = n
def progP (s : Str) (q : PolR) : PolR := progGo s.length s q
def refP (s : Str) (q : PolR) : PolR := (s.foldl (refStep numR) ⟨[], [], false, q⟩).q
theorem reads_prog : Reads atoiN progP := ⟨fun w x t q h1 h2 h3 => progGo_line h1 h2 h3, fun q => rfl, fun n h => atoiN_itoa h⟩
theorem reads_ref : Reads numR refP := ⟨fun w x t q h1 h2 h3 => by unfold refP; rw [ref_line h1 h2 h3], fun q => rfl, fun n h => numR_itoa h⟩
structure NoLf (p : PolR) : Prop where
 pre : (10 : UInt8) ∉ p.pre
 res : ∀ x, x ∈ p.res → (10 : UInt8) ∉ x
 els : ∀ x, x ∈ p.els → (10 : UInt8) ∉ x
 ats : ∀ x, x ∈ p.ats → (10 : UInt8) ∉ x
 sch : ∀ x, x ∈ p.sch → (10 : UInt8) ∉ x
theorem itoa_lf {n : Int} (h : 0 ≤ n) : (10 : UInt8) ∉ Lib.itoa n := by
 obtain ⟨m, rfl⟩ := Int.eq_ofNat_of_zero_le h
 rw [Lib.itoa_nonneg]
 intro hx
 have := dec_dig m 10 hx
 simp at this
theorem fold_res (L : List Str) (q : PolR) : L.foldl (fun q x => { q with res := q.res ++ [x] }) q = { q with res := q.res ++ L } := by
 induction L generalizing q with
 | nil => simp
 | cons x r ih => simp [ih]
theorem fold_els (L : List Str) (q : PolR) : L.foldl (fun q x => { q with els := q.els ++ [x] }) q = { q with els := q.els ++ L } := by
 induction L generalizing q with
 | nil => simp
 | cons x r ih => simp [ih]
theorem fold_ats (L : List Str) (q : PolR) : L.foldl (fun q x => { q with ats := q.ats ++ [x] }) q = { q with ats := q.ats ++ L } := by
 induction L generalizing q with
 | nil => simp
 | cons x r ih => simp [ih]
theorem fold_sch (L : List Str) (q : PolR) : L.foldl (fun q x => { q with sch := q.sch ++ [x] }) q = { q with sch := q.sch ++ L } := by
 induction L generalizing q with
 | nil => simp
 | cons x r ih => simp [ih]
section
variable {num : Str → Int} {G : Str → PolR → PolR} (R : Reads num G)
include R
theorem Reads.list (w : Str) (h1 : (10 : UInt8) ∉ w) (h2 : (32 : UInt8) ∉ w) (f : PolR → Str → PolR) (hf : ∀ q x, takeV num q w x = f q x) : ∀ (L : List Str) (t : Str) (q : PolR), (∀ x, x ∈ L → (10 : UInt8) ∉ x) → G (linesP w L ++ t) q = G t (L.foldl f q)
 | [], t, q, _ => by simp [linesP]
 | x :: r, t, q, h => by
  have e : linesP w (x :: r) ++ t = lineP w x ++ (linesP w r ++ t) := by simp [linesP]
  rw [e, R.line w x _ q h1 h2 (h x (by simp)), hf, Reads.list w h1 h2 f hf r t _ fun y hy => h y (by simp [hy])]
  rfl
theorem Reads.text (p : PolR) (hn : NumOk p) (hl : NoLf p) : G (textP p) pol0 = p := by
 unfold textP headT tailT
 simp only [List.append_assoc]
 rw [R.line jPrefix p.pre _ _ (by decide) (by decide) hl.pre]
 rw [R.list jReserved (by decide) (by decide) (fun q x => { q with res := q.res ++ [x] }) (fun q x => rfl) p.res _ _ hl.res, fold_res]
 rw [R.list jElem (by decide) (by decide) (fun q x => { q with els := q.els ++ [x] }) (fun q x => rfl) p.els _ _ hl.els, fold_els]
 rw [R.list jAttr (by decide) (by decide) (fun q x => { q with ats := q.ats ++ [x] }) (fun q x => rfl) p.ats _ _ hl.ats, fold_ats]
 rw [R.list jScheme (by decide) (by decide) (fun q x => { q with sch := q.sch ++ [x] }) (fun q x => rfl) p.sch _ _ hl.sch, fold_sch]
 rw [R.line jBytes _ _ _ (by decide) (by decide) (itoa_lf hn.byt.1)]
 rw [R.line jNodes _ _ _ (by decide) (by decide) (itoa_lf hn.nod.1)]
 rw [R.line jDeep _ _ _ (by decide) (by decide) (itoa_lf hn.dep.1)]
 rw [R.line jAttrs _ _ _ (by decide) (by decide) (itoa_lf hn.per.1)]
 rw [R.line jLookups _ _ _ (by decide) (by decide) (itoa_lf hn.loo.1)]
 have hy : lineP jUnchanged (yesNo p.unc) = lineP jUnchanged (yesNo p.unc) ++ [] := by simp
 rw [hy, R.line jUnchanged _ _ _ (by decide) (by decide) (by cases p.unc <;> decide), R.nil]
 have b := R.num p.byt hn.byt
 have n := R.num p.nod hn.nod
 have d := R.num p.dep hn.dep
 have e := R.num p.per hn.per
 have l := R.num p.loo hn.loo
 have u : decide (yesNo p.unc = jYes) = p.unc := by cases p.unc <;> rfl
 show (⟨p.pre, [] ++ p.res, [] ++ p.els, [] ++ p.ats, [] ++ p.sch, num (Lib.itoa p.byt), num (Lib.itoa p.nod), num (Lib.itoa p.dep), num (Lib.itoa p.per), num (Lib.itoa p.loo), decide (yesNo p.unc = jYes)⟩ : PolR) = p
 simp only [List.nil_append, b, n, d, e, l, u]
end
theorem eq_of_get {L M : List Str} (hl : L.length = M.length) (h : ∀ (i : Nat) (h1 : i < L.length) (h2 : i < M.length), L[i] = M[i]) : L = M := List.ext_getElem hl h
theorem c34 {T : List (Entry Tryz.prog)} (L M : List Str) (hl : L.length ≤ 1000000) : CallAt (ctx T) 34 [aStrs L, aStrs M] ⟨0, []⟩ (.bool (decide (L = M))) ⟨0, []⟩ := by
 by_cases hlen : L.length = M.length
 ·have hlen' : (L.length : Int) = (M.length : Int) := by omega
  refine callAt_body (fn := Tryz.f34) (s0 := ⟨[0, 1, 4, 5, 12, 13], [aStrs L, aStrs M, .undef, .undef, .undef, .undef], [], 26, ⟨0, [[]]⟩⟩) Tryz.func34 rfl rfl rfl ?_
  repeat apply wq
  refine wps_region callOK ?_
  simp [zS]
  repeat apply wq
  refine wps_region callOK ?_
  simp [zS, lenS, hlen]
  repeat apply wq
  refine wps_cf (by simp [opnd, St.get, zS, hlen]) ?_
  repeat apply wq
  refine wps_skip ?_
  simp
  repeat apply wq
  refine wps_region callOK ?_
  simp [zS, lenS]
  repeat apply wq
  refine wps_block (wps_loop' (fun i : Nat => (⟨[0, 1, 4, 5, 12, 13], [aStrs L, aStrs M, .bool false, .undef, .int .i64 (L.length : Nat), .int .i64 (i : Int)], [], 26, ⟨0, [[]]⟩⟩ : St))
   (fun i => i ≤ L.length ∧ ∀ (j : Nat) (h1 : j < L.length) (h2 : j < M.length), j < i → L[j] = M[j]) (fun i => L.length - i) [] [] 0 ⟨Nat.zero_le _, fun j _ _ h => by omega⟩ ⟨rfl, rfl, rfl, by simp [fitL, fitV, pureV, pureL, aStrs], FitH.nothing⟩ ?_)
  rintro i ⟨hi, ha⟩ B hB
  by_cases h : i < L.length
  ·have h2 : i < M.length := by omega
   have hc : (i : Int) < (L.length : Int) := by omega
   repeat apply wq
   refine wps_region callOK ?_
   simp [zS, lenS, hc]
   repeat apply wq
   refine wps_ct (by simp [opnd, St.get, zS, h]) ?_
   repeat apply wq
   refine wps_skip ?_
   simp
   repeat apply wq
   refine wps_block ?_
   repeat apply wq
   refine wps_region callOK ?_
   simp [zS]
   repeat apply wq
   refine wps_drawK mixed callOK (by decide +kernel) (by decide +kernel) ?_
   simp [zS, evalK_c, evalK_nil, thenK_some, atS h, atS h2]
   by_cases hx : L[i] = M[i]
   ·repeat apply wq
    refine wps_cf (by simp [opnd, St.get, zS, hx]) ?_
    repeat apply wq
    refine wps_skip ?_
    simp
    repeat apply wq
    refine wps_region callOK ?_
    simp [zS, add_one (show i ≤ 1000000000 by omega)]
    refine hB _ (i + 1) (by omega) ⟨by omega, fun j h1 h2 hj => ?_⟩ ⟨[], [], ⟨rfl, rfl, rfl, by simp [fitL, fitV, pureV, pureL, aStrs], FitH.nothing⟩⟩
    by_cases he : j = i
    ·subst he; exact hx
    ·exact ha j h1 h2 (by omega)
   ·repeat apply wq
    refine wps_ct (by simp [opnd, St.get, zS, hx]) ?_
    repeat apply wq
    refine wps_region callOK ?_
    simp [zS]
    have hne : ¬ L = M := fun e => hx (by subst e; rfl)
    repeat apply wq
    refine wps_ret ?_
    simp [retVal, Tryz.f34, oneOr, thenQ, blockQ]
    exact ends_pure rfl (by simp [hne])
  ·have hc : ¬ (i : Int) < (L.length : Int) := by omega
   repeat apply wq
   refine wps_region callOK ?_
   simp [zS, lenS, hc]
   repeat apply wq
   refine wps_cf (by simp [opnd, St.get, zS, h]) ?_
   repeat apply wq
   refine wps_exit ?_
   simp
   repeat apply wq
   refine wps_region callOK ?_
   simp [zS]
   have he : L = M := eq_of_get hlen fun j h1 h2 => ha j h1 h2 (by omega)
   repeat apply wq
   refine wps_ret ?_
   simp [retVal, Tryz.f34, oneOr, thenQ, blockQ]
   exact ends_pure rfl (by simp [he])
 ·have hlen' : ¬ (L.length : Int) = (M.length : Int) := by omega
  have hne : ¬ L = M := fun e => hlen (by rw [e])
  refine callAt_body (fn := Tryz.f34) (s0 := ⟨[0, 1, 4, 5, 12, 13], [aStrs L, aStrs M, .undef, .undef, .undef, .undef], [], 26, ⟨0, [[]]⟩⟩) Tryz.func34 rfl rfl rfl ?_
  repeat apply wq
  refine wps_region callOK ?_
  simp [zS]
  repeat apply wq
  refine wps_region callOK ?_
  simp [zS, lenS, hlen, hlen']
  repeat apply wq
  refine wps_ct (by simp [opnd, St.get, zS, hlen]) ?_
  repeat apply wq
  refine wps_region callOK ?_
  simp [zS]
  repeat apply wq
  refine wps_ret ?_
  simp [retVal, Tryz.f34, oneOr, thenQ, blockQ]
  exact ends_pure rfl (by simp [hne])
noncomputable def e34 : Entry Tryz.prog := mkE 34 [[1], [1]] (fun x : List Str × List Str => [aStrs x.1, aStrs x.2]) (fun x => x.1.length ≤ 1000000) (fun x => .bool (decide (x.1 = x.2))) fun x h => c34 (T := []) x.1 x.2 h
theorem k34 {T : List (Entry Tryz.prog)} (hT : findE 34 T = some e34.g) {L M : List Str} (hl : L.length ≤ 1000000) (H : Heap) : callL (ctx T) (.fn 34) [aStrs L, aStrs M] H = some (.bool (decide (L = M)), H) :=
 mkE_scalar hT (fun x y h => by
  simp only [List.cons.injEq, and_true] at h
  exact Prod.ext (inj_strs h.1) (inj_strs h.2)) (L, M) hl rfl (by simp [aStrs])
theorem c33 {T : List (Entry Tryz.prog)} (L M : List Str) (hl : L.length ≤ 1000000) : CallAt (ctx T) 33 [aStrs L, aStrs M] ⟨0, []⟩ (.bool (decide (L = M))) ⟨0, []⟩ := by
 by_cases hlen : L.length = M.length
 ·have hlen' : (L.length : Int) = (M.length : Int) := by omega
  refine callAt_body (fn := Tryz.f33) (s0 := ⟨[0, 1, 4, 5], [aStrs L, aStrs M, .undef, .undef], [], 26, ⟨0, [[]]⟩⟩) Tryz.func33 rfl rfl rfl ?_
  repeat apply wq
  refine wps_region callOK ?_
  simp [zS]
  repeat apply wq
  refine wps_region callOK ?_
  simp [zS, lenS, hlen]
  repeat apply wq
  refine wps_cf (by simp [opnd, St.get, zS, hlen]) ?_
  repeat apply wq
  refine wps_skip ?_
  simp
  repeat apply wq
  refine wps_region callOK ?_
  simp [zS, lenS]
  repeat apply wq
  refine wps_block (wps_loop' (fun i : Nat => (⟨[0, 1, 4, 5], [aStrs L, aStrs M, .bool false, .int .i64 (i : Int)], [], 26, ⟨0, [[]]⟩⟩ : St))
   (fun i => i ≤ L.length ∧ ∀ (j : Nat) (h1 : j < L.length) (h2 : j < M.length), j < i → L[j] = M[j]) (fun i => L.length - i) [] [] 0 ⟨Nat.zero_le _, fun j _ _ h => by omega⟩ ⟨rfl, rfl, rfl, by simp [fitL, fitV, pureV, pureL, aStrs], FitH.nothing⟩ ?_)
  rintro i ⟨hi, ha⟩ B hB
  by_cases h : i < L.length
  ·have h2 : i < M.length := by omega
   have hc : (i : Int) < (L.length : Int) := by omega
   repeat apply wq
   refine wps_region callOK ?_
   simp [zS, lenS, hc]
   repeat apply wq
   refine wps_ct (by simp [opnd, St.get, zS, h]) ?_
   repeat apply wq
   refine wps_skip ?_
   simp
   repeat apply wq
   refine wps_block ?_
   repeat apply wq
   refine wps_drawK mixed callOK (by decide +kernel) (by decide +kernel) ?_
   simp [zS, evalK_c, evalK_nil, thenK_some, atS h, atS h2]
   by_cases hx : L[i] = M[i]
   ·repeat apply wq
    refine wps_cf (by simp [opnd, St.get, zS, hx]) ?_
    repeat apply wq
    refine wps_skip ?_
    simp
    repeat apply wq
    refine wps_region callOK ?_
    simp [zS, add_one (show i ≤ 1000000000 by omega)]
    refine hB _ (i + 1) (by omega) ⟨by omega, fun j h1 h2 hj => ?_⟩ ⟨[], [], ⟨rfl, rfl, rfl, by simp [fitL, fitV, pureV, pureL, aStrs], FitH.nothing⟩⟩
    by_cases he : j = i
    ·subst he; exact hx
    ·exact ha j h1 h2 (by omega)
   ·repeat apply wq
    refine wps_ct (by simp [opnd, St.get, zS, hx]) ?_
    repeat apply wq
    refine wps_region callOK ?_
    simp [zS]
    have hne : ¬ L = M := fun e => hx (by subst e; rfl)
    repeat apply wq
    refine wps_ret ?_
    simp [retVal, Tryz.f33, oneOr, thenQ, blockQ]
    exact ends_pure rfl (by simp [hne])
  ·have hc : ¬ (i : Int) < (L.length : Int) := by omega
   repeat apply wq
   refine wps_region callOK ?_
   simp [zS, lenS, hc]
   repeat apply wq
   refine wps_cf (by simp [opnd, St.get, zS, h]) ?_
   repeat apply wq
   refine wps_exit ?_
   simp
   repeat apply wq
   refine wps_region callOK ?_
   simp [zS]
   have he : L = M := eq_of_get hlen fun j h1 h2 => ha j h1 h2 (by omega)
   repeat apply wq
   refine wps_ret ?_
   simp [retVal, Tryz.f33, oneOr, thenQ, blockQ]
   exact ends_pure rfl (by simp [he])
 ·have hlen' : ¬ (L.length : Int) = (M.length : Int) := by omega
  have hne : ¬ L = M := fun e => hlen (by rw [e])
  refine callAt_body (fn := Tryz.f33) (s0 := ⟨[0, 1, 4, 5], [aStrs L, aStrs M, .undef, .undef], [], 26, ⟨0, [[]]⟩⟩) Tryz.func33 rfl rfl rfl ?_
  repeat apply wq
  refine wps_region callOK ?_
  simp [zS]
  repeat apply wq
  refine wps_region callOK ?_
  simp [zS, lenS, hlen, hlen']
  repeat apply wq
  refine wps_ct (by simp [opnd, St.get, zS, hlen]) ?_
  repeat apply wq
  refine wps_region callOK ?_
  simp [zS]
  repeat apply wq
  refine wps_ret ?_
  simp [retVal, Tryz.f33, oneOr, thenQ, blockQ]
  exact ends_pure rfl (by simp [hne])
noncomputable def e33 : Entry Tryz.prog := mkE 33 [[1], [1]] (fun x : List Str × List Str => [aStrs x.1, aStrs x.2]) (fun x => x.1.length ≤ 1000000) (fun x => .bool (decide (x.1 = x.2))) fun x h => c33 (T := []) x.1 x.2 h
theorem k33 {T : List (Entry Tryz.prog)} (hT : findE 33 T = some e33.g) {L M : List Str} (hl : L.length ≤ 1000000) (H : Heap) : callL (ctx T) (.fn 33) [aStrs L, aStrs M] H = some (.bool (decide (L = M)), H) :=
 mkE_scalar hT (fun x y h => by
  simp only [List.cons.injEq, and_true] at h
  exact Prod.ext (inj_strs h.1) (inj_strs h.2)) (L, M) hl rfl (by simp [aStrs])
theorem pol_ext {p q : PolR} (h0 : p.pre = q.pre) (h1 : p.res = q.res) (h2 : p.els = q.els) (h3 : p.ats = q.ats) (h4 : p.sch = q.sch) (h5 : p.byt = q.byt) (h6 : p.nod = q.nod) (h7 : p.dep = q.dep) (h8 : p.per = q.per) (h9 : p.loo = q.loo) (h10 : p.unc = q.unc) : p = q := by
 cases p; cases q; simp_all
open Classical in
noncomputable def sameB (p q : PolR) : Bool := decide (p = q)
theorem sameB_f {p q : PolR} (h : ¬ p = q) : sameB p q = false := by simp [sameB, h]
theorem sameB_t {p q : PolR} (h : p = q) : sameB p q = true := by simp [sameB, h]
theorem c11 {T : List (Entry Tryz.prog)} (hS : findE 33 T = some e33.g) (p q : PolR) (ok : PolOk p) : CallAt (ctx T) 11 [polA p, polA q] ⟨0, []⟩ (.bool (sameB p q)) ⟨0, []⟩ := by
 have k1 := fun H => k33 hS (L := p.res) (M := q.res) (by have := ok.few; omega) H
 have k2 := fun H => k33 hS (L := p.els) (M := q.els) (by have := ok.few; omega) H
 have k3 := fun H => k33 hS (L := p.ats) (M := q.ats) (by have := ok.few; omega) H
 have k4 := fun H => k33 hS (L := p.sch) (M := q.sch) (by have := ok.few; omega) H
 have hsg : ∀ p, allSingle (polC p) = true := fun p => by simp [polC, allSingle, AV.single]
 have hsg1 := hsg p
 have hsg2 := hsg q
 have o0 : ∀ p, getL (polC p) 0 = some (.str p.pre) := fun p => rfl
 have o1 : ∀ p, getL (polC p) 1 = some (aStrs p.res) := fun p => rfl
 have o2 : ∀ p, getL (polC p) 2 = some (aStrs p.els) := fun p => rfl
 have o3 : ∀ p, getL (polC p) 3 = some (aStrs p.ats) := fun p => rfl
 have o4 : ∀ p, getL (polC p) 4 = some (aStrs p.sch) := fun p => rfl
 have o5 : ∀ p, getL (polC p) 5 = some (.int .i64 p.byt) := fun p => rfl
 have o6 : ∀ p, getL (polC p) 6 = some (.int .i64 p.nod) := fun p => rfl
 have o7 : ∀ p, getL (polC p) 7 = some (.int .i64 p.dep) := fun p => rfl
 have o8 : ∀ p, getL (polC p) 8 = some (.int .i64 p.per) := fun p => rfl
 have o9 : ∀ p, getL (polC p) 9 = some (.int .i64 p.loo) := fun p => rfl
 have o10 : ∀ p, getL (polC p) 10 = some (.bool p.unc) := fun p => rfl
 have p0 := o0 p
 have q0 := o0 q
 have p1 := o1 p
 have q1 := o1 q
 have p2 := o2 p
 have q2 := o2 q
 have p3 := o3 p
 have q3 := o3 q
 have p4 := o4 p
 have q4 := o4 q
 have p5 := o5 p
 have q5 := o5 q
 have p6 := o6 p
 have q6 := o6 q
 have p7 := o7 p
 have q7 := o7 q
 have p8 := o8 p
 have q8 := o8 q
 have p9 := o9 p
 have q9 := o9 q
 have p10 := o10 p
 have q10 := o10 q
 have fin : ∀ (v : Bool), (v = true ↔ (p.pre = q.pre ∧ p.res = q.res ∧ p.els = q.els ∧ p.ats = q.ats ∧ p.sch = q.sch ∧ p.byt = q.byt ∧ p.nod = q.nod ∧ p.dep = q.dep ∧ p.per = q.per ∧ p.loo = q.loo ∧ p.unc = q.unc)) → v = sameB p q := fun v hv => by
  rw [Bool.eq_iff_iff, hv]
  constructor
  ·rintro ⟨h0, h1, h2, h3, h4, h5, h6, h7, h8, h9, h10⟩
   exact sameB_t (pol_ext h0 h1 h2 h3 h4 h5 h6 h7 h8 h9 h10)
  ·intro h
   have e : p = q := Classical.byContradiction fun hn => by rw [sameB_f hn] at h; cases h
   subst e
   exact ⟨rfl, rfl, rfl, rfl, rfl, rfl, rfl, rfl, rfl, rfl, rfl⟩
 simp only [polA]
 clear o0 o1 o2 o3 o4 o5 o6 o7 o8 o9 o10 hsg
 generalize polC p = C at *
 generalize polC q = D at *
 by_cases e0 : p.pre = q.pre
 ·skip
  by_cases e1 : p.res = q.res
  ·simp only [decide_eq_true e1] at k1
   by_cases e2 : p.els = q.els
   ·simp only [decide_eq_true e2] at k2
    by_cases e3 : p.ats = q.ats
    ·simp only [decide_eq_true e3] at k3
     by_cases e4 : p.sch = q.sch
     ·simp only [decide_eq_true e4] at k4
      by_cases e5 : p.byt = q.byt
      ·skip
       by_cases e6 : p.nod = q.nod
       ·skip
        by_cases e7 : p.dep = q.dep
        ·skip
         by_cases e8 : p.per = q.per
         ·skip
          by_cases e9 : p.loo = q.loo
          ·skip
           by_cases e10 : p.unc = q.unc
           ·skip
            refine callAt_body (fn := Tryz.f11) (s0 := ⟨[0, 1, 2, 3, 4], [.agg C, .agg D, .undef, .undef, .undef], [], 80, ⟨0, [[]]⟩⟩) Tryz.func11 rfl rfl rfl ?_
            repeat apply wq
            refine wps_region callOK ?_
            simp [zS, hsg1, hsg2]
            repeat apply wq
            refine wps_region callOK ?_
            simp [zS, p0, q0, p1, q1, p2, q2, p3, q3, p4, q4, p5, q5, p6, q6, p7, q7, p8, q8, p9, q9, p10, q10, k1, k2, k3, k4, e0, e5, e6, e7, e8, e9, e10]
            repeat apply wq
            refine wps_ret ?_
            simp [retVal, Tryz.f11, oneOr, thenQ, blockQ]
            exact ends_pure rfl (by exact congrArg AV.bool (fin _ (by simp [e0, e1, e2, e3, e4, e5, e6, e7, e8, e9, e10])))
           ·skip
            refine callAt_body (fn := Tryz.f11) (s0 := ⟨[0, 1, 2, 3, 4], [.agg C, .agg D, .undef, .undef, .undef], [], 80, ⟨0, [[]]⟩⟩) Tryz.func11 rfl rfl rfl ?_
            repeat apply wq
            refine wps_region callOK ?_
            simp [zS, hsg1, hsg2]
            repeat apply wq
            refine wps_region callOK ?_
            simp [zS, p0, q0, p1, q1, p2, q2, p3, q3, p4, q4, p5, q5, p6, q6, p7, q7, p8, q8, p9, q9, p10, q10, k1, k2, k3, k4, e0, e5, e6, e7, e8, e9, e10]
            repeat apply wq
            refine wps_ret ?_
            simp [retVal, Tryz.f11, oneOr, thenQ, blockQ]
            exact ends_pure rfl (by exact congrArg AV.bool (fin _ (by simp [e0, e1, e2, e3, e4, e5, e6, e7, e8, e9, e10])))
          ·skip
           refine callAt_body (fn := Tryz.f11) (s0 := ⟨[0, 1, 2, 3, 4], [.agg C, .agg D, .undef, .undef, .undef], [], 80, ⟨0, [[]]⟩⟩) Tryz.func11 rfl rfl rfl ?_
           repeat apply wq
           refine wps_region callOK ?_
           simp [zS, hsg1, hsg2]
           repeat apply wq
           refine wps_region callOK ?_
           simp [zS, p0, q0, p1, q1, p2, q2, p3, q3, p4, q4, p5, q5, p6, q6, p7, q7, p8, q8, p9, q9, p10, q10, k1, k2, k3, k4, e0, e5, e6, e7, e8, e9]
           repeat apply wq
           refine wps_ret ?_
           simp [retVal, Tryz.f11, oneOr, thenQ, blockQ]
           exact ends_pure rfl (by exact congrArg AV.bool (fin _ (by simp [e0, e1, e2, e3, e4, e5, e6, e7, e8, e9])))
         ·skip
          refine callAt_body (fn := Tryz.f11) (s0 := ⟨[0, 1, 2, 3, 4], [.agg C, .agg D, .undef, .undef, .undef], [], 80, ⟨0, [[]]⟩⟩) Tryz.func11 rfl rfl rfl ?_
          repeat apply wq
          refine wps_region callOK ?_
          simp [zS, hsg1, hsg2]
          repeat apply wq
          refine wps_region callOK ?_
          simp [zS, p0, q0, p1, q1, p2, q2, p3, q3, p4, q4, p5, q5, p6, q6, p7, q7, p8, q8, p9, q9, p10, q10, k1, k2, k3, k4, e0, e5, e6, e7, e8]
          repeat apply wq
          refine wps_ret ?_
          simp [retVal, Tryz.f11, oneOr, thenQ, blockQ]
          exact ends_pure rfl (by exact congrArg AV.bool (fin _ (by simp [e0, e1, e2, e3, e4, e5, e6, e7, e8])))
        ·skip
         refine callAt_body (fn := Tryz.f11) (s0 := ⟨[0, 1, 2, 3, 4], [.agg C, .agg D, .undef, .undef, .undef], [], 80, ⟨0, [[]]⟩⟩) Tryz.func11 rfl rfl rfl ?_
         repeat apply wq
         refine wps_region callOK ?_
         simp [zS, hsg1, hsg2]
         repeat apply wq
         refine wps_region callOK ?_
         simp [zS, p0, q0, p1, q1, p2, q2, p3, q3, p4, q4, p5, q5, p6, q6, p7, q7, p8, q8, p9, q9, p10, q10, k1, k2, k3, k4, e0, e5, e6, e7]
         repeat apply wq
         refine wps_ret ?_
         simp [retVal, Tryz.f11, oneOr, thenQ, blockQ]
         exact ends_pure rfl (by exact congrArg AV.bool (fin _ (by simp [e0, e1, e2, e3, e4, e5, e6, e7])))
       ·skip
        refine callAt_body (fn := Tryz.f11) (s0 := ⟨[0, 1, 2, 3, 4], [.agg C, .agg D, .undef, .undef, .undef], [], 80, ⟨0, [[]]⟩⟩) Tryz.func11 rfl rfl rfl ?_
        repeat apply wq
        refine wps_region callOK ?_
        simp [zS, hsg1, hsg2]
        repeat apply wq
        refine wps_region callOK ?_
        simp [zS, p0, q0, p1, q1, p2, q2, p3, q3, p4, q4, p5, q5, p6, q6, p7, q7, p8, q8, p9, q9, p10, q10, k1, k2, k3, k4, e0, e5, e6]
        repeat apply wq
        refine wps_ret ?_
        simp [retVal, Tryz.f11, oneOr, thenQ, blockQ]
        exact ends_pure rfl (by exact congrArg AV.bool (fin _ (by simp [e0, e1, e2, e3, e4, e5, e6])))
      ·skip
       refine callAt_body (fn := Tryz.f11) (s0 := ⟨[0, 1, 2, 3, 4], [.agg C, .agg D, .undef, .undef, .undef], [], 80, ⟨0, [[]]⟩⟩) Tryz.func11 rfl rfl rfl ?_
       repeat apply wq
       refine wps_region callOK ?_
       simp [zS, hsg1, hsg2]
       repeat apply wq
       refine wps_region callOK ?_
       simp [zS, p0, q0, p1, q1, p2, q2, p3, q3, p4, q4, p5, q5, p6, q6, p7, q7, p8, q8, p9, q9, p10, q10, k1, k2, k3, k4, e0, e5]
       repeat apply wq
       refine wps_ret ?_
       simp [retVal, Tryz.f11, oneOr, thenQ, blockQ]
       exact ends_pure rfl (by exact congrArg AV.bool (fin _ (by simp [e0, e1, e2, e3, e4, e5])))
     ·simp only [decide_eq_false e4] at k4
      refine callAt_body (fn := Tryz.f11) (s0 := ⟨[0, 1, 2, 3, 4], [.agg C, .agg D, .undef, .undef, .undef], [], 80, ⟨0, [[]]⟩⟩) Tryz.func11 rfl rfl rfl ?_
      repeat apply wq
      refine wps_region callOK ?_
      simp [zS, hsg1, hsg2]
      repeat apply wq
      refine wps_region callOK ?_
      simp [zS, p0, q0, p1, q1, p2, q2, p3, q3, p4, q4, p5, q5, p6, q6, p7, q7, p8, q8, p9, q9, p10, q10, k1, k2, k3, k4, e0]
      repeat apply wq
      refine wps_ret ?_
      simp [retVal, Tryz.f11, oneOr, thenQ, blockQ]
      exact ends_pure rfl (by exact congrArg AV.bool (fin _ (by simp [e0, e1, e2, e3, e4])))
    ·simp only [decide_eq_false e3] at k3
     refine callAt_body (fn := Tryz.f11) (s0 := ⟨[0, 1, 2, 3, 4], [.agg C, .agg D, .undef, .undef, .undef], [], 80, ⟨0, [[]]⟩⟩) Tryz.func11 rfl rfl rfl ?_
     repeat apply wq
     refine wps_region callOK ?_
     simp [zS, hsg1, hsg2]
     repeat apply wq
     refine wps_region callOK ?_
     simp [zS, p0, q0, p1, q1, p2, q2, p3, q3, p4, q4, p5, q5, p6, q6, p7, q7, p8, q8, p9, q9, p10, q10, k1, k2, k3, k4, e0]
     repeat apply wq
     refine wps_ret ?_
     simp [retVal, Tryz.f11, oneOr, thenQ, blockQ]
     exact ends_pure rfl (by exact congrArg AV.bool (fin _ (by simp [e0, e1, e2, e3])))
   ·simp only [decide_eq_false e2] at k2
    refine callAt_body (fn := Tryz.f11) (s0 := ⟨[0, 1, 2, 3, 4], [.agg C, .agg D, .undef, .undef, .undef], [], 80, ⟨0, [[]]⟩⟩) Tryz.func11 rfl rfl rfl ?_
    repeat apply wq
    refine wps_region callOK ?_
    simp [zS, hsg1, hsg2]
    repeat apply wq
    refine wps_region callOK ?_
    simp [zS, p0, q0, p1, q1, p2, q2, p3, q3, p4, q4, p5, q5, p6, q6, p7, q7, p8, q8, p9, q9, p10, q10, k1, k2, k3, k4, e0]
    repeat apply wq
    refine wps_ret ?_
    simp [retVal, Tryz.f11, oneOr, thenQ, blockQ]
    exact ends_pure rfl (by exact congrArg AV.bool (fin _ (by simp [e0, e1, e2])))
  ·simp only [decide_eq_false e1] at k1
   refine callAt_body (fn := Tryz.f11) (s0 := ⟨[0, 1, 2, 3, 4], [.agg C, .agg D, .undef, .undef, .undef], [], 80, ⟨0, [[]]⟩⟩) Tryz.func11 rfl rfl rfl ?_
   repeat apply wq
   refine wps_region callOK ?_
   simp [zS, hsg1, hsg2]
   repeat apply wq
   refine wps_region callOK ?_
   simp [zS, p0, q0, p1, q1, p2, q2, p3, q3, p4, q4, p5, q5, p6, q6, p7, q7, p8, q8, p9, q9, p10, q10, k1, k2, k3, k4, e0]
   repeat apply wq
   refine wps_ret ?_
   simp [retVal, Tryz.f11, oneOr, thenQ, blockQ]
   exact ends_pure rfl (by exact congrArg AV.bool (fin _ (by simp [e0, e1])))
 ·skip
  refine callAt_body (fn := Tryz.f11) (s0 := ⟨[0, 1, 2, 3, 4], [.agg C, .agg D, .undef, .undef, .undef], [], 80, ⟨0, [[]]⟩⟩) Tryz.func11 rfl rfl rfl ?_
  repeat apply wq
  refine wps_region callOK ?_
  simp [zS, hsg1, hsg2]
  repeat apply wq
  refine wps_region callOK ?_
  simp [zS, p0, q0, p1, q1, p2, q2, p3, q3, p4, q4, p5, q5, p6, q6, p7, q7, p8, q8, p9, q9, p10, q10, k1, k2, k3, k4, e0]
  repeat apply wq
  refine wps_ret ?_
  simp [retVal, Tryz.f11, oneOr, thenQ, blockQ]
  exact ends_pure rfl (by exact congrArg AV.bool (fin _ (by simp [e0])))
theorem c12 {T : List (Entry Tryz.prog)} (hS : findE 34 T = some e34.g) (p q : PolR) (ok : PolOk p) : CallAt (ctx T) 12 [polA p, polA q] ⟨0, []⟩ (.bool (sameB p q)) ⟨0, []⟩ := by
 have hsg : ∀ p, allSingle (polC p) = true := fun p => by simp [polC, allSingle, AV.single]
 have hsg1 := hsg p
 have hsg2 := hsg q
 have p0 : getL (polC p) 0 = some (.str p.pre) := rfl
 have q0 : getL (polC q) 0 = some (.str q.pre) := rfl
 have p10 : getL (polC p) 10 = some (.bool p.unc) := rfl
 have q10 : getL (polC q) 10 = some (.bool q.unc) := rfl
 have oL : ∀ (p : PolR) (i : Nat) (h : i < 4), getL (polC p) (i + 1) = some (aStrs ((lsW p)[i]'h).2) := fun p i h => match i, h with
  | 0, _ => rfl
  | 1, _ => rfl
  | 2, _ => rfl
  | 3, _ => rfl
 have oN : ∀ (p : PolR) (i : Nat) (h : i < 5), getL (polC p) (i + 5) = some (.int .i64 ((nsW p)[i]'h).2) := fun p i h => match i, h with
  | 0, _ => rfl
  | 1, _ => rfl
  | 2, _ => rfl
  | 3, _ => rfl
  | 4, _ => rfl
 have aL : ∀ (p : PolR) (i : Nat) (h : i < 4), indexAddrA Tryz.prog 56 (listsF (polC p)) (.int .i64 (i : Int)) = some (.fptr [.fptr (polC p) (i + 1)] 0) := fun p i h => match i, h with
  | 0, _ => rfl
  | 1, _ => rfl
  | 2, _ => rfl
  | 3, _ => rfl
 have aN : ∀ (p : PolR) (i : Nat) (h : i < 5), indexAddrA Tryz.prog 60 (numsF (polC p)) (.int .i64 (i : Int)) = some (.fptr [.fptr (polC p) (i + 5)] 0) := fun p i h => match i, h with
  | 0, _ => rfl
  | 1, _ => rfl
  | 2, _ => rfl
  | 3, _ => rfl
  | 4, _ => rfl
 have hk : ∀ (i : Nat) (h : i < 4) H, callL (ctx T) (.fn 34) [aStrs ((lsW p)[i]'h).2, aStrs ((lsW q)[i]'h).2] H = some (.bool (decide (((lsW p)[i]'h).2 = ((lsW q)[i]'h).2)), H) := fun i h H => by
  refine k34 hS ?_ H
  have := ok.few
  match i, h with
  | 0, _ => show p.res.length ≤ _; omega
  | 1, _ => show p.els.length ≤ _; omega
  | 2, _ => show p.ats.length ≤ _; omega
  | 3, _ => show p.sch.length ≤ _; omega
 have lL : ∀ H, lenA Tryz.prog H 56 (listsF (polC p)) = some 4 := fun H => by simp [lenA, listsF]
 have lN : ∀ H, lenA Tryz.prog H 60 (numsF (polC p)) = some 5 := fun H => by simp [lenA, numsF]
 have hpC := pol_pureC p
 have hpD := pol_pureC q
 have fl1 : ∀ H, CallAt (ctx T) 27 [.fptr (polC p) 0] H (.tup [listsF (polC p), aStrs headsL]) H := (c27 (T := T) (polC p)).lift (by simp [pureL, pureV, hpC])
 have fn1 : ∀ H, CallAt (ctx T) 28 [.fptr (polC p) 0] H (.tup [numsF (polC p), aStrs namesL]) H := (c28 (T := T) (polC p)).lift (by simp [pureL, pureV, hpC])
 have fl2 : ∀ H, CallAt (ctx T) 27 [.fptr (polC q) 0] H (.tup [listsF (polC q), aStrs headsL]) H := (c27 (T := T) (polC q)).lift (by simp [pureL, pureV, hpD])
 have fn2 : ∀ H, CallAt (ctx T) 28 [.fptr (polC q) 0] H (.tup [numsF (polC q), aStrs namesL]) H := (c28 (T := T) (polC q)).lift (by simp [pureL, pureV, hpD])
 have pL1 : pureV (listsF (polC p)) = true := by simp [listsF, pureV, pureL, hpC]
 have pN1 : pureV (numsF (polC p)) = true := by simp [numsF, pureV, pureL, hpC]
 have pL2 : pureV (listsF (polC q)) = true := by simp [listsF, pureV, pureL, hpD]
 have pN2 : pureV (numsF (polC q)) = true := by simp [numsF, pureV, pureL, hpD]
 have oLp := oL p
 have oLq := oL q
 have oNp := oN p
 have oNq := oN q
 have aLp := aL p
 have aLq := aL q
 have aNp := aN p
 have aNq := aN q
 simp only [polA]
 clear oL oN aL aN hsg
 generalize polC p = C at *
 generalize polC q = D at *
 generalize listsF C = LC at *
 generalize listsF D = LD at *
 generalize numsF C = NC at *
 generalize numsF D = ND at *
 refine callAt_body (fn := Tryz.f12) (s0 := ⟨[0, 1, 2, 3, 4, 5, 7, 9, 10, 12, 14, 24, 25, 52, 53], [.agg C, .agg D, .undef, .undef, .undef, .undef, .undef, .undef, .undef, .undef, .undef, .undef, .undef, .undef, .undef], [], 82, ⟨0, [[]]⟩⟩) Tryz.func12 rfl rfl rfl ?_
 repeat apply wq
 refine wps_region callOK ?_
 simp [zS, hsg1, hsg2]
 repeat apply wq
 refine .fit [] [(0, C), (1, D)] (s' := (⟨[0, 1, 2, 3, 4, 5, 7, 9, 10, 12, 14, 24, 25, 52, 53], [.undef, .undef, .fptr C 0, .fptr D 0, .bool false, .undef, .undef, .undef, .undef, .undef, .undef, .undef, .undef, .undef, .undef], [], 82, ⟨0, [[]]⟩⟩ : St)) ⟨rfl, rfl, rfl, by simp [fitL, fitV, lookC, pureV], ⟨by simp, by simp, by simp [Heap.ents], by simp, by simp, Nat.zero_le _, by simp [Heap.ents], fun x hx => ?_⟩⟩ ?_
 ·simp at hx
  rcases hx with rfl | rfl
  ·exact ⟨C, by simp [Heap.get, getFs, getF], fitL_pure hpC, hpC⟩
  ·exact ⟨D, by simp [Heap.get, getFs, getF], fitL_pure hpD, hpD⟩
 repeat apply wq
 refine wps_region (callOKF [⟨27, _, _, _, _, fl1 ⟨0, [[]]⟩⟩]) ?_
 simp [zS, callF]
 repeat apply wq
 refine wps_region (callOKF [⟨27, _, _, _, _, fl2 ⟨0, [[]]⟩⟩]) ?_
 simp [zS, callF]
 repeat apply wq
 refine wps_region callOK ?_
 simp [zS, lL]
 repeat apply wq
 refine wps_block (wps_loop' (fun i : Nat => (⟨[0, 1, 2, 3, 4, 5, 7, 9, 10, 12, 14, 24, 25, 52, 53], [.undef, .undef, .fptr C 0, .fptr D 0, .bool false, LC, LD, .undef, .undef, .undef, .undef, .int .i64 4, .int .i64 (i : Int), .undef, .undef], [], 82, ⟨0, [[]]⟩⟩ : St))
  (fun i => i ≤ 4 ∧ ∀ (j : Nat) (h : j < 4), j < i → ((lsW p)[j]'h).2 = ((lsW q)[j]'h).2) (fun i => 4 - i) [] [] 0 ⟨Nat.zero_le _, fun j _ h => by omega⟩ ⟨rfl, rfl, rfl, by simp [fitL, fitV, pureV, pureL, hpC, hpD, fitV_pure pL1, fitV_pure pL2], FitH.nothing⟩ ?_)
 rintro i ⟨hi, ha⟩ B hB
 by_cases h : i < 4
 ·have hc : (i : Int) < 4 := by omega
  repeat apply wq
  refine wps_region callOK ?_
  simp [zS, hc]
  repeat apply wq
  refine wps_ct (by simp [opnd, St.get, zS, h]) ?_
  repeat apply wq
  refine wps_skip ?_
  simp
  repeat apply wq
  refine wps_block ?_
  have u1 := oLp i h
  have u2 := oLq i h
  have u3 := hk i h
  have hne : ¬ ((lsW p)[i]'h).2 = ((lsW q)[i]'h).2 → ¬ p = q := fun hn e => hn (by subst e; rfl)
  by_cases hx : ((lsW p)[i]'h).2 = ((lsW q)[i]'h).2
  ·have hxx := hx
   simp only [decide_eq_true hx] at u3
   generalize ((lsW p)[i]'h).2 = L at u1 u3 hx
   generalize ((lsW q)[i]'h).2 = M at u2 u3 hx
   repeat apply wq
   refine wps_region callOK ?_
   simp [zS]
   repeat apply wq
   refine wps_drawK mixed callOK (by decide +kernel) (by decide +kernel) ?_
   simp [zS, evalK_c, evalK_nil, thenK_some, aLp i h, aLq i h, u1, u2, u3]
   repeat apply wq
   refine wps_cf (by simp [opnd, St.get, zS]) ?_
   repeat apply wq
   refine wps_skip ?_
   simp
   repeat apply wq
   refine wps_region callOK ?_
   simp [zS, add_one (show i ≤ 1000000000 by omega)]
   refine hB _ (i + 1) (by omega) ⟨by omega, fun j h1 hj => ?_⟩ ⟨[], [], ⟨rfl, rfl, rfl, by simp [fitL, fitV, pureV, pureL, hpC, hpD, fitV_pure pL1, fitV_pure pL2], FitH.nothing⟩⟩
   by_cases he : j = i
   ·subst he; exact hxx
   ·exact ha j h1 (by omega)
  ·have hne := hne hx
   simp only [decide_eq_false hx] at u3
   generalize ((lsW p)[i]'h).2 = L at u1 u3 hx
   generalize ((lsW q)[i]'h).2 = M at u2 u3 hx
   repeat apply wq
   refine wps_region callOK ?_
   simp [zS]
   repeat apply wq
   refine wps_drawK mixed callOK (by decide +kernel) (by decide +kernel) ?_
   simp [zS, evalK_c, evalK_nil, thenK_some, aLp i h, aLq i h, u1, u2, u3]
   repeat apply wq
   refine wps_ct (by simp [opnd, St.get, zS]) ?_
   repeat apply wq
   refine wps_region callOK ?_
   simp [zS]
   repeat apply wq
   refine wps_ret ?_
   simp [retVal, Tryz.f12, oneOr, thenQ, blockQ]
   exact ends_pure rfl (by rw [sameB_f hne])
 ·have hc : ¬ (i : Int) < 4 := by omega
  have i4 : i = 4 := by omega
  repeat apply wq
  refine wps_region callOK ?_
  simp [zS, hc]
  repeat apply wq
  refine wps_cf (by simp [opnd, St.get, zS, h]) ?_
  repeat apply wq
  refine wps_exit ?_
  simp
  repeat apply wq
  refine wps_region (callOKF [⟨28, _, _, _, _, fn1 ⟨0, [[]]⟩⟩]) ?_
  simp [zS, callF]
  repeat apply wq
  refine wps_region (callOKF [⟨28, _, _, _, _, fn2 ⟨0, [[]]⟩⟩]) ?_
  simp [zS, callF]
  repeat apply wq
  refine wps_region callOK ?_
  simp [zS, lN]
  have hlists : ∀ (j : Nat) (h : j < 4), ((lsW p)[j]'h).2 = ((lsW q)[j]'h).2 := fun j hj => ha j hj (by omega)
  clear hB ha
  repeat apply wq
  refine wps_block (wps_loop' (fun i : Nat => (⟨[0, 1, 2, 3, 4, 5, 7, 9, 10, 12, 14, 24, 25, 52, 53], [.undef, .undef, .fptr C 0, .fptr D 0, .bool false, .undef, .undef, .undef, NC, ND, .undef, .undef, .undef, .int .i64 5, .int .i64 (i : Int)], [], 82, ⟨0, [[]]⟩⟩ : St))
   (fun i => i ≤ 5 ∧ ∀ (j : Nat) (h : j < 5), j < i → ((nsW p)[j]'h).2 = ((nsW q)[j]'h).2) (fun i => 5 - i) [] [] 0 ⟨Nat.zero_le _, fun j _ h => by omega⟩ ⟨rfl, rfl, rfl, by simp [fitL, fitV, pureV, pureL, hpC, hpD, fitV_pure pN1, fitV_pure pN2], FitH.nothing⟩ ?_)
  rintro i ⟨hi, ha⟩ B hB
  by_cases h : i < 5
  ·have hc : (i : Int) < 5 := by omega
   repeat apply wq
   refine wps_region callOK ?_
   simp [zS, hc]
   repeat apply wq
   refine wps_ct (by simp [opnd, St.get, zS, h]) ?_
   repeat apply wq
   refine wps_skip ?_
   simp
   repeat apply wq
   refine wps_block ?_
   have u1 := oNp i h
   have u2 := oNq i h
   have hne : ¬ ((nsW p)[i]'h).2 = ((nsW q)[i]'h).2 → ¬ p = q := fun hn e => hn (by subst e; rfl)
   by_cases hx : ((nsW p)[i]'h).2 = ((nsW q)[i]'h).2
   ·repeat apply wq
    refine wps_region callOK ?_
    simp [zS]
    repeat apply wq
    refine wps_drawK mixed callOK (by decide +kernel) (by decide +kernel) ?_
    simp [zS, evalK_c, evalK_nil, thenK_some, aNp i h, aNq i h, u1, u2, hx]
    repeat apply wq
    refine wps_cf (by simp [opnd, St.get, zS]) ?_
    repeat apply wq
    refine wps_skip ?_
    simp
    repeat apply wq
    refine wps_region callOK ?_
    simp [zS, add_one (show i ≤ 1000000000 by omega)]
    refine hB _ (i + 1) (by omega) ⟨by omega, fun j h1 hj => ?_⟩ ⟨[], [], ⟨rfl, rfl, rfl, by simp [fitL, fitV, pureV, pureL, hpC, hpD, fitV_pure pN1, fitV_pure pN2], FitH.nothing⟩⟩
    by_cases he : j = i
    ·subst he; exact hx
    ·exact ha j h1 (by omega)
   ·have hne := hne hx
    repeat apply wq
    refine wps_region callOK ?_
    simp [zS]
    repeat apply wq
    refine wps_drawK mixed callOK (by decide +kernel) (by decide +kernel) ?_
    simp [zS, evalK_c, evalK_nil, thenK_some, aNp i h, aNq i h, u1, u2, hx]
    repeat apply wq
    refine wps_ct (by simp [opnd, St.get, zS]) ?_
    repeat apply wq
    refine wps_region callOK ?_
    simp [zS]
    repeat apply wq
    refine wps_ret ?_
    simp [retVal, Tryz.f12, oneOr, thenQ, blockQ]
    exact ends_pure rfl (by rw [sameB_f hne])
  ·have hc : ¬ (i : Int) < 5 := by omega
   repeat apply wq
   refine wps_region callOK ?_
   simp [zS, hc]
   repeat apply wq
   refine wps_cf (by simp [opnd, St.get, zS, h]) ?_
   repeat apply wq
   refine wps_exit ?_
   simp
   have hnums : ∀ (j : Nat) (h : j < 5), ((nsW p)[j]'h).2 = ((nsW q)[j]'h).2 := fun j hj => ha j hj (by omega)
   have h1 : p.res = q.res := hlists 0 (by omega)
   have h2 : p.els = q.els := hlists 1 (by omega)
   have h3 : p.ats = q.ats := hlists 2 (by omega)
   have h4 : p.sch = q.sch := hlists 3 (by omega)
   have h5 : p.byt = q.byt := hnums 0 (by omega)
   have h6 : p.nod = q.nod := hnums 1 (by omega)
   have h7 : p.dep = q.dep := hnums 2 (by omega)
   have h8 : p.per = q.per := hnums 3 (by omega)
   have h9 : p.loo = q.loo := hnums 4 (by omega)
   by_cases e0 : p.pre = q.pre
   ·by_cases e10 : p.unc = q.unc
    ·have e : p = q := pol_ext e0 h1 h2 h3 h4 h5 h6 h7 h8 h9 e10
     repeat apply wq
     refine wps_region callOK ?_
     simp [zS, p0, q0, p10, q10, e0, e10]
     repeat apply wq
     refine wps_ret ?_
     simp [retVal, Tryz.f12, oneOr, thenQ, blockQ]
     exact ends_pure rfl (by rw [sameB_t e])
    ·have e : ¬ p = q := fun e => e10 (by rw [e])
     repeat apply wq
     refine wps_region callOK ?_
     simp [zS, p0, q0, p10, q10, e0, e10]
     repeat apply wq
     refine wps_ret ?_
     simp [retVal, Tryz.f12, oneOr, thenQ, blockQ]
     exact ends_pure rfl (by rw [sameB_f e]; simp [e10])
   ·have e : ¬ p = q := fun e => e0 (by rw [e])
    repeat apply wq
    refine wps_region callOK ?_
    simp [zS, p0, q0, p10, q10, e0]
    repeat apply wq
    refine wps_ret ?_
    simp [retVal, Tryz.f12, oneOr, thenQ, blockQ]
    exact ends_pure rfl (by rw [sameB_f e])
theorem lf_list {W : Str} (h : (wsplit W).all (fun y => !y.contains 10) = true) {x : Str} (hx : inW W x = true) : (10 : UInt8) ∉ x := by
 have h1 := List.all_eq_true.1 h x (by simpa [inW] using hx)
 simpa using h1
theorem lf_html : (wsplit lkHtml).all (fun y => !y.contains 10) = true := by decide +kernel
theorem lf_svg : (wsplit lkSvg).all (fun y => !y.contains 10) = true := by decide +kernel
theorem lf_math : (wsplit lkMath).all (fun y => !y.contains 10) = true := by decide +kernel
theorem lf_attr : (wsplit lkAttr).all (fun y => !y.contains 10) = true := by decide +kernel
theorem lf_known {sp : Int} {x : Str} (h : knownB sp x = true) : (10 : UInt8) ∉ x := by
 unfold knownB at h
 split at h
 ·exact lf_list lf_html h
 ·split at h
  ·exact lf_list lf_svg h
  ·split at h
   ·exact lf_list lf_math h
   ·cases h
theorem beg_app {s t : Str} (h : begB s t = true) : s = t ++ s.drop t.length := by
 unfold begB at h
 simp only [Bool.and_eq_true, decide_eq_true_eq] at h
 conv => lhs; rw [← List.take_append_drop t.length s, h.2]
theorem lf_key {x : Str} (h : knownK x = true) : (10 : UInt8) ∉ x := by
 unfold knownK splitV at h
 split at h
 ·rename_i hb
  have e := beg_app hb
  have h1 := lf_known h
  rw [e]
  simp only [List.mem_append, not_or]
  exact ⟨by decide, h1⟩
 ·split at h
  ·rename_i hb
   have e := beg_app hb
   have h1 := lf_known h
   rw [e]
   simp only [List.mem_append, not_or]
   exact ⟨by decide, h1⟩
  ·exact lf_known h
theorem sch_go {s : Str} : ∀ (k i : Nat), schGo s k i = true → ∀ j, j < k → smallN (cN s (i + j)) = true ∨ schN (cN s (i + j)) = true
 | 0, _, _, j, h => absurd h (Nat.not_lt_zero j)
 | k + 1, i, h, j, hj => by
  simp only [schGo, Bool.and_eq_true, Bool.or_eq_true] at h
  cases j with
  | zero => rcases h.1 with h1 | h1 <;> simp [h1]
  | succ j =>
   have := sch_go k (i + 1) h.2 j (by omega)
   rwa [show i + 1 + j = i + (j + 1) by omega] at this
theorem lf_sch {x : Str} (h : schemeB x = true) : (10 : UInt8) ∉ x := by
 simp only [schemeB, Bool.and_eq_true] at h
 intro hx
 obtain ⟨i, hi, he⟩ := List.mem_iff_getElem.1 hx
 have := sch_go x.length 0 h.1 i hi
 have e : cN x (0 + i) = 10 := by
  unfold cN
  rw [Nat.zero_add, List.getD_eq_getElem?_getD, List.getElem?_eq_getElem hi, Option.getD_some, he]
  rfl
 rw [e] at this
 revert this
 decide
theorem check_lf {p : PolR} (h : checkB p = true) : NoLf p := by
 simp only [checkB, listsB, allB, prefixB, Bool.and_eq_true, List.all_eq_true, decide_eq_true_eq] at h
 obtain ⟨_, ⟨h0, _⟩, ⟨_, h1⟩, ⟨_, h2⟩, ⟨_, h3⟩, ⟨_, h4⟩⟩ := h
 refine ⟨fun hx => ?_, fun x hx hm => ?_, fun x hx => lf_key (h2 x hx), fun x hx => lf_list lf_attr (h3 x hx), fun x hx => lf_sch (h4 x hx)⟩
 ·unfold lettersB at h0
  have := List.all_eq_true.1 h0 10 hx
  revert this; decide
 ·have hr := h1 x hx
  simp only [reservedB, Bool.and_eq_true] at hr
  have hh := hr.2.2.1
  have : hasB lowN x = true := by
   unfold hasB
   exact List.any_eq_true.2 ⟨10, hm, by decide⟩
  rw [this] at hh
  cases hh
section
variable {num : Str → Int} {G : Str → PolR → PolR} (R : Reads num G)
include R
theorem Reads.back {p : PolR} (h : checkB p = true) : G (printV p) pol0 = p := by
 unfold printV
 rw [if_pos h]
 exact R.text p (check_num h) (check_lf h)
theorem Reads.same {num' : Str → Int} {G' : Str → PolR → PolR} (R' : Reads num' G') (s : Str) : parsA (G s pol0) s = parsA (G' s pol0) s := by
 by_cases hp : ∃ p, checkB p = true ∧ printV p = s
 ·obtain ⟨p, h1, h2⟩ := hp
  have e := R.back h1
  have e' := R'.back h1
  rw [h2] at e e'
  rw [e, e']
 ·have key : ∀ q : PolR, s = [] ∨ printV q ≠ s := fun q => by
   by_cases hs : s = []
   ·exact .inl hs
   ·refine .inr fun hq => ?_
    by_cases hc : checkB q = true
    ·exact hp ⟨q, hc, hq⟩
    ·unfold printV at hq
     rw [if_neg hc] at hq
     exact hs hq.symm
  unfold parsA
  rw [if_pos (key _), if_pos (key _)]
theorem Reads.valid {p : PolR} (h : checkB p = true) : parsA (G (printV p) pol0) (printV p) = .tup [polA p, .int .i64 0] := by
 rw [R.back h]
 unfold parsA
 have hne : printV p ≠ [] := by
  unfold printV
  rw [if_pos h]
  simp [textP, headT, lineP]
 rw [if_neg (by simp [hne])]
end
theorem pars_or (s : Str) : (∃ p, checkB p = true ∧ printV p = s ∧ s ≠ [] ∧ parsA (progP s pol0) s = .tup [polA p, .int .i64 0] ∧ progP s pol0 = p) ∨ parsA (progP s pol0) s = .tup [polA pol0, .int .i64 8] := by
 unfold parsA
 by_cases h : s = [] ∨ printV (progP s pol0) ≠ s
 ·rw [if_pos h]; exact .inr rfl
 ·rw [if_neg h]
  simp only [not_or, Decidable.not_not] at h
  refine .inl ⟨_, ?_, h.2, h.1, rfl, rfl⟩
  have h2 := h.2
  unfold printV at h2
  split at h2
  ·assumption
  ·exact absurd h2.symm h.1
theorem plain_text {p : PolR} (h : plainP p = true) : (printV p).length ≤ 100000 := by
 unfold printV
 split
 ·rename_i hk
  have few := check_few hk
  have hn := tail_len (check_num hk)
  simp only [plainP, Bool.and_eq_true, decide_eq_true_eq] at h
  obtain ⟨h0, h1, h2, h3, h4⟩ := h
  have wl : ∀ {L : List Str}, wordsB L 250 = true → ∀ s, s ∈ L → s.length ≤ 100 := fun {L} h s hs => by
   simp only [wordsB, Bool.and_eq_true, decide_eq_true_eq, List.all_eq_true] at h
   exact h.2 s hs
  have s1 := linesP_len jReserved p.res 100 (wl h1)
  have s2 := linesP_len jElem p.els 100 (wl h2)
  have s3 := linesP_len jAttr p.ats 100 (wl h3)
  have s4 := linesP_len jScheme p.sch 100 (wl h4)
  obtain ⟨f1, f2, f3, f4⟩ := few
  have l1 : jReserved.length = 8 := rfl
  have l2 : jElem.length = 4 := rfl
  have l3 : jAttr.length = 4 := rfl
  have l4 : jScheme.length = 6 := rfl
  have l0 : jPrefix.length = 6 := rfl
  rw [l1] at s1; rw [l2] at s2; rw [l3] at s3; rw [l4] at s4
  have g1 := Nat.mul_le_mul_right (8 + 100 + 2) f1
  have g2 := Nat.mul_le_mul_right (4 + 100 + 2) f2
  have g3 := Nat.mul_le_mul_right (4 + 100 + 2) f3
  have g4 := Nat.mul_le_mul_right (6 + 100 + 2) f4
  simp only [textP, headT, List.length_append, lineP_len, l0]
  omega
 ·simp
noncomputable def e11 : Entry Tryz.prog := mkE 11 [[], []] (fun x : PolR × PolR => [polA x.1, polA x.2]) (fun x => PolOk x.1) (fun x => .bool (sameB x.1 x.2)) fun x h => c11 (T := [e33]) rfl x.1 x.2 h
theorem inj_pol2 (x y : PolR × PolR) (h : [polA x.1, polA x.2] = [polA y.1, polA y.2]) : x = y := by
 simp only [List.cons.injEq, and_true] at h
 exact Prod.ext (inj_pol1 _ _ (by rw [h.1])) (inj_pol1 _ _ (by rw [h.2]))
theorem k11 {T : List (Entry Tryz.prog)} (hT : findE 11 T = some e11.g) {p : PolR} (ok : PolOk p) (q : PolR) (H : Heap) : callL (ctx T) (.fn 11) [polA p, polA q] H = some (.bool (sameB p q), H) :=
 mkE_scalar hT inj_pol2 (p, q) ok rfl (by simp [thawA_pol])
noncomputable def e12 : Entry Tryz.prog := mkE 12 [[], []] (fun x : PolR × PolR => [polA x.1, polA x.2]) (fun x => PolOk x.1) (fun x => .bool (sameB x.1 x.2)) fun x h => c12 (T := [e34]) rfl x.1 x.2 h
theorem k12 {T : List (Entry Tryz.prog)} (hT : findE 12 T = some e12.g) {p : PolR} (ok : PolOk p) (q : PolR) (H : Heap) : callL (ctx T) (.fn 12) [polA p, polA q] H = some (.bool (sameB p q), H) :=
 mkE_scalar hT inj_pol2 (p, q) ok rfl (by simp [thawA_pol])
noncomputable def e7 : Entry Tryz.prog := mkE 7 [[]] (fun x : Str => [.str x]) (fun x => x.length ≤ 100000) (fun x => parsA (progP x pol0) x) fun x h =>
 c7 (T := [e45, e46, e20, e19, e42, e9]) (take21 rfl rfl) rfl rfl rfl rfl x h
theorem k7 {T : List (Entry Tryz.prog)} (hT : findE 7 T = some e7.g) {s : Str} (h : s.length ≤ 100000) (H : Heap) : callL (ctx T) (.fn 7) [.str s] H = some (parsA (progP s pol0) s, H) :=
 mkE_pure hT inj_str1 s h rfl (by simp) H
noncomputable def e8 : Entry Tryz.prog := mkE 8 [[]] (fun x : Str => [.str x]) (fun x => x.length ≤ 100000) (fun x => parsA (progP x pol0) x) fun x h => by
 have := c8 (T := [e47, e10]) rfl rfl x (by omega)
 have e : (refS numR x x.length).q = refP x pol0 := by unfold refS refP; rw [List.take_length]
 rw [e, reads_ref.same reads_prog] at this
 exact this
theorem k8 {T : List (Entry Tryz.prog)} (hT : findE 8 T = some e8.g) {s : Str} (h : s.length ≤ 100000) (H : Heap) : callL (ctx T) (.fn 8) [.str s] H = some (parsA (progP s pol0) s, H) :=
 mkE_pure hT inj_str1 s h rfl (by simp) H
def usualP : PolR := ⟨[117, 99], [wConfig, wAdmin, wLocation], elemsU, wsplit lkAttr, [wHttp, wHttps, wMailto], 65536, 4096, 256, 50, 3, false⟩
theorem polU_usual : polU [117, 99] = polA usualP := rfl
theorem usual_check : checkB usualP = true := by decide +kernel
theorem usual_plain : plainP usualP = true := by decide +kernel
theorem usual_ok : PolOk usualP := plain_ok usual_plain
def jHead : Str := [112, 114, 101, 102, 105, 120, 32, 117, 99, 10, 114, 101, 115, 101, 114, 118, 101, 100, 32, 99, 111, 110, 102, 105, 103, 10]
def jTail : Str := [117, 110, 99, 104, 97, 110, 103, 101, 100, 32, 110, 111, 10]
def jBad : Str := [112, 114, 101, 102, 105, 120, 32, 117, 99, 10]
theorem beg_self (a b : Str) : begB (a ++ b) a = true := by simp [begB]
theorem suf_self (a b : Str) : sufB (a ++ b) b = true := by simp [sufB]
theorem usual_head : begB (printV usualP) jHead = true := by
 have e : printV usualP = jHead ++ (linesP jReserved [wAdmin, wLocation] ++ (linesP jElem usualP.els ++ (linesP jAttr usualP.ats ++ linesP jScheme usualP.sch)) ++ tailT usualP) := by
  unfold printV
  rw [if_pos usual_check]
  simp [textP, headT, lineP, linesP, usualP, jHead, jPrefix, jReserved, wConfig]
 rw [e]
 exact beg_self _ _
theorem usual_tail : sufB (printV usualP) jTail = true := by
 have e : printV usualP = (headT usualP ++ (lineP jBytes (Lib.itoa usualP.byt) ++ (lineP jNodes (Lib.itoa usualP.nod) ++ (lineP jDeep (Lib.itoa usualP.dep) ++ (lineP jAttrs (Lib.itoa usualP.per) ++ lineP jLookups (Lib.itoa usualP.loo)))))) ++ jTail := by
  unfold printV
  rw [if_pos usual_check]
  have : lineP jUnchanged (yesNo usualP.unc) = jTail := rfl
  simp [textP, tailT, this]
 rw [e]
 exact suf_self _ _
theorem bad_pars : parsA (progP jBad pol0) jBad = .tup [polA pol0, .int .i64 8] := by
 have e : progP jBad pol0 = { pol0 with pre := [117, 99] } := by
  have h := reads_prog.line jPrefix [117, 99] [] pol0 (by decide) (by decide) (by decide)
  rw [reads_prog.nil] at h
  exact h
 rw [e]
 have hc : checkB { pol0 with pre := [117, 99] } = false := by decide +kernel
 have hp : printV { pol0 with pre := [117, 99] } = [] := by unfold printV; rw [if_neg (by rw [hc]; decide)]
 unfold parsA
 rw [hp, if_pos (.inr (by decide))]
theorem c6 {T : List (Entry Tryz.prog)} (h1 : findE 15 T = some e15.g) (h2 : findE 9 T = some e9.g) (h3 : findE 7 T = some e7.g) (h4 : findE 16 T = some e16.g)
  (h5 : findE 17 T = some e17.g) (h6 : findE 11 T = some e11.g) (h7 : findE 12 T = some e12.g) : CallAt (ctx T) 6 [] ⟨0, []⟩ (.bool true) ⟨0, []⟩ := by
 have hlen : (printV usualP).length ≤ 100000 := plain_text usual_plain
 have ku := fun H => k15 h1 H
 have kp := fun H => k9 h2 usual_ok H
 have kq := fun H => k7 h3 hlen H
 have kb := fun H => k7 h3 (s := jBad) (by decide) H
 have kh := fun H => k16 h4 (printV usualP) jHead H
 have kt := fun H => k17 h5 (printV usualP) jTail (by omega) H
 have ks := fun H => k11 h6 usual_ok usualP H
 have km := fun H => k12 h7 usual_ok usualP H
 rw [reads_prog.valid usual_check] at kq
 simp only [bad_pars] at kb
 simp only [usual_head] at kh
 simp only [usual_tail] at kt
 simp only [sameB_t (rfl : usualP = usualP)] at ks km
 rw [polU_usual] at ku
 have hsub : subL 0 11 (polC usualP) = some (polC usualP) := rfl
 have hsubZ : subL 0 11 (polC pol0) = some (polC pol0) := rfl
 have hsg : allSingle (polC usualP) = true := by simp [polC, allSingle, AV.single]
 have hsgZ : allSingle (polC pol0) = true := by simp [polC, allSingle, AV.single]
 have hrf : (polC usualP).flatMap (refs 6) = [] := by simp [polC, refs]
 have hrfZ : (polC pol0).flatMap (refs 6) = [] := by simp [polC, refs]
 have hl11 : (polC usualP).length = 11 := rfl
 have hl11Z : (polC pol0).length = 11 := rfl
 have hly : layL (polC usualP) 0 Z0 = some (polC usualP) := rfl
 have hlyZ : layL (polC pol0) 0 Z0 = some (polC pol0) := rfl
 simp only [polA] at ku kp kq kb ks km
 simp only [jHead] at kh
 simp only [jTail] at kt
 simp only [jBad] at kb
 generalize printV usualP = S at *
 generalize polC usualP = U at *
 generalize polC pol0 = V at *
 refine callAt_body (fn := Tryz.f6) (s0 := ⟨[0, 1, 2, 3, 4, 6], [.undef, .undef, .undef, .undef, .undef, .undef], [], 43, ⟨0, [[]]⟩⟩) Tryz.func6 rfl rfl rfl ?_
 repeat apply wq
 refine wps_region callOK ?_
 simp [zS]
 repeat apply wq
 refine wps_region callOK ?_
 simp [zS, ku, hl11, hsg, hly, hrf]
 repeat apply wq
 refine wps_region callOK ?_
 simp [zS, hsub, kp]
 repeat apply wq
 refine wps_region callOK ?_
 simp [zS, kq, hl11, hsg, hly, hrf]
 repeat apply wq
 refine wps_region callOK ?_
 simp [zS, kb, hl11Z, hsgZ, hlyZ, hrfZ]
 repeat apply wq
 refine wps_region callOK ?_
 simp [zS, kh, kt, hsub, ks, km]
 repeat apply wq
 refine wps_ret ?_
 simp [retVal, Tryz.f6, oneOr, thenQ, blockQ]
 exact ends_pure rfl (by rfl)
noncomputable def e6 : Entry Tryz.prog := mkE 6 [] (fun _ : Unit => []) (fun _ => True) (fun _ => .bool true) fun _ _ => c6 (T := [e15, e9, e7, e16, e17, e11, e12]) rfl rfl rfl rfl rfl rfl rfl
theorem k6 {T : List (Entry Tryz.prog)} (hT : findE 6 T = some e6.g) (H : Heap) : callL (ctx T) (.fn 6) [] H = some (.bool true, H) :=
 mkE_scalar hT (fun _ _ _ => rfl) () trivial rfl (by simp)
theorem pars_ok {s : Str} (hs : s.length ≤ 100000) : ∃ x e, parsA (progP s pol0) s = .tup [polA x, .int .i64 e] ∧ PolOk x ∧ (e = 0 → checkB x = true ∧ printV x = s) := by
 rcases pars_or s with ⟨p, h1, h2, h3, h4, h5⟩ | h
 ·have hf := progGo_few s.length s pol0 s.length (few0.mono (by omega)) (Nat.le_refl _)
  refine ⟨p, 0, h4, ?_, fun _ => ⟨h1, h2⟩⟩
  rw [← h5]
  exact hf.ok (by omega)
 ·exact ⟨pol0, 8, h, few0.ok (by omega), fun h => by cases h⟩
theorem c3 {T : List (Entry Tryz.prog)} (hA : findE 6 T = some e6.g) (h1 : findE 5 T = some e5.g) (h2 : findE 9 T = some e9.g) (h3 : findE 7 T = some e7.g)
  (h4 : findE 10 T = some e10.g) (h5 : findE 8 T = some e8.g) (h6 : findE 11 T = some e11.g) (h7 : findE 12 T = some e12.g) (p q : PolR) (s : Str) :
  CallAt (ctx T) 3 [polA p, polA q, .str s] ⟨0, []⟩ (.bool true) ⟨0, []⟩ := by
 have ka := fun H => k6 hA H
 have kp := fun H => k5 h1 p H
 have kq := fun H => k5 h1 q H
 have hsubp : subL 0 11 (polC p) = some (polC p) := rfl
 have hsubq : subL 0 11 (polC q) = some (polC q) := rfl
 have hsg : ∀ p, allSingle (polC p) = true := fun p => by simp [polC, allSingle, AV.single]
 have hsg1 := hsg p
 have hsg2 := hsg q
 by_cases hp : plainP p = true
 ·rw [hp] at kp
  by_cases hq : plainP q = true
  ·rw [hq] at kq
   by_cases hs : s.length ≤ 3000
   ·have hn : ¬ (3000 : Int) < (s.length : Int) := by omega
    have hn' : ¬ 3000 < s.length := by omega
    have okp := plain_ok hp
    have okq := plain_ok hq
    obtain ⟨x, e, hx, okx, _⟩ := pars_ok (s := s) (by omega)
    have k1 := fun H => k9 h2 okp H
    have k2 := fun H => k10 h4 okp H
    have k3 := fun H => k7 h3 (s := s) (by omega) H
    have k4 := fun H => k8 h5 (s := s) (by omega) H
    have k5 := fun H => k11 h6 okx x H
    have k6 := fun H => k11 h6 okp q H
    have k7 := fun H => k12 h7 okp q H
    rw [hx] at k3 k4
    simp only [sameB_t (rfl : x = x)] at k5
    have hsubx : subL 0 11 (polC x) = some (polC x) := rfl
    have hsgx := hsg x
    have hrf : (polC x).flatMap (refs 6) = [] := by simp [polC, refs]
    have hl11 : (polC x).length = 11 := rfl
    have hly : layL (polC x) 0 Z0 = some (polC x) := rfl
    simp only [polA] at kp kq k1 k2 k3 k4 k5 k6 k7 ⊢
    clear hsg okp okq okx hx hp hq
    generalize printV p = S at *
    generalize sameB p q = b at *
    generalize polC p = C at *
    generalize polC q = D at *
    generalize polC x = X at *
    refine callAt_body (fn := Tryz.f3) (s0 := ⟨[0, 1, 2, 3, 4, 6, 7, 8, 9, 10], [.agg C, .agg D, .str s, .undef, .undef, .undef, .undef, .undef, .undef, .undef], [], 62, ⟨0, [[]]⟩⟩) Tryz.func3 rfl rfl rfl ?_
    repeat apply wq
    refine wps_region callOK ?_
    simp [zS, hsg1, hsg2]
    repeat apply wq
    refine wps_region callOK ?_
    simp [zS, hsubp, hsubq, kp, kq, hn, hn']
    repeat apply wq
    refine wps_cf (by simp [opnd, St.get, zS, hn, hn']) ?_
    repeat apply wq
    refine wps_skip ?_
    simp
    repeat apply wq
    refine wps_region callOK ?_
    simp [zS, k3, hl11, hsgx, hly, hrf]
    repeat apply wq
    refine wps_region callOK ?_
    simp [zS, k4, hl11, hsgx, hly, hrf]
    repeat apply wq
    refine wps_drawK mixed callOK (by decide +kernel) (by decide +kernel) ?_
    simp [zS, evalK_c, evalK_nil, thenK_some, hsubp, hsubq, hsubx, k1, k2, k5, k6, k7, ka]
    repeat apply wq
    refine wps_ret ?_
    simp [retVal, Tryz.f3, oneOr, thenQ, blockQ]
    exact ends_pure rfl (by rfl)
   ·have hn : (3000 : Int) < (s.length : Int) := by omega
    have hn' : 3000 < s.length := by omega
    simp only [polA] at kp kq ⊢
    generalize polC p = C at *
    generalize polC q = D at *
    refine callAt_body (fn := Tryz.f3) (s0 := ⟨[0, 1, 2, 3, 4, 6, 7, 8, 9, 10], [.agg C, .agg D, .str s, .undef, .undef, .undef, .undef, .undef, .undef, .undef], [], 62, ⟨0, [[]]⟩⟩) Tryz.func3 rfl rfl rfl ?_
    repeat apply wq
    refine wps_region callOK ?_
    simp [zS, hsg1, hsg2]
    repeat apply wq
    refine wps_region callOK ?_
    simp [zS, hsubp, hsubq, kp, kq, hn, hn']
    repeat apply wq
    refine wps_ct (by simp [opnd, St.get, zS, hn, hn']) ?_
    repeat apply wq
    refine wps_region callOK ?_
    simp [zS, ka]
    repeat apply wq
    refine wps_ret ?_
    simp [retVal, Tryz.f3, oneOr, thenQ, blockQ]
    exact ends_pure rfl (by rfl)
  ·have hq : plainP q = false := by simpa using hq
   rw [hq] at kq
   simp only [polA] at kp kq ⊢
   generalize polC p = C at *
   generalize polC q = D at *
   refine callAt_body (fn := Tryz.f3) (s0 := ⟨[0, 1, 2, 3, 4, 6, 7, 8, 9, 10], [.agg C, .agg D, .str s, .undef, .undef, .undef, .undef, .undef, .undef, .undef], [], 62, ⟨0, [[]]⟩⟩) Tryz.func3 rfl rfl rfl ?_
   repeat apply wq
   refine wps_region callOK ?_
   simp [zS, hsg1, hsg2]
   repeat apply wq
   refine wps_region callOK ?_
   simp [zS, hsubp, hsubq, kp, kq]
   repeat apply wq
   refine wps_ct (by simp [opnd, St.get, zS]) ?_
   repeat apply wq
   refine wps_region callOK ?_
   simp [zS, ka]
   repeat apply wq
   refine wps_ret ?_
   simp [retVal, Tryz.f3, oneOr, thenQ, blockQ]
   exact ends_pure rfl (by rfl)
 ·have hp : plainP p = false := by simpa using hp
  rw [hp] at kp
  simp only [polA] at kp ⊢
  generalize polC p = C at *
  generalize polC q = D at *
  refine callAt_body (fn := Tryz.f3) (s0 := ⟨[0, 1, 2, 3, 4, 6, 7, 8, 9, 10], [.agg C, .agg D, .str s, .undef, .undef, .undef, .undef, .undef, .undef, .undef], [], 62, ⟨0, [[]]⟩⟩) Tryz.func3 rfl rfl rfl ?_
  repeat apply wq
  refine wps_region callOK ?_
  simp [zS, hsg1, hsg2]
  repeat apply wq
  refine wps_region callOK ?_
  simp [zS, hsubp, hsubq, kp]
  repeat apply wq
  refine wps_ct (by simp [opnd, St.get, zS]) ?_
  repeat apply wq
  refine wps_region callOK ?_
  simp [zS, ka]
  repeat apply wq
  refine wps_ret ?_
  simp [retVal, Tryz.f3, oneOr, thenQ, blockQ]
  exact ends_pure rfl (by rfl)
theorem c4 {T : List (Entry Tryz.prog)} (hA : findE 6 T = some e6.g) (h1 : findE 5 T = some e5.g) (h2 : findE 9 T = some e9.g) (h3 : findE 7 T = some e7.g)
  (h4 : findE 13 T = some e13.g) (h6 : findE 11 T = some e11.g) (p : PolR) (s : Str) :
  CallAt (ctx T) 4 [polA p, .str s] ⟨0, []⟩ (.bool true) ⟨0, []⟩ := by
 have ka := fun H => k6 hA H
 have kp := fun H => k5 h1 p H
 have hsubp : subL 0 11 (polC p) = some (polC p) := rfl
 have hsg : ∀ p, allSingle (polC p) = true := fun p => by simp [polC, allSingle, AV.single]
 have hsg1 := hsg p
 by_cases hp : plainP p = true
 ·rw [hp] at kp
  by_cases hs : s.length ≤ 3000
  ·have hn : ¬ (3000 : Int) < (s.length : Int) := by omega
   have hn' : ¬ 3000 < s.length := by omega
   have okp := plain_ok hp
   obtain ⟨x, e, hx, okx, hex⟩ := pars_ok (s := s) (by omega)
   have k1 := fun H => k9 h2 okp H
   have k2 := fun H => k9 h2 okx H
   have k3 := fun H => k7 h3 (s := s) (by omega) H
   have k4 := fun H => k13 h4 okp H
   have k5 := fun H => k13 h4 okx H
   have k6 := fun H => k11 h6 okp p H
   have k7 := fun H => k7 h3 (plain_text hp) H
   rw [hx] at k3
   simp only [sameB_t (rfl : p = p)] at k6
   have hsubx : subL 0 11 (polC x) = some (polC x) := rfl
   have hsgx := hsg x
   have hrf : (polC x).flatMap (refs 6) = [] := by simp [polC, refs]
   have hl11 : (polC x).length = 11 := rfl
   have hly : layL (polC x) 0 Z0 = some (polC x) := rfl
   have hrfp : (polC p).flatMap (refs 6) = [] := by simp [polC, refs]
   have hl11p : (polC p).length = 11 := rfl
   have hlyp : layL (polC p) 0 Z0 = some (polC p) := rfl
   have ck : ∀ p : PolR, checkB p = true → checkV p = .int .i64 0 := fun p h => by unfold checkV; rw [if_pos h]
   have cn : ∀ p : PolR, ¬ checkB p = true → checkV p = .int .i64 2 := fun p h => by unfold checkV; rw [if_neg h]
   have pn : ∀ p : PolR, ¬ checkB p = true → printV p = [] := fun p h => by unfold printV; rw [if_neg h]
   have hv : ∀ h : checkB p = true, parsA (progP (printV p) pol0) (printV p) = .tup [polA p, .int .i64 0] := fun h => reads_prog.valid h
   by_cases hc : checkB p = true
   ·simp only [ck p hc] at k4
    rw [hv hc] at k7
    by_cases he : e = 0
    ·obtain ⟨x1, x2⟩ := hex he
     simp only [ck x x1] at k5
     simp only [x2] at k2
     subst he
     simp only [polA] at kp k1 k2 k3 k4 k5 k6 k7 ⊢
     clear ck cn pn hv hex hx okx okp x1 x2 hc hsg hp
     generalize printV p = S at *
     generalize polC p = C at *
     generalize polC x = X at *
     refine callAt_body (fn := Tryz.f4) (s0 := ⟨[0, 1, 2, 4, 5, 6, 7, 8, 9], [.agg C, .str s, .undef, .undef, .undef, .undef, .undef, .undef, .undef], [], 62, ⟨0, [[]]⟩⟩) Tryz.func4 rfl rfl rfl ?_
     repeat apply wq
     refine wps_region callOK ?_
     simp [zS, hsg1]
     repeat apply wq
     refine wps_region callOK ?_
     simp [zS, hsubp, kp, hn, hn']
     repeat apply wq
     refine wps_cf (by simp [opnd, St.get, zS, hn, hn']) ?_
     repeat apply wq
     refine wps_skip ?_
     simp
     repeat apply wq
     refine wps_region callOK ?_
     simp [zS, k3, hl11, hsgx, hly, hrf]
     repeat apply wq
     refine wps_region callOK ?_
     simp [zS, hsubx, k2, k5]
     repeat apply wq
     refine wps_cf (by simp [opnd, St.get, zS]) ?_
     repeat apply wq
     refine wps_skip ?_
     simp
     repeat apply wq
     refine wps_region callOK ?_
     simp [zS, hsubp, k1]
     repeat apply wq
     refine wps_region callOK ?_
     simp [zS, hsubp, k4]
     repeat apply wq
     refine wps_cf (by simp [opnd, St.get, zS]) ?_
     repeat apply wq
     refine wps_skip ?_
     simp
     repeat apply wq
     refine wps_region callOK ?_
     simp [zS, k7, hl11p, hsg1, hlyp, hrfp]
     repeat apply wq
     refine wps_region callOK ?_
     simp [zS, hsubp, k6, ka]
     repeat apply wq
     refine wps_ret ?_
     simp [retVal, Tryz.f4, oneOr, thenQ, blockQ]
     exact ends_pure rfl (by rfl)
    ·simp only [polA] at kp k1 k2 k3 k4 k5 k6 k7 ⊢
     clear ck cn pn hv hex hx okx okp hc hsg hp
     generalize printV p = S at *
     generalize polC p = C at *
     generalize polC x = X at *
     refine callAt_body (fn := Tryz.f4) (s0 := ⟨[0, 1, 2, 4, 5, 6, 7, 8, 9], [.agg C, .str s, .undef, .undef, .undef, .undef, .undef, .undef, .undef], [], 62, ⟨0, [[]]⟩⟩) Tryz.func4 rfl rfl rfl ?_
     repeat apply wq
     refine wps_region callOK ?_
     simp [zS, hsg1]
     repeat apply wq
     refine wps_region callOK ?_
     simp [zS, hsubp, kp, hn, hn']
     repeat apply wq
     refine wps_cf (by simp [opnd, St.get, zS, hn, hn']) ?_
     repeat apply wq
     refine wps_skip ?_
     simp
     repeat apply wq
     refine wps_region callOK ?_
     simp [zS, k3, hl11, hsgx, hly, hrf]
     repeat apply wq
     refine wps_region callOK ?_
     simp [zS, he]
     repeat apply wq
     refine wps_cf (by simp [opnd, St.get, zS, he]) ?_
     repeat apply wq
     refine wps_skip ?_
     simp
     repeat apply wq
     refine wps_region callOK ?_
     simp [zS, hsubp, k1]
     repeat apply wq
     refine wps_region callOK ?_
     simp [zS, hsubp, k4]
     repeat apply wq
     refine wps_cf (by simp [opnd, St.get, zS]) ?_
     repeat apply wq
     refine wps_skip ?_
     simp
     repeat apply wq
     refine wps_region callOK ?_
     simp [zS, k7, hl11p, hsg1, hlyp, hrfp]
     repeat apply wq
     refine wps_region callOK ?_
     simp [zS, hsubp, k6, ka]
     repeat apply wq
     refine wps_ret ?_
     simp [retVal, Tryz.f4, oneOr, thenQ, blockQ]
     exact ends_pure rfl (by rfl)
   ·simp only [cn p hc] at k4
    simp only [pn p hc] at k1
    by_cases he : e = 0
    ·obtain ⟨x1, x2⟩ := hex he
     simp only [ck x x1] at k5
     simp only [x2] at k2
     subst he
     simp only [polA] at kp k1 k2 k3 k4 k5 k6 ⊢
     clear ck cn pn hv hex hx okx okp x1 x2 hc hsg hp k7
     generalize polC p = C at *
     generalize polC x = X at *
     refine callAt_body (fn := Tryz.f4) (s0 := ⟨[0, 1, 2, 4, 5, 6, 7, 8, 9], [.agg C, .str s, .undef, .undef, .undef, .undef, .undef, .undef, .undef], [], 62, ⟨0, [[]]⟩⟩) Tryz.func4 rfl rfl rfl ?_
     repeat apply wq
     refine wps_region callOK ?_
     simp [zS, hsg1]
     repeat apply wq
     refine wps_region callOK ?_
     simp [zS, hsubp, kp, hn, hn']
     repeat apply wq
     refine wps_cf (by simp [opnd, St.get, zS, hn, hn']) ?_
     repeat apply wq
     refine wps_skip ?_
     simp
     repeat apply wq
     refine wps_region callOK ?_
     simp [zS, k3, hl11, hsgx, hly, hrf]
     repeat apply wq
     refine wps_region callOK ?_
     simp [zS, hsubx, k2, k5]
     repeat apply wq
     refine wps_cf (by simp [opnd, St.get, zS]) ?_
     repeat apply wq
     refine wps_skip ?_
     simp
     repeat apply wq
     refine wps_region callOK ?_
     simp [zS, hsubp, k1]
     repeat apply wq
     refine wps_region callOK ?_
     simp [zS, hsubp, k4]
     repeat apply wq
     refine wps_ct (by simp [opnd, St.get, zS]) ?_
     repeat apply wq
     refine wps_region callOK ?_
     simp [zS, ka]
     repeat apply wq
     refine wps_ret ?_
     simp [retVal, Tryz.f4, oneOr, thenQ, blockQ]
     exact ends_pure rfl (by rfl)
    ·simp only [polA] at kp k1 k2 k3 k4 k5 k6 ⊢
     clear ck cn pn hv hex hx okx okp hc hsg hp k7
     generalize polC p = C at *
     generalize polC x = X at *
     refine callAt_body (fn := Tryz.f4) (s0 := ⟨[0, 1, 2, 4, 5, 6, 7, 8, 9], [.agg C, .str s, .undef, .undef, .undef, .undef, .undef, .undef, .undef], [], 62, ⟨0, [[]]⟩⟩) Tryz.func4 rfl rfl rfl ?_
     repeat apply wq
     refine wps_region callOK ?_
     simp [zS, hsg1]
     repeat apply wq
     refine wps_region callOK ?_
     simp [zS, hsubp, kp, hn, hn']
     repeat apply wq
     refine wps_cf (by simp [opnd, St.get, zS, hn, hn']) ?_
     repeat apply wq
     refine wps_skip ?_
     simp
     repeat apply wq
     refine wps_region callOK ?_
     simp [zS, k3, hl11, hsgx, hly, hrf]
     repeat apply wq
     refine wps_region callOK ?_
     simp [zS, he]
     repeat apply wq
     refine wps_cf (by simp [opnd, St.get, zS, he]) ?_
     repeat apply wq
     refine wps_skip ?_
     simp
     repeat apply wq
     refine wps_region callOK ?_
     simp [zS, hsubp, k1]
     repeat apply wq
     refine wps_region callOK ?_
     simp [zS, hsubp, k4]
     repeat apply wq
     refine wps_ct (by simp [opnd, St.get, zS]) ?_
     repeat apply wq
     refine wps_region callOK ?_
     simp [zS, ka]
     repeat apply wq
     refine wps_ret ?_
     simp [retVal, Tryz.f4, oneOr, thenQ, blockQ]
     exact ends_pure rfl (by rfl)
  ·have hn : (3000 : Int) < (s.length : Int) := by omega
   have hn' : 3000 < s.length := by omega
   simp only [polA] at kp ⊢
   generalize polC p = C at *
   refine callAt_body (fn := Tryz.f4) (s0 := ⟨[0, 1, 2, 4, 5, 6, 7, 8, 9], [.agg C, .str s, .undef, .undef, .undef, .undef, .undef, .undef, .undef], [], 62, ⟨0, [[]]⟩⟩) Tryz.func4 rfl rfl rfl ?_
   repeat apply wq
   refine wps_region callOK ?_
   simp [zS, hsg1]
   repeat apply wq
   refine wps_region callOK ?_
   simp [zS, hsubp, kp, hn, hn']
   repeat apply wq
   refine wps_ct (by simp [opnd, St.get, zS, hn, hn']) ?_
   repeat apply wq
   refine wps_region callOK ?_
   simp [zS, ka]
   repeat apply wq
   refine wps_ret ?_
   simp [retVal, Tryz.f4, oneOr, thenQ, blockQ]
   exact ends_pure rfl (by rfl)
 ·have hp : plainP p = false := by simpa using hp
  rw [hp] at kp
  simp only [polA] at kp ⊢
  generalize polC p = C at *
  refine callAt_body (fn := Tryz.f4) (s0 := ⟨[0, 1, 2, 4, 5, 6, 7, 8, 9], [.agg C, .str s, .undef, .undef, .undef, .undef, .undef, .undef, .undef], [], 62, ⟨0, [[]]⟩⟩) Tryz.func4 rfl rfl rfl ?_
  repeat apply wq
  refine wps_region callOK ?_
  simp [zS, hsg1]
  repeat apply wq
  refine wps_region callOK ?_
  simp [zS, hsubp, kp]
  repeat apply wq
  refine wps_ct (by simp [opnd, St.get, zS]) ?_
  repeat apply wq
  refine wps_region callOK ?_
  simp [zS, ka]
  repeat apply wq
  refine wps_ret ?_
  simp [retVal, Tryz.f4, oneOr, thenQ, blockQ]
  exact ends_pure rfl (by rfl)
end Go.Proofs.YtfncefamflainaaGreatDoor
namespace Go.Proofs.YtfncefamflainaaGreatDoor
set_option linter.unusedSimpArgs false
set_option linter.unusedVariables false
open Go Go.RowKit Go.ChangeShapes Go.WideShapes Go.ChangeAt
set_option maxRecDepth 100000
theorem own_ : ownKnob Tryz.prog.godebug = none := by kernel_rfl
theorem laid_ : laidOutB Tryz.prog = true := by kernel_rfl
abbrev laid5 : List (String × DataW Unit) := [("math/bits.deBruijn32tab", Rows.laid_math_bits_deBruijn32tab), ("math/bits.deBruijn64tab", Rows.laid_math_bits_deBruijn64tab), ("internal/strconv.uint64pow10", Rows.laid_internal_strconv_uint64pow10), ("unicode/utf8.acceptRanges", Rows.laid_unicode_utf8_acceptRanges), ("strconv.ErrRange", Rows.laid_strconv_ErrRange), ("strconv.ErrSyntax", Rows.laid_strconv_ErrSyntax), ("unicode/utf8.first", Rows.laid_unicode_utf8_first)]
theorem first_data : (Rows.laid_unicode_utf8_first : DataW Unit) = Lib.tabData .u8 utfFirst := by kernel_rfl
theorem accept_data : (Rows.laid_unicode_utf8_acceptRanges : DataW Unit) = .agg ((List.range 16).map fun i => .agg ([utfAcc.getD (2 * i) 0, utfAcc.getD (2 * i + 1) 0].map fun z => .lit (.int .u8 z))) := by kernel_rfl
theorem acc_len : utfAcc.length = 32 := by decide +kernel
theorem gFirst : Tryz.prog.globalNamed "unicode/utf8.first" = some (1) := by kernel_rfl
theorem gAcc : Tryz.prog.globalNamed "unicode/utf8.acceptRanges" = some (2) := by kernel_rfl
theorem tFirst : (Tryz.prog.globals[1]?).map (·.type) = some 104 := by kernel_rfl
theorem tAcc : (Tryz.prog.globals[2]?).map (·.type) = some 107 := by kernel_rfl
theorem cells_u8 : Tryz.prog.cellsOf 5 = 1 := by kernel_rfl
theorem cells_256 : Tryz.prog.cellsOf 104 = 256 := by kernel_rfl
theorem cells_acc : Tryz.prog.cellsOf 106 = 2 := by kernel_rfl
theorem pins_met {W : World} (hL : laidMetH Tryz.prog laid5 W) : ∀ x, x ∈ pins → ∀ i n, x.2[i]? = some n → W.cell? ⟨x.1, i, none⟩ = some (.int .u8 n) := by
 rw [MakeChecks.laidMetH_plain _ _ _ (by kernel_rfl)] at hL
 have r1 := Lib.laidMet.reads hL (n := "unicode/utf8.first") (d := Rows.laid_unicode_utf8_first) (by simp)
 have r2 := Lib.laidMet.reads hL (n := "unicode/utf8.acceptRanges") (d := Rows.laid_unicode_utf8_acceptRanges) (by simp)
 rw [first_data] at r1
 rw [accept_data] at r2
 intro x hx i n hn
 simp only [pins, List.mem_cons, List.not_mem_nil, or_false] at hx
 rcases hx with rfl | rfl
 ·obtain ⟨g, t, cs, fuel, p, hg, hty, hvar, hd⟩ := r1
  obtain rfl := Option.some.inj (gFirst.symm.trans hg)
  obtain rfl := Option.some.inj (tFirst.symm.trans hty)
  have hcs := Lib.cells_of_tab Tryz.underlying104 Tryz.underlying5 cells_u8 cells_256 hd
  rw [World.var?_cell hg hvar i, ← Array.getElem?_toList, hcs, List.getElem?_map, hn]
  rfl
 ·obtain ⟨g, t, cs, fuel, p, hg, hty, hvar, hd⟩ := r2
  obtain rfl := Option.some.inj (gAcc.symm.trans hg)
  obtain rfl := Option.some.inj (tAcc.symm.trans hty)
  have hi : i < 32 := by
   have := (List.getElem?_eq_some_iff.1 hn).1
   rw [acc_len] at this; exact this
  obtain ⟨fuel', d, q, hdi, he⟩ := Lib.array_elem Tryz.underlying107 hd (i / 2) (by omega)
  simp only [List.getElem?_map, List.getElem?_range (show i / 2 < 16 by omega), Option.map_some, Option.some.injEq] at hdi
  subst hdi
  rw [cells_acc] at he
  have hcs := Lib.ints_of_struct Tryz.underlying106 (fun j f hj => by
   match j, hj with
   | 0, hj => simp at hj; subst hj; exact ⟨Tryz.underlying5, rfl, cells_u8⟩
   | 1, hj => simp at hj; subst hj; exact ⟨Tryz.underlying5, rfl, cells_u8⟩
   | j + 2, hj => simp at hj) (by rw [cells_acc]; rfl) he
  have hn' : utfAcc.getD i 0 = n := by simp [List.getD_eq_getElem?_getD, hn]
  rw [World.var?_cell hg hvar i, ← Array.getElem?_toList]
  rcases Nat.mod_two_eq_zero_or_one i with h2 | h2
  ·have e0 := congrArg (·[0]?) hcs
   simp only [List.getElem?_take, List.getElem?_drop] at e0
   have hidx : i / 2 * 2 + 0 = i := by omega
   have hidx2 : 2 * (i / 2) = i := by omega
   rw [hidx] at e0
   simpa [hidx2, hn', ← List.getD_eq_getElem?_getD] using e0
  ·have e1 := congrArg (·[1]?) hcs
   simp only [List.getElem?_take, List.getElem?_drop] at e1
   have hidx : i / 2 * 2 + 1 = i := by omega
   have hidx2 : 2 * (i / 2) + 1 = i := by omega
   rw [hidx] at e1
   simpa [hidx2, hn', ← List.getD_eq_getElem?_getD] using e1
theorem pow_data : (Rows.laid_internal_strconv_uint64pow10 : DataW Unit) = Lib.tabData .u64 p10 := by kernel_rfl
theorem gPow : Tryz.prog.globalNamed "internal/strconv.uint64pow10" = some (5) := by kernel_rfl
theorem tPow : (Tryz.prog.globals[5]?).map (·.type) = some 135 := by kernel_rfl
theorem cells_u64 : Tryz.prog.cellsOf 113 = 1 := by kernel_rfl
theorem cells_20 : Tryz.prog.cellsOf 135 = 20 := by kernel_rfl
theorem starE : "*" ++ "errors.errorString" = "*errors.errorString" := by decide
theorem rowE (u : TypeId) (h : Tryz.prog.typeName? 3 u = some "*errors.errorString") : u = 141 :=
 typeName_ptr_named (nm := "errors.errorString") (by rw [starE]; kernel_rfl) (by kernel_rfl) (by decide) u (by rw [starE]; exact h)
theorem gRange : Tryz.prog.globalNamed "strconv.ErrRange" = some (4) := by kernel_rfl
theorem gSyntax : Tryz.prog.globalNamed "strconv.ErrSyntax" = some (3) := by kernel_rfl
theorem tRange : (Tryz.prog.globals[4]?).map (·.type) = some 51 := by kernel_rfl
theorem tSyntax : (Tryz.prog.globals[3]?).map (·.type) = some 51 := by kernel_rfl
theorem cellsES : Tryz.prog.cellsOf 143 = 1 := by kernel_rfl
theorem cells_str1 : Tryz.prog.cellsOf 9 = 1 := by kernel_rfl
theorem if_of_var {W : World} {n : String} {g : Nat} {t : TypeId} {p : Value} (hg : Tryz.prog.globalNamed n = some g) (h : W.var? Tryz.prog n = some #[.iface t p]) : ∃ v, W.cell? ⟨g, 0, none⟩ = some v ∧ isIf v := by
 have := World.var?_cell hg h 0
 exact ⟨_, by simpa using this, .inr ⟨_, _, rfl⟩⟩
theorem tabs_met {W : World} (hL : laidMetH Tryz.prog laid5 W) : ∀ x, x ∈ tabs → ∃ t fz, W.heap[x.1]? = some (.cells (x.2.2.map (Value.int x.2.1)).toArray t fz) := by
 rw [MakeChecks.laidMetH_plain _ _ _ (by kernel_rfl)] at hL
 have r := Lib.laidMet.reads hL (n := "internal/strconv.uint64pow10") (d := Rows.laid_internal_strconv_uint64pow10) (by simp)
 rw [pow_data] at r
 intro x hx
 simp only [tabs, List.mem_cons, List.not_mem_nil, or_false] at hx
 subst hx
 obtain ⟨g, t, cs, fuel, p, hg, hty, hvar, hd⟩ := r
 obtain rfl := Option.some.inj (gPow.symm.trans hg)
 obtain rfl := Option.some.inj (tPow.symm.trans hty)
 have hcs := Lib.cells_of_tab Tryz.underlying135 Tryz.underlying113 cells_u64 cells_20 hd
 simp only [World.var?, gPow, Option.bind_some] at hvar
 split at hvar
 ·rename_i cs' t' fz' hh
  simp only [Option.some.injEq] at hvar
  subst hvar
  refine ⟨t', fz', ?_⟩
  rw [hh]
  congr 2
  rw [← hcs]
 ·cases hvar
theorem hgs {W : World} (hsh : W.ShapedOpen Tryz.prog) (hL : laidMetH Tryz.prog laid5 W) : GlobsIn W where
 gl := by
  intro g h
  simp [globs] at h
  subst h
  exact cell_of_shapedOpen_int (P := Tryz.prog) (g := 0) (t := 3) (zero := #[.int .i64 0]) hsh (of_decide_eq_true (by kernel_rfl)) (by kernel_rfl) rfl (by kernel_rfl) (by kernel_rfl) Tryz.underlying3
 gi := by
  intro g h
  rw [MakeChecks.laidMetH_plain _ _ _ (by kernel_rfl)] at hL
  have h3 := hL.tail.tail.tail.tail
  obtain ⟨a0, s0, hv0, _⟩ := laid_sentinel h3 gRange tRange Tryz.underlying51 rowE Tryz.underlying141 Tryz.underlying143 rfl rfl Tryz.underlying9 cellsES cells_str1
  obtain ⟨a1, s1, hv1, _⟩ := laid_sentinel h3.tail gSyntax tSyntax Tryz.underlying51 rowE Tryz.underlying141 Tryz.underlying143 rfl rfl Tryz.underlying9 cellsES cells_str1
  simp [ivars] at h
  rcases h with rfl | rfl
  ·exact if_of_var gSyntax hv1
  ·exact if_of_var gRange hv0
 gp := pins_met hL
 gx := tabs_met hL
noncomputable def doorW (os : Os) : World :=
 let w0 := World.doorLaid Tryz.prog 4000 os
 { w0 with heap := w0.heap.modify 1 fun
  | .cells _ t frozen => .cells (Lib.firstTab.map fun z => Value.int .u8 z).toArray t frozen
  | o => o }
theorem door_met (os : Os) (args : Array Value) : laidMetH Tryz.prog laid5 ((doorW os).forCall (fun _ _ => 0) ⟨#[], args, []⟩).memory :=
 laidMetH_of_parts3 (fuel := 8) (laidMet_of_run' 8 (by kernel_rfl) (by kernel_rfl)) (by kernel_rfl) (by kernel_rfl)
theorem door_shaped (os : Os) (args : Array Value) : ((doorW os).forCall (fun _ _ => 0) ⟨#[], args, []⟩).Shaped Tryz.prog := World.shaped_of_RefB (by kernel_rfl) (by kernel_rfl)
theorem returns_and_shaped {H : Type} {enc : TypeId × Value → H} {a : Assume} {C : Checked} {os : Os} {f : FuncId} {fn : Func} {s : ChangeSpec} {conds : List PathCond} {apart fresh handsOn again : Bool} {X : World → Array Value → Prop}
  (hX : ∀ (w w' : World) (args : Array Value), w.heap = w'.heap → X w args → X w' args)
  (own : ownKnob C.prog.godebug = none) (started : os.Started) (noInit : C.prog.inits.idxOf? f = none) (hfn : C.prog.funcs[f]? = some fn)
  (witness : ∃ (w : World) (tape : Tape) (i : Input), w.os = os ∧ (w.forCall tape i).Shaped C.prog ∧ i.vars = [] ∧ Input.okWide C.prog (w.forCall tape i) .any w.heap.size f i ∧
   ((s.pre enc C.prog fn conds apart (w.forCall tape i).memory i.args ∧ X (w.forCall tape i).memory i.args) ∧ sizedMet enc C.prog fn (OpenSpec.ofChange s) apart (w.forCall tape i).memory i.args) ∧ a.holds C.prog (lone (Frame.enter C.prog f i.args .normal) [] (w.forCall tape i)))
  (contract : ∀ (W : World) (base : Nat) (args : Array Value) (ds gs : List (DataW H)) (before : List MemPlace),
   (∀ (j : Nat) t v, fn.params[j]? = some t → args[j]? = some v → Value.okWide C.prog W .any base t v) →
   DataW.Whole enc C.prog fn.params.toList s.vars apart W args.toList ds gs before → W.ShapedOpen C.prog → X W args →
   Calls C.prog f args W fun e W' => ∃ v, e = .returned v ∧ s.post enc C.prog fn apart fresh handsOn again W args v W') :
  ReturnsInHanded a C os f .any (fun w args => (s.pre enc C.prog fn conds apart w args ∧ X w args) ∧ sizedMet enc C.prog fn (OpenSpec.ofChange s) apart w args) (s.post enc C.prog fn apart fresh handsOn again) := by
 refine returnsInHanded_of_calls own started noInit witness ?_
 intro w tape i _ hsh _ hok hpre hholds
 obtain ⟨_, _, _, fn', hfn', _, _, _, _, hval⟩ := hok
 have e : fn' = fn := Option.some.inj (hfn'.symm.trans hfn)
 subst e
 obtain ⟨⟨⟨ds, gs, before, hw, hc⟩, hx⟩, hz⟩ := hpre
 have hw' := DataW.Whole.of_heap (w' := w.forCall tape i) (by rfl) hw
 refine (contract (w.forCall tape i) w.heap.size i.args ds gs before hval hw' hsh (hX _ _ _ (by rfl) hx)).mono fun e W' ⟨v, he, hp⟩ => ?_
 subst he
 exact ChangeSpec.post_blind hp
section
variable {W : World} {hg : GlobsIn W}
theorem vr_str (s : ByteArray) : VR (start W hg) (.str s.data.toList) (.string s) := by
 have := VR.str (ρ := start W hg) s.data.toList
 rwa [Array.toArray_toList] at this
end
theorem shp_slice {α : Type} {n : Nat} {t e : TypeId} {enc : α → AV} {ag : Bool} (hu : Tryz.prog.underlying t = some (.slice e)) (hag : aggT Tryz.prog e = some ag) (h : ∀ cs x, ShapeT Tryz.prog n e cs → wrapA ag cs = some x → ∃ a, x = enc a) {qs : List AV} (hs : ShapeT Tryz.prog (n + 1) t qs) :
  ∃ L : List α, qs = [.fslc (Tryz.prog.cellsOf e) (L.map enc)] := by
 unfold ShapeT at hs
 simp only [hu] at hs
 obtain ⟨es, rfl, _, hes⟩ := hs
 have key : ∀ l : List AV, (∀ x, x ∈ l → ∃ ag cs, aggT Tryz.prog e = some ag ∧ wrapA ag cs = some x ∧ ShapeT Tryz.prog n e cs) → ∃ L : List α, l = L.map enc := by
  intro l
  induction l with
  | nil => intro _; exact ⟨[], rfl⟩
  | cons x r ih =>
   intro hx
   obtain ⟨ag', cs, h1, h2, h3⟩ := hx x (by simp)
   rw [hag, Option.some.injEq] at h1
   subst h1
   obtain ⟨a, ha⟩ := h cs x h3 h2
   obtain ⟨L, hL⟩ := ih fun y hy => hx y (by simp [hy])
   exact ⟨a :: L, by rw [ha, hL]; rfl⟩
 obtain ⟨L, rfl⟩ := key es hes
 exact ⟨L, rfl⟩
theorem shp_str {n : Nat} {qs : List AV} (h : ShapeT Tryz.prog (n + 1) 9 qs) : ∃ s : Str, qs = [.str s] := by
 unfold ShapeT at h
 simp only [Tryz.underlying9] at h
 obtain ⟨s, rfl, _⟩ := h
 exact ⟨s, rfl⟩
theorem shp_int {n : Nat} {qs : List AV} (h : ShapeT Tryz.prog (n + 1) 3 qs) : ∃ i : Int, qs = [.int .i64 i] := by
 unfold ShapeT at h
 simp only [Tryz.underlying3] at h
 obtain ⟨s, rfl, _⟩ := h
 exact ⟨s, rfl⟩
theorem shp_bool {n : Nat} {qs : List AV} (h : ShapeT Tryz.prog (n + 1) 4 qs) : ∃ b : Bool, qs = [.bool b] := by
 unfold ShapeT at h
 simp only [Tryz.underlying4] at h
 exact h
theorem cells_strP : Tryz.prog.cellsOf 9 = 1 := by kernel_rfl
theorem shp_strs {n : Nat} {qs : List AV} (h : ShapeT Tryz.prog (n + 2) 22 qs) : ∃ L : List Str, qs = [aStrs L] := by
 obtain ⟨L, rfl⟩ := shp_slice (n := n + 1) (enc := AV.str) (ag := false) Tryz.underlying22 agT9 (fun cs x h hw => by
  obtain ⟨a, rfl⟩ := shp_str h
  simp only [wrapA, AV.single, Option.some.injEq] at hw
  exact ⟨a, hw.symm⟩) h
 exact ⟨L, by rw [cells_strP]⟩
theorem shp_policy {n : Nat} {qs : List AV} (h : ShapeT Tryz.prog (n + 3) 24 qs) : ∃ p : PolR, AV.agg qs = polA p := by
 unfold ShapeT at h
 simp only [Tryz.underlying24] at h
 obtain _ | ⟨_, _, _, _, h1, h⟩ := h
 obtain _ | ⟨_, _, _, _, h2, h⟩ := h
 obtain _ | ⟨_, _, _, _, h3, h⟩ := h
 obtain _ | ⟨_, _, _, _, h4, h⟩ := h
 obtain _ | ⟨_, _, _, _, h5, h⟩ := h
 obtain _ | ⟨_, _, _, _, h6, h⟩ := h
 obtain _ | ⟨_, _, _, _, h7, h⟩ := h
 obtain _ | ⟨_, _, _, _, h8, h⟩ := h
 obtain _ | ⟨_, _, _, _, h9, h⟩ := h
 obtain _ | ⟨_, _, _, _, h10, h⟩ := h
 obtain _ | ⟨_, _, _, _, h11, h⟩ := h
 cases h
 obtain ⟨x1, rfl⟩ := shp_str h1
 obtain ⟨x2, rfl⟩ := shp_strs (n := n) h2
 obtain ⟨x3, rfl⟩ := shp_strs (n := n) h3
 obtain ⟨x4, rfl⟩ := shp_strs (n := n) h4
 obtain ⟨x5, rfl⟩ := shp_strs (n := n) h5
 obtain ⟨x6, rfl⟩ := shp_int h6
 obtain ⟨x7, rfl⟩ := shp_int h7
 obtain ⟨x8, rfl⟩ := shp_int h8
 obtain ⟨x9, rfl⟩ := shp_int h9
 obtain ⟨x10, rfl⟩ := shp_int h10
 obtain ⟨x11, rfl⟩ := shp_bool h11
 exact ⟨⟨x1, x2, x3, x4, x5, x6, x7, x8, x9, x10, x11⟩, rfl⟩
theorem okPolicy : okTy Tryz.prog 5 24 = true := by kernel_rfl
section
variable {H : Type} {enc : TypeId × Value → H} {W : World} {hg : GlobsIn W}
theorem argPolicy {b0 base : Nat} {sp : Nat → Bool} {held : Bool} {v : Value} {d : DataW H} {ps : List MemPlace} (ht : DataW.Trod enc Tryz.prog W base sp held 24 v d ps) (hv : Value.okWide Tryz.prog W .any b0 24 v) : ∃ p, VR (start W hg) (polA p) v := by
 obtain ⟨qs, a, h1, h2, h3⟩ := arg_shape (hg := hg) okPolicy (ag := true) agT24 (fun h => by cases h) ht hv
 obtain ⟨x, hx⟩ := shp_policy (n := 2) h1
 have : a = polA x := by
  simp only [wrapA, Option.some.injEq] at h2
  rw [← h2, hx]
 exact ⟨x, this ▸ h3⟩
end
end Go.Proofs.YtfncefamflainaaGreatDoor