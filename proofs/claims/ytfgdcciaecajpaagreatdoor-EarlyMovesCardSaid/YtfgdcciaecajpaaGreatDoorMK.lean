/- A drawing region whose writes stand in one order with all that reads: run in its order. No condition. -/
import Derived.Test.YtfgdcciaecajpaaGreatDoorMH
import Derived.Test.YtfgdcciaecajpaaGreatDoorMG
import Derived.Test.YtfgdcciaecajpaaGreatDoorMF
import Derived.Test.YtfgdcciaecajpaaGreatDoorMJ
import Derived.Test.YtfgdcciaecajpaaGreatDoorMI
namespace Go.Proofs.YtfgdcciaecajpaaGreatDoor
set_option linter.unusedSimpArgs false
set_option linter.unusedVariables false
open Go Go.RowKit
set_option maxRecDepth 100000
@[simp] theorem szT21 : sizeT Tryz.prog 21 = some 1 := rfl
@[simp] theorem agT21 : aggT Tryz.prog 21 = some false := rfl
@[simp] theorem byT21 : bytesT Tryz.prog 21 = some 4 := rfl
@[simp] theorem alT21 (H : Heap) : alV Tryz.prog H 21 = some (.ptr H.n 0, H.new (.cells [.int .i32 0])) := rfl
@[simp] theorem zeT21 : zeroOf Tryz.prog 21 = some (.int .i32 0) := rfl
attribute [simp] Tryz.underlying21
@[simp 500] theorem rvF21 (H : Heap) (cs : List AV) (o : Nat) : readVar Tryz.prog H 21 (.fptr cs o) = getL cs o := rfl
@[simp 500] theorem rvP21 (H : Heap) (b o : Nat) : readVar Tryz.prog H 21 (.ptr b o) = (H.get b).bind fun k => k.rd.bind fun cs => getL cs o := rfl
@[simp] theorem szT132 : sizeT Tryz.prog 132 = some 1 := rfl
@[simp] theorem agT132 : aggT Tryz.prog 132 = some false := rfl
@[simp] theorem byT132 : bytesT Tryz.prog 132 = some 24 := rfl
@[simp] theorem alT132 (H : Heap) : alV Tryz.prog H 132 = some (.ptr H.n 0, H.new (.cells [.nilS])) := rfl
@[simp] theorem zeT132 : zeroOf Tryz.prog 132 = some (.nilS) := rfl
attribute [simp] Tryz.underlying132
@[simp 500] theorem rvF132 (H : Heap) (cs : List AV) (o : Nat) : readVar Tryz.prog H 132 (.fptr cs o) = getL cs o := rfl
@[simp 500] theorem rvP132 (H : Heap) (b o : Nat) : readVar Tryz.prog H 132 (.ptr b o) = (H.get b).bind fun k => k.rd.bind fun cs => getL cs o := rfl
@[simp] theorem slz132 (sz : Nat) (e : AV) (r : List AV) : binA Tryz.prog .eql 132 (.fslc sz (e :: r)) .nilS = some (.bool false) := rfl
@[simp] theorem sln132 (sz : Nat) (e : AV) (r : List AV) : binA Tryz.prog .neq 132 (.fslc sz (e :: r)) .nilS = some (.bool true) := rfl
@[simp] theorem slze132 : binA Tryz.prog .eql 132 .eslc .nilS = some (.bool false) := rfl
@[simp] theorem slzz132 : binA Tryz.prog .eql 132 .nilS .nilS = some (.bool true) := rfl
@[simp] theorem szT134 : sizeT Tryz.prog 134 = some 2 := rfl
@[simp] theorem agT134 : aggT Tryz.prog 134 = some true := rfl
@[simp] theorem byT134 : bytesT Tryz.prog 134 = some 16 := rfl
@[simp] theorem alT134 (H : Heap) : alV Tryz.prog H 134 = some (.ptr H.n 0, H.new (.cells [.int .i64 0, .int .i64 0])) := rfl
@[simp] theorem zeT134 : zeroOf Tryz.prog 134 = some (.agg [.int .i64 0, .int .i64 0]) := rfl
attribute [simp] Tryz.underlying134
@[simp 500] theorem rvF134 (H : Heap) (cs : List AV) (o : Nat) : readVar Tryz.prog H 134 (.fptr cs o) = (subL o 2 cs).bind fun cs => some (.agg cs) := rfl
@[simp 500] theorem rvP134 (H : Heap) (b o : Nat) : readVar Tryz.prog H 134 (.ptr b o) = (readCells H b o 2).bind fun cs => some (.agg cs) := rfl
@[simp] theorem fa134_0 (x : AV) : fieldAddrA Tryz.prog 134 x 0 = (match x with | .ptr b o => some (.ptr b (o + 0)) | .fptr cs o => some (.fptr cs (o + 0)) | _ => none) := rfl
@[simp] theorem fd134_0 (cs : List AV) : fieldA Tryz.prog 134 (.agg cs) 0 = getL cs 0 := rfl
@[simp] theorem fa134_1 (x : AV) : fieldAddrA Tryz.prog 134 x 1 = (match x with | .ptr b o => some (.ptr b (o + 1)) | .fptr cs o => some (.fptr cs (o + 1)) | _ => none) := rfl
@[simp] theorem fd134_1 (cs : List AV) : fieldA Tryz.prog 134 (.agg cs) 1 = getL cs 1 := rfl
theorem c99 {T : List (Entry Tryz.prog)} (hS : findE 68 T = some e68.g) (c : UInt8) (hc : c.toNat < 128) : CallAt (ctx T) 99 [.int .i32 (c.toNat : Int)] ⟨0, []⟩ (.bool (sp c)) ⟨0, []⟩ := by
 have ks := fun H => k68 hS c H
 have h1 : (c.toNat : Int) < 128 := by omega
 have hw : IntKind.u8.wrap (c.toNat : Int) = (c.toNat : Int) := by
  simp [IntKind.wrap, IntKind.signed, IntKind.bits]
  omega
 have hcv : ∀ H, convA Tryz.prog H 21 5 (.int .i32 (c.toNat : Int)) = some (.int .u8 (c.toNat : Int), H) := fun H => by simp [convA, hw]
 refine callAt_body (fn := Tryz.f99) (s0 := ⟨[0, 2], [.int .i32 (c.toNat : Int), .undef], [], 10, ⟨0, [[]]⟩⟩) Tryz.func99 rfl rfl rfl ?_
 repeat apply wq
 refine wps_region callOK ?_
 simp [zS]
 repeat apply wq
 refine wps_region callOK ?_
 simp [zS, h1, hcv, ks]
 repeat apply wq
 refine wps_ret ?_
 simp [retVal, Tryz.f99, oneOr, thenQ, blockQ]
 exact ends_pure rfl (by rfl)
def asciiB (s : Str) : Prop := ∀ c, c ∈ s → c.toNat < 128
theorem dec_ascii {s : Str} {i : Nat} (h : i < s.length) (hc : s[i].toNat < 128) : Utf8.decode ⟨s.toArray⟩ i = (s[i].toNat, 1) := by
 have h0 : (ByteArray.get! ⟨s.toArray⟩ (i + 0)).toNat = s[i].toNat := by
  show (s.toArray[i + 0]!).toNat = _
  simp [h]
 unfold Utf8.decode
 simp only [h0, hc, if_true]
def spnC (L : List (Nat × Nat)) : List AV := L.flatMap fun p => [.int .i64 (p.1 : Int), .int .i64 (p.2 : Int)]
def spn (p : Nat × Nat) : AV := .agg [.int .i64 (p.1 : Int), .int .i64 (p.2 : Int)]
def zeros (n : Nat) : List AV := List.replicate n (.int .i64 0)
def spV (n : Nat) : AV := if n ≤ 32 then .slc 0 0 n (.ex 32) else .slc 0 0 n (.rest 2)
def spB (L : List (Nat × Nat)) : List AV := if L.length ≤ 32 then spnC L ++ zeros (64 - 2 * L.length) else spnC L
theorem spnC_len (L : List (Nat × Nat)) : (spnC L).length = 2 * L.length := by
 induction L with
 | nil => rfl
 | cons a r ih => simp only [spnC, List.flatMap_cons, List.length_append, List.length_cons, List.length_nil] at ih ⊢; omega
theorem spnC_app (L : List (Nat × Nat)) (p : Nat × Nat) : spnC (L ++ [p]) = spnC L ++ [.int .i64 (p.1 : Int), .int .i64 (p.2 : Int)] := by simp [spnC]
theorem spnC_pure (L : List (Nat × Nat)) : pureL (spnC L) = true := by
 induction L with
 | nil => rfl
 | cons a r ih =>
  have : spnC (a :: r) = [.int .i64 (a.1 : Int), .int .i64 (a.2 : Int)] ++ spnC r := rfl
  rw [this, pureL_append, ih]; rfl
theorem zeros_pure (n : Nat) : pureL (zeros n) = true := by
 induction n with
 | zero => rfl
 | succ n ih => simp only [zeros, List.replicate_succ] at ih ⊢; simp [pureL, pureV, ih]
theorem spB_pure (L : List (Nat × Nat)) : pureL (spB L) = true := by
 unfold spB
 split
 ·rw [pureL_append, spnC_pure, zeros_pure]; rfl
 ·exact spnC_pure L
theorem flat_spn (L : List (Nat × Nat)) : flatAV (L.map spn) = spnC L := by
 induction L with
 | nil => rfl
 | cons a r ih => simp only [List.map_cons, flatAV, ih]; rfl
theorem el_spn (L : List (Nat × Nat)) : Elems 2 (L.map spn) := .map (sz := 2) (f := spn) (by decide) (fun x => ⟨rfl, rfl, fun h => absurd h (by decide), fun _ => ⟨_, rfl⟩⟩) L
theorem sub_spB (L : List (Nat × Nat)) : subL 0 (L.length * 2) (spB L) = some (spnC L) := by
 have h : (spnC L).length = L.length * 2 := by rw [spnC_len]; omega
 unfold spB
 split
 ·rw [subL_front (by simp; omega), List.drop_zero, List.take_append_of_le_length (by omega), List.take_of_length_le (by omega)]
 ·rw [subL_front (by omega), List.drop_zero, List.take_of_length_le (by omega)]
theorem app_sp {L : List (Nat × Nat)} {p : Nat × Nat} {I : Blk} (hl : L.length ≤ 1000000) :
  ∃ b m f, b ≠ 1 ∧ appendA Tryz.prog ⟨3, [[(2, .cells [.int .i64 (p.1 : Int), .int .i64 (p.2 : Int)]), (1, I), (0, .cells (spB L))]]⟩ 134 (spV L.length) (.slc 2 0 1 (.ex 1)) =
   some ((if L.length + 1 ≤ 32 then .slc b 0 (L.length + 1) (.ex 32) else .slc b 0 (L.length + 1) (.rest 2)), ⟨m, f⟩) ∧ Heap.get ⟨m, f⟩ 1 = some I ∧ Heap.get ⟨m, f⟩ b = some (.cells (spB (L ++ [p]))) := by
 have hcs : ∀ H : Heap, Heap.get H 2 = some (.cells [.int .i64 (p.1 : Int), .int .i64 (p.2 : Int)]) → srcCells H 2 1 (.slc 2 0 1 (.ex 1)) = some [.int .i64 (p.1 : Int), .int .i64 (p.2 : Int)] := fun H h => by
  simp [srcCells, readCells, h]
 have g0 : Heap.get ⟨3, [[(2, .cells [.int .i64 (p.1 : Int), .int .i64 (p.2 : Int)]), (1, I), (0, .cells (spB L))]]⟩ 0 = some (.cells (spB L)) := by simp [Heap.get, getFs, getF]
 have hsrc := hcs ⟨3, [[(2, .cells [.int .i64 (p.1 : Int), .int .i64 (p.2 : Int)]), (1, I), (0, .cells (spB L))]]⟩ (by simp [Heap.get, getFs, getF])
 have hroom : roomOK (L.length + 1) 16 = true := by unfold roomOK; rw [Nat.ble_eq]; omega
 have hrow : ∀ cs, rowA Tryz.prog 134 cs = .cells cs := fun cs => rfl
 have h64 : (spnC L).length = 2 * L.length := spnC_len L
 have hlen1 : (L ++ [p]).length = L.length + 1 := by simp
 by_cases h1 : L.length + 1 ≤ 32
 ·have hv : spV L.length = .slc 0 0 L.length (.ex 32) := by unfold spV; rw [if_pos (by omega)]
  have hb : Nat.ble (L.length + 1) 32 = true := by rw [Nat.ble_eq]; exact h1
  have hB : spB L = spnC L ++ zeros 2 ++ zeros (62 - 2 * L.length) := by
   unfold spB
   rw [if_pos (by omega), List.append_assoc]
   congr 1
   simp only [zeros]; rw [List.replicate_append_replicate]; congr 1; omega
  have hB2 : spB (L ++ [p]) = spnC L ++ [.int .i64 (p.1 : Int), .int .i64 (p.2 : Int)] ++ zeros (62 - 2 * L.length) := by
   unfold spB
   rw [hlen1, if_pos h1, spnC_app]
   congr 2
   omega
  have hlay : layL [.int .i64 (p.1 : Int), .int .i64 (p.2 : Int)] (0 + L.length * 2) (spB L) = some (spB (L ++ [p])) := by
   have := layL_app (a := spnC L) (b := zeros 2) (b' := [.int .i64 (p.1 : Int), .int .i64 (p.2 : Int)]) (c := zeros (62 - 2 * L.length)) rfl
   rw [h64] at this
   rw [hB, hB2, show 0 + L.length * 2 = 2 * L.length by omega, this]
  refine ⟨0, 3, [[(2, .cells [.int .i64 (p.1 : Int), .int .i64 (p.2 : Int)]), (1, I), (0, .cells (spB (L ++ [p])))]], by omega, ?_, by simp [Heap.get, getFs, getF], by simp [Heap.get, getFs, getF]⟩
  rw [if_pos h1, hv]
  unfold appendA
  simp only [szT134, byT134, zeT134, Option.bind_some, srcLen, hsrc, hroom, hb]
  simp only [writeCells, g0, Option.bind_some, Blk.wt, hlay, Blk.re]
  simp [Heap.ready, refs, Heap.set, setFs, setF, allSingle, AV.single]
  rfl
 ·have hB2 : spB (L ++ [p]) = spnC L ++ [.int .i64 (p.1 : Int), .int .i64 (p.2 : Int)] := by
   unfold spB
   rw [hlen1, if_neg h1, spnC_app]
  have hread : readCells ⟨3, [[(2, .cells [.int .i64 (p.1 : Int), .int .i64 (p.2 : Int)]), (1, I), (0, .cells (spB L))]]⟩ 0 0 (L.length * 2) = some (spnC L) := by
   unfold readCells
   simp only [g0, Option.bind_some, rd_cells]
   exact sub_spB L
  by_cases h2 : L.length = 32
  ·have hv : spV L.length = .slc 0 0 L.length (.ex 32) := by unfold spV; rw [if_pos (by omega)]
   have hb : Nat.ble (L.length + 1) 32 = false := by rw [← Bool.not_eq_true, Nat.ble_eq]; exact h1
   refine ⟨3, 4, [[(3, .cells (spB (L ++ [p]))), (2, .cells [.int .i64 (p.1 : Int), .int .i64 (p.2 : Int)]), (1, I), (0, .cells (spB L))]], by omega, ?_, by simp [Heap.get, getFs, getF], by simp [Heap.get, getFs, getF]⟩
   rw [if_neg h1, hv, hB2]
   unfold appendA
   simp only [szT134, byT134, zeT134, Option.bind_some, srcLen, hsrc, hroom, hb, hread, hrow]
   simp [Heap.new, pushF, allSingle, AV.single]
   rfl
  ·have hv : spV L.length = .slc 0 0 L.length (.rest 2) := by unfold spV; rw [if_neg (by omega)]
   have hB : spB L = spnC L := by unfold spB; rw [if_neg (by omega)]
   have hk : knownCells ⟨3, [[(2, .cells [.int .i64 (p.1 : Int), .int .i64 (p.2 : Int)]), (1, I), (0, .cells (spB L))]]⟩ 0 = some (2 * L.length) := by
    rw [knownCells, g0, hB]; simp [h64]
   have hb1 : Nat.ble (0 + (L.length + 1) * 2) (2 * L.length) = false := by rw [← Bool.not_eq_true, Nat.ble_eq]; omega
   have hb2 : Nat.beq (0 + L.length * 2) (2 * L.length) = true := by rw [show 0 + L.length * 2 = 2 * L.length by omega]; exact Nat.beq_refl _
   refine ⟨3, 4, [[(3, .cells (spB (L ++ [p]))), (2, .cells [.int .i64 (p.1 : Int), .int .i64 (p.2 : Int)]), (1, I)]], by omega, ?_, by simp [Heap.get, getFs, getF], by simp [Heap.get, getFs, getF]⟩
   rw [if_neg h1, hv, hB2]
   unfold appendA
   simp only [szT134, byT134, zeT134, Option.bind_some, srcLen, hsrc, hroom, hk, hb1, hb2, hread, g0, goOn_cells]
   simp [Heap.new, pushF, allSingle, AV.single, Heap.drop, killFs, getF, killF]
   rfl
def wordAt (s : Str) (p : Nat × Nat) : Str := (s.drop p.1).take (p.2 - p.1)
structure SpOk (s : Str) (i : Nat) (L : List (Nat × Nat)) (st : Int) : Prop where
 le : i ≤ s.length
 few : L.length ≤ i
 done : L.map (wordAt s) = (wst (s.take i)).1
 rng : ∀ p, p ∈ L → p.1 ≤ p.2 ∧ p.2 ≤ s.length
 lo : -1000001 ≤ st
 cur : (st < 0 ∧ (wst (s.take i)).2 = []) ∨ ∃ a : Nat, st = a ∧ a < i ∧ (wst (s.take i)).2 = wordAt s (a, i)
theorem fit_sp {H : Heap} {b j : Nat} {s : Str} {cs : List AV} (hb : b ≠ 1) (h1 : H.get 1 = some (.iter s j)) (h2 : H.get b = some (.cells cs)) (hp : pureL cs = true) : FitH 0 [(1, 1), (b, 0)] [] H ⟨2, [[(1, .iter s j), (0, .cells cs)]]⟩ where
 nd1 := by simp; omega
 nd2 := by simp
 nd3 := by simp [Heap.ents]
 lt := fun x hx => by simp at hx; rcases hx with rfl | rfl <;> simp
 idn := fun x hx h => by rcases h with h | h <;> exact absurd h (Nat.not_lt_zero _)
 num := Nat.zero_le _
 src := fun e he => by
  simp [Heap.ents] at he
  rcases he with rfl | rfl
  ·exact ⟨1, _, by simp, h1, by simp [fitB]⟩
  ·exact ⟨b, _, by simp, h2, fitL_pure hp⟩
 frz := fun x hx => by cases hx
theorem word_one {s : Str} {i : Nat} (h : i < s.length) : wordAt s (i, i + 1) = [s[i]] := by
 unfold wordAt
 simp only
 rw [List.drop_eq_getElem_cons h, show i + 1 - i = 1 by omega]
 rfl
theorem word_more {s : Str} {a i : Nat} (h : i < s.length) (ha : a ≤ i) : wordAt s (a, i + 1) = wordAt s (a, i) ++ [s[i]] := by
 unfold wordAt
 simp only
 rw [show i + 1 - a = (i - a) + 1 by omega, List.take_succ_eq_append_getElem (by simp; omega)]
 congr 2
 rw [List.getElem_drop]
 congr 1
 omega
theorem sp_space0 {s : Str} {i : Nat} {L : List (Nat × Nat)} {st : Int} (h : i < s.length) (k : SpOk s i L st) (hs : sp s[i] = true) (h0 : st < 0) : SpOk s (i + 1) L st := by
 have he : (wst (s.take i)).2 = [] := by
  rcases k.cur with ⟨_, h⟩ | ⟨a, ha, _⟩
  ·exact h
  ·omega
 refine ⟨by omega, by have := k.few; omega, ?_, k.rng, k.lo, .inl ⟨h0, ?_⟩⟩
 ·rw [wst_at h]; simp only [wstep, hs, if_true, he, k.done]
 ·rw [wst_at h]; simp only [wstep, hs, if_true]
theorem sp_space1 {s : Str} {i a : Nat} {L : List (Nat × Nat)} (h : i < s.length) (k : SpOk s i L (a : Int)) (hs : sp s[i] = true) (hl : s.length ≤ 1000000) : SpOk s (i + 1) (L ++ [(a, i)]) (-(a : Int) - 1) := by
 obtain ⟨hai, hc⟩ : a < i ∧ (wst (s.take i)).2 = wordAt s (a, i) := by
  rcases k.cur with ⟨h, _⟩ | ⟨b, hb, h1, h2⟩
  ·omega
  ·have : a = b := by omega
   subst this; exact ⟨h1, h2⟩
 have hne : ¬ wordAt s (a, i) = [] := by
  intro e
  have := congrArg List.length e
  simp [wordAt] at this
  omega
 refine ⟨by omega, by have := k.few; simp; omega, ?_, fun p hp => ?_, by omega, .inl ⟨by omega, ?_⟩⟩
 ·rw [wst_at h]; simp only [wstep, hs, if_true, hc, hne, if_false, List.map_append, k.done]; rfl
 ·rcases List.mem_append.1 hp with hp | hp
  ·exact k.rng p hp
  ·simp at hp; subst hp; exact ⟨by simp only; omega, by simp only; omega⟩
 ·rw [wst_at h]; simp only [wstep, hs, if_true]
theorem sp_char0 {s : Str} {i : Nat} {L : List (Nat × Nat)} {st : Int} (h : i < s.length) (k : SpOk s i L st) (hs : sp s[i] = false) (h0 : st < 0) : SpOk s (i + 1) L (i : Int) := by
 have he : (wst (s.take i)).2 = [] := by
  rcases k.cur with ⟨_, h⟩ | ⟨a, ha, _⟩
  ·exact h
  ·omega
 refine ⟨by omega, by have := k.few; omega, ?_, k.rng, by omega, .inr ⟨i, rfl, by omega, ?_⟩⟩
 ·rw [wst_at h]; simp [wstep, hs, k.done]
 ·rw [wst_at h, word_one h]; simp [wstep, hs, he]
theorem sp_char1 {s : Str} {i a : Nat} {L : List (Nat × Nat)} (h : i < s.length) (k : SpOk s i L (a : Int)) (hs : sp s[i] = false) : SpOk s (i + 1) L (a : Int) := by
 obtain ⟨hai, hc⟩ : a < i ∧ (wst (s.take i)).2 = wordAt s (a, i) := by
  rcases k.cur with ⟨h, _⟩ | ⟨b, hb, h1, h2⟩
  ·omega
  ·have : a = b := by omega
   subst this; exact ⟨h1, h2⟩
 refine ⟨by omega, by have := k.few; omega, ?_, k.rng, by omega, .inr ⟨a, rfl, by omega, ?_⟩⟩
 ·rw [wst_at h]; simp [wstep, hs, k.done]
 ·rw [wst_at h, word_more h (by omega)]; simp [wstep, hs, hc]
theorem sp_begin (s : Str) : SpOk s 0 [] (-1) := ⟨Nat.zero_le _, by simp, by simp [wst], by simp, by omega, .inl ⟨by omega, by simp [wst]⟩⟩
theorem sp_end0 {s : Str} {L : List (Nat × Nat)} {st : Int} (k : SpOk s s.length L st) (h0 : st < 0) : L.map (wordAt s) = wsplit s := by
 have he : (wst (s.take s.length)).2 = [] := by
  rcases k.cur with ⟨_, h⟩ | ⟨a, ha, _⟩
  ·exact h
  ·omega
 have hd := k.done
 rw [List.take_of_length_le (Nat.le_refl _)] at hd he
 rw [hd, wsplit, wfin, if_pos he]
theorem sp_end1 {s : Str} {a : Nat} {L : List (Nat × Nat)} (k : SpOk s s.length L (a : Int)) : (L ++ [(a, s.length)]).map (wordAt s) = wsplit s ∧ a < s.length := by
 obtain ⟨hai, hc⟩ : a < s.length ∧ (wst (s.take s.length)).2 = wordAt s (a, s.length) := by
  rcases k.cur with ⟨h, _⟩ | ⟨b, hb, h1, h2⟩
  ·omega
  ·have : a = b := by omega
   subst this; exact ⟨h1, h2⟩
 have hne : ¬ wordAt s (a, s.length) = [] := by
  intro e
  have := congrArg List.length e
  simp [wordAt] at this
  omega
 have hd := k.done
 rw [List.take_of_length_le (Nat.le_refl _)] at hd hc
 refine ⟨?_, hai⟩
 rw [List.map_append, hd, wsplit, wfin, hc, if_neg hne]
 rfl
theorem xor_not {a : Nat} (h : a ≤ 1000000) : unA .xor (.int .i64 (a : Int)) = some (.int .i64 (-(a : Int) - 1)) := by
 have h1 : (BitVec.ofInt 64 (-1) ^^^ BitVec.ofInt 64 (a : Int)).toNat = 18446744073709551615 - a := by
  have e1 : BitVec.ofInt 64 (-1) = BitVec.allOnes 64 := by decide
  have e2 : BitVec.ofInt 64 (a : Int) = BitVec.ofNat 64 a := by simp
  rw [e1, e2, BitVec.allOnes_xor, BitVec.toNat_not, BitVec.toNat_ofNat]
  omega
 show some (AV.int .i64 (IntKind.i64.wrap ((BitVec.ofInt 64 (-1) ^^^ BitVec.ofInt 64 (a : Int)).toNat : Int))) = _
 rw [h1]
 have h2 : IntKind.i64.wrap ((18446744073709551615 - a : Nat) : Int) = -(a : Int) - 1 := by
  have h3 : ((18446744073709551615 - a : Nat) : Int) = 18446744073709551615 - (a : Int) := by omega
  rw [h3]
  simp [IntKind.wrap, IntKind.signed, IntKind.bits]
  omega
 rw [h2]
@[simp] theorem fr_range {d : Option Tmp} {t : TypeId} {l : Operand} {ty : TypeId} {pos : String} {af : Array Edge} {g : Option (Nat × Bool)} {s : St} : freshen s ⟨d, .range t l, ty, pos, af, g⟩ = s := rfl
@[simp] theorem fr_next {d : Option Tmp} {b : Bool} {l : Operand} {ty : TypeId} {pos : String} {af : Array Edge} {g : Option (Nat × Bool)} {s : St} : freshen s ⟨d, .next l b, ty, pos, af, g⟩ = s := rfl
def bl5 (n : Nat) : List AV := List.replicate n (.str [])
def sts (L : List Str) : List AV := L.map .str
theorem bl5_pure (n : Nat) : pureL (bl5 n) = true := by
 induction n with
 | zero => rfl
 | succ n ih => simp only [bl5, List.replicate_succ] at ih ⊢; simp [pureL, pureV, ih]
theorem sts_pure (L : List Str) : pureL (sts L) = true := by
 induction L with
 | nil => rfl
 | cons a r ih => simp only [sts, List.map_cons] at ih ⊢; simp [pureL, pureV, ih]
theorem sts_set {X : List Str} {k : Nat} {w : Str} : (sts X ++ bl5 (k + 1)).set X.length (.str w) = sts (X ++ [w]) ++ bl5 k := by
 rw [List.set_append_right _ _ (by simp [sts])]
 simp [sts, bl5, List.replicate_succ]
theorem mkStrs {H : Heap} {n : Nat} (h : n ≤ 1000000) : makeSliceA Tryz.prog H 96 (.int .i64 (n : Int)) (.int .i64 (n : Int)) = some (.slc H.n 0 n (.ex n), H.new (.cells (bl5 n))) := by
 have hr : ∀ n, replL [AV.str []] n = bl5 n := fun n => by
  induction n with
  | zero => rfl
  | succ n ih => simp [replL, ih, bl5, List.replicate_succ]
 have h1 : idx (n : Int) 17592186044416 = some n := idx_nat (by omega)
 have h2 : idx (n : Int) (Nat.succ n) = some n := idx_nat (by omega)
 have h3 : roomOK n 16 = true := by unfold roomOK; rw [Nat.ble_eq]; omega
 unfold makeSliceA msB
 simp [h1, h2, h3, hr]
theorem mkSp {H : Heap} : makeSliceA Tryz.prog H 132 (.int .i64 0) (.int .i64 32) = some (.slc H.n 0 0 (.ex 32), H.new (.cells (zeros 64))) := rfl
theorem ixS {b n i : Nat} {c : Cap} (h : i < n) : indexAddrA Tryz.prog 96 (.slc b 0 n c) (.int .i64 (i : Int)) = some (.ptr b i) := by
 simp [indexAddrA, idx_nat h]
theorem layS {v : AV} : ∀ {cs : List AV} {i : Nat}, i < cs.length → layL [v] i cs = some (cs.set i v)
 | [], _, h => absurd h (Nat.not_lt_zero _)
 | x :: r, 0, _ => by simp [layL, overL]
 | x :: r, i + 1, h => by
  simp only [layL, layS (cs := r) (i := i) (by simpa using h)]
  rfl
def aSp (L : List (Nat × Nat)) : AV := .fslc 2 (L.map spn)
theorem atSp {L : List (Nat × Nat)} {i : Nat} (h : i < L.length) : indexAddrA Tryz.prog 132 (aSp L) (.int .i64 (i : Int)) = some (.fptr [.int .i64 ((L[i]).1 : Int), .int .i64 ((L[i]).2 : Int)] 0) := by
 simp [indexAddrA, aSp, idx_nat h, getL_map h]
 simp [spn]
theorem lenSp {H : Heap} {L : List (Nat × Nat)} : lenA Tryz.prog H 132 (aSp L) = some L.length := by simp [lenA, aSp]
theorem slW {H : Heap} {s : Str} {a b : Nat} (h1 : a ≤ b) (h2 : b ≤ s.length) : sliceA Tryz.prog H 9 (.str s) (some (.int .i64 (a : Int))) (some (.int .i64 (b : Int))) none = some (.str (wordAt s (a, b))) := by
 have i1 : idx (b : Int) (Nat.succ s.length) = some b := idx_nat (by omega)
 have i2 : idx (a : Int) (Nat.succ b) = some a := idx_nat (by omega)
 simp [sliceA, hiOK, bound, i1, i2, wordAt, List.drop_take]
theorem nx_yes {m i : Nat} {s : Str} {B : Blk} (h : i < s.length) (hc : s[i].toNat < 128) : nextA ⟨m, [[(1, .iter s i), (0, B)]]⟩ 1 = some (.tup [.bool true, .int .i64 i, .int .i32 (s[i].toNat : Int)], ⟨m, [[(1, .iter s (i + 1)), (0, B)]]⟩) := by
 have hb : Nat.blt i s.length = true := by simpa using h
 simp [nextA, Heap.get, getFs, getF, hb, dec_ascii h hc, Heap.set, setFs, setF]
theorem nx_no {m i : Nat} {s : Str} {B : Blk} (h : ¬ i < s.length) : nextA ⟨m, [[(1, .iter s i), (0, B)]]⟩ 1 = some (.tup [.bool false], ⟨m, [[(1, .iter s i), (0, B)]]⟩) := by
 have hb : Nat.blt i s.length = false := by
  cases hq : Nat.blt i s.length with
  | false => rfl
  | true => exact absurd (by simpa using hq) h
 simp [nextA, Heap.get, getFs, getF, hb]
theorem spV_yes (n : Nat) (b : Nat) : ∃ c, (if n ≤ 32 then AV.slc b 0 n (.ex 32) else AV.slc b 0 n (.rest 2)) = .slc b 0 n c ∧ spV n = .slc 0 0 n c := by
 unfold spV
 split
 ·exact ⟨_, rfl, rfl⟩
 ·exact ⟨_, rfl, rfl⟩
theorem fit_spV {L : List (Nat × Nat)} {σ : List (Nat × Nat)} {Φ : List (Nat × List AV)} (h : lookC 0 Φ = some (spB L)) : fitV σ Φ (spV L.length) (aSp L) := by
 obtain ⟨c, _, hc⟩ := spV_yes L.length 0
 rw [hc]
 simp only [aSp, fitV]
 refine .inl ⟨_, h, ?_, by simp, (el_spn L).size⟩
 rw [flat_spn, sub_spB]
theorem fit_all {H : Heap} {b : Nat} {cs : List AV} (h : H.get b = some (.cells cs)) (hp : pureL cs = true) : FitH 0 [] [(b, cs)] H ⟨0, [[]]⟩ := by
 refine ⟨by simp, by simp, by simp [Heap.ents], fun x h => (by cases h), fun x h => (by cases h), Nat.le_refl _, fun e h => (by simp [Heap.ents] at h), fun x hx => ?_⟩
 rw [List.mem_singleton] at hx
 subst hx
 exact ⟨_, h, fitL_pure hp, hp⟩
theorem fit_spVV {n : Nat} : fitV [(1, 1), (0, 0)] [] (spV n) (spV n) := by
 obtain ⟨c, _, hc⟩ := spV_yes n 0
 rw [hc]
 simp [fitV, lookN]
def sbC : List Nat → Code → Code
 | [], c => c
 | d :: r, c => match c with
  | .seq a b => match d with
   | 0 => sbC r a
   | _ => sbC r b
  | c => c
def bdO (f : Func) : Code := match f.body with
 | some c => c
 | none => .skip
theorem flat_sts : ∀ (L : List Str), flatAV (L.map AV.str) = sts L
 | [] => rfl
 | a :: r => by simp only [List.map_cons, flatAV, flat_sts r]; rfl
noncomputable def cdFF : Code := sbC [1, 1, 1, 1, 1] (bdO Tryz.f98)
theorem ff_rest {T : List (Entry Tryz.prog)} (s : Str) (L : List (Nat × Nat)) (hL : L.length ≤ 1000000) (hr : ∀ p, p ∈ L → p.1 ≤ p.2 ∧ p.2 ≤ s.length) (W : List Str) (hW : L.map (wordAt s) = W) :
  WpSr (ctx T) 0 none cdFF ((⟨[0, 1, 4, 5, 6, 7, 8, 9, 10, 11, 14, 15, 47, 48, 49], [.str s, .undef, .nilS, aSp L, .undef, .undef, .undef, .undef, .undef, .undef, .undef, .undef, .undef, .undef, .undef], [], 65, ⟨0, [[]]⟩⟩ : St)) (fun x s => (x = .normal ∨ x = .ret) ∧ ∃ vs, retVal (ctx T) s [.tmp 4] = some vs ∧ ∃ σ Φ, fitV σ Φ (oneOr vs) (aStrs W) ∧ FitH 0 σ Φ s.H ⟨0, []⟩) := by
 simp only [cdFF, sbC, bdO, Tryz.f98]
 have hm := fun H => mkStrs (H := H) (n := L.length) hL
 repeat apply wq
 refine wps_region callOK ?_
 simp [zS, lenSp, hm]
 repeat apply wq
 refine wps_region callOK ?_
 simp [zS, lenSp]
 obtain ⟨F, hF⟩ : ∃ F : Nat → List Str, F = fun i => (L.take i).map (wordAt s) := ⟨_, rfl⟩
 have hF0 : F 0 = [] := by rw [hF]; simp
 have hFl : ∀ i, i ≤ L.length → (F i).length = i := fun i hi => by rw [hF]; simp; omega
 have hFs : ∀ (i : Nat) (h : i < L.length), F (i + 1) = F i ++ [wordAt s L[i]] := fun i h => by
  rw [hF]
  show (L.take (i + 1)).map (wordAt s) = _
  rw [List.take_succ_eq_append_getElem h, List.map_append]; rfl
 have hFn : F L.length = W := by rw [hF, ← hW]; simp
 repeat apply wq
 refine wps_block (wps_loop' (fun i : Nat => (⟨[0, 1, 4, 5, 6, 7, 8, 9, 10, 11, 14, 15, 47, 48, 49], [.str s, .undef, .nilS, .undef, .undef, .undef, .undef, .slc 0 0 L.length (.ex L.length), .undef, .undef, .undef, .undef, aSp L, .int .i64 (L.length : Nat), .int .i64 i], [], 65, ⟨1, [[(0, .cells (sts (F i) ++ bl5 (L.length - i)))]]⟩⟩ : St))
  (fun i => i ≤ L.length) (fun i => L.length - i) [(0, 0)] [] 0 (Nat.zero_le _)
  ⟨rfl, rfl, rfl, by simp [fitL, fitV, lookN, pureV, aSp], .keep1 (b := 0) (by rw [hF0]; simp [Heap.get, getFs, getF, sts]) (by rw [pureL_append, sts_pure, bl5_pure]; rfl) rfl⟩ ?_)
 rintro i hi B hB
 repeat apply wq
 refine wps_region callOK ?_
 simp [zS]
 repeat apply wq
 refine wps_cond rfl (fun h => ?_) fun h => ?_
 ·simp at h
  repeat apply wq
  refine wps_skip ?_
  simp
  repeat apply wq
  refine wps_block ?_
  obtain ⟨r1, r2⟩ := hr L[i] (List.getElem_mem _)
  have hw := fun H => slW (H := H) r1 r2
  have hlen : i < (sts (F i) ++ bl5 (L.length - i)).length := by simp [sts, bl5, hFl i hi]; omega
  have hset : (sts (F i) ++ bl5 (L.length - i)).set i (.str (wordAt s ((L[i]).1, (L[i]).2))) = sts (F (i + 1)) ++ bl5 (L.length - (i + 1)) := by
   have := sts_set (X := F i) (k := L.length - (i + 1)) (w := wordAt s L[i])
   rw [hFl i hi, ← hFs i h] at this
   rw [show L.length - i = L.length - (i + 1) + 1 by omega]
   exact this
  have hla := layS (v := .str (wordAt s ((L[i]).1, (L[i]).2))) hlen
  rw [hset] at hla
  generalize sts (F i) ++ bl5 (L.length - i) = C0 at *
  generalize hC1 : sts (F (i + 1)) ++ bl5 (L.length - (i + 1)) = C1 at *
  repeat apply wq
  refine wps_region callOK ?_
  simp [zS, atSp h]
  repeat apply wq
  refine wps_region callOK ?_
  simp [zS, hw, ixS h, hla]
  repeat apply wq
  refine wps_region callOK ?_
  simp [zS, add_one (show i ≤ 1000000000 by omega)]
  refine hB _ (i + 1) (by omega) (by omega) ⟨[(0, 0)], [], rfl, rfl, rfl, by simp [fitL, fitV, lookN, pureV, aSp], ?_⟩
  rw [hC1]
  exact .keep1 (b := 0) (by simp [Heap.get, getFs, getF]) (by rw [← hC1, pureL_append, sts_pure, bl5_pure]; rfl) rfl
 ·simp at h
  have hie : i = L.length := by omega
  subst hie
  have hz : sts (F L.length) ++ bl5 (L.length - L.length) = sts W := by rw [Nat.sub_self, hFn]; simp [bl5]
  have hlW : W.length = L.length := by rw [← hW]; simp
  rw [hz, ← hlW]
  repeat apply wq
  refine wps_exit ?_
  simp
  repeat apply wq
  refine wps_region callOK ?_
  simp [zS]
  repeat apply wq
  refine wps_ret ?_
  simp [retVal, oneOr]
  refine ⟨[], [(0, sts W)], ?_, .froze (by simp) fun y hy => ?_⟩
  ·have hf := flat_sts W
   simp only [fitV]
   refine .inl ⟨sts W, by simp [lookC], ?_, by simp, (el_str W).size⟩
   rw [hf, subL_front (by simp [sts]), List.drop_zero, List.take_of_length_le (by simp [sts])]
  ·rw [List.mem_singleton] at hy
   subst hy
   exact ⟨_, by simp [Heap.get, getFs, getF], fitL_pure (sts_pure W), sts_pure W⟩
theorem c98 {T : List (Entry Tryz.prog)} (s : Str) (hs : asciiB s) (hl : s.length ≤ 900000) (clo : FuncId) (hp : ∀ c : UInt8, c.toNat < 128 → CallAt (ctx T) clo [.int .i32 (c.toNat : Int)] ⟨0, []⟩ (.bool (sp c)) ⟨0, []⟩) :
  CallAt (ctx T) 98 [.str s, .func (.func clo) [] []] ⟨0, []⟩ (aStrs (wsplit s)) ⟨0, []⟩ := by
 have hm1 : wr .i64 (0 - 1) = some (-1) := rfl
 refine callAt_body (fn := Tryz.f98) (s0 := ⟨[0, 1, 4, 5, 6, 7, 8, 9, 10, 11, 14, 15, 47, 48, 49], [.str s, .func (.func clo) [] [], .undef, .undef, .undef, .undef, .undef, .undef, .undef, .undef, .undef, .undef, .undef, .undef, .undef], [], 65, ⟨0, [[]]⟩⟩) Tryz.func98 rfl rfl rfl ?_
 repeat apply wq
 refine wps_region callOK ?_
 simp [zS]
 repeat apply wq
 refine wps_region callOK ?_
 simp [zS, mkSp]
 repeat apply wq
 refine wps_region callOK ?_
 simp [zS]
 repeat apply wq
 refine wps_region callOK ?_
 simp [zS, rgV]
 repeat apply wq
 refine wps_block (wps_loop' (fun x : Nat × List (Nat × Nat) × Int => (⟨[0, 1, 4, 5, 6, 7, 8, 9, 10, 11, 14, 15, 47, 48, 49], [.str s, .func (.func clo) [] [], .nilS, spV x.2.1.length, .int .i64 x.2.2, .undef, .undef, .undef, .undef, .undef, .ptr 1 0, .undef, .undef, .undef, .undef], [], 65, ⟨2, [[(1, .iter s x.1), (0, .cells (spB x.2.1))]]⟩⟩ : St))
  (fun x => SpOk s x.1 x.2.1 x.2.2) (fun x => s.length - x.1) [(1, 1), (0, 0)] [] (0, [], -1) (sp_begin s)
  ⟨rfl, rfl, rfl, by simp [fitL, fitV, lookN, pureV, pureL, spV], fit_sp (by omega) (by simp [Heap.get, getFs, getF]) (by simp [Heap.get, getFs, getF, spB, spnC]) (spB_pure _)⟩ ?_)
 rintro ⟨i, L, st⟩ hk B hB
 have hi := hk.le
 have hfew := hk.few
 have hlo := hk.lo
 simp only at hi hfew hlo hk
 by_cases h : i < s.length
 ·have hc : s[i].toNat < 128 := hs _ (List.getElem_mem _)
  have hbu : ∀ a : Nat, buildA Tryz.prog 134 [(0, .int .i64 (a : Int)), (1, .int .i64 (i : Int))] = some (.agg [.int .i64 (a : Int), .int .i64 (i : Int)]) := fun a => rfl
  have hcall := (hp s[i] hc).lift (by simp [pureL, pureV]) ⟨2, [[(1, .iter s (i + 1)), (0, .cells (spB L))]]⟩
  have stay : ∀ (st' : Int) (σ0 : Unit), SpOk s (i + 1) L st' → ∀ s' : St, Fit 0 [(1, 1), (0, 0)] [] s' ((⟨[0, 1, 4, 5, 6, 7, 8, 9, 10, 11, 14, 15, 47, 48, 49], [.str s, .func (.func clo) [] [], .nilS, spV L.length, .int .i64 st', .undef, .undef, .undef, .undef, .undef, .ptr 1 0, .undef, .undef, .undef, .undef], [], 65, ⟨2, [[(1, .iter s (i + 1)), (0, .cells (spB L))]]⟩⟩ : St)) → B s' := fun st' _ hok s' hf => hB s' (i + 1, L, st') (by simp only; omega) hok ⟨_, _, hf⟩
  repeat apply wq
  refine wps_region callOK ?_
  simp [zS, nxV, nx_yes h hc]
  repeat apply wq
  refine wps_ct rfl ?_
  repeat apply wq
  refine wps_skip ?_
  simp
  repeat apply wq
  refine wps_block ?_
  rcases Bool.eq_false_or_eq_true (sp s[i]) with hsp | hsp
  ·rw [hsp] at hcall
   repeat apply wq
   refine wps_region callOK ?_
   simp [zS]
   repeat apply wq
   refine wps_region (callOKF [⟨clo, _, _, _, _, hcall⟩]) ?_
   simp [zS, callF]
   repeat apply wq
   refine wps_ct rfl ?_
   rcases hk.cur with ⟨h0, _⟩ | ⟨a, ha, hai, _⟩
   ·have hge : ¬ (0 : Int) ≤ st := by omega
    repeat apply wq
    refine wps_region callOK ?_
    simp [zS, hge]
    repeat apply wq
    refine wps_cf rfl ?_
    repeat apply wq
    refine wps_skip ?_
    simp
    exact stay st () (sp_space0 h hk hsp h0) _ ⟨rfl, rfl, rfl, by simp [fitL, fitV, lookN, pureV, pureL, fit_spVV], fit_sp (by omega) (by simp [Heap.get, getFs, getF]) (by simp [Heap.get, getFs, getF]) (spB_pure _)⟩
   ·subst ha
    have hge : (0 : Int) ≤ (a : Int) := by omega
    obtain ⟨b, m, f, hb1, happ, hg1, hg2⟩ := app_sp (L := L) (p := (a, i)) (I := .iter s (i + 1)) (by omega)
    have hxo := xor_not (a := a) (by omega)
    obtain ⟨c, e1, e2⟩ := spV_yes (L.length + 1) b
    simp only [e1] at happ
    repeat apply wq
    refine wps_region callOK ?_
    simp [zS, hge]
    repeat apply wq
    refine wps_ct (by simp [opnd, St.get]) ?_
    repeat apply wq
    refine wps_region callOK ?_
    simp [zS, hbu, happ]
    repeat apply wq
    refine wps_region callOK ?_
    simp [zS, hxo]
    refine hB _ (i + 1, L ++ [(a, i)], -(a : Int) - 1) (by simp only; omega) (sp_space1 h hk hsp (by omega)) ⟨[(1, 1), (b, 0)], [], rfl, rfl, rfl, ?_, fit_sp hb1 hg1 hg2 (spB_pure _)⟩
    simp only [List.length_append, List.length_cons, List.length_nil, Nat.zero_add, e2]
    simp [fitL, fitV, lookN, pureV, pureL]
    omega
  ·rw [hsp] at hcall
   repeat apply wq
   refine wps_region callOK ?_
   simp [zS]
   repeat apply wq
   refine wps_region (callOKF [⟨clo, _, _, _, _, hcall⟩]) ?_
   simp [zS, callF]
   repeat apply wq
   refine wps_cf rfl ?_
   rcases hk.cur with ⟨h0, _⟩ | ⟨a, ha, hai, _⟩
   ·repeat apply wq
    refine wps_region callOK ?_
    simp [zS, h0]
    repeat apply wq
    refine wps_ct rfl ?_
    repeat apply wq
    refine wps_region callOK ?_
    simp [zS]
    exact stay i () (sp_char0 h hk hsp h0) _ ⟨rfl, rfl, rfl, by simp [fitL, fitV, lookN, pureV, pureL, fit_spVV], fit_sp (by omega) (by simp [Heap.get, getFs, getF]) (by simp [Heap.get, getFs, getF]) (spB_pure _)⟩
   ·subst ha
    have hge : ¬ (a : Int) < 0 := by omega
    repeat apply wq
    refine wps_region callOK ?_
    simp [zS, hge]
    repeat apply wq
    refine wps_cf (by simp [opnd, St.get, hge]) ?_
    repeat apply wq
    refine wps_skip ?_
    simp
    exact stay a () (sp_char1 h hk hsp) _ ⟨rfl, rfl, rfl, by simp [fitL, fitV, lookN, pureV, pureL, fit_spVV], fit_sp (by omega) (by simp [Heap.get, getFs, getF]) (by simp [Heap.get, getFs, getF]) (spB_pure _)⟩
 ·have hie : i = s.length := by omega
  subst hie
  have hbu : ∀ a : Nat, buildA Tryz.prog 134 [(0, .int .i64 (a : Int)), (1, .int .i64 (s.length : Int))] = some (.agg [.int .i64 (a : Int), .int .i64 (s.length : Int)]) := fun a => rfl
  repeat apply wq
  refine wps_region callOK ?_
  simp [zS, nxV, nx_no h]
  repeat apply wq
  refine wps_cf rfl ?_
  repeat apply wq
  refine wps_exit ?_
  simp
  rcases hk.cur with ⟨h0, _⟩ | ⟨a, ha, hai, _⟩
  ·have hge : ¬ (0 : Int) ≤ st := by omega
   repeat apply wq
   refine wps_region callOK ?_
   simp [zS, hge]
   repeat apply wq
   refine wps_cf (by simp [opnd, St.get, hge]) ?_
   repeat apply wq
   refine wps_skip ?_
   simp only [thenQ]
   refine WpSr.fit [] [(0, spB L)] (s' := (⟨[0, 1, 4, 5, 6, 7, 8, 9, 10, 11, 14, 15, 47, 48, 49], [.str s, .undef, .nilS, aSp L, .undef, .undef, .undef, .undef, .undef, .undef, .undef, .undef, .undef, .undef, .undef], [], 65, ⟨0, [[]]⟩⟩ : St)) ⟨rfl, rfl, rfl, by simp [fitL, fitV, pureV]; exact fit_spV (by simp [lookC]), ?_⟩ (ff_rest s L (by omega) hk.rng _ (sp_end0 hk h0))
   exact fit_all (by simp [Heap.get, getFs, getF]) (spB_pure _)
  ·subst ha
   obtain ⟨hw, hal⟩ := sp_end1 hk
   have hge : (0 : Int) ≤ (a : Int) := by omega
   obtain ⟨b, m, f, hb1, happ, hg1, hg2⟩ := app_sp (L := L) (p := (a, s.length)) (I := .iter s s.length) (by omega)
   obtain ⟨c, e1, e2⟩ := spV_yes (L.length + 1) b
   simp only [e1] at happ
   repeat apply wq
   refine wps_region callOK ?_
   simp [zS, hge]
   repeat apply wq
   refine wps_ct (by simp [opnd, St.get]) ?_
   repeat apply wq
   refine wps_region callOK ?_
   simp [zS, hbu, happ]
   have hfv : fitV [] [(b, spB (L ++ [(a, s.length)]))] (.slc b 0 (L.length + 1) c) (aSp (L ++ [(a, s.length)])) := by
    simp only [aSp, fitV]
    refine .inl ⟨_, by simp [lookC]; rfl, ?_, by simp, (el_spn _).size⟩
    have := sub_spB (L ++ [(a, s.length)])
    rw [flat_spn]
    simpa using this
   refine WpSr.fit [] [(b, spB (L ++ [(a, s.length)]))] (s' := (⟨[0, 1, 4, 5, 6, 7, 8, 9, 10, 11, 14, 15, 47, 48, 49], [.str s, .undef, .nilS, aSp (L ++ [(a, s.length)]), .undef, .undef, .undef, .undef, .undef, .undef, .undef, .undef, .undef, .undef, .undef], [], 65, ⟨0, [[]]⟩⟩ : St)) ⟨rfl, rfl, rfl, by simp [fitL, fitV, pureV] at hfv ⊢; exact hfv, ?_⟩ (ff_rest s (L ++ [(a, s.length)]) (by simp; omega) (fun p hp => ?_) _ hw)
   ·exact fit_all hg2 (spB_pure _)
   ·rcases List.mem_append.1 hp with hp | hp
    ·exact hk.rng p hp
    ·simp at hp; subst hp; exact ⟨by simp only; omega, by simp only; omega⟩
theorem c70 {T : List (Entry Tryz.prog)} (s : Str) (hs : asciiB s) (hl : s.length ≤ 900000) : CallAt (ctx T) 70 [.str s] ⟨0, []⟩ (aStrs (wsplit s)) ⟨0, []⟩ := by
 have hc := (c98 (T := T) s hs hl 99 fun c h => c99 (T := [e68]) rfl c h).lift (by simp [pureL, pureV]) ⟨0, [[]]⟩
 generalize wsplit s = W at *
 refine callAt_body (fn := Tryz.f70) (s0 := ⟨[0, 2], [.str s, .undef], [], 5, ⟨0, [[]]⟩⟩) Tryz.func70 rfl rfl rfl ?_
 repeat apply wq
 refine wps_region callOK ?_
 simp [zS]
 repeat apply wq
 refine wps_region (callOKF [⟨98, _, _, _, _, hc⟩]) ?_
 simp [zS, callF]
 repeat apply wq
 refine wps_ret ?_
 simp [retVal, Tryz.f70, oneOr, thenQ, blockQ]
 first | exact ⟨[], [], FitH.empty⟩ | exact ends_pure rfl (by rfl)
theorem c49a {T : List (Entry Tryz.prog)} (W x : Str) (hW : asciiB W) (hl : W.length ≤ 100000) (hx : x.length ≤ 1000000000) : CallAt (ctx T) 49 [.str W, .str x] ⟨0, []⟩ (.bool (inW W x)) ⟨0, []⟩ :=
 c49 (T := [e67, e68]) rfl rfl W x hl hx (c70 (T := []) W hW (by omega)) (c69 (T := [e97]) rfl _ x (by have := wsplit_len W; omega))
theorem inj_wInA (x y : Str × Str) (h : [AV.str x.1, AV.str x.2] = [AV.str y.1, AV.str y.2]) : x = y := by
 simp at h; exact Prod.ext h.1 h.2
noncomputable def e49a : Entry Tryz.prog := mkE 49 [[], []] (fun x : Str × Str => [.str x.1, .str x.2]) (fun x => asciiB x.1 ∧ x.1.length ≤ 100000 ∧ x.2.length ≤ 1000000000) (fun x => .bool (inW x.1 x.2)) fun x hx => c49a (T := []) x.1 x.2 hx.1 hx.2.1 hx.2.2
theorem k49a {T : List (Entry Tryz.prog)} (hT : findE 49 T = some e49a.g) {W x : Str} (hW : asciiB W) (hl : W.length ≤ 100000) (hx : x.length ≤ 1000000000) (H : Heap) : callL (ctx T) (.fn 49) [.str W, .str x] H = some (.bool (inW W x), H) :=
 mkE_scalar hT inj_wInA (W, x) ⟨hW, hl, hx⟩ rfl (by simp)
def namedS (n : Nd) (W : Str) : Bool := !decide (n.name = []) && decide (n.kind = 1) && decide (n.space = 0) && inW W n.name
theorem c64 {T : List (Entry Tryz.prog)} (hN : findE 91 T = some e91.g) (hI : findE 49 T = some e49a.g) (t : Tr) (i : Int) (W : Str) (hW : asciiB W) (hl : W.length ≤ 100000) (hx : (nodeS t i).name.length ≤ 1000000000) : CallAt (ctx T) 64 [aTree t, .int .i64 i, .str W] ⟨0, []⟩ (.bool (namedS (nodeS t i) W)) ⟨0, []⟩ := by
 have kn := fun H => k91 hN t i H
 have ki := fun H => k49a hI (x := (nodeS t i).name) hW hl hx H
 generalize nodeS t i = n at *
 obtain ⟨kind, space, name, attrs, data, up, kids⟩ := n
 simp only [aTree, aNode, Nd.cs, aInt] at kn ki
 have sA : ∀ L, (aAttrs L).single = true := fun _ => rfl
 have sI : ∀ L, (aInts L).single = true := fun _ => rfl
 have rA : ∀ L, refs 6 (aAttrs L) = [] := fun _ => rfl
 have rI : ∀ L, refs 6 (aInts L) = [] := fun _ => rfl
 refine callAt_body (fn := Tryz.f64) (s0 := ⟨[0, 1, 2, 3, 6, 7], [aTree t, .int .i64 i, .str W, .undef, .undef, .undef], [], 30, ⟨0, [[]]⟩⟩) Tryz.func64 rfl rfl rfl ?_
 repeat apply wq
 refine wps_region callOK ?_
 simp [zS, aTree]
 repeat apply wq
 refine wps_region callOK ?_
 simp [zS, kn, sA, sI, rA, rI]
 by_cases h1 : name = []
 ·repeat apply wq
  refine wps_region callOK ?_
  simp [zS, h1]
  repeat apply wq
  refine wps_ret ?_
  simp [retVal, Tryz.f64, oneOr, thenQ, blockQ]
  exact ends_pure rfl (by simp [namedS, h1])
 ·by_cases h2 : kind = 1
  ·by_cases h3 : space = 0
   ·repeat apply wq
    refine wps_region callOK ?_
    simp [zS, h1, h2, h3, ki]
    repeat apply wq
    refine wps_ret ?_
    simp [retVal, Tryz.f64, oneOr, thenQ, blockQ]
    exact ends_pure rfl (by simp [namedS, h1, h2, h3])
   ·repeat apply wq
    refine wps_region callOK ?_
    simp [zS, h1, h2, h3]
    repeat apply wq
    refine wps_ret ?_
    simp [retVal, Tryz.f64, oneOr, thenQ, blockQ]
    exact ends_pure rfl (by simp [namedS, h1, h2, h3])
  ·repeat apply wq
   refine wps_region callOK ?_
   simp [zS, h1, h2]
   repeat apply wq
   refine wps_ret ?_
   simp [retVal, Tryz.f64, oneOr, thenQ, blockQ]
   exact ends_pure rfl (by simp [namedS, h1, h2])
theorem inj_TIS (x y : Tr × Int × Str) (h : [aTree x.1, .int .i64 x.2.1, .str x.2.2] = [aTree y.1, .int .i64 y.2.1, .str y.2.2]) : x = y := by
 simp at h; exact Prod.ext (inj_aTree h.1) (Prod.ext h.2.1 h.2.2)
noncomputable def e64 : Entry Tryz.prog := mkE 64 [[7], [], []] (fun x : Tr × Int × Str => [aTree x.1, .int .i64 x.2.1, .str x.2.2]) (fun x => asciiB x.2.2 ∧ x.2.2.length ≤ 100000 ∧ (nodeS x.1 x.2.1).name.length ≤ 1000000000) (fun x => .bool (namedS (nodeS x.1 x.2.1) x.2.2)) fun x h => c64 (T := [e91, e49a]) rfl rfl x.1 x.2.1 x.2.2 h.1 h.2.1 h.2.2
theorem q64 {T : List (Entry Tryz.prog)} (hT : findE 64 T = some e64.g) {a : AV} {H : Heap} {t : Tr} (ha : thawA H [7] a = some (aTree t)) (i : Int) {W : Str} (hW : asciiB W) (hl : W.length ≤ 100000) (hx : (nodeS t i).name.length ≤ 1000000000) : callL (ctx T) (.fn 64) [a, .int .i64 i, .str W] H = some (.bool (namedS (nodeS t i) W), H) :=
 mkE_scalar hT inj_TIS (t, i, W) ⟨hW, hl, hx⟩ rfl (by simp [ha])
section
variable {C : Ctx} {call : CallE} {ops : Array Oper} {s : St} {o : Oper} {l : List Oper} {P : St → Prop}
theorem runE {E R : Option St} (h : E = R) (k : ∃ s', R = some s' ∧ P s') : ∃ s', E = some s' ∧ P s' := by subst h; exact k
theorem run_end (h : P s) : ∃ s', some s = some s' ∧ P s' := ⟨s, rfl, h⟩
theorem gate_split {b : Bool} (h1 : b = true → ∃ s', thenOps C call ops (gateV C call s o (some true)) l = some s' ∧ P s') (h2 : b = false → ∃ s', thenOps C call ops (gateV C call s o (some false)) l = some s' ∧ P s') :
  ∃ s', thenOps C call ops (gateV C call s o (some b)) l = some s' ∧ P s' := by
 cases b with
 | true => exact h1 rfl
 | false => exact h2 rfl
theorem pick_split {H : Heap} {d : Option Tmp} {p q : Option AV} {b : Bool} (h1 : b = true → ∃ s', thenOps C call ops (putV s d (pickV H (some (.bool true)) p q)) l = some s' ∧ P s') (h2 : b = false → ∃ s', thenOps C call ops (putV s d (pickV H (some (.bool false)) p q)) l = some s' ∧ P s') :
  ∃ s', thenOps C call ops (putV s d (pickV H (some (.bool b)) p q)) l = some s' ∧ P s' := by
 cases b with
 | true => exact h1 rfl
 | false => exact h2 rfl
end
theorem ascB {W : Str} (h : W.all (fun c => decide (c.toNat < 128)) = true) : asciiB W := by
 unfold asciiB; simpa using h
section
variable (n : Nd)
@[simp] theorem nd_cells : (aNode n).cells = n.cs := rfl
@[simp] theorem nd_len : n.cs.length = 7 := rfl
@[simp] theorem nd_single : allSingle n.cs = true := rfl
@[simp] theorem nd_over {a b c d e f g : AV} : overL n.cs [a, b, c, d, e, f, g] = some n.cs := rfl
@[simp] theorem nd_lay {a b c d e f g : AV} : layL n.cs 0 [a, b, c, d, e, f, g] = some n.cs := rfl
@[simp] theorem nd_over' {m : Nd} : overL n.cs m.cs = some n.cs := rfl
@[simp] theorem nd_lay' {m : Nd} : layL n.cs 0 m.cs = some n.cs := rfl
@[simp] theorem nd_refs : n.cs.flatMap (refs 6) = [] := refsL_pure 6 _ (pure_cs n)
@[simp] theorem nd_take : takeL 7 n.cs = some n.cs := rfl
@[simp] theorem nd_sub : subL 0 7 n.cs = some n.cs := rfl
@[simp] theorem nd_f0 : fieldA Tryz.prog 43 (aNode n) 0 = some (.int .i64 n.kind) := rfl
@[simp] theorem nd_f1 : fieldA Tryz.prog 43 (aNode n) 1 = some (.int .i64 n.space) := rfl
@[simp] theorem nd_f2 : fieldA Tryz.prog 43 (aNode n) 2 = some (.str n.name) := rfl
@[simp] theorem nd_f3 : fieldA Tryz.prog 43 (aNode n) 3 = some (aAttrs n.attrs) := rfl
@[simp] theorem nd_f4 : fieldA Tryz.prog 43 (aNode n) 4 = some (.str n.data) := rfl
@[simp] theorem nd_f5 : fieldA Tryz.prog 43 (aNode n) 5 = some (.int .i64 n.up) := rfl
@[simp] theorem nd_f6 : fieldA Tryz.prog 43 (aNode n) 6 = some (aInts n.kids) := rfl
end
end Go.Proofs.YtfgdcciaecajpaaGreatDoor
namespace Go.Proofs.YtfgdcciaecajpaaGreatDoor
noncomputable section
set_option linter.unusedSimpArgs false
set_option linter.unusedVariables false
open Go Go.RowKit
structure QA where
 C : Ctx
 call : CallE
 ops : Array Oper
 base : Nat
abbrev QR := St × List Pend × Option Nat
open Classical in
noncomputable def chg (c : Option Nat) (i : Nat) (H' H : Heap) : Option Nat := if H' = H then c else some (c.getD i)
theorem chg_same {c : Option Nat} {i : Nat} {H : Heap} : chg c i H H = c := by simp [chg]
noncomputable def evQ (A : QA) : Nat → List Oper → St → List Pend → Option Nat → Option QR
 | _, [], s, ps, c => some (s, ps, c)
 | i, o :: r, s, ps, c => match clsOf o.op with
  | .allocs => (guardA A.ops s o).bind fun g => match g with
   | true => (mkBlk A.C o s).bind fun k => (s.put o.dst (k.1 (A.base + i))).bind fun s' => evQ A (i + 1) r s' (⟨i, A.base + i, k.2⟩ :: ps) c
   | false => (s.put o.dst (.tup [])).bind fun s' => evQ A (i + 1) r s' ps c
  | .acts => (evalOp A.C A.call A.ops o (s.wH (s.H.lay (allPend ps)))).bind fun s' => evQ A (i + 1) r s' [] (chg c i s'.H s.H)
  | _ => (evalOp A.C A.call A.ops o s).bind fun s' => evQ A (i + 1) r s' ps c
section
variable {A : QA} {i : Nat} {o : Oper} {r : List Oper} {s s' : St} {ps : List Pend} {c : Option Nat} {H : Heap}
def nxQ (A : QA) (i : Nat) (r : List Oper) (ps : List Pend) (c : Option Nat) : Option St → Option QR
 | none => none
 | some s' => evQ A (i + 1) r s' ps c
def nxX (A : QA) (i : Nat) (r : List Oper) (c : Option Nat) (H : Heap) : Option St → Option QR
 | none => none
 | some s' => evQ A (i + 1) r s' [] (chg c i s'.H H)
def laQ (A : QA) (i : Nat) (o : Oper) (r : List Oper) (s : St) (ps : List Pend) (c : Option Nat) : Option ((Nat → AV) × Blk) → Option QR
 | none => none
 | some k => nxQ A i r (⟨i, A.base + i, k.2⟩ :: ps) c (s.put o.dst (k.1 (A.base + i)))
def alQ (A : QA) (i : Nat) (o : Oper) (r : List Oper) (s : St) (ps : List Pend) (c : Option Nat) : Option Bool → Option QR
 | none => none
 | some true => laQ A i o r s ps c (mkBlk A.C o s)
 | some false => nxQ A i r ps c (s.put o.dst (.tup []))
def stQ (A : QA) (i : Nat) (o : Oper) (r : List Oper) (s : St) (ps : List Pend) (c : Option Nat) : Cls → Option QR
 | .allocs => alQ A i o r s ps c (guardA A.ops s o)
 | .acts => nxX A i r c s.H (evalOp A.C A.call A.ops o (s.wH (s.H.lay (allPend ps))))
 | .reads => nxQ A i r ps c (evalOp A.C A.call A.ops o s)
 | .pure => nxQ A i r ps c (evalOp A.C A.call A.ops o s)
theorem evQ_n : evQ A i [] s ps c = some (s, ps, c) := rfl
theorem evQ_c : evQ A i (o :: r) s ps c = stQ A i o r s ps c (clsOf o.op) := by
 unfold evQ
 cases clsOf o.op with
 | pure => simp only [stQ]; cases evalOp A.C A.call A.ops o s <;> rfl
 | reads => simp only [stQ]; cases evalOp A.C A.call A.ops o s <;> rfl
 | acts => simp only [stQ]; cases evalOp A.C A.call A.ops o (s.wH (s.H.lay (allPend ps))) <;> rfl
 | allocs =>
  simp only [stQ]
  cases guardA A.ops s o with
  | none => rfl
  | some g => cases g with
   | false => simp only [alQ, Option.bind_some]; cases s.put o.dst (.tup []) <;> rfl
   | true =>
    simp only [alQ, Option.bind_some]
    cases mkBlk A.C o s with
    | none => rfl
    | some k => simp only [laQ, Option.bind_some]; cases s.put o.dst (k.1 (A.base + i)) <;> rfl
theorem stQ_p : stQ A i o r s ps c .pure = nxQ A i r ps c (evalOp A.C A.call A.ops o s) := rfl
theorem stQ_r : stQ A i o r s ps c .reads = nxQ A i r ps c (evalOp A.C A.call A.ops o s) := rfl
theorem stQ_a : stQ A i o r s ps c .acts = nxX A i r c s.H (evalOp A.C A.call A.ops o (s.wH (s.H.lay (allPend ps)))) := rfl
theorem stQ_l : stQ A i o r s ps c .allocs = alQ A i o r s ps c (guardA A.ops s o) := rfl
theorem alQ_t : alQ A i o r s ps c (some true) = laQ A i o r s ps c (mkBlk A.C o s) := rfl
theorem alQ_f : alQ A i o r s ps c (some false) = nxQ A i r ps c (s.put o.dst (.tup [])) := rfl
theorem laQ_s {k : (Nat → AV) × Blk} : laQ A i o r s ps c (some k) = nxQ A i r (⟨i, A.base + i, k.2⟩ :: ps) c (s.put o.dst (k.1 (A.base + i))) := rfl
theorem nxQ_s : nxQ A i r ps c (some s') = evQ A (i + 1) r s' ps c := rfl
theorem nxX_s : nxX A i r c H (some s') = evQ A (i + 1) r s' [] (chg c i s'.H H) := rfl
theorem zW : type_of% (And.intro @evQ_n (And.intro @evQ_c (And.intro @stQ_p (And.intro @stQ_r (And.intro @stQ_a (And.intro @stQ_l (And.intro @alQ_t (And.intro @alQ_f (And.intro @laQ_s (And.intro @nxQ_s (And.intro @nxX_s (And.intro @chg_same (And.intro @allPend.eq_1 @allPend.eq_2))))))))))))) :=
 And.intro @evQ_n (And.intro @evQ_c (And.intro @stQ_p (And.intro @stQ_r (And.intro @stQ_a (And.intro @stQ_l (And.intro @alQ_t (And.intro @alQ_f (And.intro @laQ_s (And.intro @nxQ_s (And.intro @nxX_s (And.intro @chg_same (And.intro @allPend.eq_1 @allPend.eq_2))))))))))))
end
def isR : Cls → Bool
 | .reads => true
 | _ => false
def isX : Cls → Bool
 | .acts => true
 | _ => false
def isL : Cls → Bool
 | .allocs => true
 | _ => false
def clsAt (ops : Array Oper) (i : Nat) : Cls := match ops[i]? with
 | some o => clsOf o.op
 | none => .pure
def seqFrom (bef : Array Nat) (ops : Array Oper) (p : Nat) : Bool := (List.range ops.size).all fun j => !(Nat.ble p j && isX (clsAt ops j)) || (List.range ops.size).all fun i => !isR (clsAt ops i) ||
 match Nat.blt i j with
 | true => ahead bef i j
 | false => ahead bef j i && !ahead bef i j
def layFrom (bef : Array Nat) (ops : Array Oper) : Bool := (List.range ops.size).all fun a => !isL (clsAt ops a) || (List.range ops.size).all fun j => !(Nat.blt a j && isX (clsAt ops j)) || ahead bef a j
def okC (ops : Array Oper) : Option Nat → Bool
 | none => true
 | some p => seqFrom (Region.before ops) ops p
theorem okC_c {ops : Array Oper} {c : Option Nat} {i : Nat} {H' H : Heap} (h : seqFrom (Region.before ops) ops i = true) (h2 : okC ops c = true) : okC ops (chg c i H' H) = true := by
 unfold chg
 split
 ·exact h2
 ·cases c with
  | none => exact h
  | some p => exact h2
theorem okC_n {ops : Array Oper} : okC ops none = true := rfl
section
variable {C : Ctx} {call : CallE} {ops : Array Oper} {bef : Array Nat} {H0 : Heap}
theorem seq_at {p i j : Nat} {oi oj : Oper} (h : seqFrom bef ops p = true) (hp : p ≤ j) (hj : ops[j]? = some oj) (hx : clsOf oj.op = .acts) (hi : ops[i]? = some oi) (hr : clsOf oi.op = .reads) : (i < j → ahead bef i j = true) ∧ (j ≤ i → ahead bef j i = true ∧ ahead bef i j = false) := by
 unfold seqFrom at h
 rw [List.all_eq_true] at h
 have lj : j < ops.size := by rcases Nat.lt_or_ge j ops.size with q | q; exact q; rw [Array.getElem?_eq_none q] at hj; cases hj
 have li : i < ops.size := by rcases Nat.lt_or_ge i ops.size with q | q; exact q; rw [Array.getElem?_eq_none q] at hi; cases hi
 have h1 := h j (List.mem_range.2 lj)
 have b1 : Nat.ble p j = true := by rw [Nat.ble_eq]; exact hp
 have e1 : isX (clsAt ops j) = true := by unfold clsAt; rw [hj]; simp only; rw [hx]; rfl
 have e2 : isR (clsAt ops i) = true := by unfold clsAt; rw [hi]; simp only; rw [hr]; rfl
 rw [b1, e1] at h1
 simp only [Bool.and_self, Bool.not_true, Bool.false_or] at h1
 rw [List.all_eq_true] at h1
 have h2 := h1 i (List.mem_range.2 li)
 rw [e2] at h2
 simp only [Bool.not_true, Bool.false_or] at h2
 constructor
 ·intro hlt
  have : Nat.blt i j = true := by simp; omega
  rw [this] at h2
  exact h2
 ·intro hle
  have : Nat.blt i j = false := by rw [← Bool.not_eq_true]; simp; omega
  rw [this] at h2
  simp only [Bool.and_eq_true, Bool.not_eq_true'] at h2
  exact h2
theorem layF_at {a j : Nat} {oa oj : Oper} (h : layFrom bef ops = true) (hlt : a < j) (ha : ops[a]? = some oa) (hl : clsOf oa.op = .allocs) (hj : ops[j]? = some oj) (hx : clsOf oj.op = .acts) : ahead bef a j = true := by
 unfold layFrom at h
 rw [List.all_eq_true] at h
 have lj : j < ops.size := by rcases Nat.lt_or_ge j ops.size with q | q; exact q; rw [Array.getElem?_eq_none q] at hj; cases hj
 have la : a < ops.size := by omega
 have h1 := h a (List.mem_range.2 la)
 have e1 : isX (clsAt ops j) = true := by unfold clsAt; rw [hj]; simp only; rw [hx]; rfl
 have e2 : isL (clsAt ops a) = true := by unfold clsAt; rw [ha]; simp only; rw [hl]; rfl
 have b1 : Nat.blt a j = true := by simp; omega
 rw [e2] at h1
 simp only [Bool.not_true, Bool.false_or] at h1
 rw [List.all_eq_true] at h1
 have h2 := h1 j (List.mem_range.2 lj)
 rw [b1, e1] at h2
 simpa using h2
theorem want_all {j : Nat} : ∀ {ps : List Pend}, (∀ p, p ∈ ps → ahead bef p.i j = true) → wantedBy bef j ps = allPend ps ∧ unwantedBy bef j ps = []
 | [], _ => ⟨rfl, rfl⟩
 | p :: r, h => by
  obtain ⟨h1, h2⟩ := want_all (ps := r) fun q hq => h q (by simp [hq])
  have hp := h p (by simp)
  constructor
  ·unfold wantedBy; rw [hp, h1]; rfl
  ·unfold unwantedBy; rw [hp]; exact h2
structure InvQ (C : Ctx) (call : CallE) (ops : Array Oper) (bef : Array Nat) (H0 : Heap) (d : DrawSt) (s : St) (ps : List Pend) (c : Option Nat) (i : Nat) : Prop where
 s_ : d.s = s
 ps_ : d.ps = ps
 pi : ∀ p, p ∈ ps → p.i < i ∧ ∃ o, ops[p.i]? = some o ∧ clsOf o.op = .allocs
 hi : ∀ h, h ∈ d.hs → h.1 < i ∧ ∃ o, ops[h.1]? = some o ∧ clsOf o.op = .acts
 rs : ∀ x, x ∈ d.rs → x.i < i ∧ (∃ o, ops[x.i]? = some o ∧ clsOf o.op = .reads) ∧ sameAll C call bef x H0 d.hs = true
 no : c = none → s.H = H0 ∧ (∀ h, h ∈ d.hs → h.2 = H0) ∧ ∀ x, x ∈ d.rs → sameAt C call x H0 = true
 so : ∀ p, c = some p → ∃ h r, d.hs = h :: r ∧ h.2 = s.H ∧ p ≤ h.1
theorem put_w {s : St} {d : Option Tmp} {v : AV} {H : Heap} : St.put (s.wH H) d v = (St.put s d v).bind fun s1 => some (s1.wH H) := by
 obtain ⟨ks, vs, ts, sz, H1⟩ := s
 cases d with
 | none => rfl
 | some t =>
  simp only [St.put, St.set, St.wH]
  cases Nat.blt t sz with
  | false => rfl
  | true => simp only; cases putK t v ks vs <;> rfl
theorem put_Hs {s s' : St} {d : Option Tmp} {v : AV} (h : St.put s d v = some s') : s'.H = s.H := by
 obtain ⟨ks, vs, ts, sz, H1⟩ := s
 cases d with
 | none => simp only [St.put, Option.some.injEq] at h; subst h; rfl
 | some t =>
  simp only [St.put, St.set] at h
  cases hb : Nat.blt t sz with
  | false => rw [hb] at h; cases h
  | true =>
   rw [hb] at h
   simp only at h
   cases hp : putK t v ks vs <;> rw [hp] at h <;> simp only [Option.some.injEq] at h <;> subst h <;> rfl
theorem guard_w {s : St} {o : Oper} {H : Heap} : guardA ops (s.wH H) o = guardA ops s o := rfl
theorem stays : ∀ {l : List Oper} {i base : Nat} {s s' : St} {ps ps' : List Pend} {p : Nat} {c' : Option Nat}, evQ ⟨C, call, ops, base⟩ i l s ps (some p) = some (s', ps', c') → c' = some p
 | [], i, base, s, s', ps, ps', p, c', h => by
  rw [evQ_n] at h
  simp only [Option.some.injEq, Prod.mk.injEq] at h
  exact h.2.2.symm
 | o :: r, i, base, s, s', ps, ps', p, c', h => by
  have hc : ∀ H' H, chg (some p) i H' H = some p := fun H' H => by unfold chg; split <;> rfl
  unfold evQ at h
  split at h
  ·obtain ⟨g, _, h⟩ := Option.bind_eq_some_iff.1 h
   cases g with
   | true =>
    obtain ⟨k, _, h⟩ := Option.bind_eq_some_iff.1 h
    obtain ⟨s1, _, h⟩ := Option.bind_eq_some_iff.1 h
    exact stays h
   | false =>
    obtain ⟨s1, _, h⟩ := Option.bind_eq_some_iff.1 h
    exact stays h
  ·obtain ⟨s1, _, h⟩ := Option.bind_eq_some_iff.1 h
   rw [hc] at h
   exact stays h
  ·obtain ⟨s1, _, h⟩ := Option.bind_eq_some_iff.1 h
   exact stays h
theorem evQ_D {base : Nat} (hl : layFrom bef ops = true) : ∀ {l : List Oper} {i : Nat} {s s' : St} {ps ps' : List Pend} {c c' : Option Nat} {d : DrawSt}, ops.toList.drop i = l → evQ ⟨C, call, ops, base⟩ i l s ps c = some (s', ps', c') →
  (∀ p, c' = some p → seqFrom bef ops p = true) → InvQ C call ops bef H0 d s ps c i → ∃ d', evalD C call ops bef base i l d = some d' ∧ InvQ C call ops bef H0 d' s' ps' c' (i + l.length)
 | [], i, s, s', ps, ps', c, c', d, _, h, _, k => by
  rw [evQ_n] at h
  simp only [Option.some.injEq, Prod.mk.injEq] at h
  obtain ⟨rfl, rfl, rfl⟩ := h
  exact ⟨d, rfl, k⟩
 | o :: r, i, s, s', ps, ps', c, c', d, hd, h, hok, k => by
  have hi : i < ops.toList.length := by
   rcases Nat.lt_or_ge i ops.toList.length with q | q
   ·exact q
   ·rw [List.drop_eq_nil_of_le q] at hd; cases hd
  rw [List.drop_eq_getElem_cons hi, List.cons.injEq] at hd
  have ho : ops[i]? = some o := by
   rw [← hd.1]
   have : i < ops.size := by simpa using hi
   simp [this]
  have hwant := want_all (bef := bef) (j := i) (ps := ps)
  have go : ∀ {d1 : DrawSt} {s1 : St} {ps1 : List Pend} {c1 : Option Nat}, stepD C call ops bef base i o d = some d1 → evQ ⟨C, call, ops, base⟩ (i + 1) r s1 ps1 c1 = some (s', ps', c') → InvQ C call ops bef H0 d1 s1 ps1 c1 (i + 1) →
    ∃ d', evalD C call ops bef base i (o :: r) d = some d' ∧ InvQ C call ops bef H0 d' s' ps' c' (i + (o :: r).length) := fun {d1 s1 ps1 c1} q1 q2 q3 => by
   obtain ⟨d2, r1, r2⟩ := evQ_D hl hd.2 q2 hok q3
   refine ⟨d2, by simp only [evalD, q1, Option.bind_some]; exact r1, ?_⟩
   rw [List.length_cons, show i + (r.length + 1) = i + 1 + r.length by omega]
   exact r2
  obtain ⟨ds, dps, hs, rs⟩ := d
  obtain ⟨rfl, rfl, k3, k4, k5, k6, k7⟩ := k
  simp only at k3 k4 k5 k6 k7 hwant
  have calm : ∀ {s1 : St}, s1.H = ds.H → InvQ C call ops bef H0 ⟨s1, dps, hs, rs⟩ s1 dps c (i + 1) := fun {s1} e => ⟨rfl, rfl, fun p hp => ⟨by have := (k3 p hp).1; omega, (k3 p hp).2⟩, fun x hx => ⟨by have := (k4 x hx).1; omega, (k4 x hx).2⟩,
   fun x hx => ⟨by have := (k5 x hx).1; omega, (k5 x hx).2⟩, fun hc => by rw [e]; exact k6 hc, fun p hp => by rw [e]; exact k7 p hp⟩
  unfold evQ at h
  cases hc : clsOf o.op with
  | allocs =>
   simp only [hc] at h
   obtain ⟨g, hg, h⟩ := Option.bind_eq_some_iff.1 h
   cases g with
   | false =>
    obtain ⟨s1, h1, h⟩ := Option.bind_eq_some_iff.1 h
    exact go (by unfold stepD; simp only [hg, Option.bind_some, h1, hc]) h (calm (put_Hs h1))
   | true =>
    obtain ⟨b, hb, h⟩ := Option.bind_eq_some_iff.1 h
    obtain ⟨s1, h1, h⟩ := Option.bind_eq_some_iff.1 h
    refine go (by unfold stepD; simp only [hg, Option.bind_some, hc, hb, h1]; rfl) h ?_
    have e := calm (put_Hs h1)
    exact ⟨rfl, rfl, fun p hp => by
     rcases List.mem_cons.1 hp with rfl | hp
     ·exact ⟨Nat.lt_succ_self _, o, ho, hc⟩
     ·exact e.pi p hp, e.hi, e.rs, e.no, e.so⟩
  | acts =>
   simp only [hc] at h
   obtain ⟨s1, h1, h⟩ := Option.bind_eq_some_iff.1 h
   obtain ⟨w1, w2⟩ := hwant fun p hp => by
    obtain ⟨q1, oa, q2, q3⟩ := k3 p hp
    exact layF_at hl q1 q2 q3 ho hc
   have hst : stepD C call ops bef base i o ⟨ds, dps, hs, rs⟩ = some ⟨s1, [], (i, s1.H) :: hs, rs⟩ := by
    obtain ⟨g, hg, h1⟩ := Option.bind_eq_some_iff.1 h1
    rw [guard_w] at hg
    unfold stepD
    simp only [hg, Option.bind_some, hc, w1, w2]
    cases g with
    | false =>
     simp only at h1 ⊢
     rw [put_w] at h1
     obtain ⟨s2, e1, e2⟩ := Option.bind_eq_some_iff.1 h1
     simp only [Option.some.injEq] at e2
     rw [e1]
     simp only [Option.bind_some]
     have hH := put_Hs e1
     subst e2
     rw [hH]
     rfl
    | true =>
     simp only at h1 ⊢
     obtain ⟨v, e1, e2⟩ := Option.bind_eq_some_iff.1 h1
     rw [e1]
     simp only [Option.bind_some]
     have e2 : St.put (ds.wH v.2) o.dst v.1 = some s1 := e2
     rw [e2]
     rfl
   refine go hst h ⟨rfl, rfl, fun p hp => (by cases hp), fun x hx => ?_, fun x hx => ?_, fun hn => ?_, fun p hp => ?_⟩
   ·rcases List.mem_cons.1 hx with rfl | hx
    ·exact ⟨Nat.lt_succ_self _, o, ho, hc⟩
    ·exact ⟨by have := (k4 x hx).1; omega, (k4 x hx).2⟩
   ·obtain ⟨q1, ⟨oi, q2, q2'⟩, q3⟩ := k5 x hx
    refine ⟨by omega, ⟨oi, q2, q2'⟩, ?_⟩
    unfold sameAll
    cases ha : ahead bef x.i i with
    | true => exact q3
    | false =>
     simp only
     cases hcg : chg c i s1.H ds.H with
     | some p =>
      rw [hcg] at h
      have hp := hok p (stays h)
      have hpi : p ≤ i := by
       unfold chg at hcg
       split at hcg
       ·obtain ⟨hh, rr, m1, m2, m3⟩ := k7 p hcg
        have := (k4 hh (by rw [m1]; simp)).1
        omega
       ·cases c with
        | none => simp only [Option.getD_none, Option.some.injEq] at hcg; omega
        | some p' =>
         simp only [Option.getD_some, Option.some.injEq] at hcg
         obtain ⟨hh, rr, m1, m2, m3⟩ := k7 p' rfl
         have := (k4 hh (by rw [m1]; simp)).1
         omega
      have := (seq_at hp hpi ho hc q2 q2').1 q1
      rw [ha] at this; cases this
     | none =>
      unfold chg at hcg
      split at hcg
      ·rename_i hH
       obtain ⟨m1, m2, m3⟩ := k6 hcg
       rw [hH, m1, m3 x hx]
       simp only
       cases ahead bef i x.i with
       | true => rfl
       | false => exact q3
      ·cases hcg
   ·unfold chg at hn
    split at hn
    ·rename_i hH
     obtain ⟨m1, m2, m3⟩ := k6 hn
     refine ⟨by rw [hH, m1], fun z hz => ?_, m3⟩
     rcases List.mem_cons.1 hz with rfl | hz
     ·show s1.H = H0
      rw [hH, m1]
     ·exact m2 z hz
    ·cases hn
   ·refine ⟨(i, s1.H), hs, rfl, rfl, ?_⟩
    unfold chg at hp
    split at hp
    ·obtain ⟨hh, rr, m1, m2, m3⟩ := k7 p hp
     have := (k4 hh (by rw [m1]; simp)).1
     show p ≤ i
     omega
    ·cases c with
     | none => simp only [Option.getD_none, Option.some.injEq] at hp; show p ≤ i; omega
     | some p' =>
      simp only [Option.getD_some, Option.some.injEq] at hp
      obtain ⟨hh, rr, m1, m2, m3⟩ := k7 p' rfl
      have := (k4 hh (by rw [m1]; simp)).1
      show p ≤ i
      omega
  | pure =>
   simp only [hc] at h
   obtain ⟨s1, h1, h⟩ := Option.bind_eq_some_iff.1 h
   obtain ⟨g, hg, h1⟩ := Option.bind_eq_some_iff.1 h1
   cases g with
   | false => exact go (by unfold stepD; simp only [hg, Option.bind_some]; simp only at h1; rw [h1]; simp only [Option.bind_some, hc]) h (calm (put_Hs h1))
   | true =>
    simp only at h1
    obtain ⟨⟨v, Hv⟩, hv, hp⟩ := Option.bind_eq_some_iff.1 h1
    obtain ⟨e, _⟩ := evalVal_pure hc hv
    subst e
    have hp' : ds.put o.dst v = some s1 := hp
    exact go (by unfold stepD; simp only [hg, Option.bind_some, hc, hv, hp']) h (calm (put_Hs hp'))
  | reads =>
   simp only [hc] at h
   obtain ⟨s1, h1, h⟩ := Option.bind_eq_some_iff.1 h
   obtain ⟨g, hg, h1⟩ := Option.bind_eq_some_iff.1 h1
   cases g with
   | false => exact go (by unfold stepD; simp only [hg, Option.bind_some]; simp only at h1; rw [h1]; simp only [Option.bind_some, hc]) h (calm (put_Hs h1))
   | true =>
    simp only at h1
    obtain ⟨⟨v, Hv⟩, hv, hp⟩ := Option.bind_eq_some_iff.1 h1
    have e := evalVal_reads hc hv
    subst e
    have hp' : ds.put o.dst v = some s1 := hp
    have e := calm (put_Hs hp')
    have here : sameAt C call ⟨i, o, ds, v⟩ ds.H = true := by
     unfold sameAt
     have : evalVal C call o { ds with H := ds.H } = some (v, ds.H) := hv
     simp only [this, decide_true]
    refine go (d1 := ⟨s1, dps, hs, ⟨i, o, ds, v⟩ :: rs⟩) (by unfold stepD; simp only [hg, Option.bind_some, hc, hv, hp']) h ⟨rfl, rfl, e.pi, e.hi, fun x hx => ?_, fun hn => ⟨(e.no hn).1, (e.no hn).2.1, fun x hx => ?_⟩, e.so⟩
    ·rcases List.mem_cons.1 hx with rfl | hx
     ·refine ⟨Nat.lt_succ_self _, ⟨o, ho, hc⟩, ?_⟩
      cases hcc : c with
      | none =>
       obtain ⟨m1, m2, m3⟩ := k6 hcc
       exact same_K (H0 := H0) ⟨(v, ds.H), by rw [← m1]; exact hv, rfl⟩ m2
      | some p =>
       obtain ⟨hh, rr, m1, m2, m3⟩ := k7 p hcc
       rw [m1]
       subst hcc
       have hp := hok p (stays h)
       obtain ⟨q1, oj, q2, q3⟩ := k4 hh (by rw [m1]; simp)
       obtain ⟨u1, u2⟩ := (seq_at hp m3 q2 q3 ho hc).2 (by omega)
       unfold sameAll
       simp only [u1, u2, m2, here]
     ·exact e.rs x hx
    ·rcases List.mem_cons.1 hx with rfl | hx
     ·rw [← (k6 hn).1]; exact here
     ·exact (e.no hn).2.2 x hx
theorem sames_Q {hs : List (Nat × Heap)} : ∀ {rs : List Rec}, (∀ x, x ∈ rs → sameAll C call bef x H0 hs = true) → sameRecs C call bef H0 hs rs = true
 | [], _ => rfl
 | x :: r, h => by
  unfold sameRecs
  rw [h x (by simp)]
  exact sames_Q fun y hy => h y (by simp [hy])
end
section
variable {C : Ctx} {call : CallE} {ops : Array Oper} {n : Nat} {s : St} {Q : Out → St → Prop} {id : Nat}
theorem wps_drawQ (hm : C.P.follows .mixedOrders = true) (hC : CallOK C call) (hd : drawOK ops = true) (hl : layFrom (Region.before ops) ops = true) (hf : freshenAll ops.toList { s with ts := [] } = { s with ts := [] })
  (h : ∃ y : QR, evQ ⟨C, call, ops, s.H.n⟩ 0 ops.toList { s with ts := [], H := ⟨s.H.n + ops.size, s.H.fs⟩ } [] none = some y ∧ okC ops y.2.2 = true ∧ Q .normal { y.1 with H := y.1.H.lay (allPend y.2.1) }) : WpS C n (.region id ops true) s Q := by
 obtain ⟨⟨s', ps, c⟩, h1, h2, h3⟩ := h
 refine wps_drawn hm hC hd fun B hB => ?_
 subst hB
 have hr : reserve (freshenAll ops.toList { s with ts := [] }) ops.size = { s with ts := [], H := ⟨s.H.n + ops.size, s.H.fs⟩ } := by rw [hf]; rfl
 rw [hr]
 obtain ⟨d, q1, q2⟩ := evQ_D (H0 := ⟨s.H.n + ops.size, s.H.fs⟩) (d := ⟨{ s with ts := [], H := ⟨s.H.n + ops.size, s.H.fs⟩ }, [], [], []⟩) hl rfl h1 (fun p hp => by subst hp; exact h2)
  ⟨rfl, rfl, fun p hp => (by cases hp), fun x hx => (by cases hx), fun x hx => (by cases hx), fun _ => ⟨rfl, fun x hx => (by cases hx), fun x hx => (by cases hx)⟩, fun p hp => (by cases hp)⟩
 refine ⟨d, q1, sames_Q fun x hx => (q2.rs x hx).2.2, ?_⟩
 rw [q2.ps_, q2.s_]
 exact h3
end
section
variable {P : QR → Prop} {ops : Array Oper} {A : QA} {i : Nat} {r : List Oper} {ps : List Pend} {c : Option Nat} {C : Ctx} {call : CallE} {s : St} {o : Oper}
theorem runQ {E R : Option QR} (h : E = R) (k : ∃ y, R = some y ∧ P y) : ∃ y, E = some y ∧ P y := by subst h; exact k
theorem run_endQ {y : QR} (k : P y) : ∃ y', some y = some y' ∧ P y' := ⟨y, rfl, k⟩
theorem gate_splitQ {b : Bool} (h1 : b = true → ∃ y, nxQ A i r ps c (gateV C call s o (some true)) = some y ∧ P y) (h2 : b = false → ∃ y, nxQ A i r ps c (gateV C call s o (some false)) = some y ∧ P y) : ∃ y, nxQ A i r ps c (gateV C call s o (some b)) = some y ∧ P y := by
 cases b with
 | true => exact h1 rfl
 | false => exact h2 rfl
theorem gate_splitX {b : Bool} {H : Heap} (h1 : b = true → ∃ y, nxX A i r c H (gateV C call s o (some true)) = some y ∧ P y) (h2 : b = false → ∃ y, nxX A i r c H (gateV C call s o (some false)) = some y ∧ P y) : ∃ y, nxX A i r c H (gateV C call s o (some b)) = some y ∧ P y := by
 cases b with
 | true => exact h1 rfl
 | false => exact h2 rfl
theorem pick_splitQ {H : Heap} {d : Option Tmp} {p q : Option AV} {b : Bool} (h1 : b = true → ∃ y, nxQ A i r ps c (putV s d (pickV H (some (.bool true)) p q)) = some y ∧ P y) (h2 : b = false → ∃ y, nxQ A i r ps c (putV s d (pickV H (some (.bool false)) p q)) = some y ∧ P y) :
  ∃ y, nxQ A i r ps c (putV s d (pickV H (some (.bool b)) p q)) = some y ∧ P y := by
 cases b with
 | true => exact h1 rfl
 | false => exact h2 rfl
end
end
end Go.Proofs.YtfgdcciaecajpaaGreatDoor