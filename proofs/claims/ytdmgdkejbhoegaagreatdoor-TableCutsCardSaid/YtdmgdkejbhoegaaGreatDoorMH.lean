/- slices.Insert of numbers. No condition. -/
import Derived.Test.YtdmgdkejbhoegaaGreatDoorMG
import Derived.Lib.Bytealg
import Derived.Shelf.Strings.SlTrimAscii
import Derived.Test.YtdmgdkejbhoegaaGreatDoorProg
import Derived.Shelf.Spec.SlicesInsertGrow
namespace Go.Proofs.YtdmgdkejbhoegaaGreatDoor
set_option linter.unusedSimpArgs false
set_option linter.unusedVariables false
open Go Go.RowKit
set_option maxRecDepth 100000
def asciiB (s : Str) : Prop := ∀ c, c ∈ s → c.toNat < 128
theorem dec_ascii {s : Str} {i : Nat} (h : i < s.length) (hc : s[i].toNat < 128) : Utf8.decode ⟨s.toArray⟩ i = (s[i].toNat, 1) := by
  have h0 : (ByteArray.get! ⟨s.toArray⟩ (i + 0)).toNat = s[i].toNat := by
    show (s.toArray[i + 0]!).toNat = _
    simp [h]
  unfold Utf8.decode
  simp only [h0, hc, if_true]
def spnC (L : List (Nat × Nat)) : List AV := L.flatMap fun p => [.int .i64 (p.1 : Int), .int .i64 (p.2 : Int)]
def spn (p : Nat × Nat) : AV := .agg [.int .i64 (p.1 : Int), .int .i64 (p.2 : Int)]
def zeros (n : Nat) : List AV := List.replicate n (.int .i64 0)
def spV (n : Nat) : AV := if n ≤ 32 then .slc 0 0 n (.ex 32) else .slc 0 0 n (.rest 2)
def spB (L : List (Nat × Nat)) : List AV := if L.length ≤ 32 then spnC L ++ zeros (64 - 2 * L.length) else spnC L
theorem spnC_len (L : List (Nat × Nat)) : (spnC L).length = 2 * L.length := by
  induction L with
  | nil => rfl
  | cons a r ih => simp only [spnC, List.flatMap_cons, List.length_append, List.length_cons, List.length_nil] at ih ⊢; omega
theorem spnC_app (L : List (Nat × Nat)) (p : Nat × Nat) : spnC (L ++ [p]) = spnC L ++ [.int .i64 (p.1 : Int), .int .i64 (p.2 : Int)] := by simp [spnC]
theorem spnC_pure (L : List (Nat × Nat)) : pureL (spnC L) = true := by
  induction L with
  | nil => rfl
  | cons a r ih =>
    have : spnC (a :: r) = [.int .i64 (a.1 : Int), .int .i64 (a.2 : Int)] ++ spnC r := rfl
    rw [this, pureL_append, ih]; rfl
theorem zeros_pure (n : Nat) : pureL (zeros n) = true := by
  induction n with
  | zero => rfl
  | succ n ih => simp only [zeros, List.replicate_succ] at ih ⊢; simp [pureL, pureV, ih]
theorem spB_pure (L : List (Nat × Nat)) : pureL (spB L) = true := by
  unfold spB
  split
  · rw [pureL_append, spnC_pure, zeros_pure]; rfl
  · exact spnC_pure L
theorem flat_spn (L : List (Nat × Nat)) : flatAV (L.map spn) = spnC L := by
  induction L with
  | nil => rfl
  | cons a r ih => simp only [List.map_cons, flatAV, ih]; rfl
theorem el_spn (L : List (Nat × Nat)) : Elems 2 (L.map spn) := .map (sz := 2) (f := spn) (by decide) (fun x => ⟨rfl, rfl, fun h => absurd h (by decide), fun _ => ⟨_, rfl⟩⟩) L
theorem sub_spB (L : List (Nat × Nat)) : subL 0 (L.length * 2) (spB L) = some (spnC L) := by
  have h : (spnC L).length = L.length * 2 := by rw [spnC_len]; omega
  unfold spB
  split
  · rw [subL_front (by simp; omega), List.drop_zero, List.take_append_of_le_length (by omega), List.take_of_length_le (by omega)]
  · rw [subL_front (by omega), List.drop_zero, List.take_of_length_le (by omega)]
theorem app_sp {L : List (Nat × Nat)} {p : Nat × Nat} {I : Blk} (hl : L.length ≤ 1000000) :
    ∃ b m f, b ≠ 1 ∧ appendA Tryz.prog ⟨3, [[(2, .cells [.int .i64 (p.1 : Int), .int .i64 (p.2 : Int)]), (1, I), (0, .cells (spB L))]]⟩ 157 (spV L.length) (.slc 2 0 1 (.ex 1)) =
      some ((if L.length + 1 ≤ 32 then .slc b 0 (L.length + 1) (.ex 32) else .slc b 0 (L.length + 1) (.rest 2)), ⟨m, f⟩) ∧ Heap.get ⟨m, f⟩ 1 = some I ∧ Heap.get ⟨m, f⟩ b = some (.cells (spB (L ++ [p]))) := by
  have hcs : ∀ H : Heap, Heap.get H 2 = some (.cells [.int .i64 (p.1 : Int), .int .i64 (p.2 : Int)]) → srcCells H 2 1 (.slc 2 0 1 (.ex 1)) = some [.int .i64 (p.1 : Int), .int .i64 (p.2 : Int)] := fun H h => by
    simp [srcCells, readCells, h]
  have g0 : Heap.get ⟨3, [[(2, .cells [.int .i64 (p.1 : Int), .int .i64 (p.2 : Int)]), (1, I), (0, .cells (spB L))]]⟩ 0 = some (.cells (spB L)) := by simp [Heap.get, getFs, getF]
  have hsrc := hcs ⟨3, [[(2, .cells [.int .i64 (p.1 : Int), .int .i64 (p.2 : Int)]), (1, I), (0, .cells (spB L))]]⟩ (by simp [Heap.get, getFs, getF])
  have hroom : roomOK (L.length + 1) 16 = true := by unfold roomOK; rw [Nat.ble_eq]; omega
  have hrow : ∀ cs, rowA Tryz.prog 157 cs = .cells cs := fun cs => rfl
  have h64 : (spnC L).length = 2 * L.length := spnC_len L
  have hlen1 : (L ++ [p]).length = L.length + 1 := by simp
  by_cases h1 : L.length + 1 ≤ 32
  · have hv : spV L.length = .slc 0 0 L.length (.ex 32) := by unfold spV; rw [if_pos (by omega)]
    have hb : Nat.ble (L.length + 1) 32 = true := by rw [Nat.ble_eq]; exact h1
    have hB : spB L = spnC L ++ zeros 2 ++ zeros (62 - 2 * L.length) := by
      unfold spB
      rw [if_pos (by omega), List.append_assoc]
      congr 1
      simp only [zeros]; rw [List.replicate_append_replicate]; congr 1; omega
    have hB2 : spB (L ++ [p]) = spnC L ++ [.int .i64 (p.1 : Int), .int .i64 (p.2 : Int)] ++ zeros (62 - 2 * L.length) := by
      unfold spB
      rw [hlen1, if_pos h1, spnC_app]
      congr 2
      omega
    have hlay : layL [.int .i64 (p.1 : Int), .int .i64 (p.2 : Int)] (0 + L.length * 2) (spB L) = some (spB (L ++ [p])) := by
      have := layL_app (a := spnC L) (b := zeros 2) (b' := [.int .i64 (p.1 : Int), .int .i64 (p.2 : Int)]) (c := zeros (62 - 2 * L.length)) rfl
      rw [h64] at this
      rw [hB, hB2, show 0 + L.length * 2 = 2 * L.length by omega, this]
    refine ⟨0, 3, [[(2, .cells [.int .i64 (p.1 : Int), .int .i64 (p.2 : Int)]), (1, I), (0, .cells (spB (L ++ [p])))]], by omega, ?_, by simp [Heap.get, getFs, getF], by simp [Heap.get, getFs, getF]⟩
    rw [if_pos h1, hv]
    unfold appendA
    simp only [szT157, byT157, zeT157, Option.bind_some, srcLen, hsrc, hroom, hb]
    simp only [writeCells, g0, Option.bind_some, Blk.wt, hlay, Blk.re]
    simp [Heap.ready, refs, Heap.set, setFs, setF, allSingle, AV.single]
    rfl
  · have hB2 : spB (L ++ [p]) = spnC L ++ [.int .i64 (p.1 : Int), .int .i64 (p.2 : Int)] := by
      unfold spB
      rw [hlen1, if_neg h1, spnC_app]
    have hread : readCells ⟨3, [[(2, .cells [.int .i64 (p.1 : Int), .int .i64 (p.2 : Int)]), (1, I), (0, .cells (spB L))]]⟩ 0 0 (L.length * 2) = some (spnC L) := by
      unfold readCells
      simp only [g0, Option.bind_some, rd_cells]
      exact sub_spB L
    by_cases h2 : L.length = 32
    · have hv : spV L.length = .slc 0 0 L.length (.ex 32) := by unfold spV; rw [if_pos (by omega)]
      have hb : Nat.ble (L.length + 1) 32 = false := by rw [← Bool.not_eq_true, Nat.ble_eq]; exact h1
      refine ⟨3, 4, [[(3, .cells (spB (L ++ [p]))), (2, .cells [.int .i64 (p.1 : Int), .int .i64 (p.2 : Int)]), (1, I), (0, .cells (spB L))]], by omega, ?_, by simp [Heap.get, getFs, getF], by simp [Heap.get, getFs, getF]⟩
      rw [if_neg h1, hv, hB2]
      unfold appendA
      simp only [szT157, byT157, zeT157, Option.bind_some, srcLen, hsrc, hroom, hb, hread, hrow]
      simp [Heap.new, pushF, allSingle, AV.single]
      rfl
    · have hv : spV L.length = .slc 0 0 L.length (.rest 2) := by unfold spV; rw [if_neg (by omega)]
      have hB : spB L = spnC L := by unfold spB; rw [if_neg (by omega)]
      have hk : knownCells ⟨3, [[(2, .cells [.int .i64 (p.1 : Int), .int .i64 (p.2 : Int)]), (1, I), (0, .cells (spB L))]]⟩ 0 = some (2 * L.length) := by
        rw [knownCells, g0, hB]; simp [h64]
      have hb1 : Nat.ble (0 + (L.length + 1) * 2) (2 * L.length) = false := by rw [← Bool.not_eq_true, Nat.ble_eq]; omega
      have hb2 : Nat.beq (0 + L.length * 2) (2 * L.length) = true := by rw [show 0 + L.length * 2 = 2 * L.length by omega]; exact Nat.beq_refl _
      refine ⟨3, 4, [[(3, .cells (spB (L ++ [p]))), (2, .cells [.int .i64 (p.1 : Int), .int .i64 (p.2 : Int)]), (1, I)]], by omega, ?_, by simp [Heap.get, getFs, getF], by simp [Heap.get, getFs, getF]⟩
      rw [if_neg h1, hv, hB2]
      unfold appendA
      simp only [szT157, byT157, zeT157, Option.bind_some, srcLen, hsrc, hroom, hk, hb1, hb2, hread, g0, goOn_cells]
      simp [Heap.new, pushF, allSingle, AV.single, Heap.drop, killFs, getF, killF]
      rfl
def wordAt (s : Str) (p : Nat × Nat) : Str := (s.drop p.1).take (p.2 - p.1)
structure SpOk (s : Str) (i : Nat) (L : List (Nat × Nat)) (st : Int) : Prop where
  le : i ≤ s.length
  few : L.length ≤ i
  done : L.map (wordAt s) = (wst (s.take i)).1
  rng : ∀ p, p ∈ L → p.1 ≤ p.2 ∧ p.2 ≤ s.length
  lo : -1000001 ≤ st
  cur : (st < 0 ∧ (wst (s.take i)).2 = []) ∨ ∃ a : Nat, st = a ∧ a < i ∧ (wst (s.take i)).2 = wordAt s (a, i)
theorem fit_sp {H : Heap} {b j : Nat} {s : Str} {cs : List AV} (hb : b ≠ 1) (h1 : H.get 1 = some (.iter s j)) (h2 : H.get b = some (.cells cs)) (hp : pureL cs = true) : FitH 0 [(1, 1), (b, 0)] [] H ⟨2, [[(1, .iter s j), (0, .cells cs)]]⟩ where
  nd1 := by simp; omega
  nd2 := by simp
  nd3 := by simp [Heap.ents]
  lt := fun x hx => by simp at hx; rcases hx with rfl | rfl <;> simp
  idn := fun x hx h => by rcases h with h | h <;> exact absurd h (Nat.not_lt_zero _)
  num := Nat.zero_le _
  src := fun e he => by
    simp [Heap.ents] at he
    rcases he with rfl | rfl
    · exact ⟨1, _, by simp, h1, by simp [fitB]⟩
    · exact ⟨b, _, by simp, h2, fitL_pure hp⟩
  frz := fun x hx => by cases hx
theorem word_one {s : Str} {i : Nat} (h : i < s.length) : wordAt s (i, i + 1) = [s[i]] := by
  unfold wordAt
  simp only
  rw [List.drop_eq_getElem_cons h, show i + 1 - i = 1 by omega]
  rfl
theorem word_more {s : Str} {a i : Nat} (h : i < s.length) (ha : a ≤ i) : wordAt s (a, i + 1) = wordAt s (a, i) ++ [s[i]] := by
  unfold wordAt
  simp only
  rw [show i + 1 - a = (i - a) + 1 by omega, List.take_succ_eq_append_getElem (by simp; omega)]
  congr 2
  rw [List.getElem_drop]
  congr 1
  omega
theorem sp_space0 {s : Str} {i : Nat} {L : List (Nat × Nat)} {st : Int} (h : i < s.length) (k : SpOk s i L st) (hs : sp s[i] = true) (h0 : st < 0) : SpOk s (i + 1) L st := by
  have he : (wst (s.take i)).2 = [] := by
    rcases k.cur with ⟨_, h⟩ | ⟨a, ha, _⟩
    · exact h
    · omega
  refine ⟨by omega, by have := k.few; omega, ?_, k.rng, k.lo, .inl ⟨h0, ?_⟩⟩
  · rw [wst_at h]; simp only [wstep, hs, if_true, he, k.done]
  · rw [wst_at h]; simp only [wstep, hs, if_true]
theorem sp_space1 {s : Str} {i a : Nat} {L : List (Nat × Nat)} (h : i < s.length) (k : SpOk s i L (a : Int)) (hs : sp s[i] = true) (hl : s.length ≤ 1000000) : SpOk s (i + 1) (L ++ [(a, i)]) (-(a : Int) - 1) := by
  obtain ⟨hai, hc⟩ : a < i ∧ (wst (s.take i)).2 = wordAt s (a, i) := by
    rcases k.cur with ⟨h, _⟩ | ⟨b, hb, h1, h2⟩
    · omega
    · have : a = b := by omega
      subst this; exact ⟨h1, h2⟩
  have hne : ¬ wordAt s (a, i) = [] := by
    intro e
    have := congrArg List.length e
    simp [wordAt] at this
    omega
  refine ⟨by omega, by have := k.few; simp; omega, ?_, fun p hp => ?_, by omega, .inl ⟨by omega, ?_⟩⟩
  · rw [wst_at h]; simp only [wstep, hs, if_true, hc, hne, if_false, List.map_append, k.done]; rfl
  · rcases List.mem_append.1 hp with hp | hp
    · exact k.rng p hp
    · simp at hp; subst hp; exact ⟨by simp only; omega, by simp only; omega⟩
  · rw [wst_at h]; simp only [wstep, hs, if_true]
theorem sp_char0 {s : Str} {i : Nat} {L : List (Nat × Nat)} {st : Int} (h : i < s.length) (k : SpOk s i L st) (hs : sp s[i] = false) (h0 : st < 0) : SpOk s (i + 1) L (i : Int) := by
  have he : (wst (s.take i)).2 = [] := by
    rcases k.cur with ⟨_, h⟩ | ⟨a, ha, _⟩
    · exact h
    · omega
  refine ⟨by omega, by have := k.few; omega, ?_, k.rng, by omega, .inr ⟨i, rfl, by omega, ?_⟩⟩
  · rw [wst_at h]; simp [wstep, hs, k.done]
  · rw [wst_at h, word_one h]; simp [wstep, hs, he]
theorem sp_char1 {s : Str} {i a : Nat} {L : List (Nat × Nat)} (h : i < s.length) (k : SpOk s i L (a : Int)) (hs : sp s[i] = false) : SpOk s (i + 1) L (a : Int) := by
  obtain ⟨hai, hc⟩ : a < i ∧ (wst (s.take i)).2 = wordAt s (a, i) := by
    rcases k.cur with ⟨h, _⟩ | ⟨b, hb, h1, h2⟩
    · omega
    · have : a = b := by omega
      subst this; exact ⟨h1, h2⟩
  refine ⟨by omega, by have := k.few; omega, ?_, k.rng, by omega, .inr ⟨a, rfl, by omega, ?_⟩⟩
  · rw [wst_at h]; simp [wstep, hs, k.done]
  · rw [wst_at h, word_more h (by omega)]; simp [wstep, hs, hc]
theorem sp_begin (s : Str) : SpOk s 0 [] (-1) := ⟨Nat.zero_le _, by simp, by simp [wst], by simp, by omega, .inl ⟨by omega, by simp [wst]⟩⟩
theorem sp_end0 {s : Str} {L : List (Nat × Nat)} {st : Int} (k : SpOk s s.length L st) (h0 : st < 0) : L.map (wordAt s) = wsplit s := by
  have he : (wst (s.take s.length)).2 = [] := by
    rcases k.cur with ⟨_, h⟩ | ⟨a, ha, _⟩
    · exact h
    · omega
  have hd := k.done
  rw [List.take_of_length_le (Nat.le_refl _)] at hd he
  rw [hd, wsplit, wfin, if_pos he]
theorem sp_end1 {s : Str} {a : Nat} {L : List (Nat × Nat)} (k : SpOk s s.length L (a : Int)) : (L ++ [(a, s.length)]).map (wordAt s) = wsplit s ∧ a < s.length := by
  obtain ⟨hai, hc⟩ : a < s.length ∧ (wst (s.take s.length)).2 = wordAt s (a, s.length) := by
    rcases k.cur with ⟨h, _⟩ | ⟨b, hb, h1, h2⟩
    · omega
    · have : a = b := by omega
      subst this; exact ⟨h1, h2⟩
  have hne : ¬ wordAt s (a, s.length) = [] := by
    intro e
    have := congrArg List.length e
    simp [wordAt] at this
    omega
  have hd := k.done
  rw [List.take_of_length_le (Nat.le_refl _)] at hd hc
  refine ⟨?_, hai⟩
  rw [List.map_append, hd, wsplit, wfin, hc, if_neg hne]
  rfl
theorem xor_not {a : Nat} (h : a ≤ 1000000) : unA .xor (.int .i64 (a : Int)) = some (.int .i64 (-(a : Int) - 1)) := by
  have h1 : (BitVec.ofInt 64 (-1) ^^^ BitVec.ofInt 64 (a : Int)).toNat = 18446744073709551615 - a := by
    have e1 : BitVec.ofInt 64 (-1) = BitVec.allOnes 64 := by decide
    have e2 : BitVec.ofInt 64 (a : Int) = BitVec.ofNat 64 a := by simp
    rw [e1, e2, BitVec.allOnes_xor, BitVec.toNat_not, BitVec.toNat_ofNat]
    omega
  show some (AV.int .i64 (IntKind.i64.wrap ((BitVec.ofInt 64 (-1) ^^^ BitVec.ofInt 64 (a : Int)).toNat : Int))) = _
  rw [h1]
  have h2 : IntKind.i64.wrap ((18446744073709551615 - a : Nat) : Int) = -(a : Int) - 1 := by
    have h3 : ((18446744073709551615 - a : Nat) : Int) = 18446744073709551615 - (a : Int) := by omega
    rw [h3]
    simp [IntKind.wrap, IntKind.signed, IntKind.bits]
    omega
  rw [h2]
@[simp] theorem fr_range {d : Option Tmp} {t : TypeId} {l : Operand} {ty : TypeId} {pos : String} {af : Array Edge} {g : Option (Nat × Bool)} {s : St} : freshen s ⟨d, .range t l, ty, pos, af, g⟩ = s := rfl
@[simp] theorem fr_next {d : Option Tmp} {b : Bool} {l : Operand} {ty : TypeId} {pos : String} {af : Array Edge} {g : Option (Nat × Bool)} {s : St} : freshen s ⟨d, .next l b, ty, pos, af, g⟩ = s := rfl
def bls (n : Nat) : List AV := List.replicate n (.str [])
def sts (L : List Str) : List AV := L.map .str
theorem bls_pure (n : Nat) : pureL (bls n) = true := by
  induction n with
  | zero => rfl
  | succ n ih => simp only [bls, List.replicate_succ] at ih ⊢; simp [pureL, pureV, ih]
theorem sts_pure (L : List Str) : pureL (sts L) = true := by
  induction L with
  | nil => rfl
  | cons a r ih => simp only [sts, List.map_cons] at ih ⊢; simp [pureL, pureV, ih]
theorem sts_set {X : List Str} {k : Nat} {w : Str} : (sts X ++ bls (k + 1)).set X.length (.str w) = sts (X ++ [w]) ++ bls k := by
  rw [List.set_append_right _ _ (by simp [sts])]
  simp [sts, bls, List.replicate_succ]
theorem mkStrs {H : Heap} {n : Nat} (h : n ≤ 1000000) : makeSliceA Tryz.prog H 113 (.int .i64 (n : Int)) (.int .i64 (n : Int)) = some (.slc H.n 0 n (.ex n), H.new (.cells (bls n))) := by
  have hr : ∀ n, replL [AV.str []] n = bls n := fun n => by
    induction n with
    | zero => rfl
    | succ n ih => simp [replL, ih, bls, List.replicate_succ]
  have h1 : idx (n : Int) 17592186044416 = some n := idx_nat (by omega)
  have h2 : idx (n : Int) (Nat.succ n) = some n := idx_nat (by omega)
  have h3 : roomOK n 16 = true := by unfold roomOK; rw [Nat.ble_eq]; omega
  unfold makeSliceA msB
  simp [h1, h2, h3, hr]
theorem mkSp {H : Heap} : makeSliceA Tryz.prog H 155 (.int .i64 0) (.int .i64 32) = some (.slc H.n 0 0 (.ex 32), H.new (.cells (zeros 64))) := rfl
theorem ixS {b n i : Nat} {c : Cap} (h : i < n) : indexAddrA Tryz.prog 113 (.slc b 0 n c) (.int .i64 (i : Int)) = some (.ptr b i) := by
  simp [indexAddrA, idx_nat h]
theorem layS {v : AV} : ∀ {cs : List AV} {i : Nat}, i < cs.length → layL [v] i cs = some (cs.set i v)
  | [], _, h => absurd h (Nat.not_lt_zero _)
  | x :: r, 0, _ => by simp [layL, overL]
  | x :: r, i + 1, h => by
    simp only [layL, layS (cs := r) (i := i) (by simpa using h)]
    rfl
def aSp (L : List (Nat × Nat)) : AV := .fslc 2 (L.map spn)
theorem atSp {L : List (Nat × Nat)} {i : Nat} (h : i < L.length) : indexAddrA Tryz.prog 155 (aSp L) (.int .i64 (i : Int)) = some (.fptr [.int .i64 ((L[i]).1 : Int), .int .i64 ((L[i]).2 : Int)] 0) := by
  simp [indexAddrA, aSp, idx_nat h, getL_map h]
  simp [spn]
theorem lenSp {H : Heap} {L : List (Nat × Nat)} : lenA Tryz.prog H 155 (aSp L) = some L.length := by simp [lenA, aSp]
theorem slW {H : Heap} {s : Str} {a b : Nat} (h1 : a ≤ b) (h2 : b ≤ s.length) : sliceA Tryz.prog H 9 (.str s) (some (.int .i64 (a : Int))) (some (.int .i64 (b : Int))) none = some (.str (wordAt s (a, b))) := by
  have i1 : idx (b : Int) (Nat.succ s.length) = some b := idx_nat (by omega)
  have i2 : idx (a : Int) (Nat.succ b) = some a := idx_nat (by omega)
  simp [sliceA, hiOK, bound, i1, i2, wordAt, List.drop_take]
theorem nx_yes {m i : Nat} {s : Str} {B : Blk} (h : i < s.length) (hc : s[i].toNat < 128) : nextA ⟨m, [[(1, .iter s i), (0, B)]]⟩ 1 = some (.tup [.bool true, .int .i64 i, .int .i32 (s[i].toNat : Int)], ⟨m, [[(1, .iter s (i + 1)), (0, B)]]⟩) := by
  have hb : Nat.blt i s.length = true := by simpa using h
  simp [nextA, Heap.get, getFs, getF, hb, dec_ascii h hc, Heap.set, setFs, setF]
theorem nx_no {m i : Nat} {s : Str} {B : Blk} (h : ¬ i < s.length) : nextA ⟨m, [[(1, .iter s i), (0, B)]]⟩ 1 = some (.tup [.bool false], ⟨m, [[(1, .iter s i), (0, B)]]⟩) := by
  have hb : Nat.blt i s.length = false := by
    cases hq : Nat.blt i s.length with
    | false => rfl
    | true => exact absurd (by simpa using hq) h
  simp [nextA, Heap.get, getFs, getF, hb]
theorem spV_yes (n : Nat) (b : Nat) : ∃ c, (if n ≤ 32 then AV.slc b 0 n (.ex 32) else AV.slc b 0 n (.rest 2)) = .slc b 0 n c ∧ spV n = .slc 0 0 n c := by
  unfold spV
  split
  · exact ⟨_, rfl, rfl⟩
  · exact ⟨_, rfl, rfl⟩
theorem fit_spV {L : List (Nat × Nat)} {σ : List (Nat × Nat)} {Φ : List (Nat × List AV)} (h : lookC 0 Φ = some (spB L)) : fitV σ Φ (spV L.length) (aSp L) := by
  obtain ⟨c, _, hc⟩ := spV_yes L.length 0
  rw [hc]
  simp only [aSp, fitV]
  refine .inl ⟨_, h, ?_, by simp, (el_spn L).size⟩
  rw [flat_spn, sub_spB]
theorem fit_all {H : Heap} {b : Nat} {cs : List AV} (h : H.get b = some (.cells cs)) (hp : pureL cs = true) : FitH 0 [] [(b, cs)] H ⟨0, [[]]⟩ := by
  refine ⟨by simp, by simp, by simp [Heap.ents], fun x h => (by cases h), fun x h => (by cases h), Nat.le_refl _, fun e h => (by simp [Heap.ents] at h), fun x hx => ?_⟩
  rw [List.mem_singleton] at hx
  subst hx
  exact ⟨_, h, fitL_pure hp, hp⟩
theorem fit_spVV {n : Nat} : fitV [(1, 1), (0, 0)] [] (spV n) (spV n) := by
  obtain ⟨c, _, hc⟩ := spV_yes n 0
  rw [hc]
  simp [fitV, lookN]
def sbC : List Nat → Code → Code
  | [], c => c
  | d :: r, c => match c with
    | .seq a b => match d with
      | 0 => sbC r a
      | _ => sbC r b
    | c => c
def bdO (f : Func) : Code := match f.body with
  | some c => c
  | none => .skip
theorem flat_sts : ∀ (L : List Str), flatAV (L.map AV.str) = sts L
  | [] => rfl
  | a :: r => by simp only [List.map_cons, flatAV, flat_sts r]; rfl
noncomputable def cdFF : Code := sbC [1, 1, 1, 1, 1] (bdO Tryz.f148)
theorem ff_rest {T : List (Entry Tryz.prog)} (s : Str) (L : List (Nat × Nat)) (hL : L.length ≤ 1000000) (hr : ∀ p, p ∈ L → p.1 ≤ p.2 ∧ p.2 ≤ s.length) (W : List Str) (hW : L.map (wordAt s) = W) :
    WpSr (ctx T) 0 none cdFF ((⟨[0, 1, 4, 5, 6, 7, 8, 9, 10, 11, 14, 15, 47, 48, 49], [.str s, .undef, .nilS, aSp L, .undef, .undef, .undef, .undef, .undef, .undef, .undef, .undef, .undef, .undef, .undef], [], 65, ⟨0, [[]]⟩⟩ : St)) (fun x s => (x = .normal ∨ x = .ret) ∧ ∃ vs, retVal (ctx T) s [.tmp 4] = some vs ∧ ∃ σ Φ, fitV σ Φ (oneOr vs) (aStrs W) ∧ FitH 0 σ Φ s.H ⟨0, []⟩) := by
  simp only [cdFF, sbC, bdO, Tryz.f148]
  have hm := fun H => mkStrs (H := H) (n := L.length) hL
  repeat refine wps_seq ?_
  refine wps_region callOK ?_
  simp [zS, lenSp, hm]
  repeat refine wps_seq ?_
  refine wps_region callOK ?_
  simp [zS, lenSp]
  obtain ⟨F, hF⟩ : ∃ F : Nat → List Str, F = fun i => (L.take i).map (wordAt s) := ⟨_, rfl⟩
  have hF0 : F 0 = [] := by rw [hF]; simp
  have hFl : ∀ i, i ≤ L.length → (F i).length = i := fun i hi => by rw [hF]; simp; omega
  have hFs : ∀ (i : Nat) (h : i < L.length), F (i + 1) = F i ++ [wordAt s L[i]] := fun i h => by
    rw [hF]
    show (L.take (i + 1)).map (wordAt s) = _
    rw [List.take_succ_eq_append_getElem h, List.map_append]; rfl
  have hFn : F L.length = W := by rw [hF, ← hW]; simp
  repeat refine wps_seq ?_
  refine wps_block (wps_loop' (fun i : Nat => (⟨[0, 1, 4, 5, 6, 7, 8, 9, 10, 11, 14, 15, 47, 48, 49], [.str s, .undef, .nilS, .undef, .undef, .undef, .undef, .slc 0 0 L.length (.ex L.length), .undef, .undef, .undef, .undef, aSp L, .int .i64 (L.length : Nat), .int .i64 i], [], 65, ⟨1, [[(0, .cells (sts (F i) ++ bls (L.length - i)))]]⟩⟩ : St))
    (fun i => i ≤ L.length) (fun i => L.length - i) [(0, 0)] [] 0 (Nat.zero_le _)
    ⟨rfl, rfl, rfl, by simp [fitL, fitV, lookN, pureV, aSp], .keep1 (b := 0) (by rw [hF0]; simp [Heap.get, getFs, getF, sts]) (by rw [pureL_append, sts_pure, bls_pure]; rfl) rfl⟩ ?_)
  rintro i hi B hB
  repeat refine wps_seq ?_
  refine wps_region callOK ?_
  simp [zS]
  repeat refine wps_seq ?_
  refine wps_cond rfl (fun h => ?_) fun h => ?_
  · simp at h
    repeat refine wps_seq ?_
    refine wps_skip ?_
    simp
    repeat refine wps_seq ?_
    refine wps_block ?_
    obtain ⟨r1, r2⟩ := hr L[i] (List.getElem_mem _)
    have hw := fun H => slW (H := H) r1 r2
    have hlen : i < (sts (F i) ++ bls (L.length - i)).length := by simp [sts, bls, hFl i hi]; omega
    have hset : (sts (F i) ++ bls (L.length - i)).set i (.str (wordAt s ((L[i]).1, (L[i]).2))) = sts (F (i + 1)) ++ bls (L.length - (i + 1)) := by
      have := sts_set (X := F i) (k := L.length - (i + 1)) (w := wordAt s L[i])
      rw [hFl i hi, ← hFs i h] at this
      rw [show L.length - i = L.length - (i + 1) + 1 by omega]
      exact this
    have hla := layS (v := .str (wordAt s ((L[i]).1, (L[i]).2))) hlen
    rw [hset] at hla
    generalize sts (F i) ++ bls (L.length - i) = C0 at *
    generalize hC1 : sts (F (i + 1)) ++ bls (L.length - (i + 1)) = C1 at *
    repeat refine wps_seq ?_
    refine wps_region callOK ?_
    simp [zS, atSp h]
    repeat refine wps_seq ?_
    refine wps_region callOK ?_
    simp [zS, hw, ixS h, hla]
    repeat refine wps_seq ?_
    refine wps_region callOK ?_
    simp [zS, add_one (show i ≤ 1000000000 by omega)]
    refine hB _ (i + 1) (by omega) (by omega) ⟨[(0, 0)], [], rfl, rfl, rfl, by simp [fitL, fitV, lookN, pureV, aSp], ?_⟩
    rw [hC1]
    exact .keep1 (b := 0) (by simp [Heap.get, getFs, getF]) (by rw [← hC1, pureL_append, sts_pure, bls_pure]; rfl) rfl
  · simp at h
    have hie : i = L.length := by omega
    subst hie
    have hz : sts (F L.length) ++ bls (L.length - L.length) = sts W := by rw [Nat.sub_self, hFn]; simp [bls]
    have hlW : W.length = L.length := by rw [← hW]; simp
    rw [hz, ← hlW]
    repeat refine wps_seq ?_
    refine wps_exit ?_
    simp
    repeat refine wps_seq ?_
    refine wps_region callOK ?_
    simp [zS]
    repeat refine wps_seq ?_
    refine wps_ret ?_
    simp [retVal, oneOr]
    refine ⟨[], [(0, sts W)], ?_, .froze (by simp) fun y hy => ?_⟩
    · have hf := flat_sts W
      simp only [fitV]
      refine .inl ⟨sts W, by simp [lookC], ?_, by simp, (el_str W).size⟩
      rw [hf, subL_front (by simp [sts]), List.drop_zero, List.take_of_length_le (by simp [sts])]
    · rw [List.mem_singleton] at hy
      subst hy
      exact ⟨_, by simp [Heap.get, getFs, getF], fitL_pure (sts_pure W), sts_pure W⟩
theorem c148 {T : List (Entry Tryz.prog)} (s : Str) (hs : asciiB s) (hl : s.length ≤ 900000) (clo : FuncId) (hp : ∀ c : UInt8, c.toNat < 128 → CallAt (ctx T) clo [.int .i32 (c.toNat : Int)] ⟨0, []⟩ (.bool (sp c)) ⟨0, []⟩) :
    CallAt (ctx T) 148 [.str s, .func (.func clo) [] []] ⟨0, []⟩ (aStrs (wsplit s)) ⟨0, []⟩ := by
  have hm1 : wr .i64 (0 - 1) = some (-1) := rfl
  refine callAt_body (fn := Tryz.f148) (s0 := ⟨[0, 1, 4, 5, 6, 7, 8, 9, 10, 11, 14, 15, 47, 48, 49], [.str s, .func (.func clo) [] [], .undef, .undef, .undef, .undef, .undef, .undef, .undef, .undef, .undef, .undef, .undef, .undef, .undef], [], 65, ⟨0, [[]]⟩⟩) Tryz.func148 rfl rfl rfl ?_
  repeat refine wps_seq ?_
  refine wps_region callOK ?_
  simp [zS]
  repeat refine wps_seq ?_
  refine wps_region callOK ?_
  simp [zS, mkSp]
  repeat refine wps_seq ?_
  refine wps_region callOK ?_
  simp [zS]
  repeat refine wps_seq ?_
  refine wps_region callOK ?_
  simp [zS, rgV]
  repeat refine wps_seq ?_
  refine wps_block (wps_loop' (fun x : Nat × List (Nat × Nat) × Int => (⟨[0, 1, 4, 5, 6, 7, 8, 9, 10, 11, 14, 15, 47, 48, 49], [.str s, .func (.func clo) [] [], .nilS, spV x.2.1.length, .int .i64 x.2.2, .undef, .undef, .undef, .undef, .undef, .ptr 1 0, .undef, .undef, .undef, .undef], [], 65, ⟨2, [[(1, .iter s x.1), (0, .cells (spB x.2.1))]]⟩⟩ : St))
    (fun x => SpOk s x.1 x.2.1 x.2.2) (fun x => s.length - x.1) [(1, 1), (0, 0)] [] (0, [], -1) (sp_begin s)
    ⟨rfl, rfl, rfl, by simp [fitL, fitV, lookN, pureV, pureL, spV], fit_sp (by omega) (by simp [Heap.get, getFs, getF]) (by simp [Heap.get, getFs, getF, spB, spnC]) (spB_pure _)⟩ ?_)
  rintro ⟨i, L, st⟩ hk B hB
  have hi := hk.le
  have hfew := hk.few
  have hlo := hk.lo
  simp only at hi hfew hlo hk
  by_cases h : i < s.length
  · have hc : s[i].toNat < 128 := hs _ (List.getElem_mem _)
    have hbu : ∀ a : Nat, buildA Tryz.prog 157 [(0, .int .i64 (a : Int)), (1, .int .i64 (i : Int))] = some (.agg [.int .i64 (a : Int), .int .i64 (i : Int)]) := fun a => rfl
    have hcall := (hp s[i] hc).lift (by simp [pureL, pureV]) ⟨2, [[(1, .iter s (i + 1)), (0, .cells (spB L))]]⟩
    have stay : ∀ (st' : Int) (σ0 : Unit), SpOk s (i + 1) L st' → ∀ s' : St, Fit 0 [(1, 1), (0, 0)] [] s' ((⟨[0, 1, 4, 5, 6, 7, 8, 9, 10, 11, 14, 15, 47, 48, 49], [.str s, .func (.func clo) [] [], .nilS, spV L.length, .int .i64 st', .undef, .undef, .undef, .undef, .undef, .ptr 1 0, .undef, .undef, .undef, .undef], [], 65, ⟨2, [[(1, .iter s (i + 1)), (0, .cells (spB L))]]⟩⟩ : St)) → B s' := fun st' _ hok s' hf => hB s' (i + 1, L, st') (by simp only; omega) hok ⟨_, _, hf⟩
    repeat refine wps_seq ?_
    refine wps_region callOK ?_
    simp [zS, nxV, nx_yes h hc]
    repeat refine wps_seq ?_
    refine wps_cond (t := true) rfl (fun _ => ?_) fun h => by cases h
    repeat refine wps_seq ?_
    refine wps_skip ?_
    simp
    repeat refine wps_seq ?_
    refine wps_block ?_
    rcases Bool.eq_false_or_eq_true (sp s[i]) with hsp | hsp
    · rw [hsp] at hcall
      repeat refine wps_seq ?_
      refine wps_region callOK ?_
      simp [zS]
      repeat refine wps_seq ?_
      refine wps_region (callOKF [⟨clo, _, _, _, _, hcall⟩]) ?_
      simp [zS, callF]
      repeat refine wps_seq ?_
      refine wps_cond (t := true) rfl (fun _ => ?_) fun h => by cases h
      rcases hk.cur with ⟨h0, _⟩ | ⟨a, ha, hai, _⟩
      · have hge : ¬ (0 : Int) ≤ st := by omega
        repeat refine wps_seq ?_
        refine wps_region callOK ?_
        simp [zS, hge]
        repeat refine wps_seq ?_
        refine wps_cond (t := false) rfl (fun h => by cases h) fun _ => ?_
        repeat refine wps_seq ?_
        refine wps_skip ?_
        simp
        exact stay st () (sp_space0 h hk hsp h0) _ ⟨rfl, rfl, rfl, by simp [fitL, fitV, lookN, pureV, pureL, fit_spVV], fit_sp (by omega) (by simp [Heap.get, getFs, getF]) (by simp [Heap.get, getFs, getF]) (spB_pure _)⟩
      · subst ha
        have hge : (0 : Int) ≤ (a : Int) := by omega
        obtain ⟨b, m, f, hb1, happ, hg1, hg2⟩ := app_sp (L := L) (p := (a, i)) (I := .iter s (i + 1)) (by omega)
        have hxo := xor_not (a := a) (by omega)
        obtain ⟨c, e1, e2⟩ := spV_yes (L.length + 1) b
        simp only [e1] at happ
        repeat refine wps_seq ?_
        refine wps_region callOK ?_
        simp [zS, hge]
        repeat refine wps_seq ?_
        refine wps_cond (t := true) (by simp [opnd, St.get]) (fun _ => ?_) fun h => by cases h
        repeat refine wps_seq ?_
        refine wps_region callOK ?_
        simp [zS, hbu, happ]
        repeat refine wps_seq ?_
        refine wps_region callOK ?_
        simp [zS, hxo]
        refine hB _ (i + 1, L ++ [(a, i)], -(a : Int) - 1) (by simp only; omega) (sp_space1 h hk hsp (by omega)) ⟨[(1, 1), (b, 0)], [], rfl, rfl, rfl, ?_, fit_sp hb1 hg1 hg2 (spB_pure _)⟩
        simp only [List.length_append, List.length_cons, List.length_nil, Nat.zero_add, e2]
        simp [fitL, fitV, lookN, pureV, pureL]
        omega
    · rw [hsp] at hcall
      repeat refine wps_seq ?_
      refine wps_region callOK ?_
      simp [zS]
      repeat refine wps_seq ?_
      refine wps_region (callOKF [⟨clo, _, _, _, _, hcall⟩]) ?_
      simp [zS, callF]
      repeat refine wps_seq ?_
      refine wps_cond (t := false) rfl (fun h => by cases h) fun _ => ?_
      rcases hk.cur with ⟨h0, _⟩ | ⟨a, ha, hai, _⟩
      · repeat refine wps_seq ?_
        refine wps_region callOK ?_
        simp [zS, h0]
        repeat refine wps_seq ?_
        refine wps_cond (t := true) rfl (fun _ => ?_) fun h => by cases h
        repeat refine wps_seq ?_
        refine wps_region callOK ?_
        simp [zS]
        exact stay i () (sp_char0 h hk hsp h0) _ ⟨rfl, rfl, rfl, by simp [fitL, fitV, lookN, pureV, pureL, fit_spVV], fit_sp (by omega) (by simp [Heap.get, getFs, getF]) (by simp [Heap.get, getFs, getF]) (spB_pure _)⟩
      · subst ha
        have hge : ¬ (a : Int) < 0 := by omega
        repeat refine wps_seq ?_
        refine wps_region callOK ?_
        simp [zS, hge]
        repeat refine wps_seq ?_
        refine wps_cond (t := false) (by simp [opnd, St.get, hge]) (fun h => by cases h) fun _ => ?_
        repeat refine wps_seq ?_
        refine wps_skip ?_
        simp
        exact stay a () (sp_char1 h hk hsp) _ ⟨rfl, rfl, rfl, by simp [fitL, fitV, lookN, pureV, pureL, fit_spVV], fit_sp (by omega) (by simp [Heap.get, getFs, getF]) (by simp [Heap.get, getFs, getF]) (spB_pure _)⟩
  · have hie : i = s.length := by omega
    subst hie
    have hbu : ∀ a : Nat, buildA Tryz.prog 157 [(0, .int .i64 (a : Int)), (1, .int .i64 (s.length : Int))] = some (.agg [.int .i64 (a : Int), .int .i64 (s.length : Int)]) := fun a => rfl
    repeat refine wps_seq ?_
    refine wps_region callOK ?_
    simp [zS, nxV, nx_no h]
    repeat refine wps_seq ?_
    refine wps_cond (t := false) rfl (fun h => by cases h) fun _ => ?_
    repeat refine wps_seq ?_
    refine wps_exit ?_
    simp
    rcases hk.cur with ⟨h0, _⟩ | ⟨a, ha, hai, _⟩
    · have hge : ¬ (0 : Int) ≤ st := by omega
      repeat refine wps_seq ?_
      refine wps_region callOK ?_
      simp [zS, hge]
      repeat refine wps_seq ?_
      refine wps_cond (t := false) (by simp [opnd, St.get, hge]) (fun h => by cases h) fun _ => ?_
      repeat refine wps_seq ?_
      refine wps_skip ?_
      simp only [thenQ]
      refine WpSr.fit [] [(0, spB L)] (s' := (⟨[0, 1, 4, 5, 6, 7, 8, 9, 10, 11, 14, 15, 47, 48, 49], [.str s, .undef, .nilS, aSp L, .undef, .undef, .undef, .undef, .undef, .undef, .undef, .undef, .undef, .undef, .undef], [], 65, ⟨0, [[]]⟩⟩ : St)) ⟨rfl, rfl, rfl, by simp [fitL, fitV, pureV]; exact fit_spV (by simp [lookC]), ?_⟩ (ff_rest s L (by omega) hk.rng _ (sp_end0 hk h0))
      exact fit_all (by simp [Heap.get, getFs, getF]) (spB_pure _)
    · subst ha
      obtain ⟨hw, hal⟩ := sp_end1 hk
      have hge : (0 : Int) ≤ (a : Int) := by omega
      obtain ⟨b, m, f, hb1, happ, hg1, hg2⟩ := app_sp (L := L) (p := (a, s.length)) (I := .iter s s.length) (by omega)
      obtain ⟨c, e1, e2⟩ := spV_yes (L.length + 1) b
      simp only [e1] at happ
      repeat refine wps_seq ?_
      refine wps_region callOK ?_
      simp [zS, hge]
      repeat refine wps_seq ?_
      refine wps_cond (t := true) (by simp [opnd, St.get]) (fun _ => ?_) fun h => by cases h
      repeat refine wps_seq ?_
      refine wps_region callOK ?_
      simp [zS, hbu, happ]
      have hfv : fitV [] [(b, spB (L ++ [(a, s.length)]))] (.slc b 0 (L.length + 1) c) (aSp (L ++ [(a, s.length)])) := by
        simp only [aSp, fitV]
        refine .inl ⟨_, by simp [lookC]; rfl, ?_, by simp, (el_spn _).size⟩
        have := sub_spB (L ++ [(a, s.length)])
        rw [flat_spn]
        simpa using this
      refine WpSr.fit [] [(b, spB (L ++ [(a, s.length)]))] (s' := (⟨[0, 1, 4, 5, 6, 7, 8, 9, 10, 11, 14, 15, 47, 48, 49], [.str s, .undef, .nilS, aSp (L ++ [(a, s.length)]), .undef, .undef, .undef, .undef, .undef, .undef, .undef, .undef, .undef, .undef, .undef], [], 65, ⟨0, [[]]⟩⟩ : St)) ⟨rfl, rfl, rfl, by simp [fitL, fitV, pureV] at hfv ⊢; exact hfv, ?_⟩ (ff_rest s (L ++ [(a, s.length)]) (by simp; omega) (fun p hp => ?_) _ hw)
      · exact fit_all hg2 (spB_pure _)
      · rcases List.mem_append.1 hp with hp | hp
        · exact hk.rng p hp
        · simp at hp; subst hp; exact ⟨by simp only; omega, by simp only; omega⟩
theorem c120 {T : List (Entry Tryz.prog)} (s : Str) (hs : asciiB s) (hl : s.length ≤ 900000) : CallAt (ctx T) 120 [.str s] ⟨0, []⟩ (aStrs (wsplit s)) ⟨0, []⟩ := by
  have hc := (c148 (T := T) s hs hl 149 fun c h => c149 (T := [e118]) rfl c h).lift (by simp [pureL, pureV]) ⟨0, [[]]⟩
  generalize wsplit s = W at *
  refine callAt_body (fn := Tryz.f120) (s0 := ⟨[0, 2], [.str s, .undef], [], 5, ⟨0, [[]]⟩⟩) Tryz.func120 rfl rfl rfl ?_
  repeat refine wps_seq ?_
  refine wps_region callOK ?_
  simp [zS]
  repeat refine wps_seq ?_
  refine wps_region (callOKF [⟨148, _, _, _, _, hc⟩]) ?_
  simp [zS, callF]
  repeat refine wps_seq ?_
  refine wps_ret ?_
  simp [retVal, Tryz.f120, oneOr, thenQ, blockQ]
  first | exact ⟨[], [], FitH.empty⟩ | exact ends_pure rfl (by rfl)
theorem occ_iff {s x : Str} {i : Nat} : Lib.occAt s x i = true ↔ (s.drop i).take x.length = x := by
  unfold Lib.occAt
  rw [List.isPrefixOf_iff_prefix, List.prefix_iff_eq_take]
  exact eq_comm
theorem c71 {T : List (Entry Tryz.prog)} (hI : findE 117 T = some e117.g) (hS : findE 118 T = some e118.g) (W x : Str) (hl : W.length ≤ 100000) (hx1 : x.length ≤ 1000000000)
    (hsp : CallAt (ctx T) 120 [.str W] ⟨0, []⟩ (aStrs (wsplit W)) ⟨0, []⟩) (hco : CallAt (ctx T) 119 [aStrs (wsplit W), .str x] ⟨0, []⟩ (.bool (decide (x ∈ wsplit W))) ⟨0, []⟩) :
    CallAt (ctx T) 71 [.str W, .str x] ⟨0, []⟩ (.bool (inW W x)) ⟨0, []⟩ := by
  have h1 := hsp.lift (by simp [pureL, pureV]) ⟨0, [[]]⟩
  have h2 := hco.lift (by simp [aStrs, pureL, pureV]) ⟨0, [[]]⟩
  refine callAt_body (fn := Tryz.f71) (s0 := ⟨[0, 1, 4, 5, 6, 7, 8], [.str W, .str x, .undef, .undef, .undef, .undef, .undef], [], 52, ⟨0, [[]]⟩⟩) Tryz.func71 rfl rfl rfl ?_
  repeat refine wps_seq ?_
  refine wps_region callOK ?_
  simp [zS]
  by_cases hx : x = []
  · repeat refine wps_seq ?_
    refine wps_region callOK ?_
    simp [zS, hx]
    repeat refine wps_seq ?_
    refine wps_cond (t := true) rfl (fun _ => ?_) fun h => by cases h
    repeat refine wps_seq ?_
    refine wps_region callOK ?_
    simp [zS]
    repeat refine wps_seq ?_
    refine wps_ret ?_
    simp [retVal, Tryz.f71, oneOr, thenQ, blockQ]
    exact ends_pure rfl (by simp only [inW]; symm; simp; intro h; exact word_ne h rfl)
  repeat refine wps_seq ?_
  refine wps_region callOK ?_
  simp [zS, hx]
  repeat refine wps_seq ?_
  refine wps_cond (t := false) rfl (fun h => by cases h) fun _ => ?_
  repeat refine wps_seq ?_
  refine wps_skip ?_
  simp
  have hx0 : 0 < x.length := List.length_pos_iff.2 hx
  repeat refine wps_seq ?_
  refine wps_region callOK ?_
  simp [zS]
  repeat refine wps_seq ?_
  refine wps_block (wps_loop' (fun i : Nat => (⟨[0, 1, 4, 5, 6, 7, 8], [.str W, .str x, .undef, .int .i64 i, .undef, .undef, .undef], [], 52, ⟨0, [[]]⟩⟩ : St))
    (fun i => i ≤ W.length ∧ (x ∈ wsplit W → ∃ p, i ≤ p ∧ WordAt W x p)) (fun i => W.length + 1 - i) [] [] 0 ⟨Nat.zero_le _, fun h => let ⟨p, hp⟩ := word_at h; ⟨p, Nat.zero_le _, hp⟩⟩ ⟨rfl, rfl, rfl, by simp [fitL, fitV, pureV, pureL], FitH.nothing⟩ ?_)
  rintro i ⟨hi, hw⟩ B hB
  have hd : (W.drop i).length ≤ 1000000 := by simp; omega
  repeat refine wps_seq ?_
  refine wps_block ?_
  rcases Lib.index_spec (W.drop i) x with ⟨h0, hn⟩ | ⟨k, h0, hk, ho, hno⟩
  · have hnot : ¬ x ∈ wsplit W := fun h => by
      obtain ⟨p, hp, hwa⟩ := hw h
      have hr := hwa.room
      have := hn (p - i) (by simp; omega)
      have h3 : Lib.occAt (W.drop i) x (p - i) = true := occ_iff.2 (by rw [List.drop_drop, show i + (p - i) = p by omega]; exact hwa.occ)
      rw [h3] at this
      cases this
    repeat refine wps_seq ?_
    refine wps_region callOK ?_
    simp [zS, slStr hi, k117 hI hd, h0]
    repeat refine wps_seq ?_
    refine wps_region callOK ?_
    simp [zS]
    repeat refine wps_seq ?_
    refine wps_cond (t := true) rfl (fun _ => ?_) fun h => by cases h
    repeat refine wps_seq ?_
    refine wps_region callOK ?_
    simp [zS]
    repeat refine wps_seq ?_
    refine wps_ret ?_
    simp [retVal, Tryz.f71, oneOr, thenQ, blockQ]
    exact ends_pure rfl (by simp [inW, hnot])
  · have hk0 : ¬ (k : Int) < 0 := by omega
    obtain ⟨j, hj⟩ : ∃ j, j = i + k := ⟨_, rfl⟩
    have ho' := occ_iff.1 ho
    rw [List.drop_drop, ← hj] at ho'
    have hroom : j + x.length ≤ W.length := by
      have := congrArg List.length ho'
      simp at this
      simp at hk
      omega
    have a1 : wr .i64 ((i : Int) + (k : Int)) = some (j : Int) := by rw [wr_small (by omega) (by omega), hj]; simp
    obtain ⟨q, hq⟩ : ∃ q, q = j + x.length := ⟨_, rfl⟩
    have a2 : wr .i64 ((j : Int) + (x.length : Int)) = some (q : Int) := by rw [wr_small (by omega) (by omega), hq]; simp
    have nxt : ∀ s', ¬ WordAt W x j → (∃ σ Φ, Fit 0 σ Φ s' (⟨[0, 1, 4, 5, 6, 7, 8], [.str W, .str x, .undef, .int .i64 ((j + 1 : Nat) : Int), .undef, .undef, .undef], [], 52, ⟨0, [[]]⟩⟩ : St)) → B s' := fun s' hno2 hf =>
      hB s' (j + 1) (by omega) ⟨by omega, fun h => by
        obtain ⟨p, hp, hwa⟩ := hw h
        refine ⟨p, ?_, hwa⟩
        have hr := hwa.room
        apply Decidable.byContradiction
        intro hlt
        rcases Nat.lt_or_ge p j with hpj | hpj
        · have h3 := hno (p - i) (by omega)
          have h4 : Lib.occAt (W.drop i) x (p - i) = true := occ_iff.2 (by rw [List.drop_drop, show i + (p - i) = p by omega]; exact hwa.occ)
          rw [h4] at h3
          cases h3
        · have : p = j := by omega
          subst this
          exact hno2 hwa⟩ hf
    repeat refine wps_seq ?_
    refine wps_region callOK ?_
    simp [zS, slStr hi, k117 hI hd, h0]
    repeat refine wps_seq ?_
    refine wps_region callOK ?_
    simp [zS, hk0]
    repeat refine wps_seq ?_
    refine wps_cond (t := false) rfl (fun h => by cases h) fun _ => ?_
    repeat refine wps_seq ?_
    refine wps_skip ?_
    simp
    repeat refine wps_seq ?_
    refine wps_region callOK ?_
    simp [zS, a1]
    repeat refine wps_seq ?_
    refine wps_region callOK ?_
    simp [zS, a2]
    have kS := fun c H => k118 hS c H
    by_cases c0 : j = 0
    · have a4 : wr .i64 1 = some ((j + 1 : Nat) : Int) := by rw [c0]; rfl
      by_cases d0 : q = W.length
      · repeat refine wps_seq ?_
        refine wps_region callOK ?_
        simp [zS, c0, d0]
        repeat refine wps_seq ?_
        refine wps_cond (t := true) rfl (fun _ => ?_) fun h => by cases h
        repeat refine wps_seq ?_
        refine wps_region (callOKF [⟨120, _, _, _, _, h1⟩, ⟨119, _, _, _, _, h2⟩]) ?_
        simp [zS, callF, aStrs]
        repeat refine wps_seq ?_
        refine wps_ret ?_
        simp [retVal, Tryz.f71, oneOr, thenQ, blockQ]
        exact ends_pure rfl (by simp [inW])
      · have hql : q < W.length := by omega
        have d0i : ¬ (q : Int) = (W.length : Int) := by omega
        rcases Bool.eq_false_or_eq_true (sp W[q]) with d1 | d1
        · repeat refine wps_seq ?_
          refine wps_region callOK ?_
          simp [zS, c0, d0i, ixStr hql, kS, d1]
          repeat refine wps_seq ?_
          refine wps_cond (t := true) rfl (fun _ => ?_) fun h => by cases h
          repeat refine wps_seq ?_
          refine wps_region (callOKF [⟨120, _, _, _, _, h1⟩, ⟨119, _, _, _, _, h2⟩]) ?_
          simp [zS, callF, aStrs]
          repeat refine wps_seq ?_
          refine wps_ret ?_
          simp [retVal, Tryz.f71, oneOr, thenQ, blockQ]
          exact ends_pure rfl (by simp [inW])
        · repeat refine wps_seq ?_
          refine wps_region callOK ?_
          simp [zS, c0, d0i, ixStr hql, kS, d1]
          repeat refine wps_seq ?_
          refine wps_cond (t := false) rfl (fun h => by cases h) fun _ => ?_
          repeat refine wps_seq ?_
          refine wps_skip ?_
          simp
          repeat refine wps_seq ?_
          refine wps_region callOK ?_
          simp [zS, a4]
          exact nxt _ (fun hwa => by have := hwa.post _ (by rw [← hq]; exact List.getElem?_eq_getElem hql); rw [d1] at this; cases this) ⟨[], [], ⟨rfl, rfl, rfl, by simp [fitL, fitV, pureV, pureL], FitH.nothing⟩⟩
    · obtain ⟨q1, hq1⟩ : ∃ q1, q1 + 1 = j := ⟨j - 1, by omega⟩
      have hq1l : q1 < W.length := by omega
      have a3 : wr .i64 ((j : Int) - 1) = some (q1 : Int) := by rw [wr_small (by omega) (by omega)]; congr 1; omega
      rcases Bool.eq_false_or_eq_true (sp W[q1]) with c1 | c1
      · skip
        by_cases d0 : q = W.length
        · repeat refine wps_seq ?_
          refine wps_region callOK ?_
          simp [zS, c0, a3, ixStr hq1l, kS, c1, d0]
          repeat refine wps_seq ?_
          refine wps_cond (t := true) rfl (fun _ => ?_) fun h => by cases h
          repeat refine wps_seq ?_
          refine wps_region (callOKF [⟨120, _, _, _, _, h1⟩, ⟨119, _, _, _, _, h2⟩]) ?_
          simp [zS, callF, aStrs]
          repeat refine wps_seq ?_
          refine wps_ret ?_
          simp [retVal, Tryz.f71, oneOr, thenQ, blockQ]
          exact ends_pure rfl (by simp [inW])
        · have hql : q < W.length := by omega
          have d0i : ¬ (q : Int) = (W.length : Int) := by omega
          rcases Bool.eq_false_or_eq_true (sp W[q]) with d1 | d1
          · repeat refine wps_seq ?_
            refine wps_region callOK ?_
            simp [zS, c0, a3, ixStr hq1l, kS, c1, d0i, ixStr hql, kS, d1]
            repeat refine wps_seq ?_
            refine wps_cond (t := true) rfl (fun _ => ?_) fun h => by cases h
            repeat refine wps_seq ?_
            refine wps_region (callOKF [⟨120, _, _, _, _, h1⟩, ⟨119, _, _, _, _, h2⟩]) ?_
            simp [zS, callF, aStrs]
            repeat refine wps_seq ?_
            refine wps_ret ?_
            simp [retVal, Tryz.f71, oneOr, thenQ, blockQ]
            exact ends_pure rfl (by simp [inW])
          · repeat refine wps_seq ?_
            refine wps_region callOK ?_
            simp [zS, c0, a3, ixStr hq1l, kS, c1, d0i, ixStr hql, kS, d1]
            repeat refine wps_seq ?_
            refine wps_cond (t := false) rfl (fun h => by cases h) fun _ => ?_
            repeat refine wps_seq ?_
            refine wps_skip ?_
            simp
            repeat refine wps_seq ?_
            refine wps_region callOK ?_
            simp [zS, add_one (show j ≤ 1000000000 by omega)]
            exact nxt _ (fun hwa => by have := hwa.post _ (by rw [← hq]; exact List.getElem?_eq_getElem hql); rw [d1] at this; cases this) ⟨[], [], ⟨rfl, rfl, rfl, by simp [fitL, fitV, pureV, pureL], FitH.nothing⟩⟩
      · repeat refine wps_seq ?_
        refine wps_region callOK ?_
        simp [zS, c0, a3, ixStr hq1l, kS, c1]
        repeat refine wps_seq ?_
        refine wps_cond (t := false) rfl (fun h => by cases h) fun _ => ?_
        repeat refine wps_seq ?_
        refine wps_skip ?_
        simp
        repeat refine wps_seq ?_
        refine wps_region callOK ?_
        simp [zS, add_one (show j ≤ 1000000000 by omega)]
        exact nxt _ (fun hwa => by have := hwa.pre _ (by omega) (by rw [← hq1, Nat.add_sub_cancel]; exact List.getElem?_eq_getElem hq1l); rw [c1] at this; cases this) ⟨[], [], ⟨rfl, rfl, rfl, by simp [fitL, fitV, pureV, pureL], FitH.nothing⟩⟩
def idxFrom {α : Type} (p : α → Bool) : List α → Nat → Int
  | [], _ => -1
  | a :: r, k => if p a = true then k else idxFrom p r (k + 1)
theorem idxFrom_at {α : Type} {p : α → Bool} {L : List α} {i : Nat} (h : i < L.length) : idxFrom p (L.drop i) i = if p L[i] = true then (i : Int) else idxFrom p (L.drop (i + 1)) (i + 1) := by
  rw [List.drop_eq_getElem_cons h]; rfl
theorem c147 {T : List (Entry Tryz.prog)} (L : List Str) (x : Str) (hl : L.length ≤ 1000000) : CallAt (ctx T) 147 [aStrs L, .str x] ⟨0, []⟩ (.int .i64 (idxFrom (fun y => decide (x = y)) L 0)) ⟨0, []⟩ := by
  refine callAt_body (fn := Tryz.f147) (s0 := ⟨[0, 1, 4, 5, 7, 8], [aStrs L, .str x, .undef, .undef, .undef, .undef], [], 19, ⟨0, [[]]⟩⟩) Tryz.func147 rfl rfl rfl ?_
  repeat refine wps_seq ?_
  refine wps_region callOK ?_
  simp [zS]
  repeat refine wps_seq ?_
  refine wps_region callOK ?_
  simp [zS, lenS]
  repeat refine wps_seq ?_
  refine wps_block (wps_loop' (fun i : Nat => (⟨[0, 1, 4, 5, 7, 8], [aStrs L, .str x, .undef, .undef, .int .i64 (L.length : Nat), .int .i64 i], [], 19, ⟨0, [[]]⟩⟩ : St))
    (fun i => i ≤ L.length ∧ idxFrom (fun y => decide (x = y)) L 0 = idxFrom (fun y => decide (x = y)) (L.drop i) i) (fun i => L.length - i) [] [] 0 ⟨Nat.zero_le _, rfl⟩ ⟨rfl, rfl, rfl, by simp [fitL, fitV, pureV, pureL, aStrs], FitH.nothing⟩ ?_)
  rintro i ⟨hi, hx⟩ B hB
  repeat refine wps_seq ?_
  refine wps_region callOK ?_
  simp [zS]
  repeat refine wps_seq ?_
  refine wps_cond rfl (fun h => ?_) fun h => ?_
  · simp at h
    rw [idxFrom_at h] at hx
    repeat refine wps_seq ?_
    refine wps_skip ?_
    simp
    repeat refine wps_seq ?_
    refine wps_block ?_
    repeat refine wps_seq ?_
    refine wps_region callOK ?_
    simp [zS]
    by_cases h2 : L[i] = x
    · repeat refine wps_seq ?_
      refine wps_region callOK ?_
      simp [zS, atS h, h2]
      repeat refine wps_seq ?_
      refine wps_cond (t := true) rfl (fun _ => ?_) fun h => by cases h
      repeat refine wps_seq ?_
      refine wps_region callOK ?_
      simp [zS]
      repeat refine wps_seq ?_
      refine wps_ret ?_
      simp [retVal, Tryz.f147, oneOr, thenQ, blockQ]
      exact ends_pure rfl (by rw [hx, if_pos (by simp [h2])])
    · have h2' : ¬ x = L[i] := fun e => h2 e.symm
      repeat refine wps_seq ?_
      refine wps_region callOK ?_
      simp [zS, atS h, h2']
      repeat refine wps_seq ?_
      refine wps_cond (t := false) rfl (fun h => by cases h) fun _ => ?_
      repeat refine wps_seq ?_
      refine wps_skip ?_
      simp
      repeat refine wps_seq ?_
      refine wps_region callOK ?_
      simp [zS, add_one (show i ≤ 1000000000 by omega)]
      exact hB _ (i + 1) (by omega) ⟨by omega, by rw [hx, if_neg (by simp [h2'])]⟩ ⟨[], [], ⟨rfl, rfl, rfl, by simp [fitL, fitV, pureV, pureL, aStrs], FitH.nothing⟩⟩
  · simp at h
    repeat refine wps_seq ?_
    refine wps_exit ?_
    simp
    repeat refine wps_seq ?_
    refine wps_region callOK ?_
    simp [zS]
    repeat refine wps_seq ?_
    refine wps_ret ?_
    simp [retVal, Tryz.f147, oneOr, thenQ, blockQ]
    exact ends_pure rfl (by rw [hx, List.drop_eq_nil_of_le h]; rfl)
noncomputable def e147 : Entry Tryz.prog := mkE 147 [[1], []] (fun x : List Str × Str => [aStrs x.1, .str x.2]) (fun x => x.1.length ≤ 1000000) (fun x => .int .i64 (idxFrom (fun y => decide (x.2 = y)) x.1 0)) fun x hx => c147 (T := []) x.1 x.2 hx
theorem injSS (x y : List Str × Str) (h : [aStrs x.1, .str x.2] = [aStrs y.1, .str y.2]) : x = y := by
  simp at h; exact Prod.ext (inj_strs (by simpa [aStrs] using h.1)) h.2
theorem k147 {T : List (Entry Tryz.prog)} (hT : findE 147 T = some e147.g) {L : List Str} (x : Str) (hl : L.length ≤ 1000000) (H : Heap) : callL (ctx T) (.fn 147) [aStrs L, .str x] H = some (.int .i64 (idxFrom (fun y => decide (x = y)) L 0), H) :=
  mkE_scalar hT injSS (L, x) hl rfl (by simp [aStrs])
theorem idx_mem {x : Str} : ∀ (L : List Str) (k : Nat), (0 ≤ idxFrom (fun y => decide (x = y)) L k) ↔ x ∈ L
  | [], k => by simp [idxFrom]
  | y :: r, k => by
    unfold idxFrom
    by_cases h : x = y
    · simp [h]
    · simp only [h, decide_false, Bool.false_eq_true, if_false, List.mem_cons, false_or]
      exact idx_mem r (k + 1)
theorem c119 {T : List (Entry Tryz.prog)} (hI : findE 147 T = some e147.g) (L : List Str) (x : Str) (hl : L.length ≤ 1000000) : CallAt (ctx T) 119 [aStrs L, .str x] ⟨0, []⟩ (.bool (decide (x ∈ L))) ⟨0, []⟩ := by
  have hk := fun H => k147 hI x hl H
  have hm := idx_mem (x := x) L 0
  generalize idxFrom (fun y => decide (x = y)) L 0 = v at *
  simp only [aStrs] at hk
  refine callAt_body (fn := Tryz.f119) (s0 := ⟨[0, 1, 4], [aStrs L, .str x, .undef], [], 9, ⟨0, [[]]⟩⟩) Tryz.func119 rfl rfl rfl ?_
  (repeat (first
    | (refine wps_seq ?_)
    | (refine wps_block ?_)
    | (refine wps_label ?_; simp only [thenQ, blockQ])
    | ((refine wps_region callOK ?_); simp [zS, aStrs, hk])
    | (refine wps_cond (t := true) rfl (fun _ => ?_) (fun h => by cases h))
    | (refine wps_cond (t := false) rfl (fun h => by cases h) (fun _ => ?_))
    | ((refine wps_skip ?_); simp only [thenQ, blockQ])
    | ((refine wps_exit ?_); simp [thenQ, blockQ])))
  repeat refine wps_seq ?_
  refine wps_ret ?_
  simp [retVal, Tryz.f119, oneOr, thenQ, blockQ]
  exact ends_pure rfl (by simp [hm])
theorem c188 {T : List (Entry Tryz.prog)} (s : Str) (c : UInt8) : CallAt (ctx T) 188 [.str s, .int .u8 (c.toNat : Int)] ⟨0, []⟩ (.int .i64 (Lib.indexByte s c)) ⟨0, []⟩ := by
  intro ρ w xs sm hx
  match xs, hx with
  | [x, y], hx =>
    have h0 := hx.2 0 (by simp) (by simp)
    have h1 := hx.2 1 (by simp) (by simp)
    simp only [List.getElem_cons_zero, List.getElem_cons_succ] at h0 h1
    cases h0; cases h1
    have hr := Lib.run_indexByteString (P := Tryz.prog) ⟨s.toArray⟩ (c.toNat : Int) w
    have hf : (ctx T).P.funcs[188]? = some Tryz.f188 := Tryz.func188
    have hn : ¬ Tryz.f188.name = "runtime.NumGoroutine" := by decide +kernel
    have e1 : (Extern.findNext Tryz.f188).isNone = true := by decide +kernel
    have e2 : Extern.find Tryz.f188 = some Extern.BytealgIndexByte.indexByte := by rfl
    have e1' : Extern.findNext Tryz.f188 = none := Option.isNone_iff_eq_none.1 e1
    have hb : Tryz.f188.body.isNone = true := rfl
    refine .inl ⟨_, ρ, w, ?_, .int _ _, sm, Step.refl _ _ _⟩
    have hc : (c.toNat : Int).toNat.toUInt8 = c := by simp
    rw [hc] at hr
    have hr' : Sem.run (ctx T).P (Extern.BytealgIndexByte.indexByte #[.string ⟨s.toArray⟩, .int .u8 (c.toNat : Int)]) w = .ok (.int .i64 (Lib.indexByte s c)) w := hr
    have hb2 : Tryz.f188.body = none := rfl
    have hr2 : Sem.run Tryz.prog (Extern.BytealgIndexByte.indexByte #[.string ⟨s.toArray⟩, .int .u8 (c.toNat : Int)]) w = .ok (.int .i64 (Lib.indexByte s c)) w := hr
    simp [callFunc, hf, hn, hb2, e1', e2, hr2]
noncomputable def r188 : Entry Tryz.prog := ⟨188, fun args H => match args with
  | [.str s, .int .u8 n] => match n with
    | .ofNat m => match Nat.blt m 256 with
      | true => some (.int .i64 (Lib.indexByte s (UInt8.ofNat m)), H)
      | false => none
    | _ => none
  | _ => none, fun args H v H' h => by
    split at h
    · rename_i s n
      split at h
      · rename_i m
        split at h
        · rename_i hm
          simp only [Option.some.injEq, Prod.mk.injEq] at h
          obtain ⟨rfl, rfl⟩ := h
          have hm : m < 256 := by simpa using hm
          have e : (UInt8.ofNat m).toNat = m := by simp; omega
          have := (c188 (T := []) s (UInt8.ofNat m)).lift (by simp [pureL, pureV]) H
          rw [e] at this
          exact this
        · cases h
      · cases h
    · cases h⟩
def lays161_ren : Go.Shelf.Ren := ⟨fun | 119 => 156 | 137 => 155 | 151 => 88 | 152 => 127 | 161 => 12 | 197 => 87 | 217 => 182 | 224 => 157 | 225 => 158 | 227 => 33 | 228 => 86 | 231 => 32 | 233 => 34 | 235 => 35 | 260 => 126 | 266 => 188 | n => n, fun | 0 => 0 | 3 => 3 | 4 => 4 | 5 => 5 | 9 => 9 | 21 => 21 | 46 => 138 | 105 => 94 | 116 => 56 | 117 => 57 | 119 => 137 | 124 => 60 | 138 => 140 | 139 => 141 | n => n, fun | 3 => 0 | 4 => 1 | n => n⟩
theorem lays161 : Go.Proofs.Lays.n161 Tryz.prog lays161_ren where
  mixed := by kernel_rfl
  f119 := Tryz.func156.trans (congrArg some (by kernel_rfl))
  f137 := Tryz.func155.trans (congrArg some (by kernel_rfl))
  f151 := Tryz.func88.trans (congrArg some (by kernel_rfl))
  f152 := Tryz.func127.trans (congrArg some (by kernel_rfl))
  f161 := Tryz.func12.trans (congrArg some (by kernel_rfl))
  f197 := Tryz.func87.trans (congrArg some (by kernel_rfl))
  f217 := Tryz.func182.trans (congrArg some (by kernel_rfl))
  f224 := Tryz.func157.trans (congrArg some (by kernel_rfl))
  f225 := Tryz.func158.trans (congrArg some (by kernel_rfl))
  f227 := Tryz.func33.trans (congrArg some (by kernel_rfl))
  f228 := Tryz.func86.trans (congrArg some (by kernel_rfl))
  f231 := Tryz.func32.trans (congrArg some (by kernel_rfl))
  f233 := Tryz.func34.trans (congrArg some (by kernel_rfl))
  f235 := Tryz.func35.trans (congrArg some (by kernel_rfl))
  f260 := Tryz.func126.trans (congrArg some (by kernel_rfl))
  f266 := Tryz.func188.trans (congrArg some (by kernel_rfl))
  t0 := Tryz.underlying0
  a0 := Tryz.isAgg0
  z0 := Tryz.sizeOf0
  v0 := Tryz.zeroValue0
  t3 := Tryz.underlying3
  a3 := Tryz.isAgg3
  z3 := Tryz.sizeOf3
  v3 := Tryz.zeroValue3
  t4 := Tryz.underlying4
  a4 := Tryz.isAgg4
  z4 := Tryz.sizeOf4
  v4 := Tryz.zeroValue4
  t5 := Tryz.underlying5
  a5 := Tryz.isAgg5
  z5 := Tryz.sizeOf5
  v5 := Tryz.zeroValue5
  t9 := Tryz.underlying9
  a9 := Tryz.isAgg9
  z9 := Tryz.sizeOf9
  v9 := Tryz.zeroValue9
  t21 := Tryz.underlying21
  a21 := Tryz.isAgg21
  z21 := Tryz.sizeOf21
  v21 := Tryz.zeroValue21
  t46 := Tryz.underlying138
  a46 := Tryz.isAgg138
  z46 := Tryz.sizeOf138
  v46 := Tryz.zeroValue138
  t105 := Tryz.underlying94
  a105 := Tryz.isAgg94
  z105 := Tryz.sizeOf94
  v105 := Tryz.zeroValue94
  t116 := Tryz.underlying56
  a116 := Tryz.isAgg56
  z116 := Tryz.sizeOf56
  t117 := Tryz.underlying57
  a117 := Tryz.isAgg57
  z117 := Tryz.sizeOf57
  v117 := Tryz.zeroValue57
  t119 := Tryz.underlying137
  a119 := Tryz.isAgg137
  z119 := Tryz.sizeOf137
  t124 := Tryz.underlying60
  a124 := Tryz.isAgg60
  z124 := Tryz.sizeOf60
  v124 := Tryz.zeroValue60
  t138 := Tryz.underlying140
  a138 := Tryz.isAgg140
  z138 := Tryz.sizeOf140
  v138 := Tryz.zeroValue140
  t139 := Tryz.underlying141
  a139 := Tryz.isAgg141
  z139 := Tryz.sizeOf141
  v139 := Tryz.zeroValue141
  g3 := by kernel_rfl
  g4 := by kernel_rfl
abbrev blC : Str := [9, 10, 12, 13, 32]
theorem set_infoB : (Tryz.prog.info? 56).map (fun i => (i.zero, i.size)) = some (some (.agg (Array.replicate 256 (.bool false))), 256) := by kernel_rfl
theorem bl_sp (c : UInt8) : blC.contains c = sp c := by
  have key : ∀ n : Fin 256, blC.contains (UInt8.ofNat n.val) = sp (UInt8.ofNat n.val) := by decide +kernel
  have := key ⟨c.toNat, c.toNat_lt⟩
  simpa using this
theorem sim_belowB {ρ : Place} {w w' : World} (sm : Sim ρ ⟨0, []⟩ w) (h : Below w.heap.size w w') : Sim ρ ⟨0, []⟩ w' where
  base := fun k hk => Nat.lt_of_lt_of_le (sm.base k hk) h.size
  below := fun k hk => (h.block k (sm.base k hk)).trans (sm.below k hk)
  os := h.os.trans sm.os
  tape := h.tape.trans sm.tape
  output := h.output.trans sm.output
  dom := sm.dom
  nodup := sm.nodup
  live := fun e he => by simp [Heap.ents] at he
  inj := fun e e' he => by simp [Heap.ents] at he
theorem step_belowB {ρ : Place} {w w' : World} (h : Below w.heap.size w w') : Step ρ ⟨0, []⟩ w ρ ⟨0, []⟩ w' where
  le := Place.le_refl ρ
  size := h.size
  keeps := fun k hk _ => h.block k hk
  rows := fun e' he' => by simp [Heap.ents] at he'
  num := Nat.le_refl _
  low := fun _ _ => rfl
  cold := fun k hk => .inl hk
theorem c12b {T : List (Entry Tryz.prog)} (s : Str) : CallAt (ctx T) 12 [.str s, .str blC] ⟨0, []⟩ (.str (s.dropWhile sp)) ⟨0, []⟩ := by
  intro ρ w xs sm hx
  match xs, hx with
  | [x, y], hx =>
    have h0 := hx.2 0 (by simp) (by simp)
    have h1 := hx.2 1 (by simp) (by simp)
    simp only [List.getElem_cons_zero, List.getElem_cons_succ] at h0 h1
    cases h0; cases h1
    have hrun : (callFunc 12 #[.string ⟨s.toArray⟩, .string ⟨blC.toArray⟩]).run (ctx T).P w = .ok (.enter 12 #[.string ⟨s.toArray⟩, .string ⟨blC.toArray⟩]) w := by
      have hf : (ctx T).P.funcs[12]? = some Tryz.f12 := Tryz.func12
      have hn : ¬ Tryz.f12.name = "runtime.NumGoroutine" := by decide +kernel
      simp [callFunc, hf, hn, Tryz.f12]
    refine .inr ⟨12, _, hrun, callsIn_wide.2 ?_⟩
    refine (Go.Proofs.Any.strings_TrimLeft_ascii lays161 (zero_of_info set_infoB).1 (zero_of_info set_infoB).2 ⟨s.toArray⟩ ⟨blC.toArray⟩ w (by decide) (fun j b hj => ?_)).mono ?_
    · have hm : b ∈ blC := List.mem_of_getElem? hj
      simp at hm
      rcases hm with rfl | rfl | rfl | rfl | rfl <;> decide
    · rintro e w' ⟨rfl, hb⟩
      have hv : Lib.trimLeftS (⟨s.toArray⟩ : ByteArray).data.toList (⟨blC.toArray⟩ : ByteArray).data.toList = s.dropWhile sp := by
        have e1 : (fun c => blC.contains c) = sp := funext bl_sp
        show (s.toArray.toList).dropWhile (fun c => blC.contains c) = _
        rw [e1]
      rw [hv]
      exact ⟨_, ρ, rfl, .str _, sim_belowB sm hb, step_belowB hb⟩
def cutA (s : Str) : AV := .tup [.str (s.takeWhile sp), .str (s.dropWhile sp)]
theorem tw_len (s : Str) : (s.takeWhile sp).length + (s.dropWhile sp).length = s.length := by
  rw [← List.length_append, List.takeWhile_append_dropWhile]
theorem tw_take (s : Str) : s.take (s.takeWhile sp).length = s.takeWhile sp := by
  have := List.takeWhile_append_dropWhile (p := sp) (l := s)
  conv => lhs; rw [← this]
  rw [List.take_append_of_le_length (by simp)]
  simp
theorem tw_drop (s : Str) : s.drop (s.takeWhile sp).length = s.dropWhile sp := by
  have h := List.takeWhile_append_dropWhile (p := sp) (l := s)
  have h2 : (s.takeWhile sp ++ s.dropWhile sp).drop (s.takeWhile sp).length = s.dropWhile sp := by
    rw [List.drop_append_of_le_length (Nat.le_refl _), List.drop_length, List.nil_append]
  rwa [h] at h2
theorem c5 {T : List (Entry Tryz.prog)} (s : Str) (hl : s.length ≤ 1000000) : CallAt (ctx T) 5 [.str s] ⟨0, []⟩ (cutA s) ⟨0, []⟩ := by
  have hk := (c12b (T := T) s).lift (by simp [pureL, pureV]) ⟨0, [[]]⟩
  have hlen := tw_len s
  have htk := tw_take s
  unfold cutA
  generalize s.dropWhile sp = r at *
  generalize s.takeWhile sp = a at *
  have hw : wr .i64 ((s.length : Int) - (r.length : Int)) = some ((a.length : Nat) : Int) := by rw [wr_small (by omega) (by omega)]; congr 1; omega
  have hsl := fun H => slStrTo (H := H) (s := s) (j := a.length) (by omega)
  rw [htk] at hsl
  refine callAt_body (fn := Tryz.f5) (s0 := ⟨[0, 2, 3, 4], [.str s, .undef, .undef, .undef], [], 15, ⟨0, [[]]⟩⟩) Tryz.func5 rfl rfl rfl ?_
  repeat refine wps_seq ?_
  refine wps_region callOK ?_
  simp [zS]
  repeat refine wps_seq ?_
  refine wps_region (callOKF [⟨12, _, _, _, _, hk⟩]) ?_
  simp [zS, callF]
  repeat refine wps_seq ?_
  refine wps_region callOK ?_
  simp [zS, hw, hsl]
  repeat refine wps_seq ?_
  refine wps_ret ?_
  simp [retVal, Tryz.f5, oneOr, thenQ, blockQ]
  exact ends_pure rfl (by rfl)
def lays2_21_ren : Go.Shelf.Ren := ⟨fun | 21 => 40 | 27 => 91 | 28 => 92 | 35 => 128 | 39 => 159 | n => n, fun | 0 => 0 | 3 => 3 | 4 => 4 | 22 => 36 | n => n, fun | n => n⟩
theorem lays2_21 : Go.Proofs.Lays2.n21 Tryz.prog lays2_21_ren where
  mixed := by kernel_rfl
  f21 := Tryz.func40.trans (congrArg some (by kernel_rfl))
  f27 := Tryz.func91.trans (congrArg some (by kernel_rfl))
  f28 := Tryz.func92.trans (congrArg some (by kernel_rfl))
  f35 := Tryz.func128.trans (congrArg some (by kernel_rfl))
  f39 := Tryz.func159.trans (congrArg some (by kernel_rfl))
  t0 := Tryz.underlying0
  a0 := Tryz.isAgg0
  z0 := Tryz.sizeOf0
  v0 := Tryz.zeroValue0
  t3 := Tryz.underlying3
  a3 := Tryz.isAgg3
  z3 := Tryz.sizeOf3
  v3 := Tryz.zeroValue3
  t4 := Tryz.underlying4
  a4 := Tryz.isAgg4
  z4 := Tryz.sizeOf4
  v4 := Tryz.zeroValue4
  t22 := Tryz.underlying36
  a22 := Tryz.isAgg36
  z22 := Tryz.sizeOf36
  v22 := Tryz.zeroValue36
  i3 := by kernel_rfl
structure Wrote (cb : Nat) (v v' : World) : Prop where
  size : v'.heap.size = v.heap.size
  keep : ∀ j, j ≠ cb → v'.heap[j]? = v.heap[j]?
  os : v'.os = v.os
  tape : v'.tape = v.tape
  output : v'.output = v.output
  some : ∀ k, (v.cell? ⟨cb, k, none⟩).isSome = true → (v'.cell? ⟨cb, k, none⟩).isSome = true
  fz : ∀ k, v'.frozen? ⟨cb, k, none⟩ = v.frozen? ⟨cb, k, none⟩
theorem Wrote.trans {cb : Nat} {u v w : World} (h : Wrote cb u v) (k : Wrote cb v w) : Wrote cb u w :=
  ⟨k.size.trans h.size, fun j hj => (k.keep j hj).trans (h.keep j hj), k.os.trans h.os, k.tape.trans h.tape, k.output.trans h.output, fun j hj => k.some j (h.some j hj), fun j => (k.fz j).trans (h.fz j)⟩
theorem Wrote.drew {cb : Nat} {v : World} : Wrote cb v v.drew := ⟨rfl, fun _ _ => rfl, rfl, rfl, rfl, fun _ h => h, fun _ => rfl⟩
theorem Wrote.set {cb o : Nat} {v : World} {xs : List Value} (h : ∀ j, j < xs.length → (v.cell? ⟨cb, o + j, none⟩).isSome = true) : Wrote cb v (v.setCells cb o xs) :=
  ⟨setCells_size _ _ _ _, fun j hj => setCells_heap _ _ _ _ j hj, (setCells_rest _ _ _ _).1, (setCells_rest _ _ _ _).2.1, (setCells_rest _ _ _ _).2.2, fun k hk => isSome_setCells cb xs o v h k hk, fun k => World.frozen?_setCells _ _ _ _ _⟩
theorem set_in {cb o : Nat} {v : World} {xs : List Value} (h : ∀ j, j < xs.length → (v.cell? ⟨cb, o + j, none⟩).isSome = true) {k : Nat} (h1 : o ≤ k) (h2 : k < o + xs.length) : (v.setCells cb o xs).cell? ⟨cb, k, none⟩ = xs[k - o]? := by
  have := World.cell?_setCells_in cb xs o v h (k - o) (by omega)
  rw [show o + (k - o) = k by omega] at this
  rw [this, List.getElem?_eq_getElem (by omega)]
theorem set_out {cb o : Nat} {v : World} {xs : List Value} {k : Nat} (h : k < o ∨ o + xs.length ≤ k) : (v.setCells cb o xs).cell? ⟨cb, k, none⟩ = v.cell? ⟨cb, k, none⟩ :=
  World.cell?_setCells_out cb xs o v ⟨cb, k, none⟩ (fun _ _ => h)
theorem two_sets {cb off i n : Nat} {xs ys : List Value} {v v' : World} (hn : xs.length = n) (hi : i ≤ n)
    (hs : ∀ j, j < n + ys.length → (v.cell? ⟨cb, off + j, none⟩).isSome = true)
    (hc : ∀ j, j < i → v.cell? ⟨cb, off + j, none⟩ = xs[j]?)
    (hv : v' = (v.setCells cb (off + (i + ys.length)) (xs.drop i)).setCells cb (off + i) ys ∨ v' = ((v.setCells cb (off + i) ys).drew).setCells cb (off + (i + ys.length)) (xs.drop i)) :
    Wrote cb v v' ∧ ∀ j, j < n + ys.length → v'.cell? ⟨cb, off + j, none⟩ = (xs.take i ++ ys ++ xs.drop i)[j]? := by
  have e1 : (xs.take i).length = i := by rw [List.length_take]; omega
  have e2 : (xs.drop i).length = n - i := by rw [List.length_drop]; omega
  have get : ∀ j, (xs.take i ++ ys ++ xs.drop i)[j]? = if j < i then xs[j]? else if j < i + ys.length then ys[j - i]? else (xs.drop i)[j - (i + ys.length)]? := fun j => by
    by_cases h1 : j < i
    · rw [if_pos h1, List.append_assoc, List.getElem?_append_left (by omega), List.getElem?_take, if_pos h1]
    · rw [if_neg h1]
      by_cases h2 : j < i + ys.length
      · rw [if_pos h2, List.getElem?_append_left (by simp; omega), List.getElem?_append_right (by omega), e1]
      · rw [if_neg h2, List.getElem?_append_right (by simp; omega)]
        simp only [List.length_append, e1]
  rcases hv with rfl | rfl
  · have a1 : ∀ j, j < (xs.drop i).length → (v.cell? ⟨cb, off + (i + ys.length) + j, none⟩).isSome = true := fun j hj => by
      rw [show off + (i + ys.length) + j = off + (i + ys.length + j) by omega]; exact hs _ (by omega)
    have w1 : Wrote cb v (v.setCells cb (off + (i + ys.length)) (xs.drop i)) := .set a1
    have a2 : ∀ j, j < ys.length → ((v.setCells cb (off + (i + ys.length)) (xs.drop i)).cell? ⟨cb, off + i + j, none⟩).isSome = true := fun j hj => w1.some _ (by
      rw [show off + i + j = off + (i + j) by omega]; exact hs _ (by omega))
    refine ⟨w1.trans (.set a2), fun j hj => ?_⟩
    rw [get j]
    split
    · rename_i h1
      rw [set_out (by omega), set_out (by omega), hc j h1]
    · split
      · rw [set_in a2 (by omega) (by omega)]; congr 1; omega
      · rw [set_out (by omega), set_in a1 (by omega) (by omega)]; congr 1; omega
  · have a1 : ∀ j, j < ys.length → (v.cell? ⟨cb, off + i + j, none⟩).isSome = true := fun j hj => by
      rw [show off + i + j = off + (i + j) by omega]; exact hs _ (by omega)
    have w1 : Wrote cb v (v.setCells cb (off + i) ys) := .set a1
    have a2 : ∀ j, j < (xs.drop i).length → ((v.setCells cb (off + i) ys).drew.cell? ⟨cb, off + (i + ys.length) + j, none⟩).isSome = true := fun j hj => w1.some _ (by
      rw [show off + (i + ys.length) + j = off + (i + ys.length + j) by omega]; exact hs _ (by omega))
    refine ⟨(w1.trans .drew).trans (.set a2), fun j hj => ?_⟩
    rw [get j]
    split
    · rename_i h1
      rw [set_out (by omega)]
      show (v.setCells cb (off + i) ys).cell? _ = _
      rw [set_out (by omega), hc j h1]
    · split
      · rw [set_out (by omega)]
        show (v.setCells cb (off + i) ys).cell? _ = _
        rw [set_in a1 (by omega) (by omega)]; congr 1; omega
      · rw [set_in a2 (by omega) (by omega)]; congr 1; omega
theorem vrs_ins {ρ : Place} {cs vs : List AV} {xs ys : List Value} (i : Nat) (h : VRs ρ cs xs) (k : VRs ρ vs ys) : VRs ρ (cs.take i ++ vs ++ cs.drop i) (xs.take i ++ ys ++ xs.drop i) := by
  refine (VRs.append ⟨by simp [h.1], fun j a b => ?_⟩ k).append ⟨by simp [h.1], fun j a b => ?_⟩
  · rw [List.getElem_take, List.getElem_take]; exact h.2 _ _ _
  · rw [List.getElem_drop, List.getElem_drop]; exact h.2 _ _ _
theorem insert_at {T : List (Entry Tryz.prog)} {H : Heap} {b vb n m i : Nat} {cs vs : List AV} {t : TypeId} (hb : H.get b = some (.cells cs)) (hvb : H.get vb = some (.buf t 0 vs)) (hbv : b ≠ vb)
    (hn : cs.length = n) (hm : vs.length = m) (hi : i < n) (h0 : 0 < m) (hc1 : allSingle cs = true) (hv1 : allSingle vs = true) (hbig : n + m ≤ 1000000000) :
    CallAt (ctx T) 40 [.slc b 0 n (.rest 1), .int .i64 i, .slc vb 0 m (.ex m)] H (.slc H.n 0 (n + m) (.rest 1)) ((H.drop b).new (.cells (cs.take i ++ vs ++ cs.drop i))) := by
  intro ρ w xs sm hx
  match xs, hx with
  | [x, y, z], hx =>
    have g0 := hx.2 0 (by simp) (by simp)
    have g1 := hx.2 1 (by simp) (by simp)
    have g2 := hx.2 2 (by simp) (by simp)
    simp only [List.getElem_cons_zero, List.getElem_cons_succ] at g0 g1 g2
    cases g1
    cases g2 with
    | slcE _ _ _ _ l2 hl2 _ =>
    cases g0 with
    | slcR _ _ _ _ c l hl hnc hf =>
    have hrun : (callFunc 40 #[.slice (some ⟨l.cb, l.off + 0, none⟩) n c, .int .i64 i, .slice (some ⟨l2.cb, l2.off + 0, none⟩) m m]).run (ctx T).P w = .ok (.enter 40 #[.slice (some ⟨l.cb, l.off + 0, none⟩) n c, .int .i64 i, .slice (some ⟨l2.cb, l2.off + 0, none⟩) m m]) w := by
      have hf : (ctx T).P.funcs[40]? = some Tryz.f40 := Tryz.func40
      have hn : ¬ Tryz.f40.name = "runtime.NumGoroutine" := by decide +kernel
      simp [callFunc, hf, hn, Tryz.f40]
    refine .inr ⟨40, _, hrun, callsIn_wide.2 ?_⟩
    obtain ⟨l', hl', hB, hlt, hr⟩ := sm.block hb
    rw [hl] at hl'; cases hl'
    obtain ⟨l', hl', hB2, hlt2, hr2⟩ := sm.block hvb
    rw [hl2] at hl'; cases hl'
    have hcb : l2.cb ≠ l.cb := fun e => hbv (sm.inj (b, _) (vb, _) (Heap.get_mem hb) (Heap.get_mem hvb) l l2 hl hl2 e.symm)
    obtain ⟨X, hX, _, hXc⟩ := read_cells (o := 0) (n := n) (r := cs) sm (by unfold readCells; rw [hb]; subst hn; exact takeL_all cs) hl
    obtain ⟨Y, hY, _, hYc⟩ := read_cells (o := 0) (n := m) (r := vs) sm (by unfold readCells; rw [hvb]; subst hm; exact takeL_all vs) hl2
    have hXl : X.length = n := hX.1.trans hn
    have hYl : Y.length = m := hY.1.trans hm
    obtain ⟨⟨q1, q2, q3⟩, q4, q5, C2, lo, hh, hheap2, hz2⟩ := hr2
    obtain ⟨r1, r2, r3⟩ := hr
    have hfz2 : ∀ k, w.frozen? ⟨l2.cb, k, none⟩ = false := fun k => by
      simp only [World.frozen?, hheap2]
      rcases hz2 with rfl | hz
      · by_cases h1 : lo ≤ k <;> simp <;> omega
      · simp; omega
    have hshape : ∃ tB kB, w.shape? l.cb = some (tB, kB) ∧ kB ≠ 0 := by
      have := (r2 l.off (by omega)).1
      simp only [World.cell?] at this
      split at this
      · rename_i c0 e0 fr0 hh0
        refine ⟨e0, c0.size, by simp only [World.shape?, hh0], fun hz => ?_⟩
        simp only [Option.isSome_none, Bool.false_eq_true, if_false] at this
        rw [Array.getElem?_eq_none (by omega)] at this
        cases this
      · cases this
    obtain ⟨tB, kB, hsB, hkB⟩ := hshape
    have hXc' : ∀ j v, X[j]? = some v → w.cell? ⟨l.cb, l.off + j, none⟩ = some v := fun j v h => hXc j v h
    have hYc' : ∀ j v, Y[j]? = some v → w.cell? ⟨l2.cb, l2.off + j, none⟩ = some v := fun j v h => hYc j v h
    have o1 := hX.oneCell hc1
    have o2 := hY.oneCell hv1
    have hgetX : ∀ j, j < n → w.cell? ⟨l.cb, l.off + j, none⟩ = X[j]? := fun j hj => by
      rw [List.getElem?_eq_getElem (by omega)]; exact hXc' j _ (List.getElem?_eq_getElem (by omega))
    have hres : (cs.take i ++ vs ++ cs.drop i).length = n + m := by simp [hn, hm]; omega
    by_cases hroom : n + m ≤ c
    · have hs : ∀ j, j < n + m → (w.cell? ⟨l.cb, l.off + j, none⟩).isSome = true := fun j hj => (r2 _ (by omega)).1
      refine (Any2.slices_Insert_int_shift lays2_21 l.cb l.off n c i l2.cb l2.off m m X Y w hi h0 hroom hf.2 hcb hXl hYl hXc' hs (fun j hj => (r2 _ (by omega)).2) hYc' o1 o2 t tB C2.size kB (by simp only [World.shape?, hheap2]) hsB hkB (hfz2 _) (hfz2 _)).mono ?_
      rintro e w' ⟨rfl, hw⟩
      obtain ⟨W1, W2⟩ := two_sets (cb := l.cb) (off := l.off) (i := i) (n := n) (xs := X) (ys := Y) (v := w.drew) (v' := w') hXl (by omega) (by rw [hYl]; exact hs) (fun j hj => hgetX j (by omega)) (.inl (by rw [hYl]; exact hw))
      have hle : ρ.le (ρ.upd H.n ⟨l.cb, l.off, l.fin⟩) := Place.le_upd (sm.dom _ (Nat.le_refl _))
      have hV := (vrs_ins i hX hY).mono hle
      obtain ⟨k1, k2⟩ := sm.drew.regrow (k := .cells (cs.take i ++ vs ++ cs.drop i)) (l' := ⟨l.cb, l.off, l.fin⟩) hb hl rfl W1.size W1.keep W1.os W1.tape W1.output (by
        refine ⟨by rw [hres]; show l.off + _ ≤ l.fin; omega, fun k hk => ⟨W1.some k (r2 k hk).1, (W1.fz k).trans (r2 k hk).2⟩, fun j hj => ?_⟩
        have hj2 : j < (X.take i ++ Y ++ X.drop i).length := by rw [hV.1]; exact hj
        refine ⟨(X.take i ++ Y ++ X.drop i)[j], ?_, hV.2 j hj hj2⟩
        rw [← List.getElem?_eq_getElem hj2]
        exact W2 j (by rw [hYl]; omega))
      refine ⟨_, _, rfl, ?_, k1, (Step.drew _ _ _).trans k2⟩
      exact .slcR H.n 0 (n + m) 1 c ⟨l.cb, l.off, l.fin⟩ Place.upd_same hroom hf
    · refine (Any2.slices_Insert_int_grow lays2_21 l.cb l.off n c i l2.cb l2.off m m X Y w hi h0 hnc (by omega) (by omega) hXl hYl hXc' hYc' o1 o2).mono ?_
      rintro e w' ⟨rfl, hw⟩
      have hcap : n + m ≤ grownCap w (n + m) c (lays2_21_ren.t 3) := by simp [grownCap, Question.cut]
      have h63 : grownCap w (n + m) c (lays2_21_ren.t 3) ≤ 9223372036854775807 := cut_63 (by omega)
      generalize grownCap w (n + m) c (lays2_21_ren.t 3) = G at hw hcap h63 ⊢
      obtain ⟨ROW, hROW⟩ : ∃ ROW : Array Value, ROW = (X.take i).toArray ++ Builtin.zeroCells (Value.int .i64 0).cells (n + m - i) ++ Builtin.zeroCells (Value.int .i64 0).cells (G - (n + m)) := ⟨_, rfl⟩
      rw [← hROW] at hw
      have hsz : ROW.size = G := by
        rw [hROW]
        simp [Builtin.zeroCells, Value.cells, hXl]
        omega
      obtain ⟨sd, st⟩ := sm.dropped b
      obtain ⟨s1, t1⟩ := sd.new (.cells ROW (lays2_21_ren.t 3)) ROW.size (.cells (List.replicate (n + m) .undef)) (blk_new (by simp; omega) (fun j a b => by rw [List.getElem_replicate]; exact .undef _) (fun j _ => by simp))
      have hh1 : (w.alloc (.cells ROW (lays2_21_ren.t 3))).heap[w.heap.size]? = some (.cells ROW (lays2_21_ren.t 3) (0, 0)) := by
        show (w.heap.push _)[w.heap.size]? = _
        simp
      have hcell : ∀ j, (w.alloc (.cells ROW (lays2_21_ren.t 3))).cell? ⟨w.heap.size, 0 + j, none⟩ = ROW[j]? := fun j => by simp only [World.cell?, hh1, Nat.zero_add]; rfl
      have hs : ∀ j, j < n + m → ((w.alloc (.cells ROW (lays2_21_ren.t 3))).drew.cell? ⟨w.heap.size, 0 + j, none⟩).isSome = true := fun j hj => by
        show ((w.alloc (.cells ROW (lays2_21_ren.t 3))).cell? ⟨w.heap.size, 0 + j, none⟩).isSome = true
        rw [hcell, Array.getElem?_eq_getElem (by omega)]; rfl
      obtain ⟨W1, W2⟩ := two_sets (cb := w.heap.size) (off := 0) (i := i) (n := n) (xs := X) (ys := Y) (v := (w.alloc (.cells ROW (lays2_21_ren.t 3))).drew) (v' := w') hXl (by omega) (by rw [hYl]; exact hs)
        (fun j hj => by
          show (w.alloc (.cells ROW (lays2_21_ren.t 3))).cell? ⟨w.heap.size, 0 + j, none⟩ = _
          rw [hcell, hROW, Array.append_assoc, Array.getElem?_append_left (by simp; omega)]
          simp [hj]) (.inr (by rw [hYl, Nat.zero_add, Nat.zero_add]; exact hw))
      have hle : ρ.le (ρ.upd H.n ⟨w.heap.size, 0, ROW.size⟩) := Place.le_upd (sm.dom _ (Nat.le_refl _))
      have hV := (vrs_ins i hX hY).mono hle
      have hents : ∀ k : Blk, ((H.drop b).new k).ents = (H.n, k) :: (H.drop b).ents := fun k => Heap.new_ents _ _
      obtain ⟨k1, k2⟩ := s1.drew.turned (H' := (H.drop b).new (.cells (cs.take i ++ vs ++ cs.drop i))) (b := H.n) (k0 := .cells (List.replicate (n + m) .undef)) (k := .cells (cs.take i ++ vs ++ cs.drop i)) (l := ⟨w.heap.size, 0, ROW.size⟩) (w' := w')
        (by rw [hents]; exact List.mem_cons_self) Place.upd_same rfl (by have := s1.nodup; rw [hents] at this ⊢; exact this) (by rw [hents]; exact List.mem_cons_self)
        (fun e he => by rw [hents] at he ⊢; rcases List.mem_cons.1 he with h | h; exact .inl h; exact .inr (List.mem_cons_of_mem _ h))
        W1.size W1.keep W1.os W1.tape W1.output (by
          have hold := (s1.drew.live (H.n, .cells (List.replicate (n + m) .undef)) (by rw [hents]; exact List.mem_cons_self))
          obtain ⟨l3, hl3, _, _, hr3⟩ := hold
          have hl4 : (ρ.upd H.n ⟨w.heap.size, 0, ROW.size⟩) H.n = some l3 := hl3
          rw [Place.upd_same] at hl4; cases hl4
          refine ⟨by rw [hres]; show 0 + _ ≤ ROW.size; omega, fun k hk => ⟨W1.some k (hr3.2.1 k hk).1, (W1.fz k).trans (hr3.2.1 k hk).2⟩, fun j hj => ?_⟩
          have hj2 : j < (X.take i ++ Y ++ X.drop i).length := by rw [hV.1]; exact hj
          refine ⟨(X.take i ++ Y ++ X.drop i)[j], ?_, hV.2 j hj hj2⟩
          rw [← List.getElem?_eq_getElem hj2]
          exact W2 j (by rw [hYl]; omega))
      refine ⟨_, _, rfl, ?_, k1, st.trans (t1.trans ((Step.drew _ _ _).trans k2))⟩
      exact .slcR H.n 0 (n + m) 1 G ⟨w.heap.size, 0, ROW.size⟩ Place.upd_same hcap ⟨by simp [hsz], h63⟩
def insF (H : Heap) : List AV → Option (AV × Heap)
  | [.slc b o n c1, .int .i64 (.ofNat i), .slc vb vo m c2] => match c1, c2, o, vo with
    | .rest 1, .ex m', 0, 0 => match H.get b, H.get vb with
      | some (.cells cs), some (.buf _ 0 vs) => match ((Nat.beq cs.length n && Nat.beq vs.length m) && (Nat.beq m m' && Nat.blt i n)) && ((Nat.blt 0 m && !Nat.beq b vb) && ((allSingle cs && allSingle vs) && Nat.ble (n + m) 1000000000)) with
        | true => some (.slc H.n 0 (n + m) (.rest 1), (H.drop b).new (.cells (cs.take i ++ vs ++ cs.drop i)))
        | false => none
      | _, _ => none
    | _, _, _, _ => none
  | _ => none
theorem insF_ok {T : List (Entry Tryz.prog)} {args : List AV} {H H' : Heap} {v : AV} (h : insF H args = some (v, H')) : CallAt (ctx T) 40 args H v H' := by
  unfold insF at h
  split at h
  · split at h
    · split at h
      · rename_i hb hvb
        split at h
        · rename_i hc
          simp only [Option.some.injEq, Prod.mk.injEq] at h
          obtain ⟨rfl, rfl⟩ := h
          simp only [Bool.and_eq_true, Bool.not_eq_true'] at hc
          obtain ⟨⟨⟨c1, c2⟩, c3, c4⟩, ⟨c5, c6⟩, ⟨c7, c8⟩, c9⟩ := hc
          have c3 := Nat.eq_of_beq_eq_true c3
          subst c3
          exact insert_at hb hvb (fun e => by subst e; rw [Nat.beq_refl] at c6; cases c6) (Nat.eq_of_beq_eq_true c1) (Nat.eq_of_beq_eq_true c2) (Nat.le_of_ble_eq_true c4) (Nat.le_of_ble_eq_true c5) c7 c8 (Nat.le_of_ble_eq_true c9)
        · cases h
      · cases h
    · cases h
  · cases h
noncomputable def a40 : Entry Tryz.prog := ⟨40, fun args H => match insF H args with
  | some r => some r
  | none => callN (ctx []) 100000 (.fn 40) args H, fun args H v H' h => by
    split at h
    · rename_i r hr
      simp only [Option.some.injEq] at h
      subst h
      exact insF_ok (T := []) hr
    · exact (call_ok mixed (mkC_ok _ _ _) 100000).fn _ _ _ _ _ h⟩
end Go.Proofs.YtdmgdkejbhoegaaGreatDoor
