/- Small letters, by the program and by the reference. No condition. -/
import Derived.Test.YtpkplilgjdbhhaaR1
namespace Go.Proofs.Ytpkplilgjdbhhaa
set_option linter.unusedSimpArgs false
set_option linter.unusedVariables false
open Go Go.RowKit
set_option maxRecDepth 100000

/-- a small letter -/
def lw (c : UInt8) : UInt8 := if 65 ≤ c.toNat ∧ c.toNat ≤ 90 then c + 32 else c
def lower (s : Str) : Str := s.map lw
theorem u8_add : ∀ n : Fin 256, 65 ≤ n.val → n.val ≤ 90 → IntKind.wrap .u8 ((n.val : Int) + 32) = ((UInt8.ofNat n.val + 32).toNat : Int) := by decide +kernel
theorem u8_or : ∀ n : Fin 256, 65 ≤ n.val → n.val ≤ 90 → IntKind.wrap .u8 ((BitVec.ofInt 8 (n.val : Int) ||| BitVec.ofInt 8 32).toNat : Int) = ((UInt8.ofNat n.val + 32).toNat : Int) := by decide +kernel
theorem add8 {c : UInt8} (h1 : 65 ≤ c.toNat) (h2 : c.toNat ≤ 90) : wr .u8 ((c.toNat : Int) + 32) = some ((lw c).toNat : Int) := by
  have := u8_add ⟨c.toNat, c.toNat_lt⟩ h1 h2
  simp only [UInt8.ofNat_toNat] at this
  simp only [wr, lw, h1, h2, and_self, if_true, this]
theorem or8 {c : UInt8} (h1 : 65 ≤ c.toNat) (h2 : c.toNat ≤ 90) : binA Try.prog .or 5 (.int .u8 (c.toNat : Int)) (.int .u8 32) = some (.int .u8 ((lw c).toNat : Int)) := by
  have := u8_or ⟨c.toNat, c.toNat_lt⟩ h1 h2
  simp only [UInt8.ofNat_toNat] at this
  have e : binA Try.prog .or 5 (.int .u8 (c.toNat : Int)) (.int .u8 32) = some (.int .u8 (IntKind.wrap .u8 ((BitVec.ofInt 8 (c.toNat : Int) ||| BitVec.ofInt 8 32).toNat : Int))) := rfl
  rw [e, this]
  simp only [lw, h1, h2, and_self, if_true]
theorem lw_same {c : UInt8} (h : ¬ (65 ≤ c.toNat ∧ c.toNat ≤ 90)) : lw c = c := by simp only [lw, h, if_false]

theorem getL_bytes : ∀ {s : Str} {i : Nat} (h : i < s.length), getL (bytesAV s) i = some (.int .u8 (s[i].toNat : Int))
  | [], i, h => absurd h (Nat.not_lt_zero i)
  | c :: r, 0, _ => rfl
  | c :: r, i + 1, h => by
    have := getL_bytes (s := r) (i := i) (by simpa using h)
    simpa [bytesAV] using this
theorem layL_bytes {x : UInt8} : ∀ {s : Str} {i : Nat} (h : i < s.length), layL [.int .u8 (x.toNat : Int)] i (bytesAV s) = some (bytesAV (s.set i x))
  | [], i, h => absurd h (Nat.not_lt_zero i)
  | c :: r, 0, _ => by simp [bytesAV]
  | c :: r, i + 1, h => by
    have := layL_bytes (x := x) (s := r) (i := i) (by simpa using h)
    simp [bytesAV, this]
theorem bytesOf_bytes : ∀ (s : Str), bytesOf (bytesAV s) = some s
  | [] => rfl
  | c :: r => by simp [bytesAV, bytesOf, byteOf1, bytesOf_bytes r]
theorem pure_bytes : ∀ (s : Str), pureL (bytesAV s) = true
  | [] => by simp [bytesAV, pureL]
  | c :: r => by simp [bytesAV, pureL, pureV, pure_bytes r]
theorem sub_bytes {s : Str} : subL 0 s.length (bytesAV s) = some (bytesAV s) := by
  have := takeL_front (n := s.length) (l := bytesAV s) (by rw [bytesAV_length]; omega)
  rw [subL_front (by rw [bytesAV_length]; omega)]
  simp [List.take_of_length_le, bytesAV_length]
/-- a byte of the block -/
def bytesH (n : Nat) (s : Str) : Heap := ⟨n, [[(0, .cells (bytesAV s))]]⟩
theorem conv1 {s : Str} (h : s.length ≤ 1000000) : convA Try.prog ⟨0, [[]]⟩ 9 52 (.str s) = some (.slc 0 0 s.length (.rest 1), bytesH 1 s) := by
  have : roomOK s.length 1 = true := by simp [roomOK]; omega
  simp [convA, this, bytesH, Heap.new, pushF]
theorem conv2 {n len : Nat} {s : Str} {cap : Cap} (e : s.length = len) : convA Try.prog (bytesH n s) 52 9 (.slc 0 0 len cap) = some (.str s, bytesH n s) := by
  subst e
  simp [convA, srcLen, srcCells, readCells, bytesH, Heap.get, getFs, getF, sub_bytes, bytesOf_bytes]
theorem ix52 {b o len i : Nat} {cap : Cap} (h : i < len) : indexAddrA Try.prog 52 (.slc b o len cap) (.int .i64 (i : Int)) = some (.ptr b (o + i)) := by simp [indexAddrA, idx_nat h]
theorem rd5 {n i : Nat} {s : Str} (h : i < s.length) : readVar Try.prog (bytesH n s) 5 (.ptr 0 i) = some (.int .u8 (s[i].toNat : Int)) := by
  simp [bytesH, Heap.get, getFs, getF, getL_bytes h]
theorem wr5 {n i : Nat} {s : Str} {x : UInt8} (h : i < s.length) : writeVar Try.prog (bytesH n s) 5 (.ptr 0 i) (.int .u8 (x.toNat : Int)) = some (bytesH n (s.set i x)) := by
  simp [writeVar, writeCells, bytesH, Heap.get, Heap.set, getFs, getF, setFs, setF, layL_bytes h, allSingle, AV.single, Heap.ready, refs]
/-- as far as the loop has come -/
def midL (s : Str) (i : Nat) : Str := (s.take i).map lw ++ s.drop i
theorem midL_len (s : Str) (i : Nat) : (midL s i).length = s.length := by simp [midL]; omega
theorem midL_get {s : Str} {i : Nat} (h : i < s.length) : (midL s i)[i]'(by rw [midL_len]; exact h) = s[i] := by
  have h1 : ((s.take i).map lw).length = i := by simp; omega
  simp only [midL]
  rw [List.getElem_append_right (by omega)]
  simp only [List.getElem_drop, h1, Nat.sub_self, Nat.add_zero]
theorem midL_step {s : Str} {i : Nat} (h : i < s.length) : (midL s i).set i (lw s[i]) = midL s (i + 1) := by
  have h1 : ((s.take i).map lw).length = i := by simp; omega
  simp only [midL]
  rw [List.set_append_right _ _ (by omega), h1, Nat.sub_self, List.drop_eq_getElem_cons h, List.set_cons_zero, List.take_succ_eq_append_getElem h]
  simp only [List.map_append, List.map_cons, List.map_nil, List.append_assoc, List.singleton_append]
theorem midL_keep {s : Str} {i : Nat} (h : i < s.length) (e : lw s[i] = s[i]) : midL s (i + 1) = midL s i := by
  have := midL_step h
  rw [e] at this
  rw [← this]
  have h2 := midL_get h
  conv => lhs; rw [← h2]
  exact List.set_getElem_self _
theorem midL_all (s : Str) : midL s s.length = lower s := by simp [midL, lower]
end Go.Proofs.Ytpkplilgjdbhhaa
