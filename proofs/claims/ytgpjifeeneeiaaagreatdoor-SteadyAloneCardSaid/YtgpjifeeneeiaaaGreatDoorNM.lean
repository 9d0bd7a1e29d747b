/- The reference's reading of a character. No condition. -/
import Derived.Test.YtgpjifeeneeiaaaGreatDoorNG
import Derived.Test.YtgpjifeeneeiaaaGreatDoorNI
import Derived.Test.YtgpjifeeneeiaaaGreatDoorNL
namespace Go.Proofs.YtgpjifeeneeiaaaGreatDoor
set_option linter.unusedSimpArgs false
set_option linter.unusedVariables false
open Go Go.RowKit
set_option maxRecDepth 100000
theorem getL_bytes : ∀ {s : Str} {i : Nat} (h : i < s.length), getL (bytesAV s) i = some (.int .u8 (s[i].toNat : Int))
 | [], i, h => absurd h (Nat.not_lt_zero i)
 | c :: r, 0, _ => rfl
 | c :: r, i + 1, h => by
  have := getL_bytes (s := r) (i := i) (by simpa using h)
  simpa [bytesAV] using this
theorem layL_bytes {x : UInt8} : ∀ {s : Str} {i : Nat} (h : i < s.length), layL [.int .u8 (x.toNat : Int)] i (bytesAV s) = some (bytesAV (s.set i x))
 | [], i, h => absurd h (Nat.not_lt_zero i)
 | c :: r, 0, _ => by simp [bytesAV]
 | c :: r, i + 1, h => by
  have := layL_bytes (x := x) (s := r) (i := i) (by simpa using h)
  simp [bytesAV, this]
theorem bytesOf_bytes : ∀ (s : Str), bytesOf (bytesAV s) = some s
 | [] => rfl
 | c :: r => by simp [bytesAV, bytesOf, byteOf1, bytesOf_bytes r]
theorem pure_bytes : ∀ (s : Str), pureL (bytesAV s) = true
 | [] => by simp [bytesAV, pureL]
 | c :: r => by simp [bytesAV, pureL, pureV, pure_bytes r]
theorem sub_bytes {s : Str} : subL 0 s.length (bytesAV s) = some (bytesAV s) := by
 have := takeL_front (n := s.length) (l := bytesAV s) (by rw [bytesAV_length]; omega)
 rw [subL_front (by rw [bytesAV_length]; omega)]
 simp [List.take_of_length_le, bytesAV_length]
def bytesH (n : Nat) (s : Str) : Heap := ⟨n, [[(0, .cells (bytesAV s))]]⟩
theorem conv1 {s : Str} (h : s.length ≤ 1000000) : convA Tryz.prog ⟨0, [[]]⟩ 9 100 (.str s) = some (.slc 0 0 s.length (.rest 1), bytesH 1 s) := by
 have : roomOK s.length 1 = true := by simp [roomOK]; omega
 simp [convA, this, bytesH, Heap.new, pushF]
theorem conv2 {n len : Nat} {s : Str} {cap : Cap} (e : s.length = len) : convA Tryz.prog (bytesH n s) 100 9 (.slc 0 0 len cap) = some (.str s, bytesH n s) := by
 subst e
 simp [convA, srcLen, srcCells, readCells, bytesH, Heap.get, getFs, getF, sub_bytes, bytesOf_bytes]
theorem ix52 {b o len i : Nat} {cap : Cap} (h : i < len) : indexAddrA Tryz.prog 100 (.slc b o len cap) (.int .i64 (i : Int)) = some (.ptr b (o + i)) := by simp [indexAddrA, idx_nat h]
theorem len52 {H : Heap} {b o n : Nat} {cap : Cap} : lenA Tryz.prog H 100 (.slc b o n cap) = some n := by simp [lenA]
theorem fitBytes {n : Nat} {s t : Str} (e : s = t) : FitH 0 [(0, 0)] [] (bytesH n s) (bytesH 1 t) := by
 subst e
 have hb : fitB [(0, 0)] [] (.cells (bytesAV s)) (.cells (bytesAV s)) := by
  show fitL _ _ _ _
  exact fitL_pure (pure_bytes s)
 refine ⟨by simp, by simp, by simp [bytesH, Heap.ents], by simp [bytesH], by simp, Nat.zero_le _, ?_, by simp⟩
 intro e he
 simp [bytesH, Heap.ents] at he
 subst he
 exact ⟨0, _, by simp, by simp [bytesH, Heap.get, getFs, getF], hb⟩
theorem fitSlc {len : Nat} {cap : Cap} : fitV [(0, 0)] [] (.slc 0 0 len cap) (.slc 0 0 len cap) := by simp [fitV, lookN]
def lw (c : UInt8) : UInt8 := if 65 ≤ c.toNat ∧ c.toNat ≤ 90 then c + 32 else c
def lower (s : Str) : Str := s.map lw
theorem u8_or : ∀ n : Fin 256, 65 ≤ n.val → n.val ≤ 90 → IntKind.wrap .u8 ((BitVec.ofInt 8 (n.val : Int) ||| BitVec.ofInt 8 32).toNat : Int) = ((UInt8.ofNat n.val + 32).toNat : Int) := by decide +kernel
theorem or8 {c : UInt8} (h1 : 65 ≤ c.toNat) (h2 : c.toNat ≤ 90) : binA Tryz.prog .or 5 (.int .u8 (c.toNat : Int)) (.int .u8 32) = some (.int .u8 ((lw c).toNat : Int)) := by
 have := u8_or ⟨c.toNat, c.toNat_lt⟩ h1 h2
 simp only [UInt8.ofNat_toNat] at this
 have e : binA Tryz.prog .or 5 (.int .u8 (c.toNat : Int)) (.int .u8 32) = some (.int .u8 (IntKind.wrap .u8 ((BitVec.ofInt 8 (c.toNat : Int) ||| BitVec.ofInt 8 32).toNat : Int))) := rfl
 rw [e, this]
 simp only [lw, h1, h2, and_self, if_true]
theorem lw_same {c : UInt8} (h : ¬ (65 ≤ c.toNat ∧ c.toNat ≤ 90)) : lw c = c := by simp only [lw, h, if_false]
def midL (s : Str) (i : Nat) : Str := (s.take i).map lw ++ s.drop i
theorem midL_len (s : Str) (i : Nat) : (midL s i).length = s.length := by simp [midL]; omega
theorem midL_get {s : Str} {i : Nat} (h : i < s.length) : (midL s i)[i]'(by rw [midL_len]; exact h) = s[i] := by
 have h1 : ((s.take i).map lw).length = i := by simp; omega
 simp only [midL]
 rw [List.getElem_append_right (by omega)]
 simp only [List.getElem_drop, h1, Nat.sub_self, Nat.add_zero]
theorem midL_step {s : Str} {i : Nat} (h : i < s.length) : (midL s i).set i (lw s[i]) = midL s (i + 1) := by
 have h1 : ((s.take i).map lw).length = i := by simp; omega
 simp only [midL]
 rw [List.set_append_right _ _ (by omega), h1, Nat.sub_self, List.drop_eq_getElem_cons h, List.set_cons_zero, List.take_succ_eq_append_getElem h]
 simp only [List.map_append, List.map_cons, List.map_nil, List.append_assoc, List.singleton_append]
theorem midL_keep {s : Str} {i : Nat} (h : i < s.length) (e : lw s[i] = s[i]) : midL s (i + 1) = midL s i := by
 have := midL_step h
 rw [e] at this
 rw [← this]
 have h2 := midL_get h
 conv => lhs; rw [← h2]
 exact List.set_getElem_self _
theorem midL_all (s : Str) : midL s s.length = lower s := by simp [midL, lower]
theorem c90 {T : List (Entry Tryz.prog)} (s : Str) (hl : s.length ≤ 1000000) : CallAt (ctx T) 90 [.str s] ⟨0, []⟩ (.str (lower s)) ⟨0, []⟩ := by
 refine callAt_body (fn := Tryz.f90) (s0 := ⟨[0, 2, 3, 4, 5, 8, 9, 10], [.str s, .undef, .undef, .undef, .undef, .undef, .undef, .undef], [], 29, ⟨0, [[]]⟩⟩) Tryz.func90 rfl rfl rfl ?_
 repeat apply wq
 refine wps_region callOK ?_
 simp [zS]
 repeat apply wq
 refine wps_region callOK ?_
 simp [zS, conv1 hl]
 repeat apply wq
 refine wps_region callOK ?_
 simp [zS, len52]
 repeat apply wq
 refine wps_block (wps_loop' (fun i : Nat => (⟨[0, 2, 3, 4, 5, 8, 9, 10], [.undef, .undef, .slc 0 0 s.length (.rest 1), .undef, .undef, .slc 0 0 s.length (.rest 1), .int .i64 s.length, .int .i64 i], [], 29, bytesH 1 (midL s i)⟩ : St))
  (fun i => i ≤ s.length) (fun i => s.length - i) [(0, 0)] [] 0 (Nat.zero_le _) ⟨rfl, rfl, rfl, by simp [fitL, fitV, fitSlc, lookN, pureV], by simpa [midL] using fitBytes (n := 1) (s := s) rfl⟩ ?_)
 rintro i hi B hB
 repeat apply wq
 refine wps_region callOK ?_
 simp [zS]
 repeat apply wq
 refine wps_cond rfl (fun h => ?_) fun h => ?_
 ·simp at h
  repeat apply wq
  refine wps_skip ?_
  simp
  repeat apply wq
  refine wps_block ?_
  have hm : i < (midL s i).length := by rw [midL_len]; exact h
  repeat apply wq
  refine wps_region callOK ?_
  simp [zS, bytesH, ix52 h, getL_bytes hm, midL_get h]
  by_cases h1 : 65 ≤ s[i].toNat ∧ s[i].toNat ≤ 90
  ·have e1 : (65 : Int) ≤ s[i].toNat := by omega
   have e2 : (s[i].toNat : Int) ≤ 90 := by omega
   repeat apply wq
   refine wps_region callOK ?_
   simp [zS, bytesH, ix52 h, getL_bytes hm, midL_get h, e1, e2]
   repeat apply wq
   refine wps_ct rfl ?_
   repeat apply wq
   refine wps_region callOK ?_
   simp [zS, bytesH, ix52 h, getL_bytes hm, midL_get h, or8 h1.1 h1.2, layL_bytes hm]
   repeat apply wq
   refine wps_region callOK ?_
   simp [zS, add_one (show i ≤ 1000000000 by omega)]
   exact hB _ (i + 1) (by omega) (by omega) ⟨[(0, 0)], [], rfl, rfl, rfl, by simp [fitL, fitV, fitSlc, lookN, pureV], fitBytes (midL_step h)⟩
  ·by_cases e1 : (65 : Int) ≤ s[i].toNat
   ·have e2 : ¬ (s[i].toNat : Int) ≤ 90 := by omega
    repeat apply wq
    refine wps_region callOK ?_
    simp [zS, bytesH, ix52 h, getL_bytes hm, midL_get h, e1, e2]
    repeat apply wq
    refine wps_cf rfl ?_
    repeat apply wq
    refine wps_skip ?_
    simp
    repeat apply wq
    refine wps_region callOK ?_
    simp [zS, add_one (show i ≤ 1000000000 by omega)]
    exact hB _ (i + 1) (by omega) (by omega) ⟨[(0, 0)], [], rfl, rfl, rfl, by simp [fitL, fitV, fitSlc, lookN, pureV], fitBytes (midL_keep h (lw_same h1)).symm⟩
   ·repeat apply wq
    refine wps_region callOK ?_
    simp [zS, bytesH, ix52 h, getL_bytes hm, midL_get h, e1]
    repeat apply wq
    refine wps_cf rfl ?_
    repeat apply wq
    refine wps_skip ?_
    simp
    repeat apply wq
    refine wps_region callOK ?_
    simp [zS, add_one (show i ≤ 1000000000 by omega)]
    exact hB _ (i + 1) (by omega) (by omega) ⟨[(0, 0)], [], rfl, rfl, rfl, by simp [fitL, fitV, fitSlc, lookN, pureV], fitBytes (midL_keep h (lw_same h1)).symm⟩
 ·simp at h
  repeat apply wq
  refine wps_exit ?_
  simp
  repeat apply wq
  refine wps_region callOK ?_
  simp [zS, conv2 (midL_len s i)]
  repeat apply wq
  refine wps_ret ?_
  simp [retVal, Tryz.f90, oneOr]
  exact ends_pure rfl (by rw [show i = s.length by omega, midL_all])
theorem inj_strL (x y : Str) (h : [AV.str x] = [AV.str y]) : x = y := by simpa using h
noncomputable def e90 : Entry Tryz.prog := mkE 90 [[]] (fun x : Str => [.str x]) (fun x => x.length ≤ 1000000) (fun x => .str (lower x)) fun x hx => c90 (T := []) x hx
theorem k90 {T : List (Entry Tryz.prog)} (hT : findE 90 T = some e90.g) {s : Str} (hl : s.length ≤ 1000000) (H : Heap) : callL (ctx T) (.fn 90) [.str s] H = some (.str (lower s), H) :=
 mkE_scalar hT inj_strL s hl rfl (by simp)
def foldB (a b : Str) : Bool := decide (a.length = b.length) && decide (lower a = lower b)
theorem c71 {T : List (Entry Tryz.prog)} (hT : findE 90 T = some e90.g) (a b : Str) (ha : a.length ≤ 1000000) (hb : b.length ≤ 1000000) : CallAt (ctx T) 71 [.str a, .str b] ⟨0, []⟩ (.bool (foldB a b)) ⟨0, []⟩ := by
 have ka := fun H => k90 hT ha H
 have kb := fun H => k90 hT hb H
 by_cases h : a.length = b.length
 ·have h2 : (a.length : Int) = b.length := by omega
  refine callAt_body (fn := Tryz.f71) (s0 := ⟨[0, 1, 4], [.str a, .str b, .undef], [], 17, ⟨0, [[]]⟩⟩) Tryz.func71 rfl rfl rfl ?_
  (repeat (first
   | (refine wps_seq ?_)
   | (refine wps_block ?_)
   | (refine wps_label ?_; simp only [thenQ, blockQ])
   | ((refine wps_region callOK ?_); simp [zS, h2, ka, kb])
   | (refine wps_ct rfl ?_)
   | (refine wps_cf rfl ?_)
   | ((refine wps_skip ?_); simp only [thenQ, blockQ])
   | ((refine wps_exit ?_); simp [thenQ, blockQ])))
  repeat apply wq
  refine wps_ret ?_
  simp [retVal, Tryz.f71, oneOr, thenQ, blockQ]
  exact ends_pure rfl (by simp [foldB, h])
 ·have h2 : ¬ (a.length : Int) = b.length := by omega
  refine callAt_body (fn := Tryz.f71) (s0 := ⟨[0, 1, 4], [.str a, .str b, .undef], [], 17, ⟨0, [[]]⟩⟩) Tryz.func71 rfl rfl rfl ?_
  (repeat (first
   | (refine wps_seq ?_)
   | (refine wps_block ?_)
   | (refine wps_label ?_; simp only [thenQ, blockQ])
   | ((refine wps_region callOK ?_); simp [zS, h, h2, ka, kb])
   | (refine wps_ct rfl ?_)
   | (refine wps_cf rfl ?_)
   | ((refine wps_skip ?_); simp only [thenQ, blockQ])
   | ((refine wps_exit ?_); simp [thenQ, blockQ])))
  repeat apply wq
  refine wps_ret ?_
  simp [retVal, Tryz.f71, oneOr, thenQ, blockQ]
  exact ends_pure rfl (by simp [foldB, h])
theorem inj_str2L (x y : Str × Str) (h : [AV.str x.1, AV.str x.2] = [AV.str y.1, AV.str y.2]) : x = y := by
 simp at h; exact Prod.ext h.1 h.2
noncomputable def e71 : Entry Tryz.prog := mkE 71 [[], []] (fun x : Str × Str => [.str x.1, .str x.2]) (fun x => x.1.length ≤ 1000000 ∧ x.2.length ≤ 1000000) (fun x => .bool (foldB x.1 x.2)) fun x hx => c71 (T := [e90]) rfl x.1 x.2 hx.1 hx.2
theorem k71 {T : List (Entry Tryz.prog)} (hT : findE 71 T = some e71.g) {a b : Str} (ha : a.length ≤ 1000000) (hb : b.length ≤ 1000000) (H : Heap) : callL (ctx T) (.fn 71) [.str a, .str b] H = some (.bool (foldB a b), H) :=
 mkE_scalar hT inj_str2L (a, b) ⟨ha, hb⟩ rfl (by simp)
def okN (n : Nd) : Prop := n.name.length ≤ 100000 ∧ n.attrs.length ≤ 1000 ∧ n.data.length ≤ 100000 ∧ ∀ a, a ∈ n.attrs → a.1.length ≤ 100000 ∧ a.2.length ≤ 100000
theorem okN.nm {n : Nd} (h : okN n) : n.name.length ≤ 1000000000 := by have := h.1; omega
def okP (L : List Nd) : Prop := L.length ≤ 100000 ∧ ∀ n, n ∈ L → okN n
def elB (n : Nd) (W : Str) : Bool := decide (n.kind = 1) && decide (n.space = 0) && inW W n.name
abbrev lsKSvg : Str := [99, 105, 114, 99, 108, 101, 32, 100, 101, 115, 99, 32, 102, 111, 114, 101, 105, 103, 110, 79, 98, 106, 101, 99, 116, 32, 103, 32, 112, 97, 116, 104, 32, 114, 101, 99, 116, 32, 115, 118, 103, 32, 116, 101, 120, 116, 32, 116, 105, 116, 108, 101]
abbrev lsKMath : Str := [97, 110, 110, 111, 116, 97, 116, 105, 111, 110, 45, 120, 109, 108, 32, 109, 97, 116, 104, 32, 109, 102, 114, 97, 99, 32, 109, 105, 32, 109, 110, 32, 109, 111, 32, 109, 114, 111, 119, 32, 109, 115, 32, 109, 116, 101, 120, 116]
def knowB (sp : Int) (x : Str) : Bool := if sp = 0 then inW [97, 32, 97, 98, 98, 114, 32, 97, 100, 100, 114, 101, 115, 115, 32, 97, 114, 101, 97, 32, 97, 114, 116, 105, 99, 108, 101, 32, 97, 115, 105, 100, 101, 32, 98, 32, 98, 100, 105, 32, 98, 100, 111, 32, 98, 105, 103, 32, 98, 108, 111, 99, 107, 113, 117, 111, 116, 101, 32, 98, 114, 32, 98, 117, 116, 116, 111, 110, 32, 99, 97, 112, 116, 105, 111, 110, 32, 99, 101, 110, 116, 101, 114, 32, 99, 105, 116, 101, 32, 99, 111, 100, 101, 32, 99, 111, 108, 32, 99, 111, 108, 103, 114, 111, 117, 112, 32, 100, 97, 116, 97, 32, 100, 97, 116, 97, 108, 105, 115, 116, 32, 100, 100, 32, 100, 101, 108, 32, 100, 101, 116, 97, 105, 108, 115, 32, 100, 102, 110, 32, 100, 105, 97, 108, 111, 103, 32, 100, 105, 118, 32, 100, 108, 32, 100, 116, 32, 101, 109, 32, 102, 105, 101, 108, 100, 115, 101, 116, 32, 102, 105, 103, 99, 97, 112, 116, 105, 111, 110, 32, 102, 105, 103, 117, 114, 101, 32, 102, 111, 110, 116, 32, 102, 111, 111, 116, 101, 114, 32, 102, 111, 114, 109, 32, 104, 49, 32, 104, 50, 32, 104, 51, 32, 104, 52, 32, 104, 53, 32, 104, 54, 32, 104, 101, 97, 100, 101, 114, 32, 104, 103, 114, 111, 117, 112, 32, 104, 114, 32, 105, 32, 105, 109, 103, 32, 105, 110, 112, 117, 116, 32, 105, 110, 115, 32, 107, 98, 100, 32, 108, 97, 98, 101, 108, 32, 108, 101, 103, 101, 110, 100, 32, 108, 105, 32, 109, 97, 105, 110, 32, 109, 97, 112, 32, 109, 97, 114, 107, 32, 109, 101, 110, 117, 32, 109, 101, 116, 101, 114, 32, 110, 97, 118, 32, 110, 111, 98, 114, 32, 111, 108, 32, 111, 112, 116, 103, 114, 111, 117, 112, 32, 111, 112, 116, 105, 111, 110, 32, 111, 117, 116, 112, 117, 116, 32, 112, 32, 112, 114, 101, 32, 112, 114, 111, 103, 114, 101, 115, 115, 32, 113, 32, 115, 32, 115, 97, 109, 112, 32, 115, 101, 97, 114, 99, 104, 32, 115, 101, 99, 116, 105, 111, 110, 32, 115, 101, 108, 101, 99, 116, 32, 115, 109, 97, 108, 108, 32, 115, 112, 97, 110, 32, 115, 116, 114, 105, 107, 101, 32, 115, 116, 114, 111, 110, 103, 32, 115, 117, 98, 32, 115, 117, 109, 109, 97, 114, 121, 32, 115, 117, 112, 32, 116, 97, 98, 108, 101, 32, 116, 98, 111, 100, 121, 32, 116, 100, 32, 116, 101, 120, 116, 97, 114, 101, 97, 32, 116, 102, 111, 111, 116, 32, 116, 104, 32, 116, 104, 101, 97, 100, 32, 116, 105, 109, 101, 32, 116, 114, 32, 116, 116, 32, 117, 32, 117, 108, 32, 118, 97, 114, 32, 119, 98, 114] x else if sp = 1 then inW lsKSvg x else if sp = 2 then inW lsKMath x else false
theorem c16 {T : List (Entry Tryz.prog)} (hc0 : findE 44 T = some e44a.g) (sp : Int) (x : Str) (hx : x.length ≤ 1000000000) : CallAt (ctx T) 16 [.int .i64 sp, .str x] ⟨0, []⟩ (.bool (knowB sp x)) ⟨0, []⟩ := by
 have kw0 := fun (x : Str) (hx : x.length ≤ 1000000000) (H : Heap) => k44a (W := [97, 32, 97, 98, 98, 114, 32, 97, 100, 100, 114, 101, 115, 115, 32, 97, 114, 101, 97, 32, 97, 114, 116, 105, 99, 108, 101, 32, 97, 115, 105, 100, 101, 32, 98, 32, 98, 100, 105, 32, 98, 100, 111, 32, 98, 105, 103, 32, 98, 108, 111, 99, 107, 113, 117, 111, 116, 101, 32, 98, 114, 32, 98, 117, 116, 116, 111, 110, 32, 99, 97, 112, 116, 105, 111, 110, 32, 99, 101, 110, 116, 101, 114, 32, 99, 105, 116, 101, 32, 99, 111, 100, 101, 32, 99, 111, 108, 32, 99, 111, 108, 103, 114, 111, 117, 112, 32, 100, 97, 116, 97, 32, 100, 97, 116, 97, 108, 105, 115, 116, 32, 100, 100, 32, 100, 101, 108, 32, 100, 101, 116, 97, 105, 108, 115, 32, 100, 102, 110, 32, 100, 105, 97, 108, 111, 103, 32, 100, 105, 118, 32, 100, 108, 32, 100, 116, 32, 101, 109, 32, 102, 105, 101, 108, 100, 115, 101, 116, 32, 102, 105, 103, 99, 97, 112, 116, 105, 111, 110, 32, 102, 105, 103, 117, 114, 101, 32, 102, 111, 110, 116, 32, 102, 111, 111, 116, 101, 114, 32, 102, 111, 114, 109, 32, 104, 49, 32, 104, 50, 32, 104, 51, 32, 104, 52, 32, 104, 53, 32, 104, 54, 32, 104, 101, 97, 100, 101, 114, 32, 104, 103, 114, 111, 117, 112, 32, 104, 114, 32, 105, 32, 105, 109, 103, 32, 105, 110, 112, 117, 116, 32, 105, 110, 115, 32, 107, 98, 100, 32, 108, 97, 98, 101, 108, 32, 108, 101, 103, 101, 110, 100, 32, 108, 105, 32, 109, 97, 105, 110, 32, 109, 97, 112, 32, 109, 97, 114, 107, 32, 109, 101, 110, 117, 32, 109, 101, 116, 101, 114, 32, 110, 97, 118, 32, 110, 111, 98, 114, 32, 111, 108, 32, 111, 112, 116, 103, 114, 111, 117, 112, 32, 111, 112, 116, 105, 111, 110, 32, 111, 117, 116, 112, 117, 116, 32, 112, 32, 112, 114, 101, 32, 112, 114, 111, 103, 114, 101, 115, 115, 32, 113, 32, 115, 32, 115, 97, 109, 112, 32, 115, 101, 97, 114, 99, 104, 32, 115, 101, 99, 116, 105, 111, 110, 32, 115, 101, 108, 101, 99, 116, 32, 115, 109, 97, 108, 108, 32, 115, 112, 97, 110, 32, 115, 116, 114, 105, 107, 101, 32, 115, 116, 114, 111, 110, 103, 32, 115, 117, 98, 32, 115, 117, 109, 109, 97, 114, 121, 32, 115, 117, 112, 32, 116, 97, 98, 108, 101, 32, 116, 98, 111, 100, 121, 32, 116, 100, 32, 116, 101, 120, 116, 97, 114, 101, 97, 32, 116, 102, 111, 111, 116, 32, 116, 104, 32, 116, 104, 101, 97, 100, 32, 116, 105, 109, 101, 32, 116, 114, 32, 116, 116, 32, 117, 32, 117, 108, 32, 118, 97, 114, 32, 119, 98, 114]) (x := x) hc0 (ascB (by decide)) (by decide) hx H
 have kw1 := fun (x : Str) (hx : x.length ≤ 1000000000) (H : Heap) => k44a (W := [99, 105, 114, 99, 108, 101, 32, 100, 101, 115, 99, 32, 102, 111, 114, 101, 105, 103, 110, 79, 98, 106, 101, 99, 116, 32, 103, 32, 112, 97, 116, 104, 32, 114, 101, 99, 116, 32, 115, 118, 103, 32, 116, 101, 120, 116, 32, 116, 105, 116, 108, 101]) (x := x) hc0 (ascB (by decide)) (by decide) hx H
 have kw2 := fun (x : Str) (hx : x.length ≤ 1000000000) (H : Heap) => k44a (W := [97, 110, 110, 111, 116, 97, 116, 105, 111, 110, 45, 120, 109, 108, 32, 109, 97, 116, 104, 32, 109, 102, 114, 97, 99, 32, 109, 105, 32, 109, 110, 32, 109, 111, 32, 109, 114, 111, 119, 32, 109, 115, 32, 109, 116, 101, 120, 116]) (x := x) hc0 (ascB (by decide)) (by decide) hx H
 refine callAt_body (fn := Tryz.f16) (s0 := ⟨[0, 1, 4, 5], [.int .i64 sp, .str x, .undef, .undef], [], 18, ⟨0, [[]]⟩⟩) Tryz.func16 rfl rfl rfl ?_
 (repeat' (first
  | with_reducible refine wps_seq ?_
  | with_reducible refine wps_block ?_
  | (with_reducible refine wps_region callOK ?_; apply runE; simp [zS, *]; exact rfl)
  | (with_reducible refine run_end ?_; simp only [thenQ, blockQ])
  | (refine wps_cond rfl (fun hc => ?_) (fun hc => ?_) <;> ((have hd := hc); (try simp at hd); (try subst hd)))
  | (with_reducible refine wps_skip ?_; simp only [thenQ, blockQ])
  | (with_reducible refine wps_ret ?_; simp [retVal, Tryz.f16, oneOr, thenQ, blockQ])))
 all_goals first | exact ends_pure rfl (by simp [knowB, *]) | (exfalso; omega)
theorem inj_16 (x y : Int × Str) (h : (fun z : Int × Str => ([.int .i64 z.1, .str z.2] : List AV)) x = (fun z : Int × Str => ([.int .i64 z.1, .str z.2] : List AV)) y) : x = y := by
 obtain ⟨x0, x1⟩ := x
 obtain ⟨y0, y1⟩ := y
 simp only [List.cons.injEq, and_true] at h
 obtain ⟨h0, h1⟩ := h
 have g0 : x0 = y0 := AV.int.inj h0 |>.2
 have g1 : x1 = y1 := AV.str.inj h1
 subst g0 g1
 rfl
noncomputable def e16 : Entry Tryz.prog := mkE 16 [[], []] (fun z : Int × Str => [.int .i64 z.1, .str z.2]) (fun z => (z.2.length ≤ 1000000000)) (fun z => .bool (knowB z.1 z.2)) fun z h => c16 (T := [e44a]) rfl z.1 z.2 h
theorem k16 {T : List (Entry Tryz.prog)} (hT : findE 16 T = some e16.g) (sp : Int) (x : Str) (hx : x.length ≤ 1000000000) (H : Heap) : callL (ctx T) (.fn 16) [.int .i64 sp, .str x] H = some (.bool (knowB sp x), H) :=
 mkE_scalar hT inj_16 (sp, x) hx rfl (by simp [thawA_ok])
theorem c42 {T : List (Entry Tryz.prog)} (hc0 : findE 44 T = some e44a.g) (n : Nd) (W : Str) (hW : asciiB W) (hl : W.length ≤ 100000) (hx : n.name.length ≤ 1000000000) : CallAt (ctx T) 42 [aNode n, .str W] ⟨0, []⟩ (.bool (elB n W)) ⟨0, []⟩ := by
 have kc0 := @k44a T hc0
 refine callAt_body (fn := Tryz.f42) (s0 := ⟨[0, 1, 2, 4], [aNode n, .str W, .undef, .undef], [], 19, ⟨0, [[]]⟩⟩) Tryz.func42 rfl rfl rfl ?_
 (repeat' (first
  | with_reducible refine wps_seq ?_
  | (with_reducible refine wps_region callOK ?_; apply runE; simp [zS, *, nd_fold]; exact rfl)
  | (with_reducible refine run_end ?_; simp only [thenQ, blockQ])
  | (with_reducible refine gate_split (fun hc => ?_) (fun hc => ?_) <;> ((have hd := hc); (try simp at hd); (try subst hd); apply runE; simp [zS, *, nd_fold]; exact rfl))
  | (with_reducible refine wps_ret ?_; simp [retVal, Tryz.f42, oneOr, thenQ, blockQ])))
 all_goals first | exact ends_pure rfl (by simp [elB, *]) | (exfalso; omega)
theorem inj_42 (x y : Nd × Str) (h : (fun z : Nd × Str => ([aNode z.1, .str z.2] : List AV)) x = (fun z : Nd × Str => ([aNode z.1, .str z.2] : List AV)) y) : x = y := by
 obtain ⟨x0, x1⟩ := x
 obtain ⟨y0, y1⟩ := y
 simp only [List.cons.injEq, and_true] at h
 obtain ⟨h0, h1⟩ := h
 have g0 : x0 = y0 := inj_aNode h0
 have g1 : x1 = y1 := AV.str.inj h1
 subst g0 g1
 rfl
noncomputable def e42 : Entry Tryz.prog := mkE 42 [[0, 0, 0, 2, 0, 0, 1], []] (fun z : Nd × Str => [aNode z.1, .str z.2]) (fun z => (asciiB z.2) ∧ (z.2.length ≤ 100000) ∧ (z.1.name.length ≤ 1000000000)) (fun z => .bool (elB z.1 z.2)) fun z h => c42 (T := [e44a]) rfl z.1 z.2 h.1 h.2.1 h.2.2
theorem k42 {T : List (Entry Tryz.prog)} (hT : findE 42 T = some e42.g) (n : Nd) (W : Str) (hW : asciiB W) (hl : W.length ≤ 100000) (hx : n.name.length ≤ 1000000000) (H : Heap) : callL (ctx T) (.fn 42) [aNode n, .str W] H = some (.bool (elB n W), H) :=
 mkE_scalar hT inj_42 (n, W) ⟨hW, hl, hx⟩ rfl (by simp [thawA_ok])
theorem sub_lastN {n : Nat} (h : 0 < n) (hn : n ≤ 1000000000) : wr .i64 ((n : Int) - 1) = some ((n - 1 : Nat) : Int) := by
 rw [wr_small (by omega) (by omega)]; congr 1; omega
def parentN (L : List Nd) : Nd := if L = [] then ⟨1, 0, [100, 105, 118], [], [], 0, []⟩ else nodeAt L ((L.length - 1 : Nat) : Int)
theorem c37 {T : List (Entry Tryz.prog)} (L : List Nd) (hl : L.length ≤ 1000000) : CallAt (ctx T) 37 [aNodes L] ⟨0, []⟩ (aNode (parentN L)) ⟨0, []⟩ := by
 by_cases he : L = []
 ·subst he
  have bld : buildA Tryz.prog 31 [(0, .int .i64 1), (2, .str [100, 105, 118])] = some (.agg [.int .i64 1, .int .i64 0, .str [100, 105, 118], .nilS, .str [], .int .i64 0, .nilS]) := rfl
  have l0 : ∀ H, lenA Tryz.prog H 22 (aNodes []) = some 0 := fun H => rfl
  refine callAt_body (fn := Tryz.f37) (s0 := ⟨[0, 2, 3], [aNodes [], .undef, .undef], [], 14, ⟨0, [[]]⟩⟩) Tryz.func37 rfl rfl rfl ?_
  repeat apply wq
  refine wps_region callOK ?_
  simp [zS]
  repeat apply wq
  refine wps_region callOK ?_
  simp [zS, l0]
  repeat apply wq
  refine wps_region callOK ?_
  simp [zS, l0]
  repeat apply wq
  refine wps_cf rfl ?_
  repeat apply wq
  refine wps_skip ?_
  simp
  repeat apply wq
  refine wps_region callOK ?_
  simp [zS, bld]
  repeat apply wq
  refine wps_ret ?_
  simp [retVal, Tryz.f37, oneOr, readCells, Heap.get, getFs, getF, Blk.rd]
  refine ⟨[], [], ?_, FitH.empty⟩
  simp [parentN, aNode, Nd.cs, aInt, aInts, aAttrs, fitV, fitL, pureV]
 ·have h : 0 < L.length := List.length_pos_iff.2 he
  have hi : (0 : Int) < (L.length : Int) := by omega
  have hs := sub_lastN h (by omega)
  have ha := atX (t := L) (i := ((L.length - 1 : Nat) : Int)) (by omega) (by omega)
  have hp : parentN L = nodeAt L ((L.length - 1 : Nat) : Int) := by unfold parentN; rw [if_neg he]
  rw [hp]
  refine callAt_body (fn := Tryz.f37) (s0 := ⟨[0, 2, 3], [aNodes L, .undef, .undef], [], 14, ⟨0, [[]]⟩⟩) Tryz.func37 rfl rfl rfl ?_
  repeat apply wq
  refine wps_region callOK ?_
  simp [zS]
  repeat apply wq
  refine wps_region callOK ?_
  simp [zS, lenN]
  repeat apply wq
  refine wps_region callOK ?_
  simp [zS, h, hi]
  repeat apply wq
  refine wps_ct (by simp [opnd, St.get, h]) ?_
  repeat apply wq
  refine wps_region callOK ?_
  simp [zS, hs, ha, nd_fold]
  repeat apply wq
  refine wps_ret ?_
  simp [retVal, Tryz.f37, oneOr, readCells, Heap.get, getFs, getF, Blk.rd, nd_fold]
  exact ⟨[], [], FitH.empty⟩
theorem inj_37 (x y : List Nd) (h : (fun z : List Nd => ([aNodes z] : List AV)) x = (fun z : List Nd => ([aNodes z] : List AV)) y) : x = y := by
 simp only [List.cons.injEq, and_true] at h
 exact inj_aNodes h
noncomputable def e37 : Entry Tryz.prog := mkE 37 [[7]] (fun z : List Nd => [aNodes z]) (fun z => (z.length ≤ 1000000)) (fun z => aNode (parentN z)) fun z h => c37 (T := [])  z h
theorem k37 {T : List (Entry Tryz.prog)} (hT : findE 37 T = some e37.g) (L : List Nd) (hl : L.length ≤ 1000000) (H : Heap) : callL (ctx T) (.fn 37) [aNodes L] H = some (aNode (parentN L), H) :=
 mkE_pure hT inj_37 (L) hl (by simp [pureL, pureV, thawA_ok]) (by simp [thawA_ok]) H
theorem c40 {T : List (Entry Tryz.prog)} (u : Nd) (n : Nd) : CallAt (ctx T) 40 [aNode u, aNode n] ⟨0, []⟩ (.bool (decide (n.space = u.space) || (decide (u.space = 2) && decide (u.name = [97, 110, 110, 111, 116, 97, 116, 105, 111, 110, 45, 120, 109, 108]) && decide (n.space = 1) && decide (n.name = [115, 118, 103])))) ⟨0, []⟩ := by
 refine callAt_body (fn := Tryz.f40) (s0 := ⟨[0, 1, 2, 3, 4], [aNode u, aNode n, .undef, .undef, .undef], [], 28, ⟨0, [[]]⟩⟩) Tryz.func40 rfl rfl rfl ?_
 (repeat' (first
  | with_reducible refine wps_seq ?_
  | (with_reducible refine wps_region callOK ?_; apply runE; simp [zS, *, nd_fold]; exact rfl)
  | (with_reducible refine run_end ?_; simp only [thenQ, blockQ])
  | (with_reducible refine gate_split (fun hc => ?_) (fun hc => ?_) <;> ((have hd := hc); (try simp at hd); (try subst hd); apply runE; simp [zS, *, nd_fold]; exact rfl))
  | (refine wps_cond rfl (fun hc => ?_) (fun hc => ?_) <;> ((have hd := hc); (try simp at hd); (try subst hd)))
  | (with_reducible refine wps_skip ?_; simp only [thenQ, blockQ])
  | (with_reducible refine wps_ret ?_; simp [retVal, Tryz.f40, oneOr, thenQ, blockQ])))
 all_goals first | exact ends_pure rfl (by first | (simp [*]; done) | (simp_all; done)) | (exfalso; omega)
theorem inj_40 (x y : Nd × Nd) (h : (fun z : Nd × Nd => ([aNode z.1, aNode z.2] : List AV)) x = (fun z : Nd × Nd => ([aNode z.1, aNode z.2] : List AV)) y) : x = y := by
 obtain ⟨x0, x1⟩ := x
 obtain ⟨y0, y1⟩ := y
 simp only [List.cons.injEq, and_true] at h
 obtain ⟨h0, h1⟩ := h
 have g0 : x0 = y0 := inj_aNode h0
 have g1 : x1 = y1 := inj_aNode h1
 subst g0 g1
 rfl
noncomputable def e40 : Entry Tryz.prog := mkE 40 [[0, 0, 0, 2, 0, 0, 1], [0, 0, 0, 2, 0, 0, 1]] (fun z : Nd × Nd => [aNode z.1, aNode z.2]) (fun z => True) (fun z => .bool (decide (z.2.space = z.1.space) || (decide (z.1.space = 2) && decide (z.1.name = [97, 110, 110, 111, 116, 97, 116, 105, 111, 110, 45, 120, 109, 108]) && decide (z.2.space = 1) && decide (z.2.name = [115, 118, 103])))) fun z h => c40 (T := [])  z.1 z.2 
theorem k40 {T : List (Entry Tryz.prog)} (hT : findE 40 T = some e40.g) (u : Nd) (n : Nd) (H : Heap) : callL (ctx T) (.fn 40) [aNode u, aNode n] H = some (.bool (decide (n.space = u.space) || (decide (u.space = 2) && decide (u.name = [97, 110, 110, 111, 116, 97, 116, 105, 111, 110, 45, 120, 109, 108]) && decide (n.space = 1) && decide (n.name = [115, 118, 103]))), H) :=
 mkE_scalar hT inj_40 (u, n) trivial rfl (by simp [thawA_ok])
theorem sp_mi : wsplit lsMath = [[109, 105], [109, 110], [109, 111], [109, 115], [109, 116, 101, 120, 116]] := by decide +kernel
theorem in_mi (x : Str) : inW lsMath x = decide (x = [109, 105] ∨ x = [109, 110] ∨ x = [109, 111] ∨ x = [109, 115] ∨ x = [109, 116, 101, 120, 116]) := by unfold inW; rw [sp_mi]; simp
def textsB (n : Nd) : Bool := decide (n.kind = 1) && decide (n.space = 2) && inW lsMath n.name
theorem c38 {T : List (Entry Tryz.prog)} (n : Nd) : CallAt (ctx T) 38 [aNode n] ⟨0, []⟩ (.bool (textsB n)) ⟨0, []⟩ := by
 refine callAt_body (fn := Tryz.f38) (s0 := ⟨[0, 1, 2, 4, 5], [aNode n, .undef, .undef, .undef, .undef], [], 19, ⟨0, [[]]⟩⟩) Tryz.func38 rfl rfl rfl ?_
 (repeat' (first
  | with_reducible refine wps_seq ?_
  | with_reducible refine wps_block ?_
  | (with_reducible refine wps_region callOK ?_; apply runE; simp [zS, *, nd_fold]; exact rfl)
  | (with_reducible refine run_end ?_; simp only [thenQ, blockQ])
  | (with_reducible refine gate_split (fun hc => ?_) (fun hc => ?_) <;> ((have hd := hc); (try simp at hd); (try subst hd); apply runE; simp [zS, *, nd_fold]; exact rfl))
  | (refine wps_cond rfl (fun hc => ?_) (fun hc => ?_) <;> ((have hd := hc); (try simp at hd); (try subst hd)))
  | (with_reducible refine wps_skip ?_; simp only [thenQ, blockQ])
  | (with_reducible refine wps_ret ?_; simp [retVal, Tryz.f38, oneOr, thenQ, blockQ])))
 all_goals first | exact ends_pure rfl (by first | (simp [textsB, in_mi, *]; done) | (simp_all [textsB, in_mi]; done)) | (exfalso; omega)
theorem inj_38 (x y : Nd) (h : (fun z : Nd => ([aNode z] : List AV)) x = (fun z : Nd => ([aNode z] : List AV)) y) : x = y := by
 simp only [List.cons.injEq, and_true] at h
 exact inj_aNode h
noncomputable def e38 : Entry Tryz.prog := mkE 38 [[0, 0, 0, 2, 0, 0, 1]] (fun z : Nd => [aNode z]) (fun z => True) (fun z => .bool (textsB z)) fun z h => c38 (T := [])  z 
theorem k38 {T : List (Entry Tryz.prog)} (hT : findE 38 T = some e38.g) (n : Nd) (H : Heap) : callL (ctx T) (.fn 38) [aNode n] H = some (.bool (textsB n), H) :=
 mkE_scalar hT inj_38 (n) trivial rfl (by simp [thawA_ok])
def pointB (n : Nd) : Bool := decide (n.kind = 1) && (decide (n.space = 1) && inW lsSvg n.name || decide (n.space = 2) && match getAt [101, 110, 99, 111, 100, 105, 110, 103] n.attrs with
 | none => false
 | some v => decide (n.name = [97, 110, 110, 111, 116, 97, 116, 105, 111, 110, 45, 120, 109, 108]) && (foldB v [116, 101, 120, 116, 47, 104, 116, 109, 108] || foldB v [97, 112, 112, 108, 105, 99, 97, 116, 105, 111, 110, 47, 120, 104, 116, 109, 108, 43, 120, 109, 108]))
theorem getAt_len {nm v : Str} {m : Nat} : ∀ {L : List At1}, (∀ a, a ∈ L → a.1.length ≤ m ∧ a.2.length ≤ m) → getAt nm L = some v → v.length ≤ m
 | [], _, h => by simp [getAt] at h
 | a :: r, hl, h => by
  unfold getAt at h
  split at h
  ·simp only [Option.some.injEq] at h
   rw [← h]; exact (hl a (by simp)).2
  ·exact getAt_len (fun b hb => hl b (by simp [hb])) h
theorem c39 {T : List (Entry Tryz.prog)} (hc0 : findE 44 T = some e44a.g) (hc1 : findE 70 T = some e70.g) (hc2 : findE 71 T = some e71.g) (n : Nd) (h : okN n) : CallAt (ctx T) 39 [aNode n] ⟨0, []⟩ (.bool (pointB n)) ⟨0, []⟩ := by
 have kw0 := fun (x : Str) (hx : x.length ≤ 1000000000) (H : Heap) => k44a (W := [100, 101, 115, 99, 32, 102, 111, 114, 101, 105, 103, 110, 79, 98, 106, 101, 99, 116, 32, 116, 105, 116, 108, 101]) (x := x) hc0 (ascB (by decide)) (by decide) hx H
 have kc1 := @k70 T hc1
 have kc2 := @k71 T hc2
 have hx := h.nm
 have hg := fun H => k70 (nm := [101, 110, 99, 111, 100, 105, 110, 103]) hc1 h.2.1 (th_aAttrs H n.attrs)
 cases hv : getAt [101, 110, 99, 111, 100, 105, 110, 103] n.attrs with
 | none =>
  rw [hv] at hg
  simp only [gotA] at hg
  refine callAt_body (fn := Tryz.f39) (s0 := ⟨[0, 1, 2, 3, 4, 9], [aNode n, .undef, .undef, .undef, .undef, .undef], [], 37, ⟨0, [[]]⟩⟩) Tryz.func39 rfl rfl rfl ?_
  (repeat' (first
   | with_reducible refine wps_seq ?_
   | with_reducible refine wps_block ?_
   | (with_reducible refine wps_region callOK ?_; apply runE; simp [zS, *, nd_fold]; exact rfl)
   | (with_reducible refine run_end ?_; simp only [thenQ, blockQ])
   | (refine wps_cond rfl (fun hc => ?_) (fun hc => ?_) <;> ((have hd := hc); (try simp at hd); (try subst hd)))
   | (with_reducible refine wps_skip ?_; simp only [thenQ, blockQ])
   | (with_reducible refine wps_ret ?_; simp [retVal, Tryz.f39, oneOr, thenQ, blockQ])))
  all_goals first | exact ends_pure rfl (by first | (simp [pointB, *]; done) | (simp_all [pointB]; done)) | (exfalso; omega)
 | some v =>
  rw [hv] at hg
  have lv : v.length ≤ 1000000 := by have := getAt_len h.2.2.2 hv; omega
  simp only [gotA] at hg
  refine callAt_body (fn := Tryz.f39) (s0 := ⟨[0, 1, 2, 3, 4, 9], [aNode n, .undef, .undef, .undef, .undef, .undef], [], 37, ⟨0, [[]]⟩⟩) Tryz.func39 rfl rfl rfl ?_
  (repeat' (first
   | with_reducible refine wps_seq ?_
   | with_reducible refine wps_block ?_
   | (with_reducible refine wps_region callOK ?_; apply runE; simp [zS, *, nd_fold]; exact rfl)
   | (with_reducible refine run_end ?_; simp only [thenQ, blockQ])
   | (with_reducible refine gate_split (fun hc => ?_) (fun hc => ?_) <;> ((have hd := hc); (try simp at hd); (try subst hd); apply runE; simp [zS, *, nd_fold]; exact rfl))
   | (refine wps_cond rfl (fun hc => ?_) (fun hc => ?_) <;> ((have hd := hc); (try simp at hd); (try subst hd)))
   | (with_reducible refine wps_skip ?_; simp only [thenQ, blockQ])
   | (with_reducible refine wps_ret ?_; simp [retVal, Tryz.f39, oneOr, thenQ, blockQ])))
  all_goals first | exact ends_pure rfl (by first | (simp [pointB, *]; done) | (simp_all [pointB]; done)) | (exfalso; omega)
theorem inj_39 (x y : Nd) (h : (fun z : Nd => ([aNode z] : List AV)) x = (fun z : Nd => ([aNode z] : List AV)) y) : x = y := by
 simp only [List.cons.injEq, and_true] at h
 exact inj_aNode h
noncomputable def e39 : Entry Tryz.prog := mkE 39 [[0, 0, 0, 2, 0, 0, 1]] (fun z : Nd => [aNode z]) (fun z => (okN z)) (fun z => .bool (pointB z)) fun z h => c39 (T := [e44a, e70, e71]) rfl rfl rfl z h
theorem k39 {T : List (Entry Tryz.prog)} (hT : findE 39 T = some e39.g) (n : Nd) (h : okN n) (H : Heap) : callL (ctx T) (.fn 39) [aNode n] H = some (.bool (pointB n), H) :=
 mkE_scalar hT inj_39 (n) h rfl (by simp [thawA_ok])
def cN (s : Str) (i : Nat) : Nat := (s.getD i 0).toNat
def moreN (c : Nat) : Nat := if c < 194 then 0 else if c < 224 then 1 else if c < 240 then 2 else if c < 245 then 3 else 0
def loN (c : Nat) : Nat := if c = 224 then 160 else if c = 240 then 144 else 128
def hiN (c : Nat) : Nat := if c = 237 then 159 else if c = 244 then 143 else 191
def contN (s : Str) (i lo hi : Nat) : Bool := decide (i < s.length) && (decide (lo ≤ cN s i) && decide (cN s i ≤ hi))
def oneGo (s : Str) : Nat → Nat → Nat → Nat → Nat × Bool
 | 0, i, _, _ => (i, true)
 | k + 1, i, lo, hi => if contN s i lo hi = true then oneGo s k (i + 1) 128 191 else (i, false)
def oneR (s : Str) : Nat × Bool := if cN s 0 < 128 then (1, true) else if moreN (cN s 0) = 0 then (1, false) else oneGo s (moreN (cN s 0)) 1 (loN (cN s 0)) (hiN (cN s 0))
theorem cN_get {s : Str} {i : Nat} (h : i < s.length) : s[i].toNat = cN s i := by simp [cN, List.getD_eq_getElem?_getD, List.getElem?_eq_getElem h]
theorem moreN_le (c : Nat) : moreN c ≤ 3 := by unfold moreN; split <;> (try split) <;> (try split) <;> (try split) <;> omega
end Go.Proofs.YtgpjifeeneeiaaaGreatDoor