/- The reference's reading of a character. No condition. -/
import Derived.Test.YtfncefamflainaaGreatDoorMG
namespace Go.Proofs.YtfncefamflainaaGreatDoor
set_option linter.unusedSimpArgs false
set_option linter.unusedVariables false
open Go Go.RowKit
set_option maxRecDepth 100000
def cN (s : Str) (i : Nat) : Nat := (s.getD i 0).toNat
def moreN (c : Nat) : Nat := if c < 194 then 0 else if c < 224 then 1 else if c < 240 then 2 else if c < 245 then 3 else 0
def loN (c : Nat) : Nat := if c = 224 then 160 else if c = 240 then 144 else 128
def hiN (c : Nat) : Nat := if c = 237 then 159 else if c = 244 then 143 else 191
def contN (s : Str) (i lo hi : Nat) : Bool := decide (i < s.length) && (decide (lo ≤ cN s i) && decide (cN s i ≤ hi))
def oneGo (s : Str) : Nat → Nat → Nat → Nat → Nat × Bool
 | 0, i, _, _ => (i, true)
 | k + 1, i, lo, hi => if contN s i lo hi = true then oneGo s k (i + 1) 128 191 else (i, false)
def oneR (s : Str) : Nat × Bool := if cN s 0 < 128 then (1, true) else if moreN (cN s 0) = 0 then (1, false) else oneGo s (moreN (cN s 0)) 1 (loN (cN s 0)) (hiN (cN s 0))
def oneA (x : Nat × Bool) : AV := .tup [.int .i64 (x.1 : Int), .bool x.2]
theorem cN_get {s : Str} {i : Nat} (h : i < s.length) : s[i].toNat = cN s i := by simp [cN, List.getD_eq_getElem?_getD, List.getElem?_eq_getElem h]
theorem moreN_le (c : Nat) : moreN c ≤ 3 := by unfold moreN; split <;> (try split) <;> (try split) <;> (try split) <;> omega
theorem one_c0 {T : List (Entry Tryz.prog)} (s : Str) (hl : s.length ≤ 1000000) (h0 : indexAddrA Tryz.prog 47 (aB s) (.int .i64 0) = some (.fptr [.int .u8 (cN s 0 : Int)] 0)) (hb : cN s 0 < 256) (R : Nat × Bool) (hRe : R = oneR s) (h : cN s 0 < 128) : CallAt (ctx T) 124 [aB s] ⟨0, []⟩ (oneA R) ⟨0, []⟩ := by
 rw [show oneR s = if cN s 0 < 128 then (1, true) else if moreN (cN s 0) = 0 then (1, false) else oneGo s (moreN (cN s 0)) 1 (loN (cN s 0)) (hiN (cN s 0)) from rfl] at hRe
 obtain ⟨c, hc⟩ : ∃ c, c = cN s 0 := ⟨_, rfl⟩
 rw [← hc] at hRe h0 hb h
 have h3 := moreN_le c
 have lt128 : (c : Int) < 128 := by omega
 have g194 : ¬ (194 : Int) ≤ c := by omega
 have l223 : (c : Int) ≤ 223 := by omega
 have g224 : ¬ (224 : Int) ≤ c := by omega
 have l239 : (c : Int) ≤ 239 := by omega
 have g240 : ¬ (240 : Int) ≤ c := by omega
 have l244 : (c : Int) ≤ 244 := by omega
 have e224 : ¬ (c : Int) = 224 := by omega
 have e237 : ¬ (c : Int) = 237 := by omega
 have e240 : ¬ (c : Int) = 240 := by omega
 have e244 : ¬ (c : Int) = 244 := by omega
 have hm : moreN c = 0 := by unfold moreN; repeat (split <;> try omega)
 have hlo : loN c = 128 := by unfold loN; repeat (split <;> try omega)
 have hhi : hiN c = 191 := by unfold hiN; repeat (split <;> try omega)
 refine callAt_body (fn := Tryz.f124) (s0 := ⟨[0, 2, 3, 4, 5, 6, 7, 8], [aB s, .undef, .undef, .undef, .undef, .undef, .undef, .undef], [], 70, ⟨0, [[]]⟩⟩) Tryz.func124 rfl rfl rfl ?_
 (repeat (first
  | (refine wps_seq ?_)
  | (refine wps_block ?_)
  | (refine wps_label ?_; simp only [thenQ, blockQ])
  | ((refine wps_region callOK ?_); simp [zS, h0, lt128, g194, l223, g224, l239, g240, l244, e224, e237, e240, e244])
  | (refine wps_ct rfl ?_)
  | (refine wps_cf rfl ?_)
  | ((refine wps_skip ?_); simp only [thenQ, blockQ])
  | ((refine wps_exit ?_); simp [thenQ, blockQ])))
 repeat apply wq
 refine wps_ret ?_
 simp [retVal, Tryz.f124, oneOr, thenQ, blockQ]
 exact ends_pure rfl (by rw [hRe, if_pos (by omega)]; simp [oneA])
theorem one_c1 {T : List (Entry Tryz.prog)} (s : Str) (hl : s.length ≤ 1000000) (h0 : indexAddrA Tryz.prog 47 (aB s) (.int .i64 0) = some (.fptr [.int .u8 (cN s 0 : Int)] 0)) (hb : cN s 0 < 256) (R : Nat × Bool) (hRe : R = oneR s) (h : 128 ≤ cN s 0 ∧ cN s 0 < 194) : CallAt (ctx T) 124 [aB s] ⟨0, []⟩ (oneA R) ⟨0, []⟩ := by
 rw [show oneR s = if cN s 0 < 128 then (1, true) else if moreN (cN s 0) = 0 then (1, false) else oneGo s (moreN (cN s 0)) 1 (loN (cN s 0)) (hiN (cN s 0)) from rfl] at hRe
 obtain ⟨c, hc⟩ : ∃ c, c = cN s 0 := ⟨_, rfl⟩
 rw [← hc] at hRe h0 hb h
 have h3 := moreN_le c
 have lt128 : ¬ (c : Int) < 128 := by omega
 have g194 : ¬ (194 : Int) ≤ c := by omega
 have l223 : (c : Int) ≤ 223 := by omega
 have g224 : ¬ (224 : Int) ≤ c := by omega
 have l239 : (c : Int) ≤ 239 := by omega
 have g240 : ¬ (240 : Int) ≤ c := by omega
 have l244 : (c : Int) ≤ 244 := by omega
 have e224 : ¬ (c : Int) = 224 := by omega
 have e237 : ¬ (c : Int) = 237 := by omega
 have e240 : ¬ (c : Int) = 240 := by omega
 have e244 : ¬ (c : Int) = 244 := by omega
 have hm : moreN c = 0 := by unfold moreN; repeat (split <;> try omega)
 have hlo : loN c = 128 := by unfold loN; repeat (split <;> try omega)
 have hhi : hiN c = 191 := by unfold hiN; repeat (split <;> try omega)
 refine callAt_body (fn := Tryz.f124) (s0 := ⟨[0, 2, 3, 4, 5, 6, 7, 8], [aB s, .undef, .undef, .undef, .undef, .undef, .undef, .undef], [], 70, ⟨0, [[]]⟩⟩) Tryz.func124 rfl rfl rfl ?_
 (repeat (first
  | (refine wps_seq ?_)
  | (refine wps_block ?_)
  | (refine wps_label ?_; simp only [thenQ, blockQ])
  | ((refine wps_region callOK ?_); simp [zS, h0, lt128, g194, l223, g224, l239, g240, l244, e224, e237, e240, e244])
  | (refine wps_ct rfl ?_)
  | (refine wps_cf rfl ?_)
  | ((refine wps_skip ?_); simp only [thenQ, blockQ])
  | ((refine wps_exit ?_); simp [thenQ, blockQ])))
 repeat apply wq
 refine wps_ret ?_
 simp [retVal, Tryz.f124, oneOr, thenQ, blockQ]
 exact ends_pure rfl (by rw [hRe, if_neg (by omega), if_pos hm]; simp [oneA])
theorem one_c2 {T : List (Entry Tryz.prog)} (s : Str) (hl : s.length ≤ 1000000) (h0 : indexAddrA Tryz.prog 47 (aB s) (.int .i64 0) = some (.fptr [.int .u8 (cN s 0 : Int)] 0)) (hb : cN s 0 < 256) (R : Nat × Bool) (hRe : R = oneR s) (h : 194 ≤ cN s 0 ∧ cN s 0 < 224) : CallAt (ctx T) 124 [aB s] ⟨0, []⟩ (oneA R) ⟨0, []⟩ := by
 rw [show oneR s = if cN s 0 < 128 then (1, true) else if moreN (cN s 0) = 0 then (1, false) else oneGo s (moreN (cN s 0)) 1 (loN (cN s 0)) (hiN (cN s 0)) from rfl] at hRe
 obtain ⟨c, hc⟩ : ∃ c, c = cN s 0 := ⟨_, rfl⟩
 rw [← hc] at hRe h0 hb h
 have h3 := moreN_le c
 have lt128 : ¬ (c : Int) < 128 := by omega
 have g194 : (194 : Int) ≤ c := by omega
 have l223 : (c : Int) ≤ 223 := by omega
 have g224 : ¬ (224 : Int) ≤ c := by omega
 have l239 : (c : Int) ≤ 239 := by omega
 have g240 : ¬ (240 : Int) ≤ c := by omega
 have l244 : (c : Int) ≤ 244 := by omega
 have e224 : ¬ (c : Int) = 224 := by omega
 have e237 : ¬ (c : Int) = 237 := by omega
 have e240 : ¬ (c : Int) = 240 := by omega
 have e244 : ¬ (c : Int) = 244 := by omega
 have hm : moreN c = 1 := by unfold moreN; repeat (split <;> try omega)
 have hlo : loN c = 128 := by unfold loN; repeat (split <;> try omega)
 have hhi : hiN c = 191 := by unfold hiN; repeat (split <;> try omega)
 refine callAt_body (fn := Tryz.f124) (s0 := ⟨[0, 2, 3, 4, 5, 6, 7, 8], [aB s, .undef, .undef, .undef, .undef, .undef, .undef, .undef], [], 70, ⟨0, [[]]⟩⟩) Tryz.func124 rfl rfl rfl ?_
 rw [if_neg (by omega), if_neg (by omega)] at hRe
 repeat apply wq
 refine wps_region callOK ?_
 simp [zS]
 repeat apply wq
 refine wps_region callOK ?_
 simp [zS, h0]
 repeat apply wq
 refine wps_region callOK ?_
 simp [zS, lt128, g194, l223, g224, l239, g240, l244, e224, e237, e240, e244]
 repeat apply wq
 refine wps_cf rfl ?_
 repeat apply wq
 refine wps_skip ?_
 simp
 repeat apply wq
 refine wps_region callOK ?_
 simp [zS]
 repeat apply wq
 refine wps_region callOK ?_
 simp [zS, lt128, g194, l223, g224, l239, g240, l244, e224, e237, e240, e244]
 repeat apply wq
 refine wps_ct rfl ?_
 repeat apply wq
 refine wps_region callOK ?_
 simp [zS]
 repeat apply wq
 refine wps_region callOK ?_
 simp [zS, lt128, g194, l223, g224, l239, g240, l244, e224, e237, e240, e244]
 repeat apply wq
 refine wps_cf rfl ?_
 repeat apply wq
 refine wps_skip ?_
 simp
 repeat apply wq
 refine wps_region callOK ?_
 simp [zS, lt128, g194, l223, g224, l239, g240, l244, e224, e237, e240, e244]
 repeat apply wq
 refine wps_cf rfl ?_
 repeat apply wq
 refine wps_skip ?_
 simp
 repeat apply wq
 refine wps_region callOK ?_
 simp [zS, lt128, g194, l223, g224, l239, g240, l244, e224, e237, e240, e244]
 repeat apply wq
 refine wps_cf rfl ?_
 repeat apply wq
 refine wps_skip ?_
 simp
 repeat apply wq
 refine wps_region callOK ?_
 simp [zS, lt128, g194, l223, g224, l239, g240, l244, e224, e237, e240, e244]
 repeat apply wq
 refine wps_cf rfl ?_
 repeat apply wq
 refine wps_skip ?_
 simp
 repeat apply wq
 refine wps_region callOK ?_
 simp [zS, lt128, g194, l223, g224, l239, g240, l244, e224, e237, e240, e244]
 repeat apply wq
 refine wps_cf rfl ?_
 repeat apply wq
 refine wps_skip ?_
 simp
 repeat apply wq
 refine wps_region callOK ?_
 simp [zS, lt128, g194, l223, g224, l239, g240, l244, e224, e237, e240, e244]
 repeat apply wq
 refine wps_cf rfl ?_
 repeat apply wq
 refine wps_skip ?_
 simp
 repeat apply wq
 refine wps_region callOK ?_
 simp [zS, lt128, g194, l223, g224, l239, g240, l244, e224, e237, e240, e244]
 repeat apply wq
 refine wps_cf rfl ?_
 repeat apply wq
 refine wps_skip ?_
 simp
 repeat apply wq
 refine wps_region callOK ?_
 simp [zS]
 repeat apply wq
 refine wps_block (wps_loop' (fun x : Nat × Nat × Nat × Nat => (⟨[0, 2, 3, 4, 5, 6, 7, 8], [aB s, .int .i64 0, .bool false, .int .u8 (c : Int), .int .i64 (moreN c : Nat), .int .u8 (x.2.2.1 : Nat), .int .u8 (x.2.2.2 : Nat), .int .i64 (x.2.1 : Nat)], [], 70, ⟨0, [[]]⟩⟩ : St))
  (fun x => x.2.1 + x.1 = moreN c + 1 ∧ 1 ≤ x.2.1 ∧ oneGo s x.1 x.2.1 x.2.2.1 x.2.2.2 = R) (fun x => x.1) [] [] (moreN c, 1, loN c, hiN c) ⟨by simp only; omega, Nat.le_refl _, hRe.symm⟩ ⟨rfl, rfl, rfl, by simp [fitL, fitV, pureV, pureL, aB, hm, hlo, hhi], FitH.nothing⟩ ?_)
 rintro ⟨k, i, lo, hi⟩ ⟨hk, hi1, hg⟩ B hB
 simp only at hk hi1 hg hB
 clear hRe
 cases k with
 | zero =>
  have hx : ¬ (i : Int) ≤ (moreN c : Int) := by omega
  repeat apply wq
  refine wps_region callOK ?_
  simp [zS, hx]
  repeat apply wq
  refine wps_cf (by simp [opnd, St.get, hx]) ?_
  repeat apply wq
  refine wps_exit ?_
  simp
  have ha := add_one (show moreN c ≤ 1000000000 by omega)
  repeat apply wq
  refine wps_region callOK ?_
  simp [zS, ha]
  repeat apply wq
  refine wps_ret ?_
  simp [retVal, Tryz.f124, oneOr, thenQ, blockQ]
  exact ends_pure rfl (by rw [← hg, show i = moreN c + 1 by omega]; simp [oneA, oneGo])
 | succ k =>
  have hx : (i : Int) ≤ (moreN c : Int) := by omega
  repeat apply wq
  refine wps_region callOK ?_
  simp [zS, hx]
  repeat apply wq
  refine wps_ct (by simp [opnd, St.get, hx]) ?_
  repeat apply wq
  refine wps_skip ?_
  simp
  repeat apply wq
  refine wps_block ?_
  have fail : contN s i lo hi = false → R = (i, false) := fun h => by rw [← hg]; simp [oneGo, h]
  by_cases q1 : i < s.length
  ·have p1 : ¬ (s.length : Int) ≤ (i : Int) := by omega
   have p1' : ¬ s.length ≤ i := by omega
   have ha := atB (s := s) q1
   rw [cN_get q1] at ha
   by_cases q2 : (cN s i : Int) < (lo : Int)
   ·have q2' : cN s i < lo := by omega
    repeat apply wq
    refine wps_region callOK ?_
    simp [zS, lenB, p1, p1', ha, q2, q2']
    repeat apply wq
    refine wps_ct rfl ?_
    repeat apply wq
    refine wps_region callOK ?_
    simp [zS]
    repeat apply wq
    refine wps_ret ?_
    simp [retVal, Tryz.f124, oneOr, thenQ, blockQ]
    exact ends_pure rfl (by rw [fail (by simp [contN, q1]; omega)]; simp [oneA])
   ·have q2' : ¬ cN s i < lo := by omega
    by_cases q3 : (hi : Int) < (cN s i : Int)
    ·have q3' : hi < cN s i := by omega
     repeat apply wq
     refine wps_region callOK ?_
     simp [zS, lenB, p1, p1', ha, q2, q3, q2', q3']
     repeat apply wq
     refine wps_ct rfl ?_
     repeat apply wq
     refine wps_region callOK ?_
     simp [zS]
     repeat apply wq
     refine wps_ret ?_
     simp [retVal, Tryz.f124, oneOr, thenQ, blockQ]
     exact ends_pure rfl (by rw [fail (by simp [contN, q1]; omega)]; simp [oneA])
    ·have q3' : ¬ hi < cN s i := by omega
     repeat apply wq
     refine wps_region callOK ?_
     simp [zS, lenB, p1, p1', ha, q2, q3, q2', q3']
     repeat apply wq
     refine wps_cf rfl ?_
     repeat apply wq
     refine wps_skip ?_
     simp
     repeat apply wq
     refine wps_region callOK ?_
     simp [zS]
     repeat apply wq
     refine wps_region callOK ?_
     simp [zS, add_one (show i ≤ 1000000000 by omega)]
     have hcn : contN s i lo hi = true := by simp [contN, q1]; omega
     refine hB _ (k, i + 1, 128, 191) (by simp only; omega) ⟨by simp only; omega, by simp only; omega, by simp only; rw [← hg]; simp [oneGo, hcn]⟩ ⟨[], [], ⟨rfl, rfl, rfl, by simp [fitL, fitV, pureV, pureL, aB], FitH.nothing⟩⟩
  ·have p1 : (s.length : Int) ≤ (i : Int) := by omega
   have p1' : s.length ≤ i := by omega
   repeat apply wq
   refine wps_region callOK ?_
   simp [zS, lenB, p1, p1']
   repeat apply wq
   refine wps_ct rfl ?_
   repeat apply wq
   refine wps_region callOK ?_
   simp [zS]
   repeat apply wq
   refine wps_ret ?_
   simp [retVal, Tryz.f124, oneOr, thenQ, blockQ]
   exact ends_pure rfl (by rw [fail (by simp [contN]; omega)]; simp [oneA])
theorem one_c3 {T : List (Entry Tryz.prog)} (s : Str) (hl : s.length ≤ 1000000) (h0 : indexAddrA Tryz.prog 47 (aB s) (.int .i64 0) = some (.fptr [.int .u8 (cN s 0 : Int)] 0)) (hb : cN s 0 < 256) (R : Nat × Bool) (hRe : R = oneR s) (h : cN s 0 = 224) : CallAt (ctx T) 124 [aB s] ⟨0, []⟩ (oneA R) ⟨0, []⟩ := by
 rw [show oneR s = if cN s 0 < 128 then (1, true) else if moreN (cN s 0) = 0 then (1, false) else oneGo s (moreN (cN s 0)) 1 (loN (cN s 0)) (hiN (cN s 0)) from rfl] at hRe
 obtain ⟨c, hc⟩ : ∃ c, c = cN s 0 := ⟨_, rfl⟩
 rw [← hc] at hRe h0 hb h
 have h3 := moreN_le c
 have lt128 : ¬ (c : Int) < 128 := by omega
 have g194 : (194 : Int) ≤ c := by omega
 have l223 : ¬ (c : Int) ≤ 223 := by omega
 have g224 : (224 : Int) ≤ c := by omega
 have l239 : (c : Int) ≤ 239 := by omega
 have g240 : ¬ (240 : Int) ≤ c := by omega
 have l244 : (c : Int) ≤ 244 := by omega
 have e224 : (c : Int) = 224 := by omega
 have e237 : ¬ (c : Int) = 237 := by omega
 have e240 : ¬ (c : Int) = 240 := by omega
 have e244 : ¬ (c : Int) = 244 := by omega
 have hm : moreN c = 2 := by unfold moreN; repeat (split <;> try omega)
 have hlo : loN c = 160 := by unfold loN; repeat (split <;> try omega)
 have hhi : hiN c = 191 := by unfold hiN; repeat (split <;> try omega)
 refine callAt_body (fn := Tryz.f124) (s0 := ⟨[0, 2, 3, 4, 5, 6, 7, 8], [aB s, .undef, .undef, .undef, .undef, .undef, .undef, .undef], [], 70, ⟨0, [[]]⟩⟩) Tryz.func124 rfl rfl rfl ?_
 rw [if_neg (by omega), if_neg (by omega)] at hRe
 repeat apply wq
 refine wps_region callOK ?_
 simp [zS]
 repeat apply wq
 refine wps_region callOK ?_
 simp [zS, h0]
 repeat apply wq
 refine wps_region callOK ?_
 simp [zS, lt128, g194, l223, g224, l239, g240, l244, e224, e237, e240, e244]
 repeat apply wq
 refine wps_cf rfl ?_
 repeat apply wq
 refine wps_skip ?_
 simp
 repeat apply wq
 refine wps_region callOK ?_
 simp [zS]
 repeat apply wq
 refine wps_region callOK ?_
 simp [zS, lt128, g194, l223, g224, l239, g240, l244, e224, e237, e240, e244]
 repeat apply wq
 refine wps_cf rfl ?_
 repeat apply wq
 refine wps_skip ?_
 simp
 repeat apply wq
 refine wps_region callOK ?_
 simp [zS, lt128, g194, l223, g224, l239, g240, l244, e224, e237, e240, e244]
 repeat apply wq
 refine wps_ct rfl ?_
 repeat apply wq
 refine wps_region callOK ?_
 simp [zS]
 repeat apply wq
 refine wps_region callOK ?_
 simp [zS, lt128, g194, l223, g224, l239, g240, l244, e224, e237, e240, e244]
 repeat apply wq
 refine wps_cf rfl ?_
 repeat apply wq
 refine wps_skip ?_
 simp
 repeat apply wq
 refine wps_region callOK ?_
 simp [zS, lt128, g194, l223, g224, l239, g240, l244, e224, e237, e240, e244]
 repeat apply wq
 refine wps_ct rfl ?_
 repeat apply wq
 refine wps_region callOK ?_
 simp [zS]
 repeat apply wq
 refine wps_region callOK ?_
 simp [zS, lt128, g194, l223, g224, l239, g240, l244, e224, e237, e240, e244]
 repeat apply wq
 refine wps_cf rfl ?_
 repeat apply wq
 refine wps_skip ?_
 simp
 repeat apply wq
 refine wps_region callOK ?_
 simp [zS, lt128, g194, l223, g224, l239, g240, l244, e224, e237, e240, e244]
 repeat apply wq
 refine wps_cf rfl ?_
 repeat apply wq
 refine wps_skip ?_
 simp
 repeat apply wq
 refine wps_region callOK ?_
 simp [zS, lt128, g194, l223, g224, l239, g240, l244, e224, e237, e240, e244]
 repeat apply wq
 refine wps_cf rfl ?_
 repeat apply wq
 refine wps_skip ?_
 simp
 repeat apply wq
 refine wps_region callOK ?_
 simp [zS, lt128, g194, l223, g224, l239, g240, l244, e224, e237, e240, e244]
 repeat apply wq
 refine wps_cf rfl ?_
 repeat apply wq
 refine wps_skip ?_
 simp
 repeat apply wq
 refine wps_region callOK ?_
 simp [zS]
 repeat apply wq
 refine wps_block (wps_loop' (fun x : Nat × Nat × Nat × Nat => (⟨[0, 2, 3, 4, 5, 6, 7, 8], [aB s, .int .i64 0, .bool false, .int .u8 (c : Int), .int .i64 (moreN c : Nat), .int .u8 (x.2.2.1 : Nat), .int .u8 (x.2.2.2 : Nat), .int .i64 (x.2.1 : Nat)], [], 70, ⟨0, [[]]⟩⟩ : St))
  (fun x => x.2.1 + x.1 = moreN c + 1 ∧ 1 ≤ x.2.1 ∧ oneGo s x.1 x.2.1 x.2.2.1 x.2.2.2 = R) (fun x => x.1) [] [] (moreN c, 1, loN c, hiN c) ⟨by simp only; omega, Nat.le_refl _, hRe.symm⟩ ⟨rfl, rfl, rfl, by simp [fitL, fitV, pureV, pureL, aB, hm, hlo, hhi, e224], FitH.nothing⟩ ?_)
 rintro ⟨k, i, lo, hi⟩ ⟨hk, hi1, hg⟩ B hB
 simp only at hk hi1 hg hB
 clear hRe
 cases k with
 | zero =>
  have hx : ¬ (i : Int) ≤ (moreN c : Int) := by omega
  repeat apply wq
  refine wps_region callOK ?_
  simp [zS, hx]
  repeat apply wq
  refine wps_cf (by simp [opnd, St.get, hx]) ?_
  repeat apply wq
  refine wps_exit ?_
  simp
  have ha := add_one (show moreN c ≤ 1000000000 by omega)
  repeat apply wq
  refine wps_region callOK ?_
  simp [zS, ha]
  repeat apply wq
  refine wps_ret ?_
  simp [retVal, Tryz.f124, oneOr, thenQ, blockQ]
  exact ends_pure rfl (by rw [← hg, show i = moreN c + 1 by omega]; simp [oneA, oneGo])
 | succ k =>
  have hx : (i : Int) ≤ (moreN c : Int) := by omega
  repeat apply wq
  refine wps_region callOK ?_
  simp [zS, hx]
  repeat apply wq
  refine wps_ct (by simp [opnd, St.get, hx]) ?_
  repeat apply wq
  refine wps_skip ?_
  simp
  repeat apply wq
  refine wps_block ?_
  have fail : contN s i lo hi = false → R = (i, false) := fun h => by rw [← hg]; simp [oneGo, h]
  by_cases q1 : i < s.length
  ·have p1 : ¬ (s.length : Int) ≤ (i : Int) := by omega
   have p1' : ¬ s.length ≤ i := by omega
   have ha := atB (s := s) q1
   rw [cN_get q1] at ha
   by_cases q2 : (cN s i : Int) < (lo : Int)
   ·have q2' : cN s i < lo := by omega
    repeat apply wq
    refine wps_region callOK ?_
    simp [zS, lenB, p1, p1', ha, q2, q2']
    repeat apply wq
    refine wps_ct rfl ?_
    repeat apply wq
    refine wps_region callOK ?_
    simp [zS]
    repeat apply wq
    refine wps_ret ?_
    simp [retVal, Tryz.f124, oneOr, thenQ, blockQ]
    exact ends_pure rfl (by rw [fail (by simp [contN, q1]; omega)]; simp [oneA])
   ·have q2' : ¬ cN s i < lo := by omega
    by_cases q3 : (hi : Int) < (cN s i : Int)
    ·have q3' : hi < cN s i := by omega
     repeat apply wq
     refine wps_region callOK ?_
     simp [zS, lenB, p1, p1', ha, q2, q3, q2', q3']
     repeat apply wq
     refine wps_ct rfl ?_
     repeat apply wq
     refine wps_region callOK ?_
     simp [zS]
     repeat apply wq
     refine wps_ret ?_
     simp [retVal, Tryz.f124, oneOr, thenQ, blockQ]
     exact ends_pure rfl (by rw [fail (by simp [contN, q1]; omega)]; simp [oneA])
    ·have q3' : ¬ hi < cN s i := by omega
     repeat apply wq
     refine wps_region callOK ?_
     simp [zS, lenB, p1, p1', ha, q2, q3, q2', q3']
     repeat apply wq
     refine wps_cf rfl ?_
     repeat apply wq
     refine wps_skip ?_
     simp
     repeat apply wq
     refine wps_region callOK ?_
     simp [zS]
     repeat apply wq
     refine wps_region callOK ?_
     simp [zS, add_one (show i ≤ 1000000000 by omega)]
     have hcn : contN s i lo hi = true := by simp [contN, q1]; omega
     refine hB _ (k, i + 1, 128, 191) (by simp only; omega) ⟨by simp only; omega, by simp only; omega, by simp only; rw [← hg]; simp [oneGo, hcn]⟩ ⟨[], [], ⟨rfl, rfl, rfl, by simp [fitL, fitV, pureV, pureL, aB], FitH.nothing⟩⟩
  ·have p1 : (s.length : Int) ≤ (i : Int) := by omega
   have p1' : s.length ≤ i := by omega
   repeat apply wq
   refine wps_region callOK ?_
   simp [zS, lenB, p1, p1']
   repeat apply wq
   refine wps_ct rfl ?_
   repeat apply wq
   refine wps_region callOK ?_
   simp [zS]
   repeat apply wq
   refine wps_ret ?_
   simp [retVal, Tryz.f124, oneOr, thenQ, blockQ]
   exact ends_pure rfl (by rw [fail (by simp [contN]; omega)]; simp [oneA])
theorem one_c4 {T : List (Entry Tryz.prog)} (s : Str) (hl : s.length ≤ 1000000) (h0 : indexAddrA Tryz.prog 47 (aB s) (.int .i64 0) = some (.fptr [.int .u8 (cN s 0 : Int)] 0)) (hb : cN s 0 < 256) (R : Nat × Bool) (hRe : R = oneR s) (h : 225 ≤ cN s 0 ∧ cN s 0 < 237) : CallAt (ctx T) 124 [aB s] ⟨0, []⟩ (oneA R) ⟨0, []⟩ := by
 rw [show oneR s = if cN s 0 < 128 then (1, true) else if moreN (cN s 0) = 0 then (1, false) else oneGo s (moreN (cN s 0)) 1 (loN (cN s 0)) (hiN (cN s 0)) from rfl] at hRe
 obtain ⟨c, hc⟩ : ∃ c, c = cN s 0 := ⟨_, rfl⟩
 rw [← hc] at hRe h0 hb h
 have h3 := moreN_le c
 have lt128 : ¬ (c : Int) < 128 := by omega
 have g194 : (194 : Int) ≤ c := by omega
 have l223 : ¬ (c : Int) ≤ 223 := by omega
 have g224 : (224 : Int) ≤ c := by omega
 have l239 : (c : Int) ≤ 239 := by omega
 have g240 : ¬ (240 : Int) ≤ c := by omega
 have l244 : (c : Int) ≤ 244 := by omega
 have e224 : ¬ (c : Int) = 224 := by omega
 have e237 : ¬ (c : Int) = 237 := by omega
 have e240 : ¬ (c : Int) = 240 := by omega
 have e244 : ¬ (c : Int) = 244 := by omega
 have hm : moreN c = 2 := by unfold moreN; repeat (split <;> try omega)
 have hlo : loN c = 128 := by unfold loN; repeat (split <;> try omega)
 have hhi : hiN c = 191 := by unfold hiN; repeat (split <;> try omega)
 refine callAt_body (fn := Tryz.f124) (s0 := ⟨[0, 2, 3, 4, 5, 6, 7, 8], [aB s, .undef, .undef, .undef, .undef, .undef, .undef, .undef], [], 70, ⟨0, [[]]⟩⟩) Tryz.func124 rfl rfl rfl ?_
 rw [if_neg (by omega), if_neg (by omega)] at hRe
 repeat apply wq
 refine wps_region callOK ?_
 simp [zS]
 repeat apply wq
 refine wps_region callOK ?_
 simp [zS, h0]
 repeat apply wq
 refine wps_region callOK ?_
 simp [zS, lt128, g194, l223, g224, l239, g240, l244, e224, e237, e240, e244]
 repeat apply wq
 refine wps_cf rfl ?_
 repeat apply wq
 refine wps_skip ?_
 simp
 repeat apply wq
 refine wps_region callOK ?_
 simp [zS]
 repeat apply wq
 refine wps_region callOK ?_
 simp [zS, lt128, g194, l223, g224, l239, g240, l244, e224, e237, e240, e244]
 repeat apply wq
 refine wps_cf rfl ?_
 repeat apply wq
 refine wps_skip ?_
 simp
 repeat apply wq
 refine wps_region callOK ?_
 simp [zS, lt128, g194, l223, g224, l239, g240, l244, e224, e237, e240, e244]
 repeat apply wq
 refine wps_ct rfl ?_
 repeat apply wq
 refine wps_region callOK ?_
 simp [zS]
 repeat apply wq
 refine wps_region callOK ?_
 simp [zS, lt128, g194, l223, g224, l239, g240, l244, e224, e237, e240, e244]
 repeat apply wq
 refine wps_cf rfl ?_
 repeat apply wq
 refine wps_skip ?_
 simp
 repeat apply wq
 refine wps_region callOK ?_
 simp [zS, lt128, g194, l223, g224, l239, g240, l244, e224, e237, e240, e244]
 repeat apply wq
 refine wps_cf rfl ?_
 repeat apply wq
 refine wps_skip ?_
 simp
 repeat apply wq
 refine wps_region callOK ?_
 simp [zS, lt128, g194, l223, g224, l239, g240, l244, e224, e237, e240, e244]
 repeat apply wq
 refine wps_cf rfl ?_
 repeat apply wq
 refine wps_skip ?_
 simp
 repeat apply wq
 refine wps_region callOK ?_
 simp [zS, lt128, g194, l223, g224, l239, g240, l244, e224, e237, e240, e244]
 repeat apply wq
 refine wps_cf rfl ?_
 repeat apply wq
 refine wps_skip ?_
 simp
 repeat apply wq
 refine wps_region callOK ?_
 simp [zS, lt128, g194, l223, g224, l239, g240, l244, e224, e237, e240, e244]
 repeat apply wq
 refine wps_cf rfl ?_
 repeat apply wq
 refine wps_skip ?_
 simp
 repeat apply wq
 refine wps_region callOK ?_
 simp [zS, lt128, g194, l223, g224, l239, g240, l244, e224, e237, e240, e244]
 repeat apply wq
 refine wps_cf rfl ?_
 repeat apply wq
 refine wps_skip ?_
 simp
 repeat apply wq
 refine wps_region callOK ?_
 simp [zS]
 repeat apply wq
 refine wps_block (wps_loop' (fun x : Nat × Nat × Nat × Nat => (⟨[0, 2, 3, 4, 5, 6, 7, 8], [aB s, .int .i64 0, .bool false, .int .u8 (c : Int), .int .i64 (moreN c : Nat), .int .u8 (x.2.2.1 : Nat), .int .u8 (x.2.2.2 : Nat), .int .i64 (x.2.1 : Nat)], [], 70, ⟨0, [[]]⟩⟩ : St))
  (fun x => x.2.1 + x.1 = moreN c + 1 ∧ 1 ≤ x.2.1 ∧ oneGo s x.1 x.2.1 x.2.2.1 x.2.2.2 = R) (fun x => x.1) [] [] (moreN c, 1, loN c, hiN c) ⟨by simp only; omega, Nat.le_refl _, hRe.symm⟩ ⟨rfl, rfl, rfl, by simp [fitL, fitV, pureV, pureL, aB, hm, hlo, hhi], FitH.nothing⟩ ?_)
 rintro ⟨k, i, lo, hi⟩ ⟨hk, hi1, hg⟩ B hB
 simp only at hk hi1 hg hB
 clear hRe
 cases k with
 | zero =>
  have hx : ¬ (i : Int) ≤ (moreN c : Int) := by omega
  repeat apply wq
  refine wps_region callOK ?_
  simp [zS, hx]
  repeat apply wq
  refine wps_cf (by simp [opnd, St.get, hx]) ?_
  repeat apply wq
  refine wps_exit ?_
  simp
  have ha := add_one (show moreN c ≤ 1000000000 by omega)
  repeat apply wq
  refine wps_region callOK ?_
  simp [zS, ha]
  repeat apply wq
  refine wps_ret ?_
  simp [retVal, Tryz.f124, oneOr, thenQ, blockQ]
  exact ends_pure rfl (by rw [← hg, show i = moreN c + 1 by omega]; simp [oneA, oneGo])
 | succ k =>
  have hx : (i : Int) ≤ (moreN c : Int) := by omega
  repeat apply wq
  refine wps_region callOK ?_
  simp [zS, hx]
  repeat apply wq
  refine wps_ct (by simp [opnd, St.get, hx]) ?_
  repeat apply wq
  refine wps_skip ?_
  simp
  repeat apply wq
  refine wps_block ?_
  have fail : contN s i lo hi = false → R = (i, false) := fun h => by rw [← hg]; simp [oneGo, h]
  by_cases q1 : i < s.length
  ·have p1 : ¬ (s.length : Int) ≤ (i : Int) := by omega
   have p1' : ¬ s.length ≤ i := by omega
   have ha := atB (s := s) q1
   rw [cN_get q1] at ha
   by_cases q2 : (cN s i : Int) < (lo : Int)
   ·have q2' : cN s i < lo := by omega
    repeat apply wq
    refine wps_region callOK ?_
    simp [zS, lenB, p1, p1', ha, q2, q2']
    repeat apply wq
    refine wps_ct rfl ?_
    repeat apply wq
    refine wps_region callOK ?_
    simp [zS]
    repeat apply wq
    refine wps_ret ?_
    simp [retVal, Tryz.f124, oneOr, thenQ, blockQ]
    exact ends_pure rfl (by rw [fail (by simp [contN, q1]; omega)]; simp [oneA])
   ·have q2' : ¬ cN s i < lo := by omega
    by_cases q3 : (hi : Int) < (cN s i : Int)
    ·have q3' : hi < cN s i := by omega
     repeat apply wq
     refine wps_region callOK ?_
     simp [zS, lenB, p1, p1', ha, q2, q3, q2', q3']
     repeat apply wq
     refine wps_ct rfl ?_
     repeat apply wq
     refine wps_region callOK ?_
     simp [zS]
     repeat apply wq
     refine wps_ret ?_
     simp [retVal, Tryz.f124, oneOr, thenQ, blockQ]
     exact ends_pure rfl (by rw [fail (by simp [contN, q1]; omega)]; simp [oneA])
    ·have q3' : ¬ hi < cN s i := by omega
     repeat apply wq
     refine wps_region callOK ?_
     simp [zS, lenB, p1, p1', ha, q2, q3, q2', q3']
     repeat apply wq
     refine wps_cf rfl ?_
     repeat apply wq
     refine wps_skip ?_
     simp
     repeat apply wq
     refine wps_region callOK ?_
     simp [zS]
     repeat apply wq
     refine wps_region callOK ?_
     simp [zS, add_one (show i ≤ 1000000000 by omega)]
     have hcn : contN s i lo hi = true := by simp [contN, q1]; omega
     refine hB _ (k, i + 1, 128, 191) (by simp only; omega) ⟨by simp only; omega, by simp only; omega, by simp only; rw [← hg]; simp [oneGo, hcn]⟩ ⟨[], [], ⟨rfl, rfl, rfl, by simp [fitL, fitV, pureV, pureL, aB], FitH.nothing⟩⟩
  ·have p1 : (s.length : Int) ≤ (i : Int) := by omega
   have p1' : s.length ≤ i := by omega
   repeat apply wq
   refine wps_region callOK ?_
   simp [zS, lenB, p1, p1']
   repeat apply wq
   refine wps_ct rfl ?_
   repeat apply wq
   refine wps_region callOK ?_
   simp [zS]
   repeat apply wq
   refine wps_ret ?_
   simp [retVal, Tryz.f124, oneOr, thenQ, blockQ]
   exact ends_pure rfl (by rw [fail (by simp [contN]; omega)]; simp [oneA])
theorem one_c5 {T : List (Entry Tryz.prog)} (s : Str) (hl : s.length ≤ 1000000) (h0 : indexAddrA Tryz.prog 47 (aB s) (.int .i64 0) = some (.fptr [.int .u8 (cN s 0 : Int)] 0)) (hb : cN s 0 < 256) (R : Nat × Bool) (hRe : R = oneR s) (h : cN s 0 = 237) : CallAt (ctx T) 124 [aB s] ⟨0, []⟩ (oneA R) ⟨0, []⟩ := by
 rw [show oneR s = if cN s 0 < 128 then (1, true) else if moreN (cN s 0) = 0 then (1, false) else oneGo s (moreN (cN s 0)) 1 (loN (cN s 0)) (hiN (cN s 0)) from rfl] at hRe
 obtain ⟨c, hc⟩ : ∃ c, c = cN s 0 := ⟨_, rfl⟩
 rw [← hc] at hRe h0 hb h
 have h3 := moreN_le c
 have lt128 : ¬ (c : Int) < 128 := by omega
 have g194 : (194 : Int) ≤ c := by omega
 have l223 : ¬ (c : Int) ≤ 223 := by omega
 have g224 : (224 : Int) ≤ c := by omega
 have l239 : (c : Int) ≤ 239 := by omega
 have g240 : ¬ (240 : Int) ≤ c := by omega
 have l244 : (c : Int) ≤ 244 := by omega
 have e224 : ¬ (c : Int) = 224 := by omega
 have e237 : (c : Int) = 237 := by omega
 have e240 : ¬ (c : Int) = 240 := by omega
 have e244 : ¬ (c : Int) = 244 := by omega
 have hm : moreN c = 2 := by unfold moreN; repeat (split <;> try omega)
 have hlo : loN c = 128 := by unfold loN; repeat (split <;> try omega)
 have hhi : hiN c = 159 := by unfold hiN; repeat (split <;> try omega)
 refine callAt_body (fn := Tryz.f124) (s0 := ⟨[0, 2, 3, 4, 5, 6, 7, 8], [aB s, .undef, .undef, .undef, .undef, .undef, .undef, .undef], [], 70, ⟨0, [[]]⟩⟩) Tryz.func124 rfl rfl rfl ?_
 rw [if_neg (by omega), if_neg (by omega)] at hRe
 repeat apply wq
 refine wps_region callOK ?_
 simp [zS]
 repeat apply wq
 refine wps_region callOK ?_
 simp [zS, h0]
 repeat apply wq
 refine wps_region callOK ?_
 simp [zS, lt128, g194, l223, g224, l239, g240, l244, e224, e237, e240, e244]
 repeat apply wq
 refine wps_cf rfl ?_
 repeat apply wq
 refine wps_skip ?_
 simp
 repeat apply wq
 refine wps_region callOK ?_
 simp [zS]
 repeat apply wq
 refine wps_region callOK ?_
 simp [zS, lt128, g194, l223, g224, l239, g240, l244, e224, e237, e240, e244]
 repeat apply wq
 refine wps_cf rfl ?_
 repeat apply wq
 refine wps_skip ?_
 simp
 repeat apply wq
 refine wps_region callOK ?_
 simp [zS, lt128, g194, l223, g224, l239, g240, l244, e224, e237, e240, e244]
 repeat apply wq
 refine wps_ct rfl ?_
 repeat apply wq
 refine wps_region callOK ?_
 simp [zS]
 repeat apply wq
 refine wps_region callOK ?_
 simp [zS, lt128, g194, l223, g224, l239, g240, l244, e224, e237, e240, e244]
 repeat apply wq
 refine wps_cf rfl ?_
 repeat apply wq
 refine wps_skip ?_
 simp
 repeat apply wq
 refine wps_region callOK ?_
 simp [zS, lt128, g194, l223, g224, l239, g240, l244, e224, e237, e240, e244]
 repeat apply wq
 refine wps_cf rfl ?_
 repeat apply wq
 refine wps_skip ?_
 simp
 repeat apply wq
 refine wps_region callOK ?_
 simp [zS, lt128, g194, l223, g224, l239, g240, l244, e224, e237, e240, e244]
 repeat apply wq
 refine wps_ct rfl ?_
 repeat apply wq
 refine wps_region callOK ?_
 simp [zS]
 repeat apply wq
 refine wps_region callOK ?_
 simp [zS, lt128, g194, l223, g224, l239, g240, l244, e224, e237, e240, e244]
 repeat apply wq
 refine wps_cf rfl ?_
 repeat apply wq
 refine wps_skip ?_
 simp
 repeat apply wq
 refine wps_region callOK ?_
 simp [zS, lt128, g194, l223, g224, l239, g240, l244, e224, e237, e240, e244]
 repeat apply wq
 refine wps_cf rfl ?_
 repeat apply wq
 refine wps_skip ?_
 simp
 repeat apply wq
 refine wps_region callOK ?_
 simp [zS, lt128, g194, l223, g224, l239, g240, l244, e224, e237, e240, e244]
 repeat apply wq
 refine wps_cf rfl ?_
 repeat apply wq
 refine wps_skip ?_
 simp
 repeat apply wq
 refine wps_region callOK ?_
 simp [zS]
 repeat apply wq
 refine wps_block (wps_loop' (fun x : Nat × Nat × Nat × Nat => (⟨[0, 2, 3, 4, 5, 6, 7, 8], [aB s, .int .i64 0, .bool false, .int .u8 (c : Int), .int .i64 (moreN c : Nat), .int .u8 (x.2.2.1 : Nat), .int .u8 (x.2.2.2 : Nat), .int .i64 (x.2.1 : Nat)], [], 70, ⟨0, [[]]⟩⟩ : St))
  (fun x => x.2.1 + x.1 = moreN c + 1 ∧ 1 ≤ x.2.1 ∧ oneGo s x.1 x.2.1 x.2.2.1 x.2.2.2 = R) (fun x => x.1) [] [] (moreN c, 1, loN c, hiN c) ⟨by simp only; omega, Nat.le_refl _, hRe.symm⟩ ⟨rfl, rfl, rfl, by simp [fitL, fitV, pureV, pureL, aB, hm, hlo, hhi, e237], FitH.nothing⟩ ?_)
 rintro ⟨k, i, lo, hi⟩ ⟨hk, hi1, hg⟩ B hB
 simp only at hk hi1 hg hB
 clear hRe
 cases k with
 | zero =>
  have hx : ¬ (i : Int) ≤ (moreN c : Int) := by omega
  repeat apply wq
  refine wps_region callOK ?_
  simp [zS, hx]
  repeat apply wq
  refine wps_cf (by simp [opnd, St.get, hx]) ?_
  repeat apply wq
  refine wps_exit ?_
  simp
  have ha := add_one (show moreN c ≤ 1000000000 by omega)
  repeat apply wq
  refine wps_region callOK ?_
  simp [zS, ha]
  repeat apply wq
  refine wps_ret ?_
  simp [retVal, Tryz.f124, oneOr, thenQ, blockQ]
  exact ends_pure rfl (by rw [← hg, show i = moreN c + 1 by omega]; simp [oneA, oneGo])
 | succ k =>
  have hx : (i : Int) ≤ (moreN c : Int) := by omega
  repeat apply wq
  refine wps_region callOK ?_
  simp [zS, hx]
  repeat apply wq
  refine wps_ct (by simp [opnd, St.get, hx]) ?_
  repeat apply wq
  refine wps_skip ?_
  simp
  repeat apply wq
  refine wps_block ?_
  have fail : contN s i lo hi = false → R = (i, false) := fun h => by rw [← hg]; simp [oneGo, h]
  by_cases q1 : i < s.length
  ·have p1 : ¬ (s.length : Int) ≤ (i : Int) := by omega
   have p1' : ¬ s.length ≤ i := by omega
   have ha := atB (s := s) q1
   rw [cN_get q1] at ha
   by_cases q2 : (cN s i : Int) < (lo : Int)
   ·have q2' : cN s i < lo := by omega
    repeat apply wq
    refine wps_region callOK ?_
    simp [zS, lenB, p1, p1', ha, q2, q2']
    repeat apply wq
    refine wps_ct rfl ?_
    repeat apply wq
    refine wps_region callOK ?_
    simp [zS]
    repeat apply wq
    refine wps_ret ?_
    simp [retVal, Tryz.f124, oneOr, thenQ, blockQ]
    exact ends_pure rfl (by rw [fail (by simp [contN, q1]; omega)]; simp [oneA])
   ·have q2' : ¬ cN s i < lo := by omega
    by_cases q3 : (hi : Int) < (cN s i : Int)
    ·have q3' : hi < cN s i := by omega
     repeat apply wq
     refine wps_region callOK ?_
     simp [zS, lenB, p1, p1', ha, q2, q3, q2', q3']
     repeat apply wq
     refine wps_ct rfl ?_
     repeat apply wq
     refine wps_region callOK ?_
     simp [zS]
     repeat apply wq
     refine wps_ret ?_
     simp [retVal, Tryz.f124, oneOr, thenQ, blockQ]
     exact ends_pure rfl (by rw [fail (by simp [contN, q1]; omega)]; simp [oneA])
    ·have q3' : ¬ hi < cN s i := by omega
     repeat apply wq
     refine wps_region callOK ?_
     simp [zS, lenB, p1, p1', ha, q2, q3, q2', q3']
     repeat apply wq
     refine wps_cf rfl ?_
     repeat apply wq
     refine wps_skip ?_
     simp
     repeat apply wq
     refine wps_region callOK ?_
     simp [zS]
     repeat apply wq
     refine wps_region callOK ?_
     simp [zS, add_one (show i ≤ 1000000000 by omega)]
     have hcn : contN s i lo hi = true := by simp [contN, q1]; omega
     refine hB _ (k, i + 1, 128, 191) (by simp only; omega) ⟨by simp only; omega, by simp only; omega, by simp only; rw [← hg]; simp [oneGo, hcn]⟩ ⟨[], [], ⟨rfl, rfl, rfl, by simp [fitL, fitV, pureV, pureL, aB], FitH.nothing⟩⟩
  ·have p1 : (s.length : Int) ≤ (i : Int) := by omega
   have p1' : s.length ≤ i := by omega
   repeat apply wq
   refine wps_region callOK ?_
   simp [zS, lenB, p1, p1']
   repeat apply wq
   refine wps_ct rfl ?_
   repeat apply wq
   refine wps_region callOK ?_
   simp [zS]
   repeat apply wq
   refine wps_ret ?_
   simp [retVal, Tryz.f124, oneOr, thenQ, blockQ]
   exact ends_pure rfl (by rw [fail (by simp [contN]; omega)]; simp [oneA])
theorem one_c6 {T : List (Entry Tryz.prog)} (s : Str) (hl : s.length ≤ 1000000) (h0 : indexAddrA Tryz.prog 47 (aB s) (.int .i64 0) = some (.fptr [.int .u8 (cN s 0 : Int)] 0)) (hb : cN s 0 < 256) (R : Nat × Bool) (hRe : R = oneR s) (h : 238 ≤ cN s 0 ∧ cN s 0 < 240) : CallAt (ctx T) 124 [aB s] ⟨0, []⟩ (oneA R) ⟨0, []⟩ := by
 rw [show oneR s = if cN s 0 < 128 then (1, true) else if moreN (cN s 0) = 0 then (1, false) else oneGo s (moreN (cN s 0)) 1 (loN (cN s 0)) (hiN (cN s 0)) from rfl] at hRe
 obtain ⟨c, hc⟩ : ∃ c, c = cN s 0 := ⟨_, rfl⟩
 rw [← hc] at hRe h0 hb h
 have h3 := moreN_le c
 have lt128 : ¬ (c : Int) < 128 := by omega
 have g194 : (194 : Int) ≤ c := by omega
 have l223 : ¬ (c : Int) ≤ 223 := by omega
 have g224 : (224 : Int) ≤ c := by omega
 have l239 : (c : Int) ≤ 239 := by omega
 have g240 : ¬ (240 : Int) ≤ c := by omega
 have l244 : (c : Int) ≤ 244 := by omega
 have e224 : ¬ (c : Int) = 224 := by omega
 have e237 : ¬ (c : Int) = 237 := by omega
 have e240 : ¬ (c : Int) = 240 := by omega
 have e244 : ¬ (c : Int) = 244 := by omega
 have hm : moreN c = 2 := by unfold moreN; repeat (split <;> try omega)
 have hlo : loN c = 128 := by unfold loN; repeat (split <;> try omega)
 have hhi : hiN c = 191 := by unfold hiN; repeat (split <;> try omega)
 refine callAt_body (fn := Tryz.f124) (s0 := ⟨[0, 2, 3, 4, 5, 6, 7, 8], [aB s, .undef, .undef, .undef, .undef, .undef, .undef, .undef], [], 70, ⟨0, [[]]⟩⟩) Tryz.func124 rfl rfl rfl ?_
 rw [if_neg (by omega), if_neg (by omega)] at hRe
 repeat apply wq
 refine wps_region callOK ?_
 simp [zS]
 repeat apply wq
 refine wps_region callOK ?_
 simp [zS, h0]
 repeat apply wq
 refine wps_region callOK ?_
 simp [zS, lt128, g194, l223, g224, l239, g240, l244, e224, e237, e240, e244]
 repeat apply wq
 refine wps_cf rfl ?_
 repeat apply wq
 refine wps_skip ?_
 simp
 repeat apply wq
 refine wps_region callOK ?_
 simp [zS]
 repeat apply wq
 refine wps_region callOK ?_
 simp [zS, lt128, g194, l223, g224, l239, g240, l244, e224, e237, e240, e244]
 repeat apply wq
 refine wps_cf rfl ?_
 repeat apply wq
 refine wps_skip ?_
 simp
 repeat apply wq
 refine wps_region callOK ?_
 simp [zS, lt128, g194, l223, g224, l239, g240, l244, e224, e237, e240, e244]
 repeat apply wq
 refine wps_ct rfl ?_
 repeat apply wq
 refine wps_region callOK ?_
 simp [zS]
 repeat apply wq
 refine wps_region callOK ?_
 simp [zS, lt128, g194, l223, g224, l239, g240, l244, e224, e237, e240, e244]
 repeat apply wq
 refine wps_cf rfl ?_
 repeat apply wq
 refine wps_skip ?_
 simp
 repeat apply wq
 refine wps_region callOK ?_
 simp [zS, lt128, g194, l223, g224, l239, g240, l244, e224, e237, e240, e244]
 repeat apply wq
 refine wps_cf rfl ?_
 repeat apply wq
 refine wps_skip ?_
 simp
 repeat apply wq
 refine wps_region callOK ?_
 simp [zS, lt128, g194, l223, g224, l239, g240, l244, e224, e237, e240, e244]
 repeat apply wq
 refine wps_cf rfl ?_
 repeat apply wq
 refine wps_skip ?_
 simp
 repeat apply wq
 refine wps_region callOK ?_
 simp [zS, lt128, g194, l223, g224, l239, g240, l244, e224, e237, e240, e244]
 repeat apply wq
 refine wps_cf rfl ?_
 repeat apply wq
 refine wps_skip ?_
 simp
 repeat apply wq
 refine wps_region callOK ?_
 simp [zS, lt128, g194, l223, g224, l239, g240, l244, e224, e237, e240, e244]
 repeat apply wq
 refine wps_cf rfl ?_
 repeat apply wq
 refine wps_skip ?_
 simp
 repeat apply wq
 refine wps_region callOK ?_
 simp [zS, lt128, g194, l223, g224, l239, g240, l244, e224, e237, e240, e244]
 repeat apply wq
 refine wps_cf rfl ?_
 repeat apply wq
 refine wps_skip ?_
 simp
 repeat apply wq
 refine wps_region callOK ?_
 simp [zS]
 repeat apply wq
 refine wps_block (wps_loop' (fun x : Nat × Nat × Nat × Nat => (⟨[0, 2, 3, 4, 5, 6, 7, 8], [aB s, .int .i64 0, .bool false, .int .u8 (c : Int), .int .i64 (moreN c : Nat), .int .u8 (x.2.2.1 : Nat), .int .u8 (x.2.2.2 : Nat), .int .i64 (x.2.1 : Nat)], [], 70, ⟨0, [[]]⟩⟩ : St))
  (fun x => x.2.1 + x.1 = moreN c + 1 ∧ 1 ≤ x.2.1 ∧ oneGo s x.1 x.2.1 x.2.2.1 x.2.2.2 = R) (fun x => x.1) [] [] (moreN c, 1, loN c, hiN c) ⟨by simp only; omega, Nat.le_refl _, hRe.symm⟩ ⟨rfl, rfl, rfl, by simp [fitL, fitV, pureV, pureL, aB, hm, hlo, hhi], FitH.nothing⟩ ?_)
 rintro ⟨k, i, lo, hi⟩ ⟨hk, hi1, hg⟩ B hB
 simp only at hk hi1 hg hB
 clear hRe
 cases k with
 | zero =>
  have hx : ¬ (i : Int) ≤ (moreN c : Int) := by omega
  repeat apply wq
  refine wps_region callOK ?_
  simp [zS, hx]
  repeat apply wq
  refine wps_cf (by simp [opnd, St.get, hx]) ?_
  repeat apply wq
  refine wps_exit ?_
  simp
  have ha := add_one (show moreN c ≤ 1000000000 by omega)
  repeat apply wq
  refine wps_region callOK ?_
  simp [zS, ha]
  repeat apply wq
  refine wps_ret ?_
  simp [retVal, Tryz.f124, oneOr, thenQ, blockQ]
  exact ends_pure rfl (by rw [← hg, show i = moreN c + 1 by omega]; simp [oneA, oneGo])
 | succ k =>
  have hx : (i : Int) ≤ (moreN c : Int) := by omega
  repeat apply wq
  refine wps_region callOK ?_
  simp [zS, hx]
  repeat apply wq
  refine wps_ct (by simp [opnd, St.get, hx]) ?_
  repeat apply wq
  refine wps_skip ?_
  simp
  repeat apply wq
  refine wps_block ?_
  have fail : contN s i lo hi = false → R = (i, false) := fun h => by rw [← hg]; simp [oneGo, h]
  by_cases q1 : i < s.length
  ·have p1 : ¬ (s.length : Int) ≤ (i : Int) := by omega
   have p1' : ¬ s.length ≤ i := by omega
   have ha := atB (s := s) q1
   rw [cN_get q1] at ha
   by_cases q2 : (cN s i : Int) < (lo : Int)
   ·have q2' : cN s i < lo := by omega
    repeat apply wq
    refine wps_region callOK ?_
    simp [zS, lenB, p1, p1', ha, q2, q2']
    repeat apply wq
    refine wps_ct rfl ?_
    repeat apply wq
    refine wps_region callOK ?_
    simp [zS]
    repeat apply wq
    refine wps_ret ?_
    simp [retVal, Tryz.f124, oneOr, thenQ, blockQ]
    exact ends_pure rfl (by rw [fail (by simp [contN, q1]; omega)]; simp [oneA])
   ·have q2' : ¬ cN s i < lo := by omega
    by_cases q3 : (hi : Int) < (cN s i : Int)
    ·have q3' : hi < cN s i := by omega
     repeat apply wq
     refine wps_region callOK ?_
     simp [zS, lenB, p1, p1', ha, q2, q3, q2', q3']
     repeat apply wq
     refine wps_ct rfl ?_
     repeat apply wq
     refine wps_region callOK ?_
     simp [zS]
     repeat apply wq
     refine wps_ret ?_
     simp [retVal, Tryz.f124, oneOr, thenQ, blockQ]
     exact ends_pure rfl (by rw [fail (by simp [contN, q1]; omega)]; simp [oneA])
    ·have q3' : ¬ hi < cN s i := by omega
     repeat apply wq
     refine wps_region callOK ?_
     simp [zS, lenB, p1, p1', ha, q2, q3, q2', q3']
     repeat apply wq
     refine wps_cf rfl ?_
     repeat apply wq
     refine wps_skip ?_
     simp
     repeat apply wq
     refine wps_region callOK ?_
     simp [zS]
     repeat apply wq
     refine wps_region callOK ?_
     simp [zS, add_one (show i ≤ 1000000000 by omega)]
     have hcn : contN s i lo hi = true := by simp [contN, q1]; omega
     refine hB _ (k, i + 1, 128, 191) (by simp only; omega) ⟨by simp only; omega, by simp only; omega, by simp only; rw [← hg]; simp [oneGo, hcn]⟩ ⟨[], [], ⟨rfl, rfl, rfl, by simp [fitL, fitV, pureV, pureL, aB], FitH.nothing⟩⟩
  ·have p1 : (s.length : Int) ≤ (i : Int) := by omega
   have p1' : s.length ≤ i := by omega
   repeat apply wq
   refine wps_region callOK ?_
   simp [zS, lenB, p1, p1']
   repeat apply wq
   refine wps_ct rfl ?_
   repeat apply wq
   refine wps_region callOK ?_
   simp [zS]
   repeat apply wq
   refine wps_ret ?_
   simp [retVal, Tryz.f124, oneOr, thenQ, blockQ]
   exact ends_pure rfl (by rw [fail (by simp [contN]; omega)]; simp [oneA])
theorem one_c7 {T : List (Entry Tryz.prog)} (s : Str) (hl : s.length ≤ 1000000) (h0 : indexAddrA Tryz.prog 47 (aB s) (.int .i64 0) = some (.fptr [.int .u8 (cN s 0 : Int)] 0)) (hb : cN s 0 < 256) (R : Nat × Bool) (hRe : R = oneR s) (h : cN s 0 = 240) : CallAt (ctx T) 124 [aB s] ⟨0, []⟩ (oneA R) ⟨0, []⟩ := by
 rw [show oneR s = if cN s 0 < 128 then (1, true) else if moreN (cN s 0) = 0 then (1, false) else oneGo s (moreN (cN s 0)) 1 (loN (cN s 0)) (hiN (cN s 0)) from rfl] at hRe
 obtain ⟨c, hc⟩ : ∃ c, c = cN s 0 := ⟨_, rfl⟩
 rw [← hc] at hRe h0 hb h
 have h3 := moreN_le c
 have lt128 : ¬ (c : Int) < 128 := by omega
 have g194 : (194 : Int) ≤ c := by omega
 have l223 : ¬ (c : Int) ≤ 223 := by omega
 have g224 : (224 : Int) ≤ c := by omega
 have l239 : ¬ (c : Int) ≤ 239 := by omega
 have g240 : (240 : Int) ≤ c := by omega
 have l244 : (c : Int) ≤ 244 := by omega
 have e224 : ¬ (c : Int) = 224 := by omega
 have e237 : ¬ (c : Int) = 237 := by omega
 have e240 : (c : Int) = 240 := by omega
 have e244 : ¬ (c : Int) = 244 := by omega
 have hm : moreN c = 3 := by unfold moreN; repeat (split <;> try omega)
 have hlo : loN c = 144 := by unfold loN; repeat (split <;> try omega)
 have hhi : hiN c = 191 := by unfold hiN; repeat (split <;> try omega)
 refine callAt_body (fn := Tryz.f124) (s0 := ⟨[0, 2, 3, 4, 5, 6, 7, 8], [aB s, .undef, .undef, .undef, .undef, .undef, .undef, .undef], [], 70, ⟨0, [[]]⟩⟩) Tryz.func124 rfl rfl rfl ?_
 rw [if_neg (by omega), if_neg (by omega)] at hRe
 repeat apply wq
 refine wps_region callOK ?_
 simp [zS]
 repeat apply wq
 refine wps_region callOK ?_
 simp [zS, h0]
 repeat apply wq
 refine wps_region callOK ?_
 simp [zS, lt128, g194, l223, g224, l239, g240, l244, e224, e237, e240, e244]
 repeat apply wq
 refine wps_cf rfl ?_
 repeat apply wq
 refine wps_skip ?_
 simp
 repeat apply wq
 refine wps_region callOK ?_
 simp [zS]
 repeat apply wq
 refine wps_region callOK ?_
 simp [zS, lt128, g194, l223, g224, l239, g240, l244, e224, e237, e240, e244]
 repeat apply wq
 refine wps_cf rfl ?_
 repeat apply wq
 refine wps_skip ?_
 simp
 repeat apply wq
 refine wps_region callOK ?_
 simp [zS, lt128, g194, l223, g224, l239, g240, l244, e224, e237, e240, e244]
 repeat apply wq
 refine wps_cf rfl ?_
 repeat apply wq
 refine wps_skip ?_
 simp
 repeat apply wq
 refine wps_region callOK ?_
 simp [zS, lt128, g194, l223, g224, l239, g240, l244, e224, e237, e240, e244]
 repeat apply wq
 refine wps_ct rfl ?_
 repeat apply wq
 refine wps_region callOK ?_
 simp [zS]
 repeat apply wq
 refine wps_region callOK ?_
 simp [zS, lt128, g194, l223, g224, l239, g240, l244, e224, e237, e240, e244]
 repeat apply wq
 refine wps_cf rfl ?_
 repeat apply wq
 refine wps_skip ?_
 simp
 repeat apply wq
 refine wps_region callOK ?_
 simp [zS, lt128, g194, l223, g224, l239, g240, l244, e224, e237, e240, e244]
 repeat apply wq
 refine wps_cf rfl ?_
 repeat apply wq
 refine wps_skip ?_
 simp
 repeat apply wq
 refine wps_region callOK ?_
 simp [zS, lt128, g194, l223, g224, l239, g240, l244, e224, e237, e240, e244]
 repeat apply wq
 refine wps_ct rfl ?_
 repeat apply wq
 refine wps_region callOK ?_
 simp [zS]
 repeat apply wq
 refine wps_region callOK ?_
 simp [zS, lt128, g194, l223, g224, l239, g240, l244, e224, e237, e240, e244]
 repeat apply wq
 refine wps_cf rfl ?_
 repeat apply wq
 refine wps_skip ?_
 simp
 repeat apply wq
 refine wps_region callOK ?_
 simp [zS, lt128, g194, l223, g224, l239, g240, l244, e224, e237, e240, e244]
 repeat apply wq
 refine wps_cf rfl ?_
 repeat apply wq
 refine wps_skip ?_
 simp
 repeat apply wq
 refine wps_region callOK ?_
 simp [zS]
 repeat apply wq
 refine wps_block (wps_loop' (fun x : Nat × Nat × Nat × Nat => (⟨[0, 2, 3, 4, 5, 6, 7, 8], [aB s, .int .i64 0, .bool false, .int .u8 (c : Int), .int .i64 (moreN c : Nat), .int .u8 (x.2.2.1 : Nat), .int .u8 (x.2.2.2 : Nat), .int .i64 (x.2.1 : Nat)], [], 70, ⟨0, [[]]⟩⟩ : St))
  (fun x => x.2.1 + x.1 = moreN c + 1 ∧ 1 ≤ x.2.1 ∧ oneGo s x.1 x.2.1 x.2.2.1 x.2.2.2 = R) (fun x => x.1) [] [] (moreN c, 1, loN c, hiN c) ⟨by simp only; omega, Nat.le_refl _, hRe.symm⟩ ⟨rfl, rfl, rfl, by simp [fitL, fitV, pureV, pureL, aB, hm, hlo, hhi, e240], FitH.nothing⟩ ?_)
 rintro ⟨k, i, lo, hi⟩ ⟨hk, hi1, hg⟩ B hB
 simp only at hk hi1 hg hB
 clear hRe
 cases k with
 | zero =>
  have hx : ¬ (i : Int) ≤ (moreN c : Int) := by omega
  repeat apply wq
  refine wps_region callOK ?_
  simp [zS, hx]
  repeat apply wq
  refine wps_cf (by simp [opnd, St.get, hx]) ?_
  repeat apply wq
  refine wps_exit ?_
  simp
  have ha := add_one (show moreN c ≤ 1000000000 by omega)
  repeat apply wq
  refine wps_region callOK ?_
  simp [zS, ha]
  repeat apply wq
  refine wps_ret ?_
  simp [retVal, Tryz.f124, oneOr, thenQ, blockQ]
  exact ends_pure rfl (by rw [← hg, show i = moreN c + 1 by omega]; simp [oneA, oneGo])
 | succ k =>
  have hx : (i : Int) ≤ (moreN c : Int) := by omega
  repeat apply wq
  refine wps_region callOK ?_
  simp [zS, hx]
  repeat apply wq
  refine wps_ct (by simp [opnd, St.get, hx]) ?_
  repeat apply wq
  refine wps_skip ?_
  simp
  repeat apply wq
  refine wps_block ?_
  have fail : contN s i lo hi = false → R = (i, false) := fun h => by rw [← hg]; simp [oneGo, h]
  by_cases q1 : i < s.length
  ·have p1 : ¬ (s.length : Int) ≤ (i : Int) := by omega
   have p1' : ¬ s.length ≤ i := by omega
   have ha := atB (s := s) q1
   rw [cN_get q1] at ha
   by_cases q2 : (cN s i : Int) < (lo : Int)
   ·have q2' : cN s i < lo := by omega
    repeat apply wq
    refine wps_region callOK ?_
    simp [zS, lenB, p1, p1', ha, q2, q2']
    repeat apply wq
    refine wps_ct rfl ?_
    repeat apply wq
    refine wps_region callOK ?_
    simp [zS]
    repeat apply wq
    refine wps_ret ?_
    simp [retVal, Tryz.f124, oneOr, thenQ, blockQ]
    exact ends_pure rfl (by rw [fail (by simp [contN, q1]; omega)]; simp [oneA])
   ·have q2' : ¬ cN s i < lo := by omega
    by_cases q3 : (hi : Int) < (cN s i : Int)
    ·have q3' : hi < cN s i := by omega
     repeat apply wq
     refine wps_region callOK ?_
     simp [zS, lenB, p1, p1', ha, q2, q3, q2', q3']
     repeat apply wq
     refine wps_ct rfl ?_
     repeat apply wq
     refine wps_region callOK ?_
     simp [zS]
     repeat apply wq
     refine wps_ret ?_
     simp [retVal, Tryz.f124, oneOr, thenQ, blockQ]
     exact ends_pure rfl (by rw [fail (by simp [contN, q1]; omega)]; simp [oneA])
    ·have q3' : ¬ hi < cN s i := by omega
     repeat apply wq
     refine wps_region callOK ?_
     simp [zS, lenB, p1, p1', ha, q2, q3, q2', q3']
     repeat apply wq
     refine wps_cf rfl ?_
     repeat apply wq
     refine wps_skip ?_
     simp
     repeat apply wq
     refine wps_region callOK ?_
     simp [zS]
     repeat apply wq
     refine wps_region callOK ?_
     simp [zS, add_one (show i ≤ 1000000000 by omega)]
     have hcn : contN s i lo hi = true := by simp [contN, q1]; omega
     refine hB _ (k, i + 1, 128, 191) (by simp only; omega) ⟨by simp only; omega, by simp only; omega, by simp only; rw [← hg]; simp [oneGo, hcn]⟩ ⟨[], [], ⟨rfl, rfl, rfl, by simp [fitL, fitV, pureV, pureL, aB], FitH.nothing⟩⟩
  ·have p1 : (s.length : Int) ≤ (i : Int) := by omega
   have p1' : s.length ≤ i := by omega
   repeat apply wq
   refine wps_region callOK ?_
   simp [zS, lenB, p1, p1']
   repeat apply wq
   refine wps_ct rfl ?_
   repeat apply wq
   refine wps_region callOK ?_
   simp [zS]
   repeat apply wq
   refine wps_ret ?_
   simp [retVal, Tryz.f124, oneOr, thenQ, blockQ]
   exact ends_pure rfl (by rw [fail (by simp [contN]; omega)]; simp [oneA])
theorem one_c8 {T : List (Entry Tryz.prog)} (s : Str) (hl : s.length ≤ 1000000) (h0 : indexAddrA Tryz.prog 47 (aB s) (.int .i64 0) = some (.fptr [.int .u8 (cN s 0 : Int)] 0)) (hb : cN s 0 < 256) (R : Nat × Bool) (hRe : R = oneR s) (h : 241 ≤ cN s 0 ∧ cN s 0 < 244) : CallAt (ctx T) 124 [aB s] ⟨0, []⟩ (oneA R) ⟨0, []⟩ := by
 rw [show oneR s = if cN s 0 < 128 then (1, true) else if moreN (cN s 0) = 0 then (1, false) else oneGo s (moreN (cN s 0)) 1 (loN (cN s 0)) (hiN (cN s 0)) from rfl] at hRe
 obtain ⟨c, hc⟩ : ∃ c, c = cN s 0 := ⟨_, rfl⟩
 rw [← hc] at hRe h0 hb h
 have h3 := moreN_le c
 have lt128 : ¬ (c : Int) < 128 := by omega
 have g194 : (194 : Int) ≤ c := by omega
 have l223 : ¬ (c : Int) ≤ 223 := by omega
 have g224 : (224 : Int) ≤ c := by omega
 have l239 : ¬ (c : Int) ≤ 239 := by omega
 have g240 : (240 : Int) ≤ c := by omega
 have l244 : (c : Int) ≤ 244 := by omega
 have e224 : ¬ (c : Int) = 224 := by omega
 have e237 : ¬ (c : Int) = 237 := by omega
 have e240 : ¬ (c : Int) = 240 := by omega
 have e244 : ¬ (c : Int) = 244 := by omega
 have hm : moreN c = 3 := by unfold moreN; repeat (split <;> try omega)
 have hlo : loN c = 128 := by unfold loN; repeat (split <;> try omega)
 have hhi : hiN c = 191 := by unfold hiN; repeat (split <;> try omega)
 refine callAt_body (fn := Tryz.f124) (s0 := ⟨[0, 2, 3, 4, 5, 6, 7, 8], [aB s, .undef, .undef, .undef, .undef, .undef, .undef, .undef], [], 70, ⟨0, [[]]⟩⟩) Tryz.func124 rfl rfl rfl ?_
 rw [if_neg (by omega), if_neg (by omega)] at hRe
 repeat apply wq
 refine wps_region callOK ?_
 simp [zS]
 repeat apply wq
 refine wps_region callOK ?_
 simp [zS, h0]
 repeat apply wq
 refine wps_region callOK ?_
 simp [zS, lt128, g194, l223, g224, l239, g240, l244, e224, e237, e240, e244]
 repeat apply wq
 refine wps_cf rfl ?_
 repeat apply wq
 refine wps_skip ?_
 simp
 repeat apply wq
 refine wps_region callOK ?_
 simp [zS]
 repeat apply wq
 refine wps_region callOK ?_
 simp [zS, lt128, g194, l223, g224, l239, g240, l244, e224, e237, e240, e244]
 repeat apply wq
 refine wps_cf rfl ?_
 repeat apply wq
 refine wps_skip ?_
 simp
 repeat apply wq
 refine wps_region callOK ?_
 simp [zS, lt128, g194, l223, g224, l239, g240, l244, e224, e237, e240, e244]
 repeat apply wq
 refine wps_cf rfl ?_
 repeat apply wq
 refine wps_skip ?_
 simp
 repeat apply wq
 refine wps_region callOK ?_
 simp [zS, lt128, g194, l223, g224, l239, g240, l244, e224, e237, e240, e244]
 repeat apply wq
 refine wps_ct rfl ?_
 repeat apply wq
 refine wps_region callOK ?_
 simp [zS]
 repeat apply wq
 refine wps_region callOK ?_
 simp [zS, lt128, g194, l223, g224, l239, g240, l244, e224, e237, e240, e244]
 repeat apply wq
 refine wps_cf rfl ?_
 repeat apply wq
 refine wps_skip ?_
 simp
 repeat apply wq
 refine wps_region callOK ?_
 simp [zS, lt128, g194, l223, g224, l239, g240, l244, e224, e237, e240, e244]
 repeat apply wq
 refine wps_cf rfl ?_
 repeat apply wq
 refine wps_skip ?_
 simp
 repeat apply wq
 refine wps_region callOK ?_
 simp [zS, lt128, g194, l223, g224, l239, g240, l244, e224, e237, e240, e244]
 repeat apply wq
 refine wps_cf rfl ?_
 repeat apply wq
 refine wps_skip ?_
 simp
 repeat apply wq
 refine wps_region callOK ?_
 simp [zS, lt128, g194, l223, g224, l239, g240, l244, e224, e237, e240, e244]
 repeat apply wq
 refine wps_cf rfl ?_
 repeat apply wq
 refine wps_skip ?_
 simp
 repeat apply wq
 refine wps_region callOK ?_
 simp [zS, lt128, g194, l223, g224, l239, g240, l244, e224, e237, e240, e244]
 repeat apply wq
 refine wps_cf rfl ?_
 repeat apply wq
 refine wps_skip ?_
 simp
 repeat apply wq
 refine wps_region callOK ?_
 simp [zS]
 repeat apply wq
 refine wps_block (wps_loop' (fun x : Nat × Nat × Nat × Nat => (⟨[0, 2, 3, 4, 5, 6, 7, 8], [aB s, .int .i64 0, .bool false, .int .u8 (c : Int), .int .i64 (moreN c : Nat), .int .u8 (x.2.2.1 : Nat), .int .u8 (x.2.2.2 : Nat), .int .i64 (x.2.1 : Nat)], [], 70, ⟨0, [[]]⟩⟩ : St))
  (fun x => x.2.1 + x.1 = moreN c + 1 ∧ 1 ≤ x.2.1 ∧ oneGo s x.1 x.2.1 x.2.2.1 x.2.2.2 = R) (fun x => x.1) [] [] (moreN c, 1, loN c, hiN c) ⟨by simp only; omega, Nat.le_refl _, hRe.symm⟩ ⟨rfl, rfl, rfl, by simp [fitL, fitV, pureV, pureL, aB, hm, hlo, hhi], FitH.nothing⟩ ?_)
 rintro ⟨k, i, lo, hi⟩ ⟨hk, hi1, hg⟩ B hB
 simp only at hk hi1 hg hB
 clear hRe
 cases k with
 | zero =>
  have hx : ¬ (i : Int) ≤ (moreN c : Int) := by omega
  repeat apply wq
  refine wps_region callOK ?_
  simp [zS, hx]
  repeat apply wq
  refine wps_cf (by simp [opnd, St.get, hx]) ?_
  repeat apply wq
  refine wps_exit ?_
  simp
  have ha := add_one (show moreN c ≤ 1000000000 by omega)
  repeat apply wq
  refine wps_region callOK ?_
  simp [zS, ha]
  repeat apply wq
  refine wps_ret ?_
  simp [retVal, Tryz.f124, oneOr, thenQ, blockQ]
  exact ends_pure rfl (by rw [← hg, show i = moreN c + 1 by omega]; simp [oneA, oneGo])
 | succ k =>
  have hx : (i : Int) ≤ (moreN c : Int) := by omega
  repeat apply wq
  refine wps_region callOK ?_
  simp [zS, hx]
  repeat apply wq
  refine wps_ct (by simp [opnd, St.get, hx]) ?_
  repeat apply wq
  refine wps_skip ?_
  simp
  repeat apply wq
  refine wps_block ?_
  have fail : contN s i lo hi = false → R = (i, false) := fun h => by rw [← hg]; simp [oneGo, h]
  by_cases q1 : i < s.length
  ·have p1 : ¬ (s.length : Int) ≤ (i : Int) := by omega
   have p1' : ¬ s.length ≤ i := by omega
   have ha := atB (s := s) q1
   rw [cN_get q1] at ha
   by_cases q2 : (cN s i : Int) < (lo : Int)
   ·have q2' : cN s i < lo := by omega
    repeat apply wq
    refine wps_region callOK ?_
    simp [zS, lenB, p1, p1', ha, q2, q2']
    repeat apply wq
    refine wps_ct rfl ?_
    repeat apply wq
    refine wps_region callOK ?_
    simp [zS]
    repeat apply wq
    refine wps_ret ?_
    simp [retVal, Tryz.f124, oneOr, thenQ, blockQ]
    exact ends_pure rfl (by rw [fail (by simp [contN, q1]; omega)]; simp [oneA])
   ·have q2' : ¬ cN s i < lo := by omega
    by_cases q3 : (hi : Int) < (cN s i : Int)
    ·have q3' : hi < cN s i := by omega
     repeat apply wq
     refine wps_region callOK ?_
     simp [zS, lenB, p1, p1', ha, q2, q3, q2', q3']
     repeat apply wq
     refine wps_ct rfl ?_
     repeat apply wq
     refine wps_region callOK ?_
     simp [zS]
     repeat apply wq
     refine wps_ret ?_
     simp [retVal, Tryz.f124, oneOr, thenQ, blockQ]
     exact ends_pure rfl (by rw [fail (by simp [contN, q1]; omega)]; simp [oneA])
    ·have q3' : ¬ hi < cN s i := by omega
     repeat apply wq
     refine wps_region callOK ?_
     simp [zS, lenB, p1, p1', ha, q2, q3, q2', q3']
     repeat apply wq
     refine wps_cf rfl ?_
     repeat apply wq
     refine wps_skip ?_
     simp
     repeat apply wq
     refine wps_region callOK ?_
     simp [zS]
     repeat apply wq
     refine wps_region callOK ?_
     simp [zS, add_one (show i ≤ 1000000000 by omega)]
     have hcn : contN s i lo hi = true := by simp [contN, q1]; omega
     refine hB _ (k, i + 1, 128, 191) (by simp only; omega) ⟨by simp only; omega, by simp only; omega, by simp only; rw [← hg]; simp [oneGo, hcn]⟩ ⟨[], [], ⟨rfl, rfl, rfl, by simp [fitL, fitV, pureV, pureL, aB], FitH.nothing⟩⟩
  ·have p1 : (s.length : Int) ≤ (i : Int) := by omega
   have p1' : s.length ≤ i := by omega
   repeat apply wq
   refine wps_region callOK ?_
   simp [zS, lenB, p1, p1']
   repeat apply wq
   refine wps_ct rfl ?_
   repeat apply wq
   refine wps_region callOK ?_
   simp [zS]
   repeat apply wq
   refine wps_ret ?_
   simp [retVal, Tryz.f124, oneOr, thenQ, blockQ]
   exact ends_pure rfl (by rw [fail (by simp [contN]; omega)]; simp [oneA])
theorem one_c9 {T : List (Entry Tryz.prog)} (s : Str) (hl : s.length ≤ 1000000) (h0 : indexAddrA Tryz.prog 47 (aB s) (.int .i64 0) = some (.fptr [.int .u8 (cN s 0 : Int)] 0)) (hb : cN s 0 < 256) (R : Nat × Bool) (hRe : R = oneR s) (h : cN s 0 = 244) : CallAt (ctx T) 124 [aB s] ⟨0, []⟩ (oneA R) ⟨0, []⟩ := by
 rw [show oneR s = if cN s 0 < 128 then (1, true) else if moreN (cN s 0) = 0 then (1, false) else oneGo s (moreN (cN s 0)) 1 (loN (cN s 0)) (hiN (cN s 0)) from rfl] at hRe
 obtain ⟨c, hc⟩ : ∃ c, c = cN s 0 := ⟨_, rfl⟩
 rw [← hc] at hRe h0 hb h
 have h3 := moreN_le c
 have lt128 : ¬ (c : Int) < 128 := by omega
 have g194 : (194 : Int) ≤ c := by omega
 have l223 : ¬ (c : Int) ≤ 223 := by omega
 have g224 : (224 : Int) ≤ c := by omega
 have l239 : ¬ (c : Int) ≤ 239 := by omega
 have g240 : (240 : Int) ≤ c := by omega
 have l244 : (c : Int) ≤ 244 := by omega
 have e224 : ¬ (c : Int) = 224 := by omega
 have e237 : ¬ (c : Int) = 237 := by omega
 have e240 : ¬ (c : Int) = 240 := by omega
 have e244 : (c : Int) = 244 := by omega
 have hm : moreN c = 3 := by unfold moreN; repeat (split <;> try omega)
 have hlo : loN c = 128 := by unfold loN; repeat (split <;> try omega)
 have hhi : hiN c = 143 := by unfold hiN; repeat (split <;> try omega)
 refine callAt_body (fn := Tryz.f124) (s0 := ⟨[0, 2, 3, 4, 5, 6, 7, 8], [aB s, .undef, .undef, .undef, .undef, .undef, .undef, .undef], [], 70, ⟨0, [[]]⟩⟩) Tryz.func124 rfl rfl rfl ?_
 rw [if_neg (by omega), if_neg (by omega)] at hRe
 repeat apply wq
 refine wps_region callOK ?_
 simp [zS]
 repeat apply wq
 refine wps_region callOK ?_
 simp [zS, h0]
 repeat apply wq
 refine wps_region callOK ?_
 simp [zS, lt128, g194, l223, g224, l239, g240, l244, e224, e237, e240, e244]
 repeat apply wq
 refine wps_cf rfl ?_
 repeat apply wq
 refine wps_skip ?_
 simp
 repeat apply wq
 refine wps_region callOK ?_
 simp [zS]
 repeat apply wq
 refine wps_region callOK ?_
 simp [zS, lt128, g194, l223, g224, l239, g240, l244, e224, e237, e240, e244]
 repeat apply wq
 refine wps_cf rfl ?_
 repeat apply wq
 refine wps_skip ?_
 simp
 repeat apply wq
 refine wps_region callOK ?_
 simp [zS, lt128, g194, l223, g224, l239, g240, l244, e224, e237, e240, e244]
 repeat apply wq
 refine wps_cf rfl ?_
 repeat apply wq
 refine wps_skip ?_
 simp
 repeat apply wq
 refine wps_region callOK ?_
 simp [zS, lt128, g194, l223, g224, l239, g240, l244, e224, e237, e240, e244]
 repeat apply wq
 refine wps_ct rfl ?_
 repeat apply wq
 refine wps_region callOK ?_
 simp [zS]
 repeat apply wq
 refine wps_region callOK ?_
 simp [zS, lt128, g194, l223, g224, l239, g240, l244, e224, e237, e240, e244]
 repeat apply wq
 refine wps_cf rfl ?_
 repeat apply wq
 refine wps_skip ?_
 simp
 repeat apply wq
 refine wps_region callOK ?_
 simp [zS, lt128, g194, l223, g224, l239, g240, l244, e224, e237, e240, e244]
 repeat apply wq
 refine wps_cf rfl ?_
 repeat apply wq
 refine wps_skip ?_
 simp
 repeat apply wq
 refine wps_region callOK ?_
 simp [zS, lt128, g194, l223, g224, l239, g240, l244, e224, e237, e240, e244]
 repeat apply wq
 refine wps_cf rfl ?_
 repeat apply wq
 refine wps_skip ?_
 simp
 repeat apply wq
 refine wps_region callOK ?_
 simp [zS, lt128, g194, l223, g224, l239, g240, l244, e224, e237, e240, e244]
 repeat apply wq
 refine wps_ct rfl ?_
 repeat apply wq
 refine wps_region callOK ?_
 simp [zS]
 repeat apply wq
 refine wps_region callOK ?_
 simp [zS, lt128, g194, l223, g224, l239, g240, l244, e224, e237, e240, e244]
 repeat apply wq
 refine wps_cf rfl ?_
 repeat apply wq
 refine wps_skip ?_
 simp
 repeat apply wq
 refine wps_region callOK ?_
 simp [zS]
 repeat apply wq
 refine wps_block (wps_loop' (fun x : Nat × Nat × Nat × Nat => (⟨[0, 2, 3, 4, 5, 6, 7, 8], [aB s, .int .i64 0, .bool false, .int .u8 (c : Int), .int .i64 (moreN c : Nat), .int .u8 (x.2.2.1 : Nat), .int .u8 (x.2.2.2 : Nat), .int .i64 (x.2.1 : Nat)], [], 70, ⟨0, [[]]⟩⟩ : St))
  (fun x => x.2.1 + x.1 = moreN c + 1 ∧ 1 ≤ x.2.1 ∧ oneGo s x.1 x.2.1 x.2.2.1 x.2.2.2 = R) (fun x => x.1) [] [] (moreN c, 1, loN c, hiN c) ⟨by simp only; omega, Nat.le_refl _, hRe.symm⟩ ⟨rfl, rfl, rfl, by simp [fitL, fitV, pureV, pureL, aB, hm, hlo, hhi, e244], FitH.nothing⟩ ?_)
 rintro ⟨k, i, lo, hi⟩ ⟨hk, hi1, hg⟩ B hB
 simp only at hk hi1 hg hB
 clear hRe
 cases k with
 | zero =>
  have hx : ¬ (i : Int) ≤ (moreN c : Int) := by omega
  repeat apply wq
  refine wps_region callOK ?_
  simp [zS, hx]
  repeat apply wq
  refine wps_cf (by simp [opnd, St.get, hx]) ?_
  repeat apply wq
  refine wps_exit ?_
  simp
  have ha := add_one (show moreN c ≤ 1000000000 by omega)
  repeat apply wq
  refine wps_region callOK ?_
  simp [zS, ha]
  repeat apply wq
  refine wps_ret ?_
  simp [retVal, Tryz.f124, oneOr, thenQ, blockQ]
  exact ends_pure rfl (by rw [← hg, show i = moreN c + 1 by omega]; simp [oneA, oneGo])
 | succ k =>
  have hx : (i : Int) ≤ (moreN c : Int) := by omega
  repeat apply wq
  refine wps_region callOK ?_
  simp [zS, hx]
  repeat apply wq
  refine wps_ct (by simp [opnd, St.get, hx]) ?_
  repeat apply wq
  refine wps_skip ?_
  simp
  repeat apply wq
  refine wps_block ?_
  have fail : contN s i lo hi = false → R = (i, false) := fun h => by rw [← hg]; simp [oneGo, h]
  by_cases q1 : i < s.length
  ·have p1 : ¬ (s.length : Int) ≤ (i : Int) := by omega
   have p1' : ¬ s.length ≤ i := by omega
   have ha := atB (s := s) q1
   rw [cN_get q1] at ha
   by_cases q2 : (cN s i : Int) < (lo : Int)
   ·have q2' : cN s i < lo := by omega
    repeat apply wq
    refine wps_region callOK ?_
    simp [zS, lenB, p1, p1', ha, q2, q2']
    repeat apply wq
    refine wps_ct rfl ?_
    repeat apply wq
    refine wps_region callOK ?_
    simp [zS]
    repeat apply wq
    refine wps_ret ?_
    simp [retVal, Tryz.f124, oneOr, thenQ, blockQ]
    exact ends_pure rfl (by rw [fail (by simp [contN, q1]; omega)]; simp [oneA])
   ·have q2' : ¬ cN s i < lo := by omega
    by_cases q3 : (hi : Int) < (cN s i : Int)
    ·have q3' : hi < cN s i := by omega
     repeat apply wq
     refine wps_region callOK ?_
     simp [zS, lenB, p1, p1', ha, q2, q3, q2', q3']
     repeat apply wq
     refine wps_ct rfl ?_
     repeat apply wq
     refine wps_region callOK ?_
     simp [zS]
     repeat apply wq
     refine wps_ret ?_
     simp [retVal, Tryz.f124, oneOr, thenQ, blockQ]
     exact ends_pure rfl (by rw [fail (by simp [contN, q1]; omega)]; simp [oneA])
    ·have q3' : ¬ hi < cN s i := by omega
     repeat apply wq
     refine wps_region callOK ?_
     simp [zS, lenB, p1, p1', ha, q2, q3, q2', q3']
     repeat apply wq
     refine wps_cf rfl ?_
     repeat apply wq
     refine wps_skip ?_
     simp
     repeat apply wq
     refine wps_region callOK ?_
     simp [zS]
     repeat apply wq
     refine wps_region callOK ?_
     simp [zS, add_one (show i ≤ 1000000000 by omega)]
     have hcn : contN s i lo hi = true := by simp [contN, q1]; omega
     refine hB _ (k, i + 1, 128, 191) (by simp only; omega) ⟨by simp only; omega, by simp only; omega, by simp only; rw [← hg]; simp [oneGo, hcn]⟩ ⟨[], [], ⟨rfl, rfl, rfl, by simp [fitL, fitV, pureV, pureL, aB], FitH.nothing⟩⟩
  ·have p1 : (s.length : Int) ≤ (i : Int) := by omega
   have p1' : s.length ≤ i := by omega
   repeat apply wq
   refine wps_region callOK ?_
   simp [zS, lenB, p1, p1']
   repeat apply wq
   refine wps_ct rfl ?_
   repeat apply wq
   refine wps_region callOK ?_
   simp [zS]
   repeat apply wq
   refine wps_ret ?_
   simp [retVal, Tryz.f124, oneOr, thenQ, blockQ]
   exact ends_pure rfl (by rw [fail (by simp [contN]; omega)]; simp [oneA])
theorem one_c10 {T : List (Entry Tryz.prog)} (s : Str) (hl : s.length ≤ 1000000) (h0 : indexAddrA Tryz.prog 47 (aB s) (.int .i64 0) = some (.fptr [.int .u8 (cN s 0 : Int)] 0)) (hb : cN s 0 < 256) (R : Nat × Bool) (hRe : R = oneR s) (h : 245 ≤ cN s 0) : CallAt (ctx T) 124 [aB s] ⟨0, []⟩ (oneA R) ⟨0, []⟩ := by
 rw [show oneR s = if cN s 0 < 128 then (1, true) else if moreN (cN s 0) = 0 then (1, false) else oneGo s (moreN (cN s 0)) 1 (loN (cN s 0)) (hiN (cN s 0)) from rfl] at hRe
 obtain ⟨c, hc⟩ : ∃ c, c = cN s 0 := ⟨_, rfl⟩
 rw [← hc] at hRe h0 hb h
 have h3 := moreN_le c
 have lt128 : ¬ (c : Int) < 128 := by omega
 have g194 : (194 : Int) ≤ c := by omega
 have l223 : ¬ (c : Int) ≤ 223 := by omega
 have g224 : (224 : Int) ≤ c := by omega
 have l239 : ¬ (c : Int) ≤ 239 := by omega
 have g240 : (240 : Int) ≤ c := by omega
 have l244 : ¬ (c : Int) ≤ 244 := by omega
 have e224 : ¬ (c : Int) = 224 := by omega
 have e237 : ¬ (c : Int) = 237 := by omega
 have e240 : ¬ (c : Int) = 240 := by omega
 have e244 : ¬ (c : Int) = 244 := by omega
 have hm : moreN c = 0 := by unfold moreN; repeat (split <;> try omega)
 have hlo : loN c = 128 := by unfold loN; repeat (split <;> try omega)
 have hhi : hiN c = 191 := by unfold hiN; repeat (split <;> try omega)
 refine callAt_body (fn := Tryz.f124) (s0 := ⟨[0, 2, 3, 4, 5, 6, 7, 8], [aB s, .undef, .undef, .undef, .undef, .undef, .undef, .undef], [], 70, ⟨0, [[]]⟩⟩) Tryz.func124 rfl rfl rfl ?_
 (repeat (first
  | (refine wps_seq ?_)
  | (refine wps_block ?_)
  | (refine wps_label ?_; simp only [thenQ, blockQ])
  | ((refine wps_region callOK ?_); simp [zS, h0, lt128, g194, l223, g224, l239, g240, l244, e224, e237, e240, e244])
  | (refine wps_ct rfl ?_)
  | (refine wps_cf rfl ?_)
  | ((refine wps_skip ?_); simp only [thenQ, blockQ])
  | ((refine wps_exit ?_); simp [thenQ, blockQ])))
 repeat apply wq
 refine wps_ret ?_
 simp [retVal, Tryz.f124, oneOr, thenQ, blockQ]
 exact ends_pure rfl (by rw [hRe, if_neg (by omega), if_pos hm]; simp [oneA])
theorem c124 {T : List (Entry Tryz.prog)} (s : Str) (hne : 0 < s.length) (hl : s.length ≤ 1000000) : CallAt (ctx T) 124 [aB s] ⟨0, []⟩ (oneA (oneR s)) ⟨0, []⟩ := by
 have h0 := atB (s := s) (i := 0) hne
 rw [cN_get hne] at h0
 simp only [Int.ofNat_zero, Int.cast_ofNat_Int, Int.natCast_zero] at h0
 have hb := (s[0]'hne).toNat_lt
 rw [cN_get hne] at hb
 have cls : (cN s 0 < 128) ∨ (128 ≤ cN s 0 ∧ cN s 0 < 194) ∨ (194 ≤ cN s 0 ∧ cN s 0 < 224) ∨ (cN s 0 = 224) ∨ (225 ≤ cN s 0 ∧ cN s 0 < 237) ∨ (cN s 0 = 237) ∨ (238 ≤ cN s 0 ∧ cN s 0 < 240) ∨ (cN s 0 = 240) ∨ (241 ≤ cN s 0 ∧ cN s 0 < 244) ∨ (cN s 0 = 244) ∨ (245 ≤ cN s 0) := by omega
 rcases cls with h | h | h | h | h | h | h | h | h | h | h
 ·exact one_c0 s hl h0 hb _ rfl h
 ·exact one_c1 s hl h0 hb _ rfl h
 ·exact one_c2 s hl h0 hb _ rfl h
 ·exact one_c3 s hl h0 hb _ rfl h
 ·exact one_c4 s hl h0 hb _ rfl h
 ·exact one_c5 s hl h0 hb _ rfl h
 ·exact one_c6 s hl h0 hb _ rfl h
 ·exact one_c7 s hl h0 hb _ rfl h
 ·exact one_c8 s hl h0 hb _ rfl h
 ·exact one_c9 s hl h0 hb _ rfl h
 ·exact one_c10 s hl h0 hb _ rfl h
noncomputable def e124 : Entry Tryz.prog := mkE 124 [[1]] (fun x : Str => [aB x]) (fun x => 0 < x.length ∧ x.length ≤ 1000000) (fun x => oneA (oneR x)) fun x h => c124 (T := []) x h.1 h.2
theorem k124 {T : List (Entry Tryz.prog)} (hT : findE 124 T = some e124.g) {s : Str} (h1 : 0 < s.length) (h2 : s.length ≤ 1000000) (H : Heap) : callL (ctx T) (.fn 124) [aB s] H = some (oneA (oneR s), H) :=
 mkE_scalar hT inj_b1 s ⟨h1, h2⟩ rfl (by simp [aB])
end Go.Proofs.YtfncefamflainaaGreatDoor