/- The library's Builder: String. No condition. -/
import Derived.Test.YtfncefamflainaaGreatDoorML
import Derived.Test.YtfncefamflainaaGreatDoorMM
import Derived.Test.YtfncefamflainaaGreatDoorMI
import Derived.Shelf.Strconv.AtoiAll
import Derived.Shelf.Strconv.Itoa3
import Derived.Test.YtfncefamflainaaGreatDoorProg
import Derived.Lib.ItoaLen
import Derived.Test.YtfncefamflainaaGreatDoorMK
import Derived.Lib.Builder
namespace Go.Proofs.YtfncefamflainaaGreatDoor
set_option linter.unusedSimpArgs false
set_option linter.unusedVariables false
open Go Go.RowKit
set_option maxRecDepth 100000
def wordsB (L : List Str) (most : Nat) : Bool := decide (L.length ≤ most) && L.all fun s => decide (s.length ≤ 100)
theorem c14 {T : List (Entry Tryz.prog)} (L : List Str) (most : Nat) (hm : most ≤ 1000000) : CallAt (ctx T) 14 [aStrs L, .int .i64 (most : Int)] ⟨0, []⟩ (.bool (wordsB L most)) ⟨0, []⟩ := by
 by_cases h : L.length ≤ most
 ·have h1 : ¬ (most : Int) < (L.length : Int) := by omega
  have h2 : ¬ most < L.length := by omega
  have e : wordsB L most = L.all fun s => decide (s.length ≤ 100) := by unfold wordsB; rw [decide_eq_true h, Bool.true_and]
  rw [e]
  refine callAt_body (fn := Tryz.f14) (s0 := ⟨[0, 1, 4, 6, 11, 12, 13], [aStrs L, .int .i64 (most : Int), .undef, .undef, .undef, .undef, .undef], [], 21, ⟨0, [[]]⟩⟩) Tryz.func14 rfl rfl rfl ?_
  repeat apply wq
  refine wps_region callOK ?_
  simp [zS]
  repeat apply wq
  refine wps_region callOK ?_
  simp [zS, lenS, h1, h2]
  repeat apply wq
  refine wps_cf (by simp [opnd, St.get, h2]) ?_
  repeat apply wq
  refine wps_skip ?_
  simp
  repeat apply wq
  refine wps_region callOK ?_
  simp [zS, lenS]
  repeat apply wq
  refine wps_block (wps_loop' (fun i : Nat => (⟨[0, 1, 4, 6, 11, 12, 13], [aStrs L, .int .i64 (most : Int), .bool false, .undef, aStrs L, .int .i64 (L.length : Nat), .int .i64 i], [], 21, ⟨0, [[]]⟩⟩ : St))
   (fun i => i ≤ L.length ∧ ((L.drop i).all fun s => decide (s.length ≤ 100)) = L.all fun s => decide (s.length ≤ 100)) (fun i => L.length - i) [] [] 0 ⟨Nat.zero_le _, rfl⟩ ⟨rfl, rfl, rfl, by simp [fitL, fitV, pureV, pureL, aStrs], FitH.nothing⟩ ?_)
  rintro i ⟨hi, ha⟩ B hB
  repeat apply wq
  refine wps_region callOK ?_
  simp [zS]
  repeat apply wq
  refine wps_cond rfl (fun h => ?_) fun h => ?_
  ·simp at h
   rw [all_at h] at ha
   repeat apply wq
   refine wps_skip ?_
   simp
   repeat apply wq
   refine wps_block ?_
   repeat apply wq
   refine wps_region callOK ?_
   simp [zS, atS h]
   by_cases q : (100 : Int) < (L[i].length : Int)
   ·repeat apply wq
    refine wps_region callOK ?_
    simp [zS, q]
    repeat apply wq
    refine wps_ct rfl ?_
    repeat apply wq
    refine wps_region callOK ?_
    simp [zS]
    repeat apply wq
    refine wps_ret ?_
    simp [retVal, Tryz.f14, oneOr, thenQ, blockQ]
    exact ends_pure rfl (by rw [← ha, decide_eq_false (show ¬ L[i].length ≤ 100 by omega)]; simp)
   ·repeat apply wq
    refine wps_region callOK ?_
    simp [zS, q]
    repeat apply wq
    refine wps_cf rfl ?_
    repeat apply wq
    refine wps_skip ?_
    simp
    repeat apply wq
    refine wps_region callOK ?_
    simp [zS, add_one (show i ≤ 1000000000 by omega)]
    exact hB _ (i + 1) (by omega) ⟨by omega, by rw [← ha, decide_eq_true (show L[i].length ≤ 100 by omega), Bool.true_and]⟩ ⟨[], [], ⟨rfl, rfl, rfl, by simp [fitL, fitV, pureV, pureL, aStrs], FitH.nothing⟩⟩
  ·simp at h
   rw [List.drop_eq_nil_of_le h] at ha
   repeat apply wq
   refine wps_exit ?_
   simp
   repeat apply wq
   refine wps_region callOK ?_
   simp [zS]
   repeat apply wq
   refine wps_ret ?_
   simp [retVal, Tryz.f14, oneOr, thenQ, blockQ]
   exact ends_pure rfl (by rw [← ha]; rfl)
 ·have h1 : (most : Int) < (L.length : Int) := by omega
  have h2 : most < L.length := by omega
  refine callAt_body (fn := Tryz.f14) (s0 := ⟨[0, 1, 4, 6, 11, 12, 13], [aStrs L, .int .i64 (most : Int), .undef, .undef, .undef, .undef, .undef], [], 21, ⟨0, [[]]⟩⟩) Tryz.func14 rfl rfl rfl ?_
  repeat apply wq
  refine wps_region callOK ?_
  simp [zS]
  repeat apply wq
  refine wps_region callOK ?_
  simp [zS, lenS, h1, h2]
  repeat apply wq
  refine wps_ct (by simp [opnd, St.get, h2]) ?_
  repeat apply wq
  refine wps_region callOK ?_
  simp [zS]
  repeat apply wq
  refine wps_ret ?_
  simp [retVal, Tryz.f14, oneOr, thenQ, blockQ]
  exact ends_pure rfl (by simp [wordsB]; intro; omega)
theorem injSN (x y : List Str × Nat) (h : [aStrs x.1, AV.int .i64 (x.2 : Int)] = [aStrs y.1, AV.int .i64 (y.2 : Int)]) : x = y := by
 simp only [List.cons.injEq, AV.int.injEq, true_and, and_true] at h
 exact Prod.ext (inj_strs h.1) (by omega)
noncomputable def e14 : Entry Tryz.prog := mkE 14 [[1], []] (fun x : List Str × Nat => [aStrs x.1, .int .i64 (x.2 : Int)]) (fun x => x.2 ≤ 1000000) (fun x => .bool (wordsB x.1 x.2)) fun x h => c14 (T := []) x.1 x.2 h
theorem k14 {T : List (Entry Tryz.prog)} (hT : findE 14 T = some e14.g) (L : List Str) {most : Nat} (hm : most ≤ 1000000) (H : Heap) : callL (ctx T) (.fn 14) [aStrs L, .int .i64 (most : Int)] H = some (.bool (wordsB L most), H) :=
 mkE_scalar hT injSN (L, most) hm rfl (by simp [aStrs])
def plainP (p : PolR) : Bool := decide (p.pre.length ≤ 40) && (wordsB p.res 250 && (wordsB p.els 250 && (wordsB p.ats 250 && wordsB p.sch 250)))
theorem c5 {T : List (Entry Tryz.prog)} (hW : findE 14 T = some e14.g) (p : PolR) : CallAt (ctx T) 5 [polA p] ⟨0, []⟩ (.bool (plainP p)) ⟨0, []⟩ := by
 have w0 := fun L H => k14 hW L (most := 250) (by omega) H
 simp only [Int.cast_ofNat_Int] at w0
 have e : plainP p = (decide (p.pre.length ≤ 40) && (wordsB p.res 250 && (wordsB p.els 250 && (wordsB p.ats 250 && wordsB p.sch 250)))) := rfl
 rw [e]
 have o0 : getL (polC p) 0 = some (.str p.pre) := rfl
 have o1 : getL (polC p) 1 = some (aStrs p.res) := rfl
 have o2 : getL (polC p) 2 = some (aStrs p.els) := rfl
 have o3 : getL (polC p) 3 = some (aStrs p.ats) := rfl
 have o4 : getL (polC p) 4 = some (aStrs p.sch) := rfl
 have hsg : allSingle (polC p) = true := by simp [polC, allSingle, AV.single]
 simp only [polA]
 generalize polC p = C at *
 have w1 := w0 p.res
 have w2 := w0 p.els
 have w3 := w0 p.ats
 have w4 := w0 p.sch
 clear w0
 generalize wordsB p.res 250 = b1 at *
 generalize wordsB p.els 250 = b2 at *
 generalize wordsB p.ats 250 = b3 at *
 generalize wordsB p.sch 250 = b4 at *
 by_cases h : p.pre.length ≤ 40
 ·have h1 : (p.pre.length : Int) ≤ 40 := by omega
  rw [decide_eq_true h]
  refine callAt_body (fn := Tryz.f5) (s0 := ⟨[0, 1, 2], [.agg C, .undef, .undef], [], 27, ⟨0, [[]]⟩⟩) Tryz.func5 rfl rfl rfl ?_
  repeat apply wq
  refine wps_region callOK ?_
  simp [zS, hsg]
  rcases Bool.eq_false_or_eq_true (b1) with c1 | c1
  rotate_left
  ·repeat apply wq
   refine wps_region callOK ?_
   simp [zS, o0, o1, o2, o3, o4, h1, w1, w2, w3, w4, c1]
   repeat apply wq
   refine wps_ret ?_
   simp [retVal, Tryz.f5, oneOr, thenQ, blockQ]
   exact ends_pure rfl (by simp [c1])
  ·rcases Bool.eq_false_or_eq_true (b2) with c2 | c2
   rotate_left
   ·repeat apply wq
    refine wps_region callOK ?_
    simp [zS, o0, o1, o2, o3, o4, h1, w1, w2, w3, w4, c1, c2]
    repeat apply wq
    refine wps_ret ?_
    simp [retVal, Tryz.f5, oneOr, thenQ, blockQ]
    exact ends_pure rfl (by simp [c1, c2])
   ·rcases Bool.eq_false_or_eq_true (b3) with c3 | c3
    rotate_left
    ·repeat apply wq
     refine wps_region callOK ?_
     simp [zS, o0, o1, o2, o3, o4, h1, w1, w2, w3, w4, c1, c2, c3]
     repeat apply wq
     refine wps_ret ?_
     simp [retVal, Tryz.f5, oneOr, thenQ, blockQ]
     exact ends_pure rfl (by simp [c1, c2, c3])
    ·rcases Bool.eq_false_or_eq_true (b4) with c4 | c4
     rotate_left
     ·repeat apply wq
      refine wps_region callOK ?_
      simp [zS, o0, o1, o2, o3, o4, h1, w1, w2, w3, w4, c1, c2, c3, c4]
      repeat apply wq
      refine wps_ret ?_
      simp [retVal, Tryz.f5, oneOr, thenQ, blockQ]
      exact ends_pure rfl (by simp [c1, c2, c3, c4])
     ·repeat apply wq
      refine wps_region callOK ?_
      simp [zS, o0, o1, o2, o3, o4, h1, w1, w2, w3, w4, c1, c2, c3, c4]
      repeat apply wq
      refine wps_ret ?_
      simp [retVal, Tryz.f5, oneOr, thenQ, blockQ]
      exact ends_pure rfl (by simp [c1, c2, c3, c4])
 ·have h1 : ¬ (p.pre.length : Int) ≤ 40 := by omega
  rw [decide_eq_false h]
  refine callAt_body (fn := Tryz.f5) (s0 := ⟨[0, 1, 2], [.agg C, .undef, .undef], [], 27, ⟨0, [[]]⟩⟩) Tryz.func5 rfl rfl rfl ?_
  repeat apply wq
  refine wps_region callOK ?_
  simp [zS, hsg]
  repeat apply wq
  refine wps_region callOK ?_
  simp [zS, o0, h1]
  repeat apply wq
  refine wps_ret ?_
  simp [retVal, Tryz.f5, oneOr, thenQ, blockQ]
  exact ends_pure rfl (by simp)
theorem words_ok {L : List Str} (h : wordsB L 250 = true) : L.length ≤ 200000 ∧ ∀ s, s ∈ L → s.length ≤ 200000 := by
 simp only [wordsB, Bool.and_eq_true, decide_eq_true_eq, List.all_eq_true] at h
 exact ⟨by omega, fun s hs => by have := h.2 s hs; omega⟩
theorem plain_ok {p : PolR} (h : plainP p = true) : PolOk p := by
 simp only [plainP, Bool.and_eq_true, decide_eq_true_eq] at h
 obtain ⟨h0, h1, h2, h3, h4⟩ := h
 exact ⟨by omega, ⟨(words_ok h1).1, (words_ok h2).1, (words_ok h3).1, (words_ok h4).1⟩, ⟨(words_ok h1).2, (words_ok h2).2, (words_ok h3).2, (words_ok h4).2⟩⟩
def laysC_172_ren : Go.Shelf.Ren := ⟨fun | 129 => 120 | 171 => 29 | 172 => 46 | 205 => 113 | 243 => 59 | 244 => 71 | 245 => 72 | 246 => 83 | 247 => 92 | 279 => 93 | 280 => 94 | 281 => 95 | 282 => 96 | 283 => 103 | 284 => 104 | 285 => 105 | 286 => 106 | 287 => 111 | 316 => 112 | 317 => 119 | 318 => 121 | 319 => 122 | 320 => 123 | 321 => 127 | 322 => 128 | 337 => 130 | 338 => 131 | n => n, fun | 0 => 0 | 2 => 2 | 3 => 3 | 4 => 4 | 5 => 5 | 9 => 9 | 20 => 20 | 21 => 21 | 37 => 47 | 46 => 96 | 51 => 119 | 53 => 113 | 75 => 51 | 76 => 52 | 85 => 98 | 127 => 79 | 143 => 141 | 145 => 143 | 167 => 97 | 168 => 100 | 171 => 112 | 173 => 116 | 175 => 122 | 210 => 126 | 212 => 135 | 213 => 136 | 232 => 146 | 233 => 147 | 80 => 65 | n => n, fun | 15 => 3 | 16 => 4 | 17 => 5 | 18 => 6 | 19 => 7 | n => n⟩
theorem laysC_172 : Go.Proofs.LaysC.n172 Tryz.prog laysC_172_ren where
 mixed := by kernel_rfl
 f129 := Tryz.func120.trans (congrArg some (by kernel_rfl))
 f171 := Tryz.func29.trans (congrArg some (by kernel_rfl))
 f172 := Tryz.func46.trans (congrArg some (by kernel_rfl))
 f205 := Tryz.func113.trans (congrArg some (by kernel_rfl))
 f243 := Tryz.func59.trans (congrArg some (by kernel_rfl))
 f244 := Tryz.func71.trans (congrArg some (by kernel_rfl))
 f245 := Tryz.func72.trans (congrArg some (by kernel_rfl))
 f246 := Tryz.func83.trans (congrArg some (by kernel_rfl))
 f247 := Tryz.func92.trans (congrArg some (by kernel_rfl))
 f279 := Tryz.func93.trans (congrArg some (by kernel_rfl))
 f280 := Tryz.func94.trans (congrArg some (by kernel_rfl))
 f281 := Tryz.func95.trans (congrArg some (by kernel_rfl))
 f282 := Tryz.func96.trans (congrArg some (by kernel_rfl))
 f283 := Tryz.func103.trans (congrArg some (by kernel_rfl))
 f284 := Tryz.func104.trans (congrArg some (by kernel_rfl))
 f285 := Tryz.func105.trans (congrArg some (by kernel_rfl))
 f286 := Tryz.func106.trans (congrArg some (by kernel_rfl))
 f287 := Tryz.func111.trans (congrArg some (by kernel_rfl))
 f316 := Tryz.func112.trans (congrArg some (by kernel_rfl))
 f317 := Tryz.func119.trans (congrArg some (by kernel_rfl))
 f318 := Tryz.func121.trans (congrArg some (by kernel_rfl))
 f319 := Tryz.func122.trans (congrArg some (by kernel_rfl))
 f320 := Tryz.func123.trans (congrArg some (by kernel_rfl))
 f321 := Tryz.func127.trans (congrArg some (by kernel_rfl))
 f322 := Tryz.func128.trans (congrArg some (by kernel_rfl))
 f337 := Tryz.func130.trans (congrArg some (by kernel_rfl))
 f338 := Tryz.func131.trans (congrArg some (by kernel_rfl))
 t0 := Tryz.underlying0
 a0 := Tryz.isAgg0
 z0 := Tryz.sizeOf0
 v0 := Tryz.zeroValue0
 t2 := Tryz.underlying2
 a2 := Tryz.isAgg2
 z2 := Tryz.sizeOf2
 v2 := Tryz.zeroValue2
 t3 := Tryz.underlying3
 a3 := Tryz.isAgg3
 z3 := Tryz.sizeOf3
 v3 := Tryz.zeroValue3
 t4 := Tryz.underlying4
 a4 := Tryz.isAgg4
 z4 := Tryz.sizeOf4
 v4 := Tryz.zeroValue4
 t5 := Tryz.underlying5
 a5 := Tryz.isAgg5
 z5 := Tryz.sizeOf5
 v5 := Tryz.zeroValue5
 t9 := Tryz.underlying9
 a9 := Tryz.isAgg9
 z9 := Tryz.sizeOf9
 v9 := Tryz.zeroValue9
 t20 := Tryz.underlying20
 a20 := Tryz.isAgg20
 z20 := Tryz.sizeOf20
 v20 := Tryz.zeroValue20
 t21 := Tryz.underlying21
 a21 := Tryz.isAgg21
 z21 := Tryz.sizeOf21
 v21 := Tryz.zeroValue21
 t37 := Tryz.underlying47
 a37 := Tryz.isAgg47
 z37 := Tryz.sizeOf47
 v37 := Tryz.zeroValue47
 t46 := Tryz.underlying96
 a46 := Tryz.isAgg96
 z46 := Tryz.sizeOf96
 v46 := Tryz.zeroValue96
 t51 := Tryz.underlying119
 a51 := Tryz.isAgg119
 z51 := Tryz.sizeOf119
 v51 := Tryz.zeroValue119
 t53 := Tryz.underlying113
 a53 := Tryz.isAgg113
 z53 := Tryz.sizeOf113
 v53 := Tryz.zeroValue113
 t75 := Tryz.underlying51
 a75 := Tryz.isAgg51
 z75 := Tryz.sizeOf51
 v75 := Tryz.zeroValue51
 t76 := Tryz.underlying52
 a76 := Tryz.isAgg52
 z76 := Tryz.sizeOf52
 v76 := Tryz.zeroValue52
 t85 := Tryz.underlying98
 a85 := Tryz.isAgg98
 z85 := Tryz.sizeOf98
 v85 := Tryz.zeroValue98
 t127 := Tryz.underlying79
 a127 := Tryz.isAgg79
 z127 := Tryz.sizeOf79
 v127 := Tryz.zeroValue79
 t143 := Tryz.underlying141
 a143 := Tryz.isAgg141
 z143 := Tryz.sizeOf141
 v143 := Tryz.zeroValue141
 t145 := Tryz.underlying143
 a145 := Tryz.isAgg143
 z145 := Tryz.sizeOf143
 v145 := Tryz.zeroValue143
 t167 := Tryz.underlying97
 a167 := Tryz.isAgg97
 z167 := Tryz.sizeOf97
 v167 := Tryz.zeroValue97
 t168 := Tryz.underlying100
 a168 := Tryz.isAgg100
 z168 := Tryz.sizeOf100
 v168 := Tryz.zeroValue100
 t171 := Tryz.underlying112
 a171 := Tryz.isAgg112
 z171 := Tryz.sizeOf112
 v171 := Tryz.zeroValue112
 t173 := Tryz.underlying116
 a173 := Tryz.isAgg116
 z173 := Tryz.sizeOf116
 v173 := Tryz.zeroValue116
 t175 := Tryz.underlying122
 a175 := Tryz.isAgg122
 z175 := Tryz.sizeOf122
 v175 := Tryz.zeroValue122
 t210 := Tryz.underlying126
 a210 := Tryz.isAgg126
 z210 := Tryz.sizeOf126
 v210 := Tryz.zeroValue126
 t212 := Tryz.underlying135
 a212 := Tryz.isAgg135
 z212 := Tryz.sizeOf135
 v212 := Tryz.zeroValue135
 t213 := Tryz.underlying136
 a213 := Tryz.isAgg136
 z213 := Tryz.sizeOf136
 t232 := Tryz.underlying146
 a232 := Tryz.isAgg146
 z232 := Tryz.sizeOf146
 v232 := Tryz.zeroValue146
 t233 := Tryz.underlying147
 a233 := Tryz.isAgg147
 z233 := Tryz.sizeOf147
 v233 := Tryz.zeroValue147
 g15 := by kernel_rfl
 g16 := by kernel_rfl
 g17 := by kernel_rfl
 g18 := by kernel_rfl
 g19 := by kernel_rfl
 t80 := Tryz.underlying65
 a80 := Tryz.isAgg65
 z80 := Tryz.sizeOf65
 v80 := Tryz.zeroValue65
 i0 := by kernel_rfl
 i2 := by kernel_rfl
 i3 := by kernel_rfl
 i4 := by kernel_rfl
 i5 := by kernel_rfl
 i9 := by kernel_rfl
 i20 := by kernel_rfl
 i21 := by kernel_rfl
 i37 := by kernel_rfl
 i46 := by kernel_rfl
 i51 := by kernel_rfl
 i53 := by kernel_rfl
 i75 := by kernel_rfl
 i76 := by kernel_rfl
 i80 := by kernel_rfl
 i85 := by kernel_rfl
 i127 := by kernel_rfl
 i143 := by kernel_rfl
 i145 := by kernel_rfl
 i167 := by kernel_rfl
 i168 := by kernel_rfl
 i171 := by kernel_rfl
 i173 := by kernel_rfl
 i175 := by kernel_rfl
 i210 := by kernel_rfl
 i212 := by kernel_rfl
 i232 := by kernel_rfl
 i233 := by kernel_rfl
 m15 := by kernel_rfl
 m16 := by kernel_rfl
 m17 := by kernel_rfl
 m18 := by kernel_rfl
 m19 := by kernel_rfl
 c0 := by kernel_rfl
 c2 := by kernel_rfl
 c3 := by kernel_rfl
 c4 := by kernel_rfl
 c5 := by kernel_rfl
 c9 := by kernel_rfl
 c20 := by kernel_rfl
 c21 := by kernel_rfl
 c37 := by kernel_rfl
 c46 := by kernel_rfl
 c51 := by kernel_rfl
 c53 := by kernel_rfl
 c75 := by kernel_rfl
 c76 := by kernel_rfl
 c80 := by kernel_rfl
 c85 := by kernel_rfl
 c127 := by kernel_rfl
 c143 := by kernel_rfl
 c145 := by kernel_rfl
 c167 := by kernel_rfl
 c168 := by kernel_rfl
 c171 := by kernel_rfl
 c173 := by kernel_rfl
 c175 := by kernel_rfl
 c210 := by kernel_rfl
 c212 := by kernel_rfl
 c213 := by kernel_rfl
 c232 := by kernel_rfl
 c233 := by kernel_rfl
theorem sim_below {ρ : Place} {w w' : World} (sm : Sim ρ ⟨0, []⟩ w) (h : Below w.heap.size w w') : Sim ρ ⟨0, []⟩ w' where
 base := fun k hk => Nat.lt_of_lt_of_le (sm.base k hk) h.size
 below := fun k hk => (h.block k (sm.base k hk)).trans (sm.below k hk)
 os := h.os.trans sm.os
 tape := h.tape.trans sm.tape
 output := h.output.trans sm.output
 dom := sm.dom
 nodup := sm.nodup
 live := fun e he => by simp [Heap.ents] at he
 inj := fun e e' he => by simp [Heap.ents] at he
theorem step_below {ρ : Place} {w w' : World} (h : Below w.heap.size w w') : Step ρ ⟨0, []⟩ w ρ ⟨0, []⟩ w' where
 le := Place.le_refl ρ
 size := h.size
 keeps := fun k hk _ => h.block k hk
 rows := fun e' he' => by simp [Heap.ents] at he'
 num := Nat.le_refl _
 low := fun _ _ => rfl
 cold := fun k hk => .inl hk
def atoiA (s : Str) : AV := match Lib.atoiAll s with
 | .ok v => .tup [.int .i64 v, .nilI]
 | .range => .tup [.int .i64 (Lib.atoiSat s), .iface 100 .undef]
 | _ => .tup [.int .i64 0, .iface 100 .undef]
theorem vr_pair {ρ : Place} {a b : AV} {x y : Value} (h1 : VR ρ a x) (h2 : VR ρ b y) : VR ρ (.tup [a, b]) (.tuple #[x, y]) := by
 refine .tup _ _ rfl fun i h h' => ?_
 match i, h with
 | 0, _ => exact h1
 | 1, _ => exact h2
theorem c46 {T : List (Entry Tryz.prog)} (s : Str) (hl : s.length ≤ 1000000) : CallAt (ctx T) 46 [.str s] ⟨0, []⟩ (atoiA s) ⟨0, []⟩ := by
 intro ρ w xs sm hx
 match xs, hx with
 | [x], hx =>
  have h0 := hx.2 0 (by simp) (by simp)
  simp only [List.getElem_cons_zero] at h0
  cases h0
  have hrun : (callFunc 46 #[.string ⟨s.toArray⟩]).run (ctx T).P w = .ok (.enter 46 #[.string ⟨s.toArray⟩]) w := by
   have hf : (ctx T).P.funcs[46]? = some Tryz.f46 := Tryz.func46
   have hn : ¬ Tryz.f46.name = "runtime.NumGoroutine" := by decide +kernel
   simp [callFunc, hf, hn, Tryz.f46]
  refine .inr ⟨46, _, hrun, callsIn_wide.2 ?_⟩
  have cell : ∀ g, g ∈ ivars → ∃ v, w.cell? ⟨g, 0, none⟩ = some v ∧ isIf v := fun g hg => by
   obtain ⟨hB, v, hv, hi⟩ := ρ.gi g hg
   exact ⟨v, by rw [World.cell?, sm.below g hB]; exact hv, hi⟩
  have hsz : (⟨s.toArray⟩ : ByteArray).size = s.length := by show s.toArray.size = _; simp
  have hd : (⟨s.toArray⟩ : ByteArray).data.toList = s := by simp
  unfold atoiA
  cases hv : Lib.atoiAll s
  case ok v =>
   have := Go.Proofs.Any.strconv_Atoi_ok laysC_172 ⟨s.toArray⟩ (by rw [hsz]; omega) v (by rw [hd]; exact hv) w
   refine this.mono ?_
   rintro e w' ⟨rfl, hw⟩
   have hb : Below w.heap.size w w' := by
    rcases hw with rfl | ⟨t, rfl⟩
    ·exact Below.refl _ _
    ·exact Lib.bytesWorld_below _ _ _
   exact ⟨_, ρ, rfl, vr_pair (.int _ _) .nilI, sim_below sm hb, step_below hb⟩
  case range =>
   obtain ⟨ev, h1, h2⟩ := cell 4 (by simp [ivars])
   have := Go.Proofs.Any.strconv_Atoi_range laysC_172 ⟨s.toArray⟩ (by rw [hsz]; omega) (by rw [hd]; exact hv) ev w h1 h2
   refine this.mono ?_
   rintro e w' ⟨N, rfl, _, _, hb⟩
   rw [hd]
   exact ⟨_, ρ, rfl, vr_pair (.int _ _) (.iface _ _ _ (.undef _)), sim_below sm hb, step_below hb⟩
  ·obtain ⟨ev, h1, h2⟩ := cell 3 (by simp [ivars])
   have := Go.Proofs.Any.strconv_Atoi_syntax laysC_172 ⟨s.toArray⟩ (by rw [hsz]; omega) (by rw [hd]; exact hv) ev w h1 h2
   refine this.mono ?_
   rintro e w' ⟨N, rfl, _, _, hb⟩
   exact ⟨_, ρ, rfl, vr_pair (.int _ _) (.iface _ _ _ (.undef _)), sim_below sm hb, step_below hb⟩
theorem inj_str1 (x y : Str) (h : [AV.str x] = [AV.str y]) : x = y := by simpa using h
noncomputable def e46 : Entry Tryz.prog := mkE 46 [[]] (fun x : Str => [.str x]) (fun x => x.length ≤ 1000000) atoiA fun x h => c46 (T := []) x h
def laysM_171_ren : Go.Shelf.Ren := ⟨fun | 129 => 120 | 171 => 29 | 243 => 59 | 246 => 83 | 283 => 103 | 284 => 104 | 285 => 105 | 286 => 106 | 317 => 119 | 318 => 121 | 319 => 122 | 320 => 123 | 337 => 130 | 338 => 131 | n => n, fun | 0 => 0 | 2 => 2 | 3 => 3 | 4 => 4 | 5 => 5 | 9 => 9 | 20 => 20 | 37 => 47 | 46 => 96 | 51 => 119 | 53 => 113 | 171 => 112 | 173 => 116 | 212 => 135 | 213 => 136 | 232 => 146 | 233 => 147 | n => n, fun | 17 => 5 | 18 => 6 | 19 => 7 | n => n⟩
theorem laysM_171 : Go.Proofs.LaysM.n171 Tryz.prog laysM_171_ren where
 mixed := by kernel_rfl
 f129 := Tryz.func120.trans (congrArg some (by kernel_rfl))
 f171 := Tryz.func29.trans (congrArg some (by kernel_rfl))
 f243 := Tryz.func59.trans (congrArg some (by kernel_rfl))
 f246 := Tryz.func83.trans (congrArg some (by kernel_rfl))
 f283 := Tryz.func103.trans (congrArg some (by kernel_rfl))
 f284 := Tryz.func104.trans (congrArg some (by kernel_rfl))
 f285 := Tryz.func105.trans (congrArg some (by kernel_rfl))
 f286 := Tryz.func106.trans (congrArg some (by kernel_rfl))
 f317 := Tryz.func119.trans (congrArg some (by kernel_rfl))
 f318 := Tryz.func121.trans (congrArg some (by kernel_rfl))
 f319 := Tryz.func122.trans (congrArg some (by kernel_rfl))
 f320 := Tryz.func123.trans (congrArg some (by kernel_rfl))
 f337 := Tryz.func130.trans (congrArg some (by kernel_rfl))
 f338 := Tryz.func131.trans (congrArg some (by kernel_rfl))
 t0 := Tryz.underlying0
 a0 := Tryz.isAgg0
 z0 := Tryz.sizeOf0
 v0 := Tryz.zeroValue0
 t2 := Tryz.underlying2
 a2 := Tryz.isAgg2
 z2 := Tryz.sizeOf2
 v2 := Tryz.zeroValue2
 t3 := Tryz.underlying3
 a3 := Tryz.isAgg3
 z3 := Tryz.sizeOf3
 v3 := Tryz.zeroValue3
 t4 := Tryz.underlying4
 a4 := Tryz.isAgg4
 z4 := Tryz.sizeOf4
 v4 := Tryz.zeroValue4
 t5 := Tryz.underlying5
 a5 := Tryz.isAgg5
 z5 := Tryz.sizeOf5
 v5 := Tryz.zeroValue5
 t9 := Tryz.underlying9
 a9 := Tryz.isAgg9
 z9 := Tryz.sizeOf9
 v9 := Tryz.zeroValue9
 t20 := Tryz.underlying20
 a20 := Tryz.isAgg20
 z20 := Tryz.sizeOf20
 v20 := Tryz.zeroValue20
 t37 := Tryz.underlying47
 a37 := Tryz.isAgg47
 z37 := Tryz.sizeOf47
 v37 := Tryz.zeroValue47
 t46 := Tryz.underlying96
 a46 := Tryz.isAgg96
 z46 := Tryz.sizeOf96
 v46 := Tryz.zeroValue96
 t51 := Tryz.underlying119
 a51 := Tryz.isAgg119
 z51 := Tryz.sizeOf119
 v51 := Tryz.zeroValue119
 t53 := Tryz.underlying113
 a53 := Tryz.isAgg113
 z53 := Tryz.sizeOf113
 v53 := Tryz.zeroValue113
 t171 := Tryz.underlying112
 a171 := Tryz.isAgg112
 z171 := Tryz.sizeOf112
 v171 := Tryz.zeroValue112
 t173 := Tryz.underlying116
 a173 := Tryz.isAgg116
 z173 := Tryz.sizeOf116
 v173 := Tryz.zeroValue116
 t212 := Tryz.underlying135
 a212 := Tryz.isAgg135
 z212 := Tryz.sizeOf135
 v212 := Tryz.zeroValue135
 t213 := Tryz.underlying136
 a213 := Tryz.isAgg136
 z213 := Tryz.sizeOf136
 t232 := Tryz.underlying146
 a232 := Tryz.isAgg146
 z232 := Tryz.sizeOf146
 v232 := Tryz.zeroValue146
 t233 := Tryz.underlying147
 a233 := Tryz.isAgg147
 z233 := Tryz.sizeOf147
 v233 := Tryz.zeroValue147
 g17 := by kernel_rfl
 g18 := by kernel_rfl
 g19 := by kernel_rfl
 i0 := by kernel_rfl
 i2 := by kernel_rfl
 i3 := by kernel_rfl
 i4 := by kernel_rfl
 i5 := by kernel_rfl
 i9 := by kernel_rfl
 i20 := by kernel_rfl
 i37 := by kernel_rfl
 i46 := by kernel_rfl
 i51 := by kernel_rfl
 i53 := by kernel_rfl
 i171 := by kernel_rfl
 i173 := by kernel_rfl
 i212 := by kernel_rfl
 i232 := by kernel_rfl
 i233 := by kernel_rfl
 m17 := by kernel_rfl
 m18 := by kernel_rfl
 m19 := by kernel_rfl
theorem p10_tab : Lib.pow10Tab = p10 := by decide +kernel
theorem grow_below {w : World} {k : Nat} {os : Array Obj} : Below w.heap.size w (Go.Sort.grow (w.drewN k) os) :=
 ⟨rfl, rfl, rfl, by show w.heap.size ≤ (w.heap ++ os).size; simp, fun i hi => by show (w.heap ++ os)[i]? = w.heap[i]?; rw [Array.getElem?_append_left hi]⟩
theorem c29 {T : List (Entry Tryz.prog)} (n : Int) (h0 : -9223372036854775808 ≤ n) (h1 : n ≤ 9223372036854775807) : CallAt (ctx T) 29 [.int .i64 n] ⟨0, []⟩ (.str (Lib.itoa n)) ⟨0, []⟩ := by
 intro ρ w xs sm hx
 match xs, hx with
 | [x], hx =>
  have h := hx.2 0 (by simp) (by simp)
  simp only [List.getElem_cons_zero] at h
  cases h
  have hrun : (callFunc 29 #[.int .i64 n]).run (ctx T).P w = .ok (.enter 29 #[.int .i64 n]) w := by
   have hf : (ctx T).P.funcs[29]? = some Tryz.f29 := Tryz.func29
   have hn : ¬ Tryz.f29.name = "runtime.NumGoroutine" := by decide +kernel
   simp [callFunc, hf, hn, Tryz.f29]
  refine .inr ⟨29, _, hrun, callsIn_wide.2 ?_⟩
  have htab : Lib.TabIs Tryz.prog w "internal/strconv.uint64pow10" .u64 Lib.pow10Tab := by
   obtain ⟨hB, t, fz, hc⟩ := ρ.gx (5, .u64, p10) (by simp [tabs])
   have hw : w.heap[5]? = _ := (sm.below _ hB).trans hc
   have hg : Tryz.prog.globalNamed "internal/strconv.uint64pow10" = some (5) := by kernel_rfl
   rw [p10_tab]
   simp only [Lib.TabIs, World.var?, hg, Option.bind_some, hw]
  refine (Go.Proofs.Any.strconv_Itoa laysM_171 n h0 h1 w htab).mono ?_
  rintro e w' ⟨rfl, k, os, rfl⟩
  exact ⟨_, ρ, rfl, .str _, sim_below sm grow_below, step_below grow_below⟩
def lineP (w x : Str) : Str := w ++ (32 :: (x ++ [10]))
def linesP (w : Str) (L : List Str) : Str := L.flatMap (lineP w)
def jPrefix : Str := [112, 114, 101, 102, 105, 120]
def jReserved : Str := [114, 101, 115, 101, 114, 118, 101, 100]
def jElem : Str := [101, 108, 101, 109]
def jAttr : Str := [97, 116, 116, 114]
def jScheme : Str := [115, 99, 104, 101, 109, 101]
def jBytes : Str := [98, 121, 116, 101, 115]
def jNodes : Str := [110, 111, 100, 101, 115]
def jDeep : Str := [100, 101, 101, 112]
def jAttrs : Str := [97, 116, 116, 114, 115]
def jLookups : Str := [108, 111, 111, 107, 117, 112, 115]
def jUnchanged : Str := [117, 110, 99, 104, 97, 110, 103, 101, 100]
def jYes : Str := [121, 101, 115]
def jNo : Str := [110, 111]
def yesNo (b : Bool) : Str := if b = true then jYes else jNo
def headT (p : PolR) : Str := lineP jPrefix p.pre ++ (linesP jReserved p.res ++ (linesP jElem p.els ++ (linesP jAttr p.ats ++ linesP jScheme p.sch)))
def tailT (p : PolR) : Str := lineP jBytes (Lib.itoa p.byt) ++ (lineP jNodes (Lib.itoa p.nod) ++ (lineP jDeep (Lib.itoa p.dep) ++ (lineP jAttrs (Lib.itoa p.per) ++ (lineP jLookups (Lib.itoa p.loo) ++ lineP jUnchanged (yesNo p.unc)))))
def textP (p : PolR) : Str := headT p ++ tailT p
def printV (p : PolR) : Str := if checkB p = true then textP p else []
theorem lineP_len (w x : Str) : (lineP w x).length = w.length + x.length + 2 := by simp [lineP]; omega
theorem linesP_len (w : Str) (L : List Str) (B : Nat) (h : ∀ x, x ∈ L → x.length ≤ B) : (linesP w L).length ≤ L.length * (w.length + B + 2) := by
 induction L with
 | nil => simp [linesP]
 | cons x r ih =>
  have h1 := ih fun y hy => h y (by simp [hy])
  have h2 := h x (by simp)
  have e : linesP w (x :: r) = lineP w x ++ linesP w r := rfl
  rw [e, List.length_append, lineP_len, List.length_cons, Nat.add_mul]
  omega
theorem lines_take (w : Str) (L : List Str) {i : Nat} (h : i < L.length) : linesP w (L.take (i + 1)) = linesP w (L.take i) ++ lineP w L[i] := by
 unfold linesP
 rw [List.take_add_one, List.getElem?_eq_getElem h, List.flatMap_append]
 simp
theorem within_iff {n a b : Int} : withB n a b = true ↔ a ≤ n ∧ n ≤ b := by simp [withB]
structure NumOk (p : PolR) : Prop where
 byt : 0 ≤ p.byt ∧ p.byt ≤ 1048576
 nod : 0 ≤ p.nod ∧ p.nod ≤ 1048576
 dep : 0 ≤ p.dep ∧ p.dep ≤ 1048576
 per : 0 ≤ p.per ∧ p.per ≤ 1048576
 loo : 0 ≤ p.loo ∧ p.loo ≤ 1048576
theorem check_num {p : PolR} (h : checkB p = true) : NumOk p := by
 simp only [checkB, numB, Bool.and_eq_true, within_iff] at h
 exact ⟨by omega, by omega, by omega, by omega, by omega⟩
theorem check_few {p : PolR} (h : checkB p = true) : p.res.length ≤ 200 ∧ p.els.length ≤ 200 ∧ p.ats.length ≤ 200 ∧ p.sch.length ≤ 200 := by
 simp only [checkB, listsB, allB, Bool.and_eq_true, decide_eq_true_eq] at h
 exact ⟨h.2.2.1.1, h.2.2.2.1.1, h.2.2.2.2.1.1, h.2.2.2.2.2.1⟩
theorem itoa_len {n : Int} (h : 0 ≤ n ∧ n ≤ 1048576) : (Lib.itoa n).length ≤ 21 := Lib.itoa_length_le n (by omega) (by omega)
theorem yesNo_len (b : Bool) : (yesNo b).length ≤ 3 := by cases b <;> decide
theorem head_len {p : PolR} (ok : PolOk p) (h : checkB p = true) : (headT p).length ≤ 161000000 := by
 obtain ⟨f1, f2, f3, f4⟩ := check_few h
 have s1 := linesP_len jReserved p.res 200000 ok.short.1
 have s2 := linesP_len jElem p.els 200000 ok.short.2.1
 have s3 := linesP_len jAttr p.ats 200000 ok.short.2.2.1
 have s4 := linesP_len jScheme p.sch 200000 ok.short.2.2.2
 have g1 := Nat.mul_le_mul_right (jReserved.length + 200000 + 2) f1
 have g2 := Nat.mul_le_mul_right (jElem.length + 200000 + 2) f2
 have g3 := Nat.mul_le_mul_right (jAttr.length + 200000 + 2) f3
 have g4 := Nat.mul_le_mul_right (jScheme.length + 200000 + 2) f4
 have l1 : jReserved.length = 8 := rfl
 have l2 : jElem.length = 4 := rfl
 have l3 : jAttr.length = 4 := rfl
 have l4 : jScheme.length = 6 := rfl
 have l0 : jPrefix.length = 6 := rfl
 have := ok.pre
 simp only [headT, List.length_append, lineP_len, l0]
 rw [l1] at s1 g1; rw [l2] at s2 g2; rw [l3] at s3 g3; rw [l4] at s4 g4
 omega
theorem tail_len {p : PolR} (n : NumOk p) : (tailT p).length ≤ 1000 := by
 have h1 := itoa_len n.byt
 have h2 := itoa_len n.nod
 have h3 := itoa_len n.dep
 have h4 := itoa_len n.per
 have h5 := itoa_len n.loo
 have h6 := yesNo_len p.unc
 have l1 : jBytes.length = 5 := rfl
 have l2 : jNodes.length = 5 := rfl
 have l3 : jDeep.length = 4 := rfl
 have l4 : jAttrs.length = 5 := rfl
 have l5 : jLookups.length = 7 := rfl
 have l6 : jUnchanged.length = 9 := rfl
 simp only [tailT, List.length_append, lineP_len, l1, l2, l3, l4, l5, l6]
 omega
noncomputable def e23 : Entry Tryz.prog := mkE 23 [[]] (fun x : PolR => [polA x]) (fun x => PolOk x) (fun x => checkV x) fun x h => c23 (T := [e51, e53]) rfl rfl x h
theorem k23 {T : List (Entry Tryz.prog)} (hT : findE 23 T = some e23.g) {p : PolR} (ok : PolOk p) (H : Heap) : callL (ctx T) (.fn 23) [polA p] H = some (checkV p, H) :=
 mkE_scalar hT inj_pol1 p ok rfl (by simp [thawA_pol])
noncomputable def e13 : Entry Tryz.prog := mkE 13 [[]] (fun x : PolR => [polA x]) (fun x => PolOk x) (fun x => checkV x) fun x h => c13 (T := [e36, e35]) rfl rfl x h
theorem k13 {T : List (Entry Tryz.prog)} (hT : findE 13 T = some e13.g) {p : PolR} (ok : PolOk p) (H : Heap) : callL (ctx T) (.fn 13) [polA p] H = some (checkV p, H) :=
 mkE_scalar hT inj_pol1 p ok rfl (by simp [thawA_pol])
noncomputable def e5 : Entry Tryz.prog := mkE 5 [[]] (fun x : PolR => [polA x]) (fun _ => True) (fun x => .bool (plainP x)) fun x _ => c5 (T := [e14]) rfl x
theorem k5 {T : List (Entry Tryz.prog)} (hT : findE 5 T = some e5.g) (p : PolR) (H : Heap) : callL (ctx T) (.fn 5) [polA p] H = some (.bool (plainP p), H) :=
 mkE_scalar hT inj_pol1 p trivial rfl (by simp [thawA_pol])
@[simp] theorem szT45 : sizeT Tryz.prog 45 = some 1 := rfl
@[simp] theorem agT45 : aggT Tryz.prog 45 = some false := rfl
@[simp] theorem byT45 : bytesT Tryz.prog 45 = some 8 := rfl
@[simp] theorem alT45 (H : Heap) : alV Tryz.prog H 45 = some (.ptr H.n 0, H.new (.cells [.nilP])) := rfl
@[simp] theorem zeT45 : zeroOf Tryz.prog 45 = some (.nilP) := rfl
attribute [simp] Tryz.underlying45
@[simp 500] theorem rvF45 (H : Heap) (cs : List AV) (o : Nat) : readVar Tryz.prog H 45 (.fptr cs o) = getL cs o := rfl
@[simp 500] theorem rvP45 (H : Heap) (b o : Nat) : readVar Tryz.prog H 45 (.ptr b o) = (H.get b).bind fun k => k.rd.bind fun cs => getL cs o := rfl
@[simp] theorem szT56 : sizeT Tryz.prog 56 = some 1 := rfl
@[simp] theorem agT56 : aggT Tryz.prog 56 = some false := rfl
@[simp] theorem byT56 : bytesT Tryz.prog 56 = some 24 := rfl
@[simp] theorem alT56 (H : Heap) : alV Tryz.prog H 56 = some (.ptr H.n 0, H.new (.cells [.nilS])) := rfl
@[simp] theorem zeT56 : zeroOf Tryz.prog 56 = some (.nilS) := rfl
attribute [simp] Tryz.underlying56
@[simp 500] theorem rvF56 (H : Heap) (cs : List AV) (o : Nat) : readVar Tryz.prog H 56 (.fptr cs o) = getL cs o := rfl
@[simp 500] theorem rvP56 (H : Heap) (b o : Nat) : readVar Tryz.prog H 56 (.ptr b o) = (H.get b).bind fun k => k.rd.bind fun cs => getL cs o := rfl
@[simp] theorem slz56 (sz : Nat) (e : AV) (r : List AV) : binA Tryz.prog .eql 56 (.fslc sz (e :: r)) .nilS = some (.bool false) := rfl
@[simp] theorem sln56 (sz : Nat) (e : AV) (r : List AV) : binA Tryz.prog .neq 56 (.fslc sz (e :: r)) .nilS = some (.bool true) := rfl
@[simp] theorem slze56 : binA Tryz.prog .eql 56 .eslc .nilS = some (.bool false) := rfl
@[simp] theorem slzz56 : binA Tryz.prog .eql 56 .nilS .nilS = some (.bool true) := rfl
@[simp] theorem szT59 : sizeT Tryz.prog 59 = some 1 := rfl
@[simp] theorem agT59 : aggT Tryz.prog 59 = some false := rfl
@[simp] theorem byT59 : bytesT Tryz.prog 59 = some 8 := rfl
@[simp] theorem alT59 (H : Heap) : alV Tryz.prog H 59 = some (.ptr H.n 0, H.new (.cells [.nilP])) := rfl
@[simp] theorem zeT59 : zeroOf Tryz.prog 59 = some (.nilP) := rfl
attribute [simp] Tryz.underlying59
@[simp 500] theorem rvF59 (H : Heap) (cs : List AV) (o : Nat) : readVar Tryz.prog H 59 (.fptr cs o) = getL cs o := rfl
@[simp 500] theorem rvP59 (H : Heap) (b o : Nat) : readVar Tryz.prog H 59 (.ptr b o) = (H.get b).bind fun k => k.rd.bind fun cs => getL cs o := rfl
@[simp] theorem szT60 : sizeT Tryz.prog 60 = some 1 := rfl
@[simp] theorem agT60 : aggT Tryz.prog 60 = some false := rfl
@[simp] theorem byT60 : bytesT Tryz.prog 60 = some 24 := rfl
@[simp] theorem alT60 (H : Heap) : alV Tryz.prog H 60 = some (.ptr H.n 0, H.new (.cells [.nilS])) := rfl
@[simp] theorem zeT60 : zeroOf Tryz.prog 60 = some (.nilS) := rfl
attribute [simp] Tryz.underlying60
@[simp 500] theorem rvF60 (H : Heap) (cs : List AV) (o : Nat) : readVar Tryz.prog H 60 (.fptr cs o) = getL cs o := rfl
@[simp 500] theorem rvP60 (H : Heap) (b o : Nat) : readVar Tryz.prog H 60 (.ptr b o) = (H.get b).bind fun k => k.rd.bind fun cs => getL cs o := rfl
@[simp] theorem slz60 (sz : Nat) (e : AV) (r : List AV) : binA Tryz.prog .eql 60 (.fslc sz (e :: r)) .nilS = some (.bool false) := rfl
@[simp] theorem sln60 (sz : Nat) (e : AV) (r : List AV) : binA Tryz.prog .neq 60 (.fslc sz (e :: r)) .nilS = some (.bool true) := rfl
@[simp] theorem slze60 : binA Tryz.prog .eql 60 .eslc .nilS = some (.bool false) := rfl
@[simp] theorem slzz60 : binA Tryz.prog .eql 60 .nilS .nilS = some (.bool true) := rfl
@[simp] theorem szT63 : sizeT Tryz.prog 63 = some 1 := rfl
@[simp] theorem agT63 : aggT Tryz.prog 63 = some false := rfl
@[simp] theorem byT63 : bytesT Tryz.prog 63 = some 8 := rfl
@[simp] theorem alT63 (H : Heap) : alV Tryz.prog H 63 = some (.ptr H.n 0, H.new (.cells [.nilP])) := rfl
@[simp] theorem zeT63 : zeroOf Tryz.prog 63 = some (.nilP) := rfl
attribute [simp] Tryz.underlying63
@[simp 500] theorem rvF63 (H : Heap) (cs : List AV) (o : Nat) : readVar Tryz.prog H 63 (.fptr cs o) = getL cs o := rfl
@[simp 500] theorem rvP63 (H : Heap) (b o : Nat) : readVar Tryz.prog H 63 (.ptr b o) = (H.get b).bind fun k => k.rd.bind fun cs => getL cs o := rfl
def headsL : List Str := [jReserved, jElem, jAttr, jScheme]
def namesL : List Str := [jBytes, jNodes, jDeep, jAttrs, jLookups]
def listsF (C : List AV) : AV := .fslc 1 [.fptr C 1, .fptr C 2, .fptr C 3, .fptr C 4]
def numsF (C : List AV) : AV := .fslc 1 [.fptr C 5, .fptr C 6, .fptr C 7, .fptr C 8, .fptr C 9]
theorem heads_map : headsL.map AV.str = [.str [114, 101, 115, 101, 114, 118, 101, 100], .str [101, 108, 101, 109], .str [97, 116, 116, 114], .str [115, 99, 104, 101, 109, 101]] := rfl
theorem names_map : namesL.map AV.str = [.str [98, 121, 116, 101, 115], .str [110, 111, 100, 101, 115], .str [100, 101, 101, 112], .str [97, 116, 116, 114, 115], .str [108, 111, 111, 107, 117, 112, 115]] := rfl
theorem c27 {T : List (Entry Tryz.prog)} (C : List AV) : CallAt (ctx T) 27 [.fptr C 0] ⟨0, []⟩ (.tup [listsF C, aStrs headsL]) ⟨0, []⟩ := by
 refine callAt_body (fn := Tryz.f27) (s0 := ⟨[0, 2, 3], [.fptr C 0, .undef, .undef], [], 18, ⟨0, [[]]⟩⟩) Tryz.func27 rfl rfl rfl ?_
 repeat apply wq
 refine wps_region callOK ?_
 simp [zS]
 repeat apply wq
 refine wps_drawA mixed callOK (by decide +kernel) rfl fun B_ hB_ => ?_
 simp [zS, mkBlk, guardA, clsOf, wantedBy, unwantedBy, allPend, Heap.lay, ontoF, evalA_c, evalA_n, putA_s, valA_s, actA_s, layA_s, gateA_t, gateA_f, clsA_l, clsA_a, clsA_p, clsA_r, offA_a, offA_l, offA_p, offA_r, ]
 refine ⟨_, _, ⟨rfl, rfl⟩, ?_⟩
 simp [allPend, Heap.lay, ontoF, thenQ]
 repeat apply wq
 refine wps_ret ?_
 simp [retVal, Tryz.f27, oneOr, listsF, aStrs, heads_map]
 refine ⟨[], [(12, [AV.fptr C 1, .fptr C 2, .fptr C 3, .fptr C 4]), (13, [.str [114, 101, 115, 101, 114, 118, 101, 100], .str [101, 108, 101, 109], .str [97, 116, 116, 114], .str [115, 99, 104, 101, 109, 101]])], ?_, .froze (by simp) fun x hx => ?_⟩
 ·simp [fitV, fitL, lookC, subL, takeL, flatAV, AV.cells, allSize]
 ·simp at hx
  rcases hx with rfl | rfl
  ·exact ⟨_, by simp [Heap.get, getFs, getF], fitL_pure (by simp [pureL, pureV]), by simp [pureL, pureV]⟩
  ·exact ⟨_, by simp [Heap.get, getFs, getF], fitL_pure (by simp [pureL, pureV]), by simp [pureL, pureV]⟩
theorem c28 {T : List (Entry Tryz.prog)} (C : List AV) : CallAt (ctx T) 28 [.fptr C 0] ⟨0, []⟩ (.tup [numsF C, aStrs namesL]) ⟨0, []⟩ := by
 refine callAt_body (fn := Tryz.f28) (s0 := ⟨[0, 2, 3], [.fptr C 0, .undef, .undef], [], 21, ⟨0, [[]]⟩⟩) Tryz.func28 rfl rfl rfl ?_
 repeat apply wq
 refine wps_region callOK ?_
 simp [zS]
 repeat apply wq
 refine wps_drawA mixed callOK (by decide +kernel) rfl fun B_ hB_ => ?_
 simp [zS, mkBlk, guardA, clsOf, wantedBy, unwantedBy, allPend, Heap.lay, ontoF, evalA_c, evalA_n, putA_s, valA_s, actA_s, layA_s, gateA_t, gateA_f, clsA_l, clsA_a, clsA_p, clsA_r, offA_a, offA_l, offA_p, offA_r, ]
 refine ⟨_, _, ⟨rfl, rfl⟩, ?_⟩
 simp [allPend, Heap.lay, ontoF, thenQ]
 repeat apply wq
 refine wps_ret ?_
 simp [retVal, Tryz.f28, oneOr, numsF, aStrs, names_map]
 refine ⟨[], [(15, [AV.fptr C 5, .fptr C 6, .fptr C 7, .fptr C 8, .fptr C 9]), (16, [.str [98, 121, 116, 101, 115], .str [110, 111, 100, 101, 115], .str [100, 101, 101, 112], .str [97, 116, 116, 114, 115], .str [108, 111, 111, 107, 117, 112, 115]])], ?_, .froze (by simp) fun x hx => ?_⟩
 ·simp [fitV, fitL, lookC, subL, takeL, flatAV, AV.cells, allSize]
 ·simp at hx
  rcases hx with rfl | rfl
  ·exact ⟨_, by simp [Heap.get, getFs, getF], fitL_pure (by simp [pureL, pureV]), by simp [pureL, pureV]⟩
  ·exact ⟨_, by simp [Heap.get, getFs, getF], fitL_pure (by simp [pureL, pureV]), by simp [pureL, pureV]⟩
theorem run_escape {C : Ctx} (hP : C.P = Tryz.prog) (x : Value) (w : World) : (callFunc 82 #[x]).run C.P w = .ok (.value x) w := by
 have hf : C.P.funcs[82]? = some Tryz.f82 := by rw [hP]; exact Tryz.func82
 have hn : ¬ Tryz.f82.name = "runtime.NumGoroutine" := by decide +kernel
 have h1 : Extern.findNext Tryz.f82 = none := by kernel_rfl
 have h2 : Extern.find Tryz.f82 = some Extern.AbiNoEscape.same := by kernel_rfl
 have h3 : Tryz.f82.body = none := by kernel_rfl
 simp [callFunc, hf, hn, h1, h2, h3, Lib.run_noEscape]
noncomputable def e82 : Entry Tryz.prog := ⟨82, fun args H => match args with
 | [.ptr b o] => some (.ptr b o, H)
 | _ => none, fun args H v H' hv => by
  split at hv
  ·simp only [Option.some.injEq, Prod.mk.injEq] at hv
   obtain ⟨rfl, rfl⟩ := hv
   intro ρ w xs sm hx
   match xs, hx with
   | [x], hx =>
    have h0 := hx.2 0 (by simp) (by simp)
    simp only [List.getElem_cons_zero] at h0
    exact .inl ⟨x, ρ, w, run_escape rfl x w, h0, sm, Step.refl _ _ _⟩
  ·cases hv⟩
theorem k82 {T : List (Entry Tryz.prog)} (hT : findE 82 T = some e82.g) (b o : Nat) (H : Heap) : callL (ctx T) (.fn 82) [.ptr b o] H = some (.ptr b o, H) := by
 rw [callL_summ (g := e82.g) hT]; rfl
@[simp] theorem szT46 : sizeT Tryz.prog 46 = some 1 := rfl
@[simp] theorem agT46 : aggT Tryz.prog 46 = some false := rfl
@[simp] theorem byT46 : bytesT Tryz.prog 46 = some 8 := rfl
@[simp] theorem alT46 (H : Heap) : alV Tryz.prog H 46 = some (.ptr H.n 0, H.new (.cells [.nilP])) := rfl
@[simp] theorem zeT46 : zeroOf Tryz.prog 46 = some (.nilP) := rfl
attribute [simp] Tryz.underlying46
@[simp 500] theorem rvF46 (H : Heap) (cs : List AV) (o : Nat) : readVar Tryz.prog H 46 (.fptr cs o) = getL cs o := rfl
@[simp 500] theorem rvP46 (H : Heap) (b o : Nat) : readVar Tryz.prog H 46 (.ptr b o) = (H.get b).bind fun k => k.rd.bind fun cs => getL cs o := rfl
@[simp] theorem szT49 : sizeT Tryz.prog 49 = some 2 := rfl
@[simp] theorem agT49 : aggT Tryz.prog 49 = some true := rfl
@[simp] theorem byT49 : bytesT Tryz.prog 49 = some 32 := rfl
@[simp] theorem alT49 (H : Heap) : alV Tryz.prog H 49 = some (.ptr H.n 0, H.new (.obj 49 [.nilP, .nilS])) := rfl
@[simp] theorem zeT49 : zeroOf Tryz.prog 49 = some (.agg [.nilP, .nilS]) := rfl
attribute [simp] Tryz.underlying49
@[simp 500] theorem rvF49 (H : Heap) (cs : List AV) (o : Nat) : readVar Tryz.prog H 49 (.fptr cs o) = (subL o 2 cs).bind fun cs => some (.agg cs) := rfl
@[simp 500] theorem rvP49 (H : Heap) (b o : Nat) : readVar Tryz.prog H 49 (.ptr b o) = (readCells H b o 2).bind fun cs => some (.agg cs) := rfl
@[simp] theorem fa49_0 (x : AV) : fieldAddrA Tryz.prog 49 x 0 = (match x with | .ptr b o => some (.ptr b (o + 0)) | .fptr cs o => some (.fptr cs (o + 0)) | _ => none) := rfl
@[simp] theorem fd49_0 (cs : List AV) : fieldA Tryz.prog 49 (.agg cs) 0 = getL cs 0 := rfl
@[simp] theorem fa49_1 (x : AV) : fieldAddrA Tryz.prog 49 x 1 = (match x with | .ptr b o => some (.ptr b (o + 1)) | .fptr cs o => some (.fptr cs (o + 1)) | _ => none) := rfl
@[simp] theorem fd49_1 (cs : List AV) : fieldA Tryz.prog 49 (.agg cs) 1 = getL cs 1 := rfl
theorem Sim.perm {ρ : Place} {H H2 : Heap} {w : World} (h : Sim ρ H w) (n : H2.n = H.n) (p : H2.ents.Perm H.ents) : Sim ρ H2 w where
 base := h.base
 below := h.below
 os := h.os
 tape := h.tape
 output := h.output
 dom := fun b hb => h.dom b (n ▸ hb)
 nodup := (p.map _).nodup_iff.2 h.nodup
 live := fun e he => h.live e (p.mem_iff.1 he)
 inj := fun e e' he he' => h.inj e e' (p.mem_iff.1 he) (p.mem_iff.1 he')
theorem Step.perm {ρ ρ' : Place} {H H2 H' H2' : Heap} {w w' : World} (h : Step ρ H w ρ' H' w') (n : H2.n = H.n) (n' : H2'.n = H'.n) (p : H2.ents.Perm H.ents) (p' : H2'.ents.Perm H'.ents) : Step ρ H2 w ρ' H2' w' where
 le := h.le
 size := h.size
 keeps := fun k hk hn => h.keeps k hk fun e he => hn e (p.mem_iff.2 he)
 rows := fun e' he' l' hl' => by
  rcases h.rows e' (p'.mem_iff.1 he') l' hl' with ⟨e, he, x⟩ | x
  ·exact .inl ⟨e, p.mem_iff.2 he, x⟩
  ·exact .inr x
 num := by rw [n, n']; exact h.num
 low := fun b hb => h.low b (n ▸ hb)
 cold := fun k hk => by
  rcases h.cold k hk with x | ⟨e, he, x⟩ | x
  ·exact .inl x
  ·exact .inr (.inl ⟨e, p.mem_iff.2 he, x⟩)
  ·exact .inr (.inr x)
theorem CallAt.perm {C : Ctx} {f : FuncId} {args : List AV} {H H2 H' H2' : Heap} {v : AV} (h : CallAt C f args H v H') (n : H2.n = H.n) (n' : H2'.n = H'.n) (p : H2.ents.Perm H.ents) (p' : H2'.ents.Perm H'.ents) : CallAt C f args H2 v H2' := by
 intro ρ w xs sm hx
 have sm' := sm.perm n.symm p.symm
 rcases h ρ w xs sm' hx with ⟨x, ρ', w', h0, h1, h2, h3⟩ | ⟨g, ys, h0, h1⟩
 ·exact .inl ⟨x, ρ', w', h0, h1, h2.perm n' p', h3.perm n n' p p'⟩
 ·refine .inr ⟨g, ys, h0, h1.mono ?_⟩
  rintro e w' ⟨x, ρ', rfl, m1, m2, m3⟩
  exact ⟨x, ρ', rfl, m1, m2.perm n' p', m3.perm n n' p p'⟩
theorem perm_top {x : Nat × Blk} {f B g : List (Nat × Blk)} : (f ++ (x :: (B ++ g))).Perm (x :: (B ++ (f ++ g))) := by
 refine (List.perm_append_comm (l₁ := f) (l₂ := x :: (B ++ g))).trans ?_
 show (x :: ((B ++ g) ++ f)).Perm _
 refine List.Perm.cons _ ?_
 rw [List.append_assoc]
 exact List.Perm.append_left _ List.perm_append_comm
theorem CallAt.top {C : Ctx} {f : FuncId} {args : List AV} {v : AV} {m m' : Nat} {x x' : Nat × Blk} {fr B B' g g' : List (Nat × Blk)} (h : CallAt C f args ⟨m, [x :: (B ++ (fr ++ g))]⟩ v ⟨m', [x' :: (B' ++ (fr ++ g'))]⟩) : CallAt C f args ⟨m, [fr, x :: (B ++ g)]⟩ v ⟨m', [fr, x' :: (B' ++ g')]⟩ :=
 h.perm rfl rfl (by simpa [Heap.ents] using perm_top) (by simpa [Heap.ents] using perm_top)
def idn (m : Nat) : List (Nat × Nat) := (List.range m).map fun i => (i, i)
theorem idn_mem {m i : Nat} (h : i < m) : (i, i) ∈ idn m := List.mem_map.2 ⟨i, by simpa using h, rfl⟩
theorem lookN_of : ∀ {σ : List (Nat × Nat)} {i j : Nat}, (σ.map (·.1)).Nodup → (i, j) ∈ σ → lookN i σ = some j
 | [], _, _, _, h => by cases h
 | x :: r, i, j, nd, h => by
  rw [List.map_cons, List.nodup_cons] at nd
  unfold lookN
  rcases List.mem_cons.1 h with rfl | h
  ·simp
  ·have hne : ¬ x.1 = i := fun e => nd.1 (List.mem_map.2 ⟨_, h, e.symm⟩)
   rw [if_neg hne]
   exact lookN_of nd.2 h
theorem idn_nd (m : Nat) : ((idn m).map (·.1)).Nodup := by
 have : (idn m).map (·.1) = List.range m := by simp [idn, Function.comp_def]
 rw [this]; exact List.nodup_range
theorem idn_nd2 (m : Nat) : ((idn m).map (·.2)).Nodup := by
 have : (idn m).map (·.2) = List.range m := by simp [idn, Function.comp_def]
 rw [this]; exact List.nodup_range
theorem lookN_idn {m i : Nat} (h : i < m) : lookN i (idn m) = some i := lookN_of (idn_nd m) (idn_mem h)
def Idl (m : Nat) (σ : List (Nat × Nat)) : Prop := ∀ i, i < m → lookN i σ = some i
theorem idl_idn (m : Nat) : Idl m (idn m) := fun i h => lookN_idn h
theorem idl_cons {m k k' : Nat} (h : m ≤ k) : Idl m ((k, k') :: idn m) := fun i hi => by
 have : ¬ k = i := by omega
 simp [lookN, this, lookN_idn hi]
def SelfB (m : Nat) (k : Blk) : Prop := ∀ σ, Idl m σ → fitB σ [] k k
theorem SelfB.mono {m m' : Nat} {k : Blk} (h : SelfB m k) (hm : m ≤ m') : SelfB m' k := fun σ hσ => h σ fun i hi => hσ i (by omega)
theorem self_pure {m : Nat} {cs : List AV} (h : pureL cs = true) : SelfB m (.cells cs) := fun σ _ => fitL_pure h
structure Bs where
 k : Nat
 out : Str
def bV (b : Bs) : AV := match b.out with
 | [] => .nilS
 | _ :: _ => .slc b.k 0 b.out.length (.rest 1)
def bF (b : Bs) : List (Nat × Blk) := match b.out with
 | [] => []
 | _ :: _ => [(b.k, .buf 5 b.out.length (bytesAV b.out))]
def upd (m : Nat) (b : Bs) (s : Str) : Bs := match s with
 | [] => b
 | _ :: _ => ⟨m, b.out ++ s⟩
theorem bytes_len : ∀ (s : Str), (bytesAV s).length = s.length
 | [] => rfl
 | c :: r => by simp [bytesAV, bytes_len r]
theorem bytes_app : ∀ (s t : Str), bytesAV (s ++ t) = bytesAV s ++ bytesAV t
 | [], t => rfl
 | c :: r, t => by simp [bytesAV, bytes_app r t]
theorem bytes_pure : ∀ (s : Str), pureL (bytesAV s) = true
 | [] => rfl
 | c :: r => by simp [bytesAV, pureL, pureV, bytes_pure r]
theorem bytes_single : ∀ (s : Str), allSingle (bytesAV s) = true
 | [] => rfl
 | c :: r => by simp [bytesAV, allSingle, AV.single, bytes_single r]
theorem bF_mem {b : Bs} {e : Nat × Blk} (h : e ∈ bF b) : e = (b.k, .buf 5 b.out.length (bytesAV b.out)) ∧ b.out ≠ [] := by
 obtain ⟨k, out⟩ := b
 cases out with
 | nil => cases h
 | cons c r => exact ⟨by simpa [bF] using h, by simp⟩
theorem bF_ne {b : Bs} (h : b.out ≠ []) : bF b = [(b.k, .buf 5 b.out.length (bytesAV b.out))] := by
 obtain ⟨k, out⟩ := b
 cases out with
 | nil => exact absurd rfl h
 | cons c r => rfl
theorem bV_ne {b : Bs} (h : b.out ≠ []) : bV b = .slc b.k 0 b.out.length (.rest 1) := by
 obtain ⟨k, out⟩ := b
 cases out with
 | nil => exact absurd rfl h
 | cons c r => rfl
theorem fitWr {m m' : Nat} {H : Heap} {σ : List (Nat × Nat)} {wb kc k' fz : Nat} {O O' : Blk} {out : Str} {g : List (Nat × Blk)} (hσ : (σ = idn m ∧ kc = k' ∧ (out ≠ [] → kc < m)) ∨ (σ = (kc, m) :: idn m ∧ k' = m ∧ m ≤ kc)) (hm : m < m')
  (lw : wb < m) (lg : ∀ e, e ∈ g → e.1 < m) (nd : (wb :: g.map (·.1)).Nodup) (hk : out ≠ [] → k' ∉ wb :: g.map (·.1)) (hO : H.get wb = some O) (fO : fitB σ [] O O') (hb : out ≠ [] → H.get kc = some (.buf 5 fz (bytesAV out))) (hfz : fz ≤ out.length)
  (hg : ∀ e, e ∈ g → H.get e.1 = some e.2 ∧ SelfB m e.2) : FitH m σ [] H ⟨m', [(wb, O') :: (bF ⟨k', out⟩ ++ g)]⟩ := by
 have idl : Idl m σ := by
  rcases hσ with ⟨rfl, _⟩ | ⟨rfl, _, h⟩
  ·exact idl_idn m
  ·exact idl_cons h
 have mem : ∀ i, i < m → (i, i) ∈ σ := fun i hi => by
  rcases hσ with ⟨rfl, _⟩ | ⟨rfl, _, h⟩
  ·exact idn_mem hi
  ·exact List.mem_cons_of_mem _ (idn_mem hi)
 have memk : out ≠ [] → (kc, k') ∈ σ := fun hne => by
  rcases hσ with ⟨rfl, rfl, h⟩ | ⟨rfl, rfl, h⟩
  ·exact idn_mem (h hne)
  ·exact List.mem_cons_self
 have sub : ∀ x, x ∈ σ → x.2 < m + 1 ∧ (x.1 < m ∨ x.2 < m → x.1 = x.2) := fun x hx => by
  have key : x ∈ idn m → x.2 < m + 1 ∧ (x.1 < m ∨ x.2 < m → x.1 = x.2) := fun h => by
   obtain ⟨i, hi, rfl⟩ := List.mem_map.1 h
   have : i < m := by simpa using hi
   exact ⟨by show i < m + 1; omega, fun _ => rfl⟩
  rcases hσ with ⟨rfl, _⟩ | ⟨rfl, rfl, h⟩
  ·exact key hx
  ·rcases List.mem_cons.1 hx with rfl | hx
   ·exact ⟨by simp, fun h => by simp at h; omega⟩
   ·exact key hx
 refine ⟨?_, ?_, ?_, fun x hx => by have := (sub x hx).1; show x.2 < m'; omega, fun x hx h => (sub x hx).2 (.inr h), by show m ≤ m'; omega, ?_, fun x h => by cases h⟩
 ·rcases hσ with ⟨rfl, _⟩ | ⟨rfl, _, h⟩
  ·simpa using idn_nd m
  ·simp only [List.map_nil, List.append_nil, List.map_cons, List.nodup_cons]
   refine ⟨?_, idn_nd m⟩
   simp [idn]; omega
 ·rcases hσ with ⟨rfl, _⟩ | ⟨rfl, _, h⟩
  ·exact idn_nd2 m
  ·simp only [List.map_cons, List.nodup_cons]
   refine ⟨?_, idn_nd2 m⟩
   simp [idn]
 ·simp only [Heap.ents, List.flatten_cons, List.flatten_nil, List.append_nil, List.map_cons, List.map_append]
  rw [List.nodup_cons] at nd ⊢
  by_cases hne : out = []
  ·subst hne
   simpa [bF] using nd
  ·have h1 := hk hne
   rw [bF_ne (b := ⟨k', out⟩) hne]
   simp only [List.mem_cons, not_or] at h1
   refine ⟨?_, ?_⟩
   ·simp only [List.map_cons, List.map_nil, List.cons_append, List.nil_append, List.mem_cons, not_or]
    exact ⟨fun e => h1.1 e.symm, nd.1⟩
   ·simp only [List.map_cons, List.map_nil, List.cons_append, List.nil_append, List.nodup_cons]
    exact ⟨h1.2, nd.2⟩
 ·intro e he
  simp only [Heap.ents, List.flatten_cons, List.flatten_nil, List.append_nil, List.mem_cons, List.mem_append] at he
  rcases he with rfl | he | he
  ·exact ⟨wb, O, mem wb lw, hO, fO⟩
  ·obtain ⟨rfl, hne⟩ := bF_mem he
   exact ⟨kc, _, memk hne, hb hne, rfl, hfz, by show out.length ≤ (bytesAV out).length; rw [bytes_len]; exact Nat.le_refl _, fitL_pure (bytes_pure _)⟩
  ·obtain ⟨h1, h2⟩ := hg e he
   exact ⟨e.1, e.2, mem _ (lg e he), h1, h2 σ idl⟩
def WF (wb : Nat) (ty : TypeId) (a : AV) (b : Bs) (cs : List AV) (g : List (Nat × Blk)) : List (Nat × Blk) := (wb, .obj ty (a :: bV b :: cs)) :: (bF b ++ g)
structure Wok (m wb : Nat) (b : Bs) (cs : List AV) (g : List (Nat × Blk)) : Prop where
 lw : wb < m
 lg : ∀ e, e ∈ g → e.1 < m
 nd : (wb :: g.map (·.1)).Nodup
 hk : b.out ≠ [] → b.k ∉ wb :: g.map (·.1) ∧ b.k < m
 sg : ∀ e, e ∈ g → SelfB m e.2
 sc : ∀ σ, Idl m σ → fitL σ [] cs cs
section
variable {m wb : Nat} {ty : TypeId} {a : AV} {b : Bs} {cs : List AV} {g : List (Nat × Blk)}
theorem Wok.mono (h : Wok m wb b cs g) {m' : Nat} (hm : m ≤ m') : Wok m' wb b cs g where
 lw := Nat.lt_of_lt_of_le h.lw hm
 lg := fun e he => Nat.lt_of_lt_of_le (h.lg e he) hm
 nd := h.nd
 hk := fun hne => ⟨(h.hk hne).1, Nat.lt_of_lt_of_le (h.hk hne).2 hm⟩
 sg := fun e he => (h.sg e he).mono hm
 sc := fun σ hσ => h.sc σ fun i hi => hσ i (by omega)
theorem Wok.upd (h : Wok m wb b cs g) (s : Str) : Wok (m + 1) wb (upd m b s) cs g := by
 have h' := h.mono (Nat.le_succ m)
 refine ⟨h'.lw, h'.lg, h'.nd, ?_, h'.sg, h'.sc⟩
 cases s with
 | nil => exact h'.hk
 | cons c r =>
  intro _
  refine ⟨?_, Nat.lt_succ_self m⟩
  intro hx
  simp only [Go.Proofs.YtfncefamflainaaGreatDoor.upd] at hx
  rcases List.mem_cons.1 hx with hx | hx
  ·have := h.lw; omega
  ·obtain ⟨e, he, hx⟩ := List.mem_map.1 hx
   have := h.lg e he; omega
theorem WF_o : getF wb (WF wb ty a b cs g) = some (.obj ty (a :: bV b :: cs)) := by simp [WF, getF]
theorem WF_b (h : Wok m wb b cs g) (hne : b.out ≠ []) : getF b.k (WF wb ty a b cs g) = some (.buf 5 b.out.length (bytesAV b.out)) := by
 have h1 := (h.hk hne).1
 simp only [List.mem_cons, not_or] at h1
 have : Nat.beq wb b.k = false := beqN_ne fun e => h1.1 e.symm
 simp [WF, getF, this, bF_ne hne]
theorem WF_g (h : Wok m wb b cs g) {e : Nat × Blk} (he : e ∈ g) : getF e.1 (WF wb ty a b cs g) = some e.2 := by
 have nd := h.nd
 rw [List.nodup_cons] at nd
 have e1 : ¬ wb = e.1 := fun x => nd.1 (List.mem_map.2 ⟨e, he, x.symm⟩)
 have b1 : Nat.beq wb e.1 = false := beqN_ne e1
 have key : getF e.1 g = some e.2 := by
  have := get_of_mem (fs := [g]) (b := e.1) (k := e.2) (by simpa using nd.2) (by simpa using he)
  simp only [getFs] at this
  revert this
  cases getF e.1 g with
  | none => intro h; cases h
  | some x => intro h; exact h
 unfold WF getF
 rw [b1]
 by_cases hne : b.out = []
 ·obtain ⟨k, out⟩ := b
  simp only at hne
  subst hne
  exact key
 ·rw [bF_ne hne]
  have h1 := (h.hk hne).1
  simp only [List.mem_cons, not_or] at h1
  have b2 : Nat.beq b.k e.1 = false := beqN_ne fun x => h1.2 (List.mem_map.2 ⟨e, he, x.symm⟩)
  show getF e.1 ((b.k, _) :: g) = _
  unfold getF
  rw [b2]; exact key
theorem fit_obj {σ : List (Nat × Nat)} {kc k' : Nat} {out : Str} (hw : lookN wb σ = some wb) (hk : out ≠ [] → lookN kc σ = some k') (hc : fitL σ [] cs cs) : fitB σ [] (.obj ty (.ptr wb 0 :: bV ⟨kc, out⟩ :: cs)) (.obj ty (.ptr wb 0 :: bV ⟨k', out⟩ :: cs)) := by
 refine ⟨rfl, ?_⟩
 simp only [fitL, fitV, hw, true_and, and_true]
 refine ⟨?_, hc⟩
 cases out with
 | nil => simp [bV, fitV]
 | cons c r => simp [bV, fitV, hk (by simp)]
end
theorem reach_nil {todo : List Nat} {acc : List (Nat × Blk)} : ∀ {n : Nat}, reach n todo [] acc = (acc, [])
 | 0 => by unfold reach; rfl
 | n + 1 => by
  unfold reach
  cases todo <;> rfl
theorem promW {wb c : Nat} {f : List (Nat × Blk)} {kb : Blk} (h : getF wb f = some kb) : promote wb [c] [] [[], f] = [[], f] := by
 have e2 : refsF [] ++ [c] = [c] := rfl
 unfold promote
 have hn : getF wb [] = none := rfl
 rw [hn]
 simp only [reach_nil, e2]
 unfold promote
 rw [h]
 rfl
@[simp] theorem pe1 : binA Tryz.prog .eql 46 .nilP .nilP = some (.bool true) := rfl
@[simp] theorem pe2 (b o : Nat) : binA Tryz.prog .eql 46 (.ptr b o) .nilP = some (.bool false) := rfl
@[simp] theorem pe3 (b : Nat) : binA Tryz.prog .neq 46 (.ptr b 0) (.ptr b 0) = some (.bool false) := by
 have hs : sizeT Tryz.prog 49 = some 2 := szT49
 have hb : Nat.blt 0 2 = true := rfl
 simp [binA, eqA, hs, Nat.beq_refl, Tryz.underlying46, hb]
theorem cv1 {H : Heap} {wb : Nat} {ty : TypeId} {x : AV} {cs : List AV} (hg : H.get wb = some (.obj ty (x :: cs))) : convA Tryz.prog H 46 89 (.ptr wb 0) = some (.ptr wb 0, H) := by
 have hs : sizeT Tryz.prog 49 = some 2 := szT49
 have h1 : (Nat.blt 0 2 && Nat.blt 0 (x :: cs).length) = true := rfl
 simp [convA, Tryz.underlying46, Tryz.underlying89, hs, hg, Blk.rd, h1]
 rfl
theorem cv2 {H : Heap} {wb : Nat} {ty : TypeId} {cs : List AV} (hg : H.get wb = some (.obj ty cs)) (hl : liesAt Tryz.prog Tryz.prog.depth ty (cs.length / Tryz.prog.cellsOf ty) 0 49 1 = true) : convA Tryz.prog H 89 46 (.ptr wb 0) = some (.ptr wb 0, H) := by
 have hs : sizeT Tryz.prog 49 = some 2 := szT49
 simp [convA, Tryz.underlying46, Tryz.underlying89, hs, hg, hl]
theorem c58 {T : List (Entry Tryz.prog)} (hE : findE 82 T = some e82.g) {m wb : Nat} {ty : TypeId} {a : AV} {b : Bs} {cs : List AV} {g : List (Nat × Blk)} (h : Wok m wb b cs g) (ha : a = .nilP ∨ a = .ptr wb 0)
  (hl : liesAt Tryz.prog Tryz.prog.depth ty ((cs.length + 1 + 1) / Tryz.prog.cellsOf ty) 0 49 1 = true) : CallAt (ctx T) 58 [.ptr wb 0] ⟨m, [WF wb ty a b cs g]⟩ (.tup []) ⟨m + 1, [WF wb ty (.ptr wb 0) b cs g]⟩ := by
 have hfin : ∀ m1, FitH m (idn m) [] ⟨m1, [[], WF wb ty (.ptr wb 0) b cs g]⟩ ⟨m + 1, [WF wb ty (.ptr wb 0) b cs g]⟩ := fun m1 => by
  obtain ⟨k, out⟩ := b
  exact fitWr (kc := k) (k' := k) (fz := out.length) (out := out) (O := .obj ty (.ptr wb 0 :: bV ⟨k, out⟩ :: cs)) (.inl ⟨rfl, rfl, fun hne => (h.hk hne).2⟩) (by omega) h.lw h.lg h.nd (fun hne => (h.hk hne).1) (by simp [Heap.get, getFs, getF, WF_o])
   (fit_obj (lookN_idn h.lw) (fun hne => lookN_idn (h.hk hne).2) (h.sc _ (idl_idn m))) (fun hne => by simp only [Heap.get, getFs, getF]; rw [WF_b h hne]) (Nat.le_refl _) (fun e he => ⟨by simp only [Heap.get, getFs, getF]; rw [WF_g h he], h.sg e he⟩)
 have hset : ∀ x, setF wb (.obj ty (x :: bV b :: cs)) (WF wb ty a b cs g) = some (WF wb ty x b cs g) := fun x => by simp [WF, setF]
 refine callAt_body (fn := Tryz.f58) (s0 := ⟨[0], [.ptr wb 0], [], 20, ⟨m, [] :: [WF wb ty a b cs g]⟩⟩) Tryz.func58 rfl rfl rfl ?_
 have hg : ∀ x, Heap.get ⟨m, [[], WF wb ty x b cs g]⟩ wb = some (.obj ty (x :: bV b :: cs)) := fun x => by simp [Heap.get, getFs, getF, WF_o]
 rcases ha with rfl | rfl
 ·have v1 := cv1 (hg .nilP)
  have v2 := cv2 (hg .nilP) (by simpa using hl)
  repeat apply wq
  refine wps_region callOK ?_
  simp [zS, WF_o]
  repeat apply wq
  refine wps_ct rfl ?_
  repeat apply wq
  refine wps_region callOK ?_
  simp [zS, v1, v2, k82 hE, WF_o, promW WF_o, hset]
  exact ⟨[], rfl, idn m, [], by simp [oneOr, fitV, fitL], hfin m⟩
 ·repeat apply wq
  refine wps_region callOK ?_
  simp [zS, WF_o]
  repeat apply wq
  refine wps_cf rfl ?_
  repeat apply wq
  refine wps_region callOK ?_
  simp [zS, WF_o]
  repeat apply wq
  refine wps_cf rfl ?_
  repeat apply wq
  refine wps_skip ?_
  simp
  exact ⟨[], rfl, idn m, [], by simp [oneOr, fitV, fitL], hfin m⟩
theorem reach_one {n b : Nat} {k : Blk} {x : Nat × Blk} {f acc : List (Nat × Blk)} (h : getF b (x :: f) = some k) (hk : refsB k = []) : reach (Nat.succ (Nat.succ n)) [b] (x :: f) acc = ((b, k) :: acc, killF b (x :: f)) := by
 unfold reach
 simp only [h, hk, List.nil_append]
 unfold reach
 rfl
theorem prom2 {wb c : Nat} {k : Blk} {x : Nat × Blk} {f1 f2 : List (Nat × Blk)} {kb : Blk} (n1 : getF wb (x :: f1) = none) (n2 : getF wb f2 = some kb) (h1 : getF c (x :: f1) = some k) (hk : refsB k = []) :
  promote wb [c] [] [x :: f1, f2] = [killF c (x :: f1), (c, k) :: f2] := by
 have r1 : reach 100000 [c] (x :: f1) [] = ([(c, k)], killF c (x :: f1)) := reach_one (n := 99998) h1 hk
 have e1 : refsF [(c, k)] ++ [c] = [c] := by simp [refsF, hk]
 unfold promote
 rw [n1]
 simp only [r1, e1]
 unfold promote
 rw [n2]
 rfl
theorem refs_bytes (t : TypeId) (fz : Nat) (s : Str) : refsB (.buf t fz (bytesAV s)) = [] := by
 show (bytesAV s).flatMap (refs 4) = []
 induction s with
 | nil => rfl
 | cons c r ih => rw [bytesAV, List.flatMap_cons, ih]; rfl
theorem src_str {H : Heap} (s : Str) : srcLen (.str s) = some s.length ∧ srcCells H 1 s.length (.str s) = some (bytesAV s) := by
 refine ⟨rfl, ?_⟩
 simp [srcCells]
theorem lay_nil {α : Type} : ∀ (n : Nat) (l : List α), n ≤ l.length → layL [] n l = some l
 | 0, l, _ => by unfold layL overL; rfl
 | n + 1, [], h => by simp at h
 | n + 1, x :: r, h => by
  show (layL [] n r).bind _ = _
  rw [lay_nil n r (by simpa using h)]; rfl
theorem setF_same {b : Nat} {k : Blk} : ∀ {l : List (Nat × Blk)}, getF b l = some k → setF b k l = some l
 | [], h => by cases h
 | x :: r, h => by
  unfold getF at h
  unfold setF
  split at h
  ·rename_i hb
   simp only [Option.some.injEq] at h
   rw [← Nat.eq_of_beq_eq_true hb, ← h]
  ·rename_i hb
   rw [setF_same h]; rfl
theorem app_bs {m wb : Nat} {ty : TypeId} {a : AV} {b : Bs} {cs : List AV} {g : List (Nat × Blk)} (h : Wok m wb b cs g) (s : Str) (hl : b.out.length + s.length ≤ 1000000000) :
  appendA Tryz.prog ⟨m, [[], WF wb ty a b cs g]⟩ 5 (bV b) (.str s) = match s with
   | [] => some (bV b, ⟨m, [[], WF wb ty a b cs g]⟩)
   | _ :: _ => some (.slc m 0 (b.out.length + s.length) (.rest 1), ⟨m + 1, [[(m, .buf 5 (if b.out = [] then 0 else b.out.length) (bytesAV (b.out ++ s)))], (wb, .obj ty (a :: bV b :: cs)) :: g]⟩) := by
 have hsz : sizeT Tryz.prog 5 = some 1 := szT5
 have hby : bytesT Tryz.prog 5 = some 1 := byT5
 have hz : zeroOf Tryz.prog 5 = some (.int .u8 0) := zeT5
 have hroom : ∀ n, n ≤ 1000000000 → roomOK n 1 = true := fun n hn => by simp [roomOK]; omega
 have c0 : (Nat.beq 1 0 || !(Nat.beq (AV.cells (.int .u8 0)).length 1 && Nat.blt 0 1)) = false := rfl
 have hrow : ∀ cs, rowA Tryz.prog 5 cs = .buf 5 0 cs := fun cs => rfl
 obtain ⟨hx1, hx2⟩ := src_str (H := ⟨m, [[], WF wb ty a b cs g]⟩) s
 obtain ⟨k, out⟩ := b
 simp only at hl
 unfold appendA
 simp only [hsz, hby, hz, hx1, Option.bind_some, c0]
 cases out with
 | nil =>
  simp only [bV]
  cases s with
  | nil => rfl
  | cons d q =>
   have hr := hroom (q.length + 1) (by simp at hl; omega)
   have hcb : Nat.beq (bytesAV (d :: q)).length ((q.length + 1) * 1) = true := by rw [bytes_len]; simp
   simp only [List.length_cons] at hx2 ⊢
   simp only [hr, hx2, Option.bind_some, hcb, hrow]
   simp [Heap.new, pushF, WF, bV, bF]
 | cons c r =>
  have hg : Heap.get ⟨m, [[], WF wb ty a ⟨k, c :: r⟩ cs g]⟩ k = some (.buf 5 (c :: r).length (bytesAV (c :: r))) := by
   have := WF_b (ty := ty) (a := a) h (by simp)
   simp only [Heap.get, getFs, getF]
   rw [this]
  have hk : knownCells ⟨m, [[], WF wb ty a ⟨k, c :: r⟩ cs g]⟩ k = some (c :: r).length := by
   unfold knownCells; simp only [hg, Option.bind_some, Blk.rd, bytes_len]
  have hr := hroom ((c :: r).length + s.length) hl
  have h1 : Nat.beq 1 1 = true := rfl
  simp only [bV, hx2, Option.bind_some, hr, bytes_single, h1, hk]
  cases s with
  | nil =>
   have h2 : Nat.ble (0 + ((c :: r).length + ([] : Str).length) * 1) (c :: r).length = true := by simp
   simp only [h2]
   have hw : writeCells ⟨m, [[], WF wb ty a ⟨k, c :: r⟩ cs g]⟩ k (0 + (c :: r).length * 1) (bytesAV []) = some ⟨m, [[], WF wb ty a ⟨k, c :: r⟩ cs g]⟩ := by
    have hs : setF k (.buf 5 (c :: r).length (bytesAV (c :: r))) (WF wb ty a ⟨k, c :: r⟩ cs g) = some (WF wb ty a ⟨k, c :: r⟩ cs g) := setF_same (WF_b (ty := ty) (a := a) h (by simp))
    have hw1 : Blk.wt (.buf 5 (c :: r).length (bytesAV (c :: r))) (0 + (c :: r).length * 1) = some (bytesAV (c :: r)) := by
     have : Nat.ble (c :: r).length (0 + (c :: r).length * 1) = true := by simp
     simp only [Blk.wt, this]
    have hl2 : layL (bytesAV []) (0 + (c :: r).length * 1) (bytesAV (c :: r)) = some (bytesAV (c :: r)) := lay_nil _ _ (by rw [bytes_len]; simp)
    simp only [writeCells, hg, Option.bind_some, hw1, hl2]
    have hb0 : bytesAV [] = [] := rfl
    rw [hb0]
    simp only [Heap.ready, List.flatMap_nil, Heap.set, setFs, setF, Blk.re, hs, Option.bind_some, Option.bind_none]
   rw [hw]
   simp
  | cons d q =>
   have h2 : Nat.ble (0 + ((c :: r).length + (d :: q).length) * 1) (c :: r).length = false := by
    rw [← Bool.not_eq_true, Nat.ble_eq]; simp
   have h3 : Nat.beq (0 + (c :: r).length * 1) (c :: r).length = true := by simp
   have h4 : readCells ⟨m, [[], WF wb ty a ⟨k, c :: r⟩ cs g]⟩ k 0 ((c :: r).length * 1) = some (bytesAV (c :: r)) := by
    unfold readCells
    simp only [hg, Option.bind_some, Blk.rd, subL, List.drop_zero, Nat.mul_one]
    rw [← bytes_len (c :: r)]
    exact takeL_all _
   have h5 : Nat.beq (bytesAV (d :: q)).length ((d :: q).length * 1) = true := by rw [bytes_len]; simp
   have h6 : goOn (.buf 5 (c :: r).length (bytesAV (c :: r))) 5 0 (bytesAV (c :: r) ++ bytesAV (d :: q)) = some (.buf 5 (c :: r).length (bytesAV (c :: r) ++ bytesAV (d :: q))) := rfl
   simp only [h2, h3, h4, h5, Option.bind_some, hg, h6]
   have hd : Heap.drop ⟨m, [[], WF wb ty a ⟨k, c :: r⟩ cs g]⟩ k = ⟨m, [[], (wb, .obj ty (a :: bV ⟨k, c :: r⟩ :: cs)) :: g]⟩ := by
    have hkw := (h.hk (by simp)).1
    simp only [List.mem_cons, not_or] at hkw
    have e1 : Nat.beq wb k = false := beqN_ne fun e => hkw.1 e.symm
    simp [Heap.drop, killFs, getF, WF, e1, bF, killF]
   rw [hd, ← bytes_app]
   simp [Heap.new, pushF, bV]
theorem fit_stay {m n wb : Nat} {ty : TypeId} {b : Bs} {cs : List AV} {g : List (Nat × Blk)} (h : Wok m wb b cs g) : FitH m (idn m) [] ⟨n, [[], WF wb ty (.ptr wb 0) b cs g]⟩ ⟨m + 1, [WF wb ty (.ptr wb 0) b cs g]⟩ := by
 obtain ⟨k, out⟩ := b
 exact fitWr (kc := k) (k' := k) (fz := out.length) (out := out) (O := .obj ty (.ptr wb 0 :: bV ⟨k, out⟩ :: cs)) (.inl ⟨rfl, rfl, fun hne => (h.hk hne).2⟩) (by omega) h.lw h.lg h.nd (fun hne => (h.hk hne).1) (by simp [Heap.get, getFs, getF, WF_o])
  (fit_obj (lookN_idn h.lw) (fun hne => lookN_idn (h.hk hne).2) (h.sc _ (idl_idn m))) (fun hne => by simp only [Heap.get, getFs, getF]; rw [WF_b h hne]) (Nat.le_refl _) (fun e he => ⟨by simp only [Heap.get, getFs, getF]; rw [WF_g h he], h.sg e he⟩)
theorem fit_new {m n c wb fz : Nat} {ty : TypeId} {out : Str} {b0 : Bs} {cs : List AV} {g : List (Nat × Blk)} (h : Wok m wb b0 cs g) (hc : m ≤ c) (hne : out ≠ []) (hfz : fz ≤ out.length) :
  FitH m ((c, m) :: idn m) [] ⟨n, [[], (c, .buf 5 fz (bytesAV out)) :: (wb, .obj ty (.ptr wb 0 :: .slc c 0 out.length (.rest 1) :: cs)) :: g]⟩ ⟨m + 1, [WF wb ty (.ptr wb 0) ⟨m, out⟩ cs g]⟩ := by
 have hw : Nat.beq c wb = false := beqN_ne (by have := h.lw; omega)
 have hbv : bV ⟨c, out⟩ = .slc c 0 out.length (.rest 1) := bV_ne (b := ⟨c, out⟩) hne
 have idl := idl_cons (m := m) (k := c) (k' := m) hc
 refine fitWr (kc := c) (k' := m) (fz := fz) (out := out) (O := .obj ty (.ptr wb 0 :: .slc c 0 out.length (.rest 1) :: cs)) (.inr ⟨rfl, rfl, hc⟩) (by omega) h.lw h.lg h.nd (fun _ hx => ?_) (by simp [Heap.get, getFs, getF, hw]) ?_ (fun _ => by simp [Heap.get, getFs, getF]) hfz (fun e he => ⟨?_, h.sg e he⟩)
 ·rcases List.mem_cons.1 hx with hx | hx
  ·have := h.lw; omega
  ·obtain ⟨e, he, hx⟩ := List.mem_map.1 hx
   have := h.lg e he; omega
 ·rw [← hbv]
  exact fit_obj (idl _ h.lw) (fun _ => by simp [lookN]) (h.sc _ idl)
 ·have nd := h.nd
  rw [List.nodup_cons] at nd
  have e1 : Nat.beq wb e.1 = false := beqN_ne fun x => nd.1 (List.mem_map.2 ⟨e, he, x.symm⟩)
  have e2 : Nat.beq c e.1 = false := beqN_ne (by have := h.lg e he; omega)
  have := get_of_mem (fs := [g]) (b := e.1) (k := e.2) (by simpa using nd.2) (by simpa using he)
  simp only [getFs] at this
  simp only [Heap.get, getFs, getF, e1, e2]
  exact this
theorem c25 {T : List (Entry Tryz.prog)} (hE : findE 82 T = some e82.g) {m wb : Nat} {ty : TypeId} {a : AV} {b : Bs} {cs : List AV} {g : List (Nat × Blk)} (h : Wok m wb b cs g) (ha : a = .nilP ∨ a = .ptr wb 0)
  (hl : liesAt Tryz.prog Tryz.prog.depth ty ((cs.length + 1 + 1) / Tryz.prog.cellsOf ty) 0 49 1 = true) (s : Str) (hs : b.out.length + s.length ≤ 1000000000) :
  CallAt (ctx T) 25 [.ptr wb 0, .str s] ⟨m, [WF wb ty a b cs g]⟩ (.tup [.int .i64 (s.length : Nat), .nilI]) ⟨m + 1, [WF wb ty (.ptr wb 0) (upd m b s) cs g]⟩ := by
 have hcc := (c58 (T := T) hE h ha hl).perm (H2 := ⟨m, [[], WF wb ty a b cs g]⟩) (H2' := ⟨m + 1, [[], WF wb ty (.ptr wb 0) b cs g]⟩) rfl rfl (by simp [Heap.ents]) (by simp [Heap.ents])
 have h1 := h.mono (Nat.le_succ m)
 have happ := app_bs (ty := ty) (a := .ptr wb 0) h1 s hs
 refine callAt_body (fn := Tryz.f25) (s0 := ⟨[0, 1, 4, 5], [.ptr wb 0, .str s, .undef, .undef], [], 19, ⟨m, [] :: [WF wb ty a b cs g]⟩⟩) Tryz.func25 rfl rfl rfl ?_
 repeat apply wq
 refine wps_region callOK ?_
 simp [zS]
 repeat apply wq
 refine wps_region (callOKF [⟨58, _, _, _, _, hcc⟩]) ?_
 simp [zS, callF]
 have hO : ∀ n, Heap.get ⟨n, [[], WF wb ty (.ptr wb 0) b cs g]⟩ wb = some (.obj ty (.ptr wb 0 :: bV b :: cs)) := fun n => by simp [Heap.get, getFs, getF, WF_o]
 cases s with
 | nil =>
  simp only at happ
  have hset : setF wb (.obj ty (.ptr wb 0 :: bV b :: cs)) (WF wb ty (.ptr wb 0) b cs g) = some (WF wb ty (.ptr wb 0) b cs g) := setF_same WF_o
  obtain ⟨k, out⟩ := b
  cases out with
  | nil =>
   simp only [bV] at happ hset
   repeat apply wq
   refine wps_region callOK ?_
   simp [zS, WF_o, bV, happ, hset]
   repeat apply wq
   refine wps_region callOK ?_
   simp [zS]
   repeat apply wq
   refine wps_ret ?_
   simp [retVal, Tryz.f25, oneOr]
   exact ⟨idn m, [], by simp [fitV, fitL, pureV, pureL], fit_stay h⟩
  | cons c r =>
   simp only [bV, List.length_cons] at happ hset
   repeat apply wq
   refine wps_region callOK ?_
   simp [zS, WF_o, bV, happ, hset, promW WF_o]
   repeat apply wq
   refine wps_region callOK ?_
   simp [zS]
   repeat apply wq
   refine wps_ret ?_
   simp [retVal, Tryz.f25, oneOr]
   exact ⟨idn m, [], by simp [fitV, fitL, pureV, pureL], fit_stay h⟩
 | cons d q =>
  simp only at happ
  have hbw : Nat.beq (m + 1) wb = false := beqN_ne (by have := h.lw; omega)
  have pr := prom2 (wb := wb) (c := m + 1) (k := .buf 5 (if b.out = [] then 0 else b.out.length) (bytesAV (b.out ++ d :: q))) (x := (m + 1, .buf 5 (if b.out = [] then 0 else b.out.length) (bytesAV (b.out ++ d :: q)))) (f1 := []) (f2 := (wb, .obj ty (.ptr wb 0 :: bV b :: cs)) :: g) (kb := .obj ty (.ptr wb 0 :: bV b :: cs)) (by simp [getF, hbw]) (by simp [getF]) (by simp [getF]) (refs_bytes _ _ _)
  repeat apply wq
  refine wps_region callOK ?_
  simp [zS, WF_o, happ, hbw, pr, killF]
  repeat apply wq
  refine wps_region callOK ?_
  simp [zS]
  repeat apply wq
  refine wps_ret ?_
  simp [retVal, Tryz.f25, oneOr]
  refine ⟨(m + 1, m) :: idn m, [], by simp [fitV, fitL, pureV, pureL], ?_⟩
  have := fit_new (n := m + 1 + 1) (ty := ty) (c := m + 1) (out := b.out ++ d :: q) (fz := if b.out = [] then 0 else b.out.length) h (by omega) (by simp) (by split <;> simp)
  simpa [upd] using this
theorem bytesS_b : ∀ (s : Str), bytesS (bytesAV s) = some s
 | [] => rfl
 | c :: r => by
  have h1 := bytesS_b r
  have h2 : byteS1 (.int .u8 c.toNat) = some c := by
   show (idx (c.toNat : Int) 256).bind _ = _
   rw [idx_nat (by have := c.toNat_lt; omega)]
   simp
  simp only [bytesAV, bytesS, h1, h2, Option.bind_some]
theorem sd0 {H : Heap} {ts : Array TypeId} : builtinA Tryz.prog H .unsafeSliceData ts [.nilS] = some (.nilP, H) := rfl
theorem sd1 {H : Heap} {ts : Array TypeId} {k n : Nat} {cap : Cap} : builtinA Tryz.prog H .unsafeSliceData ts [.slc k 0 (n + 1) cap] = some (.ptr k 0, H) := rfl
theorem us0 {H : Heap} : builtinA Tryz.prog H .unsafeString #[79, 3] [.nilP, .int .i64 0] = some (.str [], H) := rfl
theorem us1 {H : Heap} {k : Nat} {out : Str} (hg : H.get k = some (.buf 5 out.length (bytesAV out))) (hs : H.set k (.buf 5 out.length (bytesAV out)) = some H) (hne : out ≠ []) (hl : out.length ≤ 1000000000) :
  builtinA Tryz.prog H .unsafeString #[79, 3] [.ptr k 0, .int .i64 (out.length : Nat)] = some (.str out, H) := by
 have h0 : idx (out.length : Int) 140737488355328 = some out.length := idx_nat (by omega)
 have hpos : Nat.blt 0 out.length = true := by
  have := List.length_pos_iff.2 hne
  simpa using this
 have h1 : (Nat.beq 5 5 && Nat.beq 0 0 && Nat.blt 0 out.length) = true := by rw [hpos]; rfl
 have hc : Nat.beq (Tryz.prog.cellsOf 5) 1 = true := by kernel_rfl
 have ht : takeL out.length (bytesAV out) = some (bytesAV out) := by
  have := takeL_all (bytesAV out)
  rwa [bytes_len] at this
 have hu : Tryz.prog.underlying 79 = some (.pointer 5) := Tryz.underlying79
 have hv : Tryz.prog.underlying 5 = some (.int .u8) := Tryz.underlying5
 have hts : (#[79, 3] : Array TypeId)[0]? = some 79 := rfl
 unfold builtinA
 simp only [h0, Option.bind_some, hts, hu, hg, h1, hv, hc, ht, bytesS_b, Nat.max_self, hs]
theorem c30 {T : List (Entry Tryz.prog)} {m wb : Nat} {ty : TypeId} {b : Bs} {cs : List AV} {g : List (Nat × Blk)} (h : Wok m wb b cs g) (hlen : b.out.length ≤ 1000000000) :
  CallAt (ctx T) 30 [.ptr wb 0] ⟨m, [WF wb ty (.ptr wb 0) b cs g]⟩ (.str b.out) ⟨m + 1, [WF wb ty (.ptr wb 0) b cs g]⟩ := by
 refine callAt_body (fn := Tryz.f30) (s0 := ⟨[0, 2], [.ptr wb 0, .undef], [], 14, ⟨m, [] :: [WF wb ty (.ptr wb 0) b cs g]⟩⟩) Tryz.func30 rfl rfl rfl ?_
 repeat apply wq
 refine wps_region callOK ?_
 simp [zS]
 obtain ⟨k, out⟩ := b
 cases out with
 | nil =>
  repeat apply wq
  refine wps_drawK mixed callOK (by decide +kernel) (by decide +kernel) ?_
  simp [zS, evalK_c, evalK_nil, thenK_some, WF_o, bV, lenA, sd0, us0]
  repeat apply wq
  refine wps_ret ?_
  simp [retVal, Tryz.f30, oneOr]
  exact ⟨idn m, [], fitV_pure rfl, fit_stay h⟩
 | cons c r =>
  have hg : ∀ n, Heap.get ⟨n, [[], WF wb ty (.ptr wb 0) ⟨k, c :: r⟩ cs g]⟩ k = some (.buf 5 (c :: r).length (bytesAV (c :: r))) := fun n => by
   have := WF_b (ty := ty) (a := .ptr wb 0) h (by simp)
   simp only [Heap.get, getFs, getF]
   rw [this]
  have hs : ∀ n, Heap.set ⟨n, [[], WF wb ty (.ptr wb 0) ⟨k, c :: r⟩ cs g]⟩ k (.buf 5 (c :: r).length (bytesAV (c :: r))) = some ⟨n, [[], WF wb ty (.ptr wb 0) ⟨k, c :: r⟩ cs g]⟩ := fun n => by
   have := setF_same (WF_b (ty := ty) (a := .ptr wb 0) h (by simp))
   simp only at this
   simp only [Heap.set, setFs, setF, this, Option.bind_some, Option.bind_none]
  have hu := fun n => us1 (hg n) (hs n) (by simp) hlen
  simp only [List.length_cons, Int.natCast_add, Int.natCast_one] at hu
  repeat apply wq
  refine wps_drawK mixed callOK (by decide +kernel) (by decide +kernel) ?_
  simp [zS, evalK_c, evalK_nil, thenK_some, WF_o, bV, lenA, sd1, hu]
  repeat apply wq
  refine wps_ret ?_
  simp [retVal, Tryz.f30, oneOr]
  exact ⟨idn m, [], fitV_pure rfl, fit_stay h⟩
theorem fit_done {m m2 n wb : Nat} {ty : TypeId} {b0 b2 : Bs} {cs : List AV} {g f : List (Nat × Blk)} (h : Wok m wb b0 cs g) (h2 : Wok m2 wb b2 cs g) (hne : b2.out ≠ []) (hk : m ≤ b2.k) (hf : ∀ i, i = b2.k ∨ i < m → getF i f = none) :
  FitH m ((b2.k, m) :: idn m) [] ⟨n, [f, WF wb ty (.ptr wb 0) b2 cs g]⟩ ⟨m + 1, [WF wb ty (.ptr wb 0) ⟨m, b2.out⟩ cs g]⟩ := by
 have idl := idl_cons (m := m) (k := b2.k) (k' := m) hk
 obtain ⟨k, out⟩ := b2
 simp only at hne hk hf idl
 refine fitWr (kc := k) (k' := m) (fz := out.length) (out := out) (O := .obj ty (.ptr wb 0 :: bV ⟨k, out⟩ :: cs)) (.inr ⟨rfl, rfl, hk⟩) (by omega) h.lw h.lg h.nd (fun _ hx => ?_) ?_ (fit_obj (idl _ h.lw) (fun _ => by simp [lookN]) (h.sc _ idl)) (fun _ => ?_) (Nat.le_refl _) (fun e he => ⟨?_, h.sg e he⟩)
 ·rcases List.mem_cons.1 hx with hx | hx
  ·have := h.lw; omega
  ·obtain ⟨e, he, hx⟩ := List.mem_map.1 hx
   have := h.lg e he; omega
 ·simp only [Heap.get, getFs]
  rw [hf wb (.inr h.lw), WF_o]
 ·simp only [Heap.get, getFs]
  rw [hf k (.inl rfl), WF_b h2 hne]
 ·simp only [Heap.get, getFs]
  rw [hf e.1 (.inr (h.lg e he)), WF_g h2 he]
theorem upd_out (m : Nat) (b : Bs) (s : Str) : (upd m b s).out = b.out ++ s := by cases s <;> simp [upd]
end Go.Proofs.YtfncefamflainaaGreatDoor