/- words.Split of any text of single bytes. No condition. -/
import Derived.Test.YtlgdgolobnbefaaGreatDoorMG
import Derived.Lib.Bytealg
import Derived.Test.YtlgdgolobnbefaaGreatDoorMH
import Derived.Shelf.Strings.IndexAnyAll
namespace Go.Proofs.YtlgdgolobnbefaaGreatDoor
set_option linter.unusedSimpArgs false
set_option linter.unusedVariables false
open Go Go.RowKit
set_option maxRecDepth 100000
theorem c94 {T : List (Entry Tryz.prog)} (s : Str) (c : UInt8) : CallAt (ctx T) 94 [.str s, .int .u8 (c.toNat : Int)] ⟨0, []⟩ (.int .i64 (Lib.indexByte s c)) ⟨0, []⟩ := by
  intro ρ w xs sm hx
  match xs, hx with
  | [x, y], hx =>
    have h0 := hx.2 0 (by simp) (by simp)
    have h1 := hx.2 1 (by simp) (by simp)
    simp only [List.getElem_cons_zero, List.getElem_cons_succ] at h0 h1
    cases h0; cases h1
    have hr := Lib.run_indexByteString (P := Tryz.prog) ⟨s.toArray⟩ (c.toNat : Int) w
    have hf : (ctx T).P.funcs[94]? = some Tryz.f94 := Tryz.func94
    have hn : ¬ Tryz.f94.name = "runtime.NumGoroutine" := by decide +kernel
    have e1 : (Extern.findNext Tryz.f94).isNone = true := by decide +kernel
    have e2 : Extern.find Tryz.f94 = some Extern.BytealgIndexByte.indexByte := by rfl
    have e1' : Extern.findNext Tryz.f94 = none := Option.isNone_iff_eq_none.1 e1
    have hb : Tryz.f94.body.isNone = true := rfl
    refine .inl ⟨_, ρ, w, ?_, .int _ _, sm, Step.refl _ _ _⟩
    have hc : (c.toNat : Int).toNat.toUInt8 = c := by simp
    rw [hc] at hr
    have hr' : Sem.run (ctx T).P (Extern.BytealgIndexByte.indexByte #[.string ⟨s.toArray⟩, .int .u8 (c.toNat : Int)]) w = .ok (.int .i64 (Lib.indexByte s c)) w := hr
    have hb2 : Tryz.f94.body = none := rfl
    have hr2 : Sem.run Tryz.prog (Extern.BytealgIndexByte.indexByte #[.string ⟨s.toArray⟩, .int .u8 (c.toNat : Int)]) w = .ok (.int .i64 (Lib.indexByte s c)) w := hr
    simp [callFunc, hf, hn, hb2, e1', e2, hr2]
theorem inj_sb (x y : Str × UInt8) (h : [AV.str x.1, AV.int .u8 (x.2.toNat : Int)] = [AV.str y.1, AV.int .u8 (y.2.toNat : Int)]) : x = y := by
  simp at h
  exact Prod.ext h.1 (UInt8.toNat_inj.1 (by omega))
theorem wps_scope0 {C : Ctx} {n : Nat} {r : Option Nat} {s : St} {Q : Out → St → Prop} {body : Code} (h : WpSr C n r body s (gotoQ body (fun _ _ => False) Q)) : WpSr C n r (.scope body) s Q := by
  repeat refine wps_seq ?_
  refine wps_scope (fun _ : Unit => body) (fun _ => s) (fun _ => True) (fun _ => 0) () trivial rfl ?_
  intro _ _ B _
  refine h.mono fun x s' hq => ?_
  cases x with
  | goto l =>
    simp only [gotoQ] at hq ⊢
    cases hl : findLabel body l with
    | none => rw [hl] at hq; exact hq
    | some rest => rw [hl] at hq; exact hq.elim
  | normal => exact hq
  | exit k => exact hq
  | ret => exact hq
@[simp] theorem gotoQ_ret {body : Code} {R : Code → St → Prop} {Q : Out → St → Prop} {s : St} : gotoQ body R Q .ret s = Q .ret s := rfl
@[simp] theorem gotoQ_normal {body : Code} {R : Code → St → Prop} {Q : Out → St → Prop} {s : St} : gotoQ body R Q .normal s = Q .normal s := rfl
@[simp] theorem gotoQ_exit {body : Code} {R : Code → St → Prop} {Q : Out → St → Prop} {s : St} {k : Nat} : gotoQ body R Q (.exit k) s = Q (.exit k) s := rfl
theorem c80 {T : List (Entry Tryz.prog)} (s : Str) (c : UInt8) : CallAt (ctx T) 80 [.str s, .int .u8 (c.toNat : Int)] ⟨0, []⟩ (.int .i64 (Lib.indexByte s c)) ⟨0, []⟩ := by
  have hc := (c94 (T := T) s c).lift (by simp [pureL, pureV]) ⟨0, [[]]⟩
  generalize Lib.indexByte s c = v at *
  refine callAt_body (fn := Tryz.f80) (s0 := ⟨[0, 1, 4], [.str s, .int .u8 (c.toNat : Int), .undef], [], 8, ⟨0, [[]]⟩⟩) Tryz.func80 rfl rfl rfl ?_
  repeat refine wps_seq ?_
  refine wps_region callOK ?_
  simp [zS]
  repeat refine wps_seq ?_
  refine wps_region (callOKF [⟨94, _, _, _, _, hc⟩]) ?_
  simp [zS, callF]
  repeat refine wps_seq ?_
  refine wps_ret ?_
  simp [retVal, Tryz.f80, oneOr, thenQ, blockQ]
  exact ends_pure rfl (by rfl)
theorem c103 {T : List (Entry Tryz.prog)} (s : Str) (c : UInt8) : CallAt (ctx T) 103 [.str s, .int .u8 (c.toNat : Int)] ⟨0, []⟩ (.int .i64 (Lib.indexByte s c)) ⟨0, []⟩ := by
  have hc := (c80 (T := T) s c).lift (by simp [pureL, pureV]) ⟨0, [[]]⟩
  generalize Lib.indexByte s c = v at *
  refine callAt_body (fn := Tryz.f103) (s0 := ⟨[0, 1, 4], [.str s, .int .u8 (c.toNat : Int), .undef], [], 8, ⟨0, [[]]⟩⟩) Tryz.func103 rfl rfl rfl ?_
  repeat refine wps_seq ?_
  refine wps_region callOK ?_
  simp [zS]
  repeat refine wps_seq ?_
  refine wps_region (callOKF [⟨80, _, _, _, _, hc⟩]) ?_
  simp [zS, callF]
  repeat refine wps_seq ?_
  refine wps_ret ?_
  simp [retVal, Tryz.f103, oneOr, thenQ, blockQ]
  exact ends_pure rfl (by rfl)
noncomputable def e103 : Entry Tryz.prog := mkE 103 [[], []] (fun x : Str × UInt8 => [.str x.1, .int .u8 (x.2.toNat : Int)]) (fun _ => True) (fun x => .int .i64 (Lib.indexByte x.1 x.2)) fun x _ => c103 (T := []) x.1 x.2
theorem k103 {T : List (Entry Tryz.prog)} (hT : findE 103 T = some e103.g) (s : Str) (c : UInt8) (H : Heap) : callL (ctx T) (.fn 103) [.str s, .int .u8 (c.toNat : Int)] H = some (.int .i64 (Lib.indexByte s c), H) :=
  mkE_scalar hT inj_sb (s, c) trivial rfl (by simp)
def okRune (r : Nat) : Bool := decide (r < 55296) || (decide (57343 < r) && decide (r ≤ 1114111))
theorem c104 {T : List (Entry Tryz.prog)} (r : Nat) : CallAt (ctx T) 104 [.int .i32 (r : Int)] ⟨0, []⟩ (.bool (okRune r)) ⟨0, []⟩ := by
  have h0 : (0 : Int) ≤ r := by omega
  by_cases h1 : r < 55296
  · have h1' : (r : Int) < 55296 := by omega
    refine callAt_body (fn := Tryz.f104) (s0 := ⟨[0, 2], [.int .i32 (r : Int), .undef], [], 17, ⟨0, [[]]⟩⟩) Tryz.func104 rfl rfl rfl ?_
    (repeat (first
      | (refine wps_seq ?_)
      | (refine wps_block ?_)
      | (refine wps_label ?_; simp only [thenQ, blockQ])
      | ((refine wps_region callOK ?_); simp [zS, h0, h1, h1'])
      | (refine wps_cond (t := true) rfl (fun _ => ?_) (fun h => by cases h))
      | (refine wps_cond (t := false) rfl (fun h => by cases h) (fun _ => ?_))
      | ((refine wps_skip ?_); simp only [thenQ, blockQ])
      | ((refine wps_exit ?_); simp [thenQ, blockQ])))
    repeat refine wps_seq ?_
    refine wps_ret ?_
    simp [retVal, Tryz.f104, oneOr, thenQ, blockQ]
    exact ends_pure rfl (by simp [okRune, h1])
  · have h1' : ¬ (r : Int) < 55296 := by omega
    by_cases h2 : 57343 < r
    · have h2' : (57343 : Int) < r := by omega
      by_cases h3 : r ≤ 1114111
      · have h3' : (r : Int) ≤ 1114111 := by omega
        refine callAt_body (fn := Tryz.f104) (s0 := ⟨[0, 2], [.int .i32 (r : Int), .undef], [], 17, ⟨0, [[]]⟩⟩) Tryz.func104 rfl rfl rfl ?_
        (repeat (first
          | (refine wps_seq ?_)
          | (refine wps_block ?_)
          | (refine wps_label ?_; simp only [thenQ, blockQ])
          | ((refine wps_region callOK ?_); simp [zS, h0, h1, h1', h2, h2', h3, h3'])
          | (refine wps_cond (t := true) rfl (fun _ => ?_) (fun h => by cases h))
          | (refine wps_cond (t := false) rfl (fun h => by cases h) (fun _ => ?_))
          | ((refine wps_skip ?_); simp only [thenQ, blockQ])
          | ((refine wps_exit ?_); simp [thenQ, blockQ])))
        repeat refine wps_seq ?_
        refine wps_ret ?_
        simp [retVal, Tryz.f104, oneOr, thenQ, blockQ]
        exact ends_pure rfl (by simp [okRune, h1, h2, h3])
      · have h3' : ¬ (r : Int) ≤ 1114111 := by omega
        refine callAt_body (fn := Tryz.f104) (s0 := ⟨[0, 2], [.int .i32 (r : Int), .undef], [], 17, ⟨0, [[]]⟩⟩) Tryz.func104 rfl rfl rfl ?_
        (repeat (first
          | (refine wps_seq ?_)
          | (refine wps_block ?_)
          | (refine wps_label ?_; simp only [thenQ, blockQ])
          | ((refine wps_region callOK ?_); simp [zS, h0, h1, h1', h2, h2', h3, h3'])
          | (refine wps_cond (t := true) rfl (fun _ => ?_) (fun h => by cases h))
          | (refine wps_cond (t := false) rfl (fun h => by cases h) (fun _ => ?_))
          | ((refine wps_skip ?_); simp only [thenQ, blockQ])
          | ((refine wps_exit ?_); simp [thenQ, blockQ])))
        repeat refine wps_seq ?_
        refine wps_ret ?_
        simp [retVal, Tryz.f104, oneOr, thenQ, blockQ]
        exact ends_pure rfl (by simp [okRune, h1, h2, h3])
    · have h2' : ¬ (57343 : Int) < r := by omega
      refine callAt_body (fn := Tryz.f104) (s0 := ⟨[0, 2], [.int .i32 (r : Int), .undef], [], 17, ⟨0, [[]]⟩⟩) Tryz.func104 rfl rfl rfl ?_
      (repeat (first
        | (refine wps_seq ?_)
        | (refine wps_block ?_)
        | (refine wps_label ?_; simp only [thenQ, blockQ])
        | ((refine wps_region callOK ?_); simp [zS, h0, h1, h1', h2, h2'])
        | (refine wps_cond (t := true) rfl (fun _ => ?_) (fun h => by cases h))
        | (refine wps_cond (t := false) rfl (fun h => by cases h) (fun _ => ?_))
        | ((refine wps_skip ?_); simp only [thenQ, blockQ])
        | ((refine wps_exit ?_); simp [thenQ, blockQ])))
      repeat refine wps_seq ?_
      refine wps_ret ?_
      simp [retVal, Tryz.f104, oneOr, thenQ, blockQ]
      exact ends_pure rfl (by simp [okRune, h1, h2])
noncomputable def e104 : Entry Tryz.prog := mkE 104 [[]] (fun x : Nat => [.int .i32 (x : Int)]) (fun _ => True) (fun x => .bool (okRune x)) fun x _ => c104 (T := []) x
theorem k104 {T : List (Entry Tryz.prog)} (hT : findE 104 T = some e104.g) (r : Nat) (H : Heap) : callL (ctx T) (.fn 104) [.int .i32 (r : Int)] H = some (.bool (okRune r), H) :=
  mkE_scalar hT (fun x y h => by simp at h; omega) r trivial rfl (by simp)
abbrev anyC : Str := [0, 13]
def anyV (r : Nat) : Int := if r = 0 then 0 else if r = 13 then 1 else -1
theorem bad_rune : litOK (.int .i64 (-1)) (callN (ctx []) 100000 (.fn 96) [.str anyC, .int .i32 65533] ⟨0, []⟩) = true := by decide +kernel
theorem anyV_low : ∀ c : Fin 128, anyV c.val = Lib.indexByte anyC (UInt8.ofNat c.val) := by decide +kernel
theorem enc_shape {r : Nat} (h : 128 ≤ r) (hv : okRune r = true) : (∃ a b : UInt8, (Utf8.encode (r : Int)).data.toList = [a, b] ∧ 128 ≤ b.toNat) ∨ 3 ≤ (Utf8.encode (r : Int)).data.toList.length ∧ (Utf8.encode (r : Int)).data.toList.length ≤ 4 := by
  have hval : Utf8.valid (r : Int) = true := by
    simp only [okRune, Bool.or_eq_true, Bool.and_eq_true, decide_eq_true_eq] at hv
    simp only [Utf8.valid, Bool.or_eq_true, Bool.and_eq_true, decide_eq_true_eq]
    omega
  unfold Utf8.encode
  simp only [hval, if_true, Int.toNat_natCast]
  rw [if_neg (by omega)]
  split
  · left
    refine ⟨_, _, rfl, ?_⟩
    simp only [UInt8.toNat_ofNat']
    omega
  · right
    split <;> simp
theorem c96 {T : List (Entry Tryz.prog)} (hB : findE 103 T = some e103.g) (hV : findE 104 T = some e104.g) (r : Nat) (hr : r ≤ 1114111) : CallAt (ctx T) 96 [.str anyC, .int .i32 (r : Int)] ⟨0, []⟩ (.int .i64 (anyV r)) ⟨0, []⟩ := by
  have h0 : (0 : Int) ≤ r := by omega
  by_cases h1 : r < 128
  · have h1' : (r : Int) < 128 := by omega
    have hw : IntKind.u8.wrap (r : Int) = ((UInt8.ofNat r).toNat : Int) := by
      have e : (UInt8.ofNat r).toNat = r := by simp; omega
      rw [e]
      simp [IntKind.wrap, IntKind.signed, IntKind.bits]
      omega
    have hcv : ∀ H, convA Tryz.prog H 21 5 (.int .i32 (r : Int)) = some (.int .u8 ((UInt8.ofNat r).toNat : Int), H) := fun H => by simp [convA, hw]
    have hk := fun H => k103 hB anyC (UInt8.ofNat r) H
    have hv := anyV_low ⟨r, h1⟩
    simp only at hv
    rw [← hv] at hk
    generalize UInt8.ofNat r = c at *
    generalize anyV r = v at *
    refine callAt_body (fn := Tryz.f96) (s0 := ⟨[0, 1, 4, 5, 6, 7, 8, 9, 10, 11, 12, 13, 14, 15, 16, 175, 176], [.str anyC, .int .i32 (r : Int), .undef, .undef, .undef, .undef, .undef, .undef, .undef, .undef, .undef, .undef, .undef, .undef, .undef, .undef, .undef], [], 187, ⟨0, [[]]⟩⟩) Tryz.func96 rfl rfl rfl ?_
    repeat refine wps_seq ?_
    refine wps_region callOK ?_
    simp [zS]
    repeat refine wps_seq ?_
    refine wps_block ?_
    repeat refine wps_seq ?_
    refine wps_region callOK ?_
    simp [zS, h0, h1, h1']
    repeat refine wps_seq ?_
    refine wps_cond (t := true) rfl (fun _ => ?_) fun h => by cases h
    repeat refine wps_seq ?_
    refine wps_region callOK ?_
    simp [zS, hcv, hk]
    repeat refine wps_seq ?_
    refine wps_ret ?_
    simp [retVal, Tryz.f96, oneOr, thenQ, blockQ]
    exact ends_pure rfl (by rfl)
  have hn : anyV r = -1 := by unfold anyV; rw [if_neg (by omega), if_neg (by omega)]
  by_cases h2 : r = 65533
  · subst h2
    rw [hn]
    exact closedLit (T := []) bad_rune
  have h1' : ¬ (r : Int) < 128 := by omega
  have h2' : ¬ (r : Int) = 65533 := by omega
  have kv := fun H => k104 hV r H
  rw [hn]
  cases hok : okRune r with
  | false =>
    rw [hok] at kv
    refine callAt_body (fn := Tryz.f96) (s0 := ⟨[0, 1, 4, 5, 6, 7, 8, 9, 10, 11, 12, 13, 14, 15, 16, 175, 176], [.str anyC, .int .i32 (r : Int), .undef, .undef, .undef, .undef, .undef, .undef, .undef, .undef, .undef, .undef, .undef, .undef, .undef, .undef, .undef], [], 187, ⟨0, [[]]⟩⟩) Tryz.func96 rfl rfl rfl ?_
    repeat refine wps_seq ?_
    refine wps_region callOK ?_
    simp [zS]
    repeat refine wps_seq ?_
    refine wps_block ?_
    repeat refine wps_seq ?_
    refine wps_region callOK ?_
    simp [zS, h0, h1, h1']
    repeat refine wps_seq ?_
    refine wps_cond (t := false) rfl (fun h => by cases h) fun _ => ?_
    repeat refine wps_seq ?_
    refine wps_region callOK ?_
    simp [zS, h2, h2']
    repeat refine wps_seq ?_
    refine wps_cond (t := false) rfl (fun h => by cases h) fun _ => ?_
    repeat refine wps_seq ?_
    refine wps_region callOK ?_
    simp [zS, kv]
    repeat refine wps_seq ?_
    refine wps_cond (t := true) rfl (fun _ => ?_) fun h => by cases h
    repeat refine wps_seq ?_
    refine wps_region callOK ?_
    simp [zS]
    repeat refine wps_seq ?_
    refine wps_ret ?_
    simp [retVal, Tryz.f96, oneOr, thenQ, blockQ]
    exact ends_pure rfl (by rfl)
  | true =>
    rw [hok] at kv
    have hsh := enc_shape (by omega) hok
    have hcv : ∀ H, convA Tryz.prog H 21 9 (.int .i32 (r : Int)) = some (.str (Utf8.encode (r : Int)).data.toList, H) := fun H => by simp [convA]
    generalize (Utf8.encode (r : Int)).data.toList = rs at *
    refine callAt_body (fn := Tryz.f96) (s0 := ⟨[0, 1, 4, 5, 6, 7, 8, 9, 10, 11, 12, 13, 14, 15, 16, 175, 176], [.str anyC, .int .i32 (r : Int), .undef, .undef, .undef, .undef, .undef, .undef, .undef, .undef, .undef, .undef, .undef, .undef, .undef, .undef, .undef], [], 187, ⟨0, [[]]⟩⟩) Tryz.func96 rfl rfl rfl ?_
    repeat refine wps_seq ?_
    refine wps_region callOK ?_
    simp [zS]
    repeat refine wps_seq ?_
    refine wps_block ?_
    repeat refine wps_seq ?_
    refine wps_region callOK ?_
    simp [zS, h0, h1, h1']
    repeat refine wps_seq ?_
    refine wps_cond (t := false) rfl (fun h => by cases h) fun _ => ?_
    repeat refine wps_seq ?_
    refine wps_region callOK ?_
    simp [zS, h2, h2']
    repeat refine wps_seq ?_
    refine wps_cond (t := false) rfl (fun h => by cases h) fun _ => ?_
    repeat refine wps_seq ?_
    refine wps_region callOK ?_
    simp [zS, kv]
    repeat refine wps_seq ?_
    refine wps_cond (t := false) rfl (fun h => by cases h) fun _ => ?_
    refine wps_scope0 ?_
    rcases hsh with ⟨a, b, rfl, hb⟩ | ⟨g1, g2⟩
    · have hkb := fun H => k103 hB [] b H
      have hib : Lib.indexByte [] b = -1 := rfl
      rw [hib] at hkb
      have hne : ¬ (13 : Int) = (b.toNat : Int) := by omega
      have hne' : ¬ (b.toNat : Int) = 13 := by omega
      have ix1 : indexA Tryz.prog 9 (.str anyC) (.int .i64 1) = some (.int .u8 13) := rfl
      have ix2 : indexA Tryz.prog 9 (.str [a, b]) (.int .i64 1) = some (.int .u8 (b.toNat : Int)) := rfl
      have sl : ∀ H, sliceA Tryz.prog H 9 (.str anyC) (some (.int .i64 2)) none none = some (.str []) := fun H => rfl
      repeat refine wps_seq ?_
      refine wps_region callOK ?_
      simp [zS, hcv]
      have w1 : wr .i64 1 = some 1 := rfl
      repeat refine wps_seq ?_
      refine wps_region callOK ?_
      simp [zS, w1]
      repeat refine wps_seq ?_
      refine wps_region callOK ?_
      simp [zS]
      repeat refine wps_seq ?_
      refine wps_region callOK ?_
      simp [zS]
      repeat refine wps_seq ?_
      refine wps_block (wps_loop' (fun _ : Unit => (⟨[0, 1, 4, 5, 6, 7, 8, 9, 10, 11, 12, 13, 14, 15, 16, 175, 176], [.str anyC, .int .i32 (r : Int), .int .i64 0, .undef, .undef, .str [a, b], .int .i64 1, .int .i64 1, .int .i64 0, .undef, .undef, .undef, .undef, .undef, .undef, .undef, .undef], [], 187, ⟨0, [[]]⟩⟩ : St)) (fun _ => True) (fun _ => 0) [] [] () trivial ⟨rfl, rfl, rfl, by simp [fitL, fitV, pureV, pureL], FitH.nothing⟩ ?_)
      intro _ _ B hB
      repeat refine wps_seq ?_
      refine wps_region callOK ?_
      simp [zS]
      repeat refine wps_seq ?_
      refine wps_cond (t := true) rfl (fun _ => ?_) fun h => by cases h
      repeat refine wps_seq ?_
      refine wps_skip ?_
      simp
      repeat refine wps_seq ?_
      refine wps_block ?_
      refine wps_scope0 ?_
      repeat refine wps_seq ?_
      refine wps_drawK mixed callOK (by decide +kernel) (by decide +kernel) ?_
      simp [zS, evalK_c, evalK_nil, thenK_some, ix1, ix2, hne, hne']
      repeat refine wps_seq ?_
      refine wps_cond (t := true) rfl (fun _ => ?_) fun h => by cases h
      have w2 : wr .i64 2 = some 2 := rfl
      repeat refine wps_seq ?_
      refine wps_drawK mixed callOK (by decide +kernel) (by decide +kernel) ?_
      simp [zS, evalK_c, evalK_nil, thenK_some, ix2, w2, sl, hkb]
      repeat refine wps_seq ?_
      refine wps_region callOK ?_
      simp [zS]
      repeat refine wps_seq ?_
      refine wps_cond (t := true) rfl (fun _ => ?_) fun h => by cases h
      repeat refine wps_seq ?_
      refine wps_region callOK ?_
      simp [zS]
      repeat refine wps_seq ?_
      refine wps_ret ?_
      simp [retVal, Tryz.f96, oneOr, thenQ, blockQ]
      exact ends_pure rfl (by rfl)
    · obtain ⟨L, hL⟩ : ∃ L, rs.length = L + 1 := ⟨rs.length - 1, by omega⟩
      have hw : wr .i64 ((rs.length : Int) - 1) = some ((L : Nat) : Int) := by rw [wr_small (by omega) (by omega), hL]; congr 1; omega
      have hlt : ¬ (L : Int) < 2 := by omega
      have hlt' : ¬ L < 2 := by omega
      repeat refine wps_seq ?_
      refine wps_region callOK ?_
      simp [zS, hcv]
      repeat refine wps_seq ?_
      refine wps_region callOK ?_
      simp [zS, hw]
      repeat refine wps_seq ?_
      refine wps_region callOK ?_
      simp [zS]
      repeat refine wps_seq ?_
      refine wps_region callOK ?_
      simp [zS]
      repeat refine wps_seq ?_
      refine wps_block (wps_loop' (fun _ : Unit => (⟨[0, 1, 4, 5, 6, 7, 8, 9, 10, 11, 12, 13, 14, 15, 16, 175, 176], [.str anyC, .int .i32 (r : Int), .int .i64 0, .undef, .undef, .str rs, .int .i64 (L : Nat), .int .i64 (L : Nat), .int .i64 0, .undef, .undef, .undef, .undef, .undef, .undef, .undef, .undef], [], 187, ⟨0, [[]]⟩⟩ : St)) (fun _ => True) (fun _ => 0) [] [] () trivial ⟨rfl, rfl, rfl, by simp [fitL, fitV, pureV, pureL], FitH.nothing⟩ ?_)
      intro _ _ B hB
      repeat refine wps_seq ?_
      refine wps_region callOK ?_
      simp [zS, hlt, hlt']
      repeat refine wps_seq ?_
      refine wps_cond (t := false) (by simp [opnd, St.get, hlt, hlt']) (fun h => by cases h) fun _ => ?_
      repeat refine wps_seq ?_
      refine wps_exit ?_
      simp
      repeat refine wps_seq ?_
      refine wps_region callOK ?_
      simp [zS]
      repeat refine wps_seq ?_
      refine wps_ret ?_
      simp [retVal, Tryz.f96, oneOr, thenQ, blockQ]
      exact ends_pure rfl (by rfl)
noncomputable def e96 : Entry Tryz.prog := mkE 96 [[], []] (fun x : Nat => [.str anyC, .int .i32 (x : Int)]) (fun x => x ≤ 1114111) (fun x => .int .i64 (anyV x)) fun x h => c96 (T := [e103, e104]) rfl rfl x h
theorem k96 {T : List (Entry Tryz.prog)} (hT : findE 96 T = some e96.g) {r : Nat} (hr : r ≤ 1114111) (H : Heap) : callL (ctx T) (.fn 96) [.str anyC, .int .i32 (r : Int)] H = some (.int .i64 (anyV r), H) :=
  mkE_scalar hT (fun x y h => by simp at h; omega) r hr rfl (by simp)
def lays153_ren : Go.Shelf.Ren := ⟨fun | 119 => 104 | 137 => 103 | 152 => 96 | 153 => 85 | 217 => 80 | 224 => 82 | 225 => 81 | 226 => 97 | 227 => 98 | 228 => 99 | 266 => 94 | n => n, fun | 0 => 0 | 3 => 3 | 4 => 4 | 5 => 5 | 9 => 9 | 21 => 21 | 46 => 131 | 116 => 163 | 117 => 164 | 124 => 171 | n => n, fun | n => n⟩
theorem lays153 : Go.Proofs.Lays.n153 Tryz.prog lays153_ren where
  mixed := by kernel_rfl
  f119 := Tryz.func104.trans (congrArg some (by kernel_rfl))
  f137 := Tryz.func103.trans (congrArg some (by kernel_rfl))
  f152 := Tryz.func96.trans (congrArg some (by kernel_rfl))
  f153 := Tryz.func85.trans (congrArg some (by kernel_rfl))
  f217 := Tryz.func80.trans (congrArg some (by kernel_rfl))
  f224 := Tryz.func82.trans (congrArg some (by kernel_rfl))
  f225 := Tryz.func81.trans (congrArg some (by kernel_rfl))
  f226 := Tryz.func97.trans (congrArg some (by kernel_rfl))
  f227 := Tryz.func98.trans (congrArg some (by kernel_rfl))
  f228 := Tryz.func99.trans (congrArg some (by kernel_rfl))
  f266 := Tryz.func94.trans (congrArg some (by kernel_rfl))
  t0 := Tryz.underlying0
  a0 := Tryz.isAgg0
  z0 := Tryz.sizeOf0
  v0 := Tryz.zeroValue0
  t3 := Tryz.underlying3
  a3 := Tryz.isAgg3
  z3 := Tryz.sizeOf3
  v3 := Tryz.zeroValue3
  t4 := Tryz.underlying4
  a4 := Tryz.isAgg4
  z4 := Tryz.sizeOf4
  v4 := Tryz.zeroValue4
  t5 := Tryz.underlying5
  a5 := Tryz.isAgg5
  z5 := Tryz.sizeOf5
  v5 := Tryz.zeroValue5
  t9 := Tryz.underlying9
  a9 := Tryz.isAgg9
  z9 := Tryz.sizeOf9
  v9 := Tryz.zeroValue9
  t21 := Tryz.underlying21
  a21 := Tryz.isAgg21
  z21 := Tryz.sizeOf21
  v21 := Tryz.zeroValue21
  t46 := Tryz.underlying131
  a46 := Tryz.isAgg131
  z46 := Tryz.sizeOf131
  v46 := Tryz.zeroValue131
  t116 := Tryz.underlying163
  a116 := Tryz.isAgg163
  z116 := Tryz.sizeOf163
  t117 := Tryz.underlying164
  a117 := Tryz.isAgg164
  z117 := Tryz.sizeOf164
  v117 := Tryz.zeroValue164
  t124 := Tryz.underlying171
  a124 := Tryz.isAgg171
  z124 := Tryz.sizeOf171
  v124 := Tryz.zeroValue171
def badR (r : Nat) : Bool := decide (r = 0) || decide (r = 13)
def idxAny (s : Str) : Int := if s.length ≤ 8 then rIdx badR s.length s 0 else Lib.indexAny s anyC
theorem any_idx : ∀ (s : Str), 0 ≤ Lib.indexAny s anyC ↔ hasB badR s = true
  | [] => by simp [Lib.indexAny, hasB]
  | c :: r => by
    have ih := any_idx r
    have hc : (anyC.contains c) = badR c.toNat := by
      have key : ∀ n : Fin 256, (anyC.contains (UInt8.ofNat n.val)) = badR n.val := by decide +kernel
      have := key ⟨c.toNat, c.toNat_lt⟩
      simpa using this
    have hcons : hasB badR (c :: r) = (badR c.toNat || hasB badR r) := by simp [hasB]
    unfold Lib.indexAny
    rw [hc, hcons]
    cases badR c.toNat with
    | true => simp
    | false =>
      have hge := Lib.indexAny_ge anyC r
      simp only [Bool.false_eq_true, if_false, Bool.false_or]
      rw [← ih]
      split
      · rename_i h
        simp only [beq_iff_eq] at h
        omega
      · rename_i h
        simp only [beq_iff_eq] at h
        omega
theorem idxAny_iff (s : Str) : 0 ≤ idxAny s ↔ hasB badR s = true := by
  unfold idxAny
  split
  · exact rIdx_low (fun r h => by simp [badR] at h; omega) _ _ _ (Nat.le_refl _)
  · exact any_idx s
theorem set_info : (Tryz.prog.info? 163).map (fun i => (i.zero, i.size)) = some (some (.agg (Array.replicate 256 (.bool false))), 256) := by kernel_rfl
theorem c97 {T : List (Entry Tryz.prog)} (n : Nat) (h : n ≤ 8) : CallAt (ctx T) 97 [.int .i64 (n : Int)] ⟨0, []⟩ (.bool false) ⟨0, []⟩ := by
  have h1 : ¬ (8 : Int) < (n : Int) := by omega
  have h2 : ¬ 8 < n := by omega
  refine callAt_body (fn := Tryz.f97) (s0 := ⟨[0, 2], [.int .i64 (n : Int), .undef], [], 5, ⟨0, [[]]⟩⟩) Tryz.func97 rfl rfl rfl ?_
  (repeat (first
    | (refine wps_seq ?_)
    | (refine wps_block ?_)
    | (refine wps_label ?_; simp only [thenQ, blockQ])
    | ((refine wps_region callOK ?_); simp [zS, h1, h2])
    | (refine wps_cond (t := true) rfl (fun _ => ?_) (fun h => by cases h))
    | (refine wps_cond (t := false) rfl (fun h => by cases h) (fun _ => ?_))
    | ((refine wps_skip ?_); simp only [thenQ, blockQ])
    | ((refine wps_exit ?_); simp [thenQ, blockQ])))
  repeat refine wps_seq ?_
  refine wps_ret ?_
  simp [retVal, Tryz.f97, oneOr, thenQ, blockQ]
  exact ends_pure rfl (by rfl)
theorem c85 {T : List (Entry Tryz.prog)} (hR : findE 96 T = some e96.g) (s : Str) (hl : s.length ≤ 900000) : CallAt (ctx T) 85 [.str s, .str anyC] ⟨0, []⟩ (.int .i64 (idxAny s)) ⟨0, []⟩ := by
  by_cases h8 : s.length ≤ 8
  · have hv : idxAny s = rIdx badR s.length s 0 := by unfold idxAny; rw [if_pos h8]
    rw [hv]
    have hu := (c97 (T := T) s.length h8).lift (by simp [pureL, pureV]) ⟨0, [[]]⟩
    refine callAt_body (fn := Tryz.f85) (s0 := ⟨[0, 1, 4, 5, 6, 7, 8, 9, 10, 45, 46], [.str s, .str anyC, .undef, .undef, .undef, .undef, .undef, .undef, .undef, .undef, .undef], [], 55, ⟨0, [[]]⟩⟩) Tryz.func85 rfl rfl rfl ?_
    repeat refine wps_seq ?_
    refine wps_region callOK ?_
    simp [zS]
    repeat refine wps_seq ?_
    refine wps_region callOK ?_
    simp [zS]
    repeat refine wps_seq ?_
    refine wps_cond (t := false) rfl (fun h => by cases h) fun _ => ?_
    repeat refine wps_seq ?_
    refine wps_skip ?_
    simp
    repeat refine wps_seq ?_
    refine wps_region callOK ?_
    simp [zS]
    repeat refine wps_seq ?_
    refine wps_cond (t := false) rfl (fun h => by cases h) fun _ => ?_
    repeat refine wps_seq ?_
    refine wps_skip ?_
    simp
    repeat refine wps_seq ?_
    repeat refine wps_seq ?_
    refine wps_region (callOKF [⟨97, _, _, _, _, hu⟩]) ?_
    simp [zS, callF]
    repeat refine wps_seq ?_
    refine wps_cond (t := false) rfl (fun h => by cases h) fun _ => ?_
    repeat refine wps_seq ?_
    refine wps_skip ?_
    simp
    repeat refine wps_seq ?_
    refine wps_region callOK ?_
    simp [zS, rgV]
    repeat refine wps_seq ?_
    refine wps_block (wps_loop' (fun x : Nat × Nat => (⟨[0, 1, 4, 5, 6, 7, 8, 9, 10, 45, 46], [.str s, .str anyC, .int .i64 0, .undef, .undef, .undef, .undef, .undef, .undef, .ptr 0 0, .undef], [], 55, ⟨1, [[(0, .iter s x.2)]]⟩⟩ : St))
      (fun x => x.2 ≤ s.length ∧ s.length ≤ x.2 + x.1 ∧ rIdx badR x.1 (s.drop x.2) x.2 = rIdx badR s.length s 0) (fun x => x.1) [(0, 0)] [] (s.length, 0) ⟨Nat.zero_le _, by simp, by simp⟩
      ⟨rfl, rfl, rfl, by simp [fitL, fitV, lookN, pureV, pureL], fit_it⟩ ?_)
    rintro ⟨k, i⟩ ⟨hi, hk, hd⟩ B hB
    simp only at hi hk hd hB
    by_cases h : i < s.length
    · obtain ⟨k, rfl⟩ : ∃ k', k = k' + 1 := ⟨k - 1, by omega⟩
      have hne : s.drop i ≠ [] := fun e => by have := congrArg List.length e; simp at this; omega
      have hdl : 0 < (s.drop i).length := by rw [List.length_drop]; omega
      have hr := dec_rune (s.drop i)
      have hw : 1 ≤ (Lib.decodeL (s.drop i)).2 ∧ (Lib.decodeL (s.drop i)).2 ≤ s.length - i := by
        rcases dec_cases hdl with ⟨g1, g2⟩ | ⟨g1, g2, g3, g4, g5⟩
        · rw [g2]; simp only; omega
        · rw [List.length_drop] at g4; omega
      have hn := fun m => itU_yes (m := m) (b := 0) (g := []) h
      have hyes := rIdx_yes (p := badR) (k := k) (pos := i) hne
      have hno := rIdx_no (p := badR) (k := k) (pos := i) hne
      generalize Lib.decodeL (s.drop i) = d at *
      obtain ⟨r, w⟩ := d
      simp only at hr hw hn hyes hno
      have hcall := fun H => k96 hR hr H
      have hbv : (0 ≤ anyV r) ↔ badR r = true := by
        unfold anyV badR
        by_cases h1 : r = 0
        · simp [h1]
        · by_cases h2 : r = 13
          · simp [h2]
          · simp [h1, h2]
      generalize anyV r = v at *
      repeat refine wps_seq ?_
      refine wps_region callOK ?_
      simp [zS, nxV, hn]
      repeat refine wps_seq ?_
      refine wps_cond (t := true) rfl (fun _ => ?_) fun h => by cases h
      repeat refine wps_seq ?_
      refine wps_skip ?_
      simp
      repeat refine wps_seq ?_
      refine wps_block ?_
      repeat refine wps_seq ?_
      refine wps_region callOK ?_
      simp [zS]
      by_cases hpr : 0 ≤ v
      · repeat refine wps_seq ?_
        refine wps_region callOK ?_
        simp [zS, hcall, hpr]
        repeat refine wps_seq ?_
        refine wps_cond (t := true) rfl (fun _ => ?_) fun h => by cases h
        repeat refine wps_seq ?_
        refine wps_region callOK ?_
        simp [zS]
        repeat refine wps_seq ?_
        refine wps_ret ?_
        simp [retVal, Tryz.f85, oneOr, thenQ, blockQ]
        exact ends_pure rfl (by rw [← hd, hyes (hbv.1 hpr)])
      · have hpf : badR r = false := by
          cases hq : badR r with
          | false => rfl
          | true => exact absurd (hbv.2 hq) hpr
        repeat refine wps_seq ?_
        refine wps_region callOK ?_
        simp [zS, hcall, hpr]
        repeat refine wps_seq ?_
        refine wps_cond (t := false) rfl (fun h => by cases h) fun _ => ?_
        repeat refine wps_seq ?_
        refine wps_skip ?_
        simp
        refine hB _ (k, i + w) (by simp only; omega) ⟨by simp only; omega, by simp only; omega, ?_⟩ ⟨[(0, 0)], [], rfl, rfl, rfl, by simp [fitL, fitV, lookN, pureV, pureL], fit_it⟩
        simp only
        rw [← hd, hno hpf, List.drop_drop]
    · have hie : i = s.length := by omega
      subst hie
      have hn := fun m => itU_no (m := m) (b := 0) (g := []) h
      rw [List.drop_length, rIdx_none] at hd
      repeat refine wps_seq ?_
      refine wps_region callOK ?_
      simp [zS, nxV, hn]
      repeat refine wps_seq ?_
      refine wps_cond (t := false) rfl (fun h => by cases h) fun _ => ?_
      repeat refine wps_seq ?_
      refine wps_exit ?_
      simp
      repeat refine wps_seq ?_
      refine wps_region callOK ?_
      simp [zS]
      repeat refine wps_seq ?_
      refine wps_ret ?_
      simp [retVal, Tryz.f85, oneOr, thenQ, blockQ]
      exact ends_pure rfl (by rw [← hd])
  · have hv : idxAny s = Lib.indexAny s anyC := by unfold idxAny; rw [if_neg h8]
    rw [hv]
    intro ρ w xs sm hx
    match xs, hx with
    | [x, y], hx =>
      have h0 := hx.2 0 (by simp) (by simp)
      have h1 := hx.2 1 (by simp) (by simp)
      simp only [List.getElem_cons_zero, List.getElem_cons_succ] at h0 h1
      cases h0; cases h1
      have hrun : (callFunc 85 #[.string ⟨s.toArray⟩, .string ⟨anyC.toArray⟩]).run (ctx T).P w = .ok (.enter 85 #[.string ⟨s.toArray⟩, .string ⟨anyC.toArray⟩]) w := by
        have hf : (ctx T).P.funcs[85]? = some Tryz.f85 := Tryz.func85
        have hn : ¬ Tryz.f85.name = "runtime.NumGoroutine" := by decide +kernel
        simp [callFunc, hf, hn, Tryz.f85]
      have hsz : (⟨s.toArray⟩ : ByteArray).size = s.length := by show s.toArray.size = _; simp
      refine .inr ⟨85, _, hrun, callsIn_wide.2 ?_⟩
      refine (Go.Proofs.Any.strings_IndexAny_long lays153 (zero_of_info set_info).1 (zero_of_info set_info).2 ⟨s.toArray⟩ ⟨anyC.toArray⟩ w (by decide) (by rw [hsz]; omega) (by rw [hsz]; omega) (by decide) (fun j b hj => ?_)).mono ?_
      · have hm : b ∈ anyC := List.mem_of_getElem? hj
        simp at hm
        rcases hm with rfl | rfl <;> decide
      · rintro e w' ⟨rfl, hb⟩
        have hb' : Below w.heap.size w w' := by
          rw [hb]
          exact ((Below.refl _ _).alloc (Nat.le_refl _) _).alloc (by simp) _
        exact ⟨_, ρ, rfl, .int _ _, sim_belowU sm hb', step_belowU hb'⟩
theorem c66 {T : List (Entry Tryz.prog)} (hR : findE 96 T = some e96.g) (s : Str) (hl : s.length ≤ 900000) : CallAt (ctx T) 66 [.str s, .str anyC] ⟨0, []⟩ (.bool (hasB badR s)) ⟨0, []⟩ := by
  have hc := (c85 hR s hl).lift (by simp [pureL, pureV]) ⟨0, [[]]⟩
  have hi := idxAny_iff s
  generalize idxAny s = v at *
  refine callAt_body (fn := Tryz.f66) (s0 := ⟨[0, 1, 4], [.str s, .str anyC, .undef], [], 9, ⟨0, [[]]⟩⟩) Tryz.func66 rfl rfl rfl ?_
  repeat refine wps_seq ?_
  refine wps_region callOK ?_
  simp [zS]
  repeat refine wps_seq ?_
  refine wps_region (callOKF [⟨85, _, _, _, _, hc⟩]) ?_
  simp [zS, callF]
  repeat refine wps_seq ?_
  refine wps_ret ?_
  simp [retVal, Tryz.f66, oneOr, thenQ, blockQ]
  exact ends_pure rfl (by simp [hi])
noncomputable def e66 : Entry Tryz.prog := mkE 66 [[], []] (fun x : Str => [.str x, .str anyC]) (fun x => x.length ≤ 900000) (fun x => .bool (hasB badR x)) fun x h => c66 (T := [e96]) rfl x h
theorem k66 {T : List (Entry Tryz.prog)} (hT : findE 66 T = some e66.g) {s : Str} (h1 : s.length ≤ 900000) (H : Heap) : callL (ctx T) (.fn 66) [.str s, .str anyC] H = some (.bool (hasB badR s), H) :=
  mkE_scalar hT (fun x y h => by simpa using h) s h1 rfl (by simp)
theorem valid_eq (s : Str) : (Lib.validD s && !hasB badR s) = validR s := by
  have h := valid_two s.length s (Nat.le_refl _)
  have e : hasB badR s = true ↔ hasN s 0 ∨ hasN s 13 := by
    rw [hasB_iff]
    constructor
    · rintro ⟨i, hi, hc⟩
      simp [badR] at hc
      rcases hc with hc | hc
      · exact .inl ⟨i, hi, hc⟩
      · exact .inr ⟨i, hi, hc⟩
    · rintro (⟨i, hi, hc⟩ | ⟨i, hi, hc⟩)
      · exact ⟨i, hi, by simp [badR, hc]⟩
      · exact ⟨i, hi, by simp [badR, hc]⟩
  unfold validR
  rw [Bool.eq_iff_iff]
  simp only [Bool.and_eq_true, Bool.not_eq_true', decide_eq_true_eq]
  rw [h, ← Bool.not_eq_true, e, not_or]
theorem c39 {T : List (Entry Tryz.prog)} (hV : findE 65 T = some e65.g) (hC : findE 66 T = some e66.g) (s : Str) (hl : s.length ≤ 900000) : CallAt (ctx T) 39 [.str s] ⟨0, []⟩ (.bool (validR s)) ⟨0, []⟩ := by
  have k1 := fun H => k65 hV (s := s) (by omega) H
  have k2 := fun H => k66 hC (s := s) hl H
  have hv := valid_eq s
  generalize validR s = v at *
  rcases Bool.eq_false_or_eq_true (Lib.validD s) with h | h
  · rw [h] at k1 hv
    refine callAt_body (fn := Tryz.f39) (s0 := ⟨[0, 2], [.str s, .undef], [], 10, ⟨0, [[]]⟩⟩) Tryz.func39 rfl rfl rfl ?_
    repeat refine wps_seq ?_
    refine wps_region callOK ?_
    simp [zS]
    repeat refine wps_seq ?_
    refine wps_region callOK ?_
    simp [zS, k1, k2]
    repeat refine wps_seq ?_
    refine wps_ret ?_
    simp [retVal, Tryz.f39, oneOr, thenQ, blockQ]
    exact ends_pure rfl (by simpa using hv)
  · rw [h] at k1 hv
    refine callAt_body (fn := Tryz.f39) (s0 := ⟨[0, 2], [.str s, .undef], [], 10, ⟨0, [[]]⟩⟩) Tryz.func39 rfl rfl rfl ?_
    repeat refine wps_seq ?_
    refine wps_region callOK ?_
    simp [zS]
    repeat refine wps_seq ?_
    refine wps_region callOK ?_
    simp [zS, k1]
    repeat refine wps_seq ?_
    refine wps_ret ?_
    simp [retVal, Tryz.f39, oneOr, thenQ, blockQ]
    exact ends_pure rfl (by simpa using hv)
noncomputable def e39 : Entry Tryz.prog := mkE 39 [[]] (fun x : Str => [.str x]) (fun x => x.length ≤ 900000) (fun x => .bool (validR x)) fun x h => c39 (T := [e65, e66]) rfl rfl x h
theorem k39 {T : List (Entry Tryz.prog)} (hT : findE 39 T = some e39.g) {s : Str} (h1 : s.length ≤ 900000) (H : Heap) : callL (ctx T) (.fn 39) [.str s] H = some (.bool (validR s), H) :=
  mkE_scalar hT inj_str s h1 rfl (by simp)
def wordAt (s : Str) (p : Nat × Nat) : Str := (s.drop p.1).take (p.2 - p.1)
structure SpOk (s : Str) (i : Nat) (L : List (Nat × Nat)) (st : Int) : Prop where
  le : i ≤ s.length
  few : L.length ≤ i
  done : L.map (wordAt s) = (wst (s.take i)).1
  rng : ∀ p, p ∈ L → p.1 ≤ p.2 ∧ p.2 ≤ s.length
  lo : -1000001 ≤ st
  cur : (st < 0 ∧ (wst (s.take i)).2 = []) ∨ ∃ a : Nat, st = a ∧ a < i ∧ (wst (s.take i)).2 = wordAt s (a, i)
theorem fit_sp {H : Heap} {b j : Nat} {s : Str} {cs : List AV} (hb : b ≠ 1) (h1 : H.get 1 = some (.iter s j)) (h2 : H.get b = some (.cells cs)) (hp : pureL cs = true) : FitH 0 [(1, 1), (b, 0)] [] H ⟨2, [[(1, .iter s j), (0, .cells cs)]]⟩ where
  nd1 := by simp; omega
  nd2 := by simp
  nd3 := by simp [Heap.ents]
  lt := fun x hx => by simp at hx; rcases hx with rfl | rfl <;> simp
  idn := fun x hx h => by rcases h with h | h <;> exact absurd h (Nat.not_lt_zero _)
  num := Nat.zero_le _
  src := fun e he => by
    simp [Heap.ents] at he
    rcases he with rfl | rfl
    · exact ⟨1, _, by simp, h1, by simp [fitB]⟩
    · exact ⟨b, _, by simp, h2, fitL_pure hp⟩
  frz := fun x hx => by cases hx
theorem word_one {s : Str} {i : Nat} (h : i < s.length) : wordAt s (i, i + 1) = [s[i]] := by
  unfold wordAt
  simp only
  rw [List.drop_eq_getElem_cons h, show i + 1 - i = 1 by omega]
  rfl
theorem word_more {s : Str} {a i : Nat} (h : i < s.length) (ha : a ≤ i) : wordAt s (a, i + 1) = wordAt s (a, i) ++ [s[i]] := by
  unfold wordAt
  simp only
  rw [show i + 1 - a = (i - a) + 1 by omega, List.take_succ_eq_append_getElem (by simp; omega)]
  congr 2
  rw [List.getElem_drop]
  congr 1
  omega
theorem sp_space0 {s : Str} {i : Nat} {L : List (Nat × Nat)} {st : Int} (h : i < s.length) (k : SpOk s i L st) (hs : sp s[i] = true) (h0 : st < 0) : SpOk s (i + 1) L st := by
  have he : (wst (s.take i)).2 = [] := by
    rcases k.cur with ⟨_, h⟩ | ⟨a, ha, _⟩
    · exact h
    · omega
  refine ⟨by omega, by have := k.few; omega, ?_, k.rng, k.lo, .inl ⟨h0, ?_⟩⟩
  · rw [wst_at h]; simp only [wstep, hs, if_true, he, k.done]
  · rw [wst_at h]; simp only [wstep, hs, if_true]
theorem sp_space1 {s : Str} {i a : Nat} {L : List (Nat × Nat)} (h : i < s.length) (k : SpOk s i L (a : Int)) (hs : sp s[i] = true) (hl : s.length ≤ 1000000) : SpOk s (i + 1) (L ++ [(a, i)]) (-(a : Int) - 1) := by
  obtain ⟨hai, hc⟩ : a < i ∧ (wst (s.take i)).2 = wordAt s (a, i) := by
    rcases k.cur with ⟨h, _⟩ | ⟨b, hb, h1, h2⟩
    · omega
    · have : a = b := by omega
      subst this; exact ⟨h1, h2⟩
  have hne : ¬ wordAt s (a, i) = [] := by
    intro e
    have := congrArg List.length e
    simp [wordAt] at this
    omega
  refine ⟨by omega, by have := k.few; simp; omega, ?_, fun p hp => ?_, by omega, .inl ⟨by omega, ?_⟩⟩
  · rw [wst_at h]; simp only [wstep, hs, if_true, hc, hne, if_false, List.map_append, k.done]; rfl
  · rcases List.mem_append.1 hp with hp | hp
    · exact k.rng p hp
    · simp at hp; subst hp; exact ⟨by simp only; omega, by simp only; omega⟩
  · rw [wst_at h]; simp only [wstep, hs, if_true]
theorem sp_char0 {s : Str} {i : Nat} {L : List (Nat × Nat)} {st : Int} (h : i < s.length) (k : SpOk s i L st) (hs : sp s[i] = false) (h0 : st < 0) : SpOk s (i + 1) L (i : Int) := by
  have he : (wst (s.take i)).2 = [] := by
    rcases k.cur with ⟨_, h⟩ | ⟨a, ha, _⟩
    · exact h
    · omega
  refine ⟨by omega, by have := k.few; omega, ?_, k.rng, by omega, .inr ⟨i, rfl, by omega, ?_⟩⟩
  · rw [wst_at h]; simp [wstep, hs, k.done]
  · rw [wst_at h, word_one h]; simp [wstep, hs, he]
theorem sp_char1 {s : Str} {i a : Nat} {L : List (Nat × Nat)} (h : i < s.length) (k : SpOk s i L (a : Int)) (hs : sp s[i] = false) : SpOk s (i + 1) L (a : Int) := by
  obtain ⟨hai, hc⟩ : a < i ∧ (wst (s.take i)).2 = wordAt s (a, i) := by
    rcases k.cur with ⟨h, _⟩ | ⟨b, hb, h1, h2⟩
    · omega
    · have : a = b := by omega
      subst this; exact ⟨h1, h2⟩
  refine ⟨by omega, by have := k.few; omega, ?_, k.rng, by omega, .inr ⟨a, rfl, by omega, ?_⟩⟩
  · rw [wst_at h]; simp [wstep, hs, k.done]
  · rw [wst_at h, word_more h (by omega)]; simp [wstep, hs, hc]
theorem sp_begin (s : Str) : SpOk s 0 [] (-1) := ⟨Nat.zero_le _, by simp, by simp [wst], by simp, by omega, .inl ⟨by omega, by simp [wst]⟩⟩
theorem sp_end0 {s : Str} {L : List (Nat × Nat)} {st : Int} (k : SpOk s s.length L st) (h0 : st < 0) : L.map (wordAt s) = wsplit s := by
  have he : (wst (s.take s.length)).2 = [] := by
    rcases k.cur with ⟨_, h⟩ | ⟨a, ha, _⟩
    · exact h
    · omega
  have hd := k.done
  rw [List.take_of_length_le (Nat.le_refl _)] at hd he
  rw [hd, wsplit, wfin, if_pos he]
theorem sp_end1 {s : Str} {a : Nat} {L : List (Nat × Nat)} (k : SpOk s s.length L (a : Int)) : (L ++ [(a, s.length)]).map (wordAt s) = wsplit s ∧ a < s.length := by
  obtain ⟨hai, hc⟩ : a < s.length ∧ (wst (s.take s.length)).2 = wordAt s (a, s.length) := by
    rcases k.cur with ⟨h, _⟩ | ⟨b, hb, h1, h2⟩
    · omega
    · have : a = b := by omega
      subst this; exact ⟨h1, h2⟩
  have hne : ¬ wordAt s (a, s.length) = [] := by
    intro e
    have := congrArg List.length e
    simp [wordAt] at this
    omega
  have hd := k.done
  rw [List.take_of_length_le (Nat.le_refl _)] at hd hc
  refine ⟨?_, hai⟩
  rw [List.map_append, hd, wsplit, wfin, hc, if_neg hne]
  rfl
theorem xor_not {a : Nat} (h : a ≤ 1000000) : unA .xor (.int .i64 (a : Int)) = some (.int .i64 (-(a : Int) - 1)) := by
  have h1 : (BitVec.ofInt 64 (-1) ^^^ BitVec.ofInt 64 (a : Int)).toNat = 18446744073709551615 - a := by
    have e1 : BitVec.ofInt 64 (-1) = BitVec.allOnes 64 := by decide
    have e2 : BitVec.ofInt 64 (a : Int) = BitVec.ofNat 64 a := by simp
    rw [e1, e2, BitVec.allOnes_xor, BitVec.toNat_not, BitVec.toNat_ofNat]
    omega
  show some (AV.int .i64 (IntKind.i64.wrap ((BitVec.ofInt 64 (-1) ^^^ BitVec.ofInt 64 (a : Int)).toNat : Int))) = _
  rw [h1]
  have h2 : IntKind.i64.wrap ((18446744073709551615 - a : Nat) : Int) = -(a : Int) - 1 := by
    have h3 : ((18446744073709551615 - a : Nat) : Int) = 18446744073709551615 - (a : Int) := by omega
    rw [h3]
    simp [IntKind.wrap, IntKind.signed, IntKind.bits]
    omega
  rw [h2]
@[simp] theorem fr_range {d : Option Tmp} {t : TypeId} {l : Operand} {ty : TypeId} {pos : String} {af : Array Edge} {g : Option (Nat × Bool)} {s : St} : freshen s ⟨d, .range t l, ty, pos, af, g⟩ = s := rfl
@[simp] theorem fr_next {d : Option Tmp} {b : Bool} {l : Operand} {ty : TypeId} {pos : String} {af : Array Edge} {g : Option (Nat × Bool)} {s : St} : freshen s ⟨d, .next l b, ty, pos, af, g⟩ = s := rfl
def bl5 (n : Nat) : List AV := List.replicate n (.str [])
def sts (L : List Str) : List AV := L.map .str
theorem bl5_pure (n : Nat) : pureL (bl5 n) = true := by
  induction n with
  | zero => rfl
  | succ n ih => simp only [bl5, List.replicate_succ] at ih ⊢; simp [pureL, pureV, ih]
theorem sts_pure (L : List Str) : pureL (sts L) = true := by
  induction L with
  | nil => rfl
  | cons a r ih => simp only [sts, List.map_cons] at ih ⊢; simp [pureL, pureV, ih]
theorem sts_set {X : List Str} {k : Nat} {w : Str} : (sts X ++ bl5 (k + 1)).set X.length (.str w) = sts (X ++ [w]) ++ bl5 k := by
  rw [List.set_append_right _ _ (by simp [sts])]
  simp [sts, bl5, List.replicate_succ]
theorem mkStrs {H : Heap} {n : Nat} (h : n ≤ 1000000) : makeSliceA Tryz.prog H 23 (.int .i64 (n : Int)) (.int .i64 (n : Int)) = some (.slc H.n 0 n (.ex n), H.new (.cells (bl5 n))) := by
  have hr : ∀ n, replL [AV.str []] n = bl5 n := fun n => by
    induction n with
    | zero => rfl
    | succ n ih => simp [replL, ih, bl5, List.replicate_succ]
  have h1 : idx (n : Int) 17592186044416 = some n := idx_nat (by omega)
  have h2 : idx (n : Int) (Nat.succ n) = some n := idx_nat (by omega)
  have h3 : roomOK n 16 = true := by unfold roomOK; rw [Nat.ble_eq]; omega
  unfold makeSliceA msB
  simp [h1, h2, h3, hr]
theorem mkSp {H : Heap} : makeSliceA Tryz.prog H 132 (.int .i64 0) (.int .i64 32) = some (.slc H.n 0 0 (.ex 32), H.new (.cells (zeros 64))) := rfl
theorem ixS {b n i : Nat} {c : Cap} (h : i < n) : indexAddrA Tryz.prog 23 (.slc b 0 n c) (.int .i64 (i : Int)) = some (.ptr b i) := by
  simp [indexAddrA, idx_nat h]
theorem layS {v : AV} : ∀ {cs : List AV} {i : Nat}, i < cs.length → layL [v] i cs = some (cs.set i v)
  | [], _, h => absurd h (Nat.not_lt_zero _)
  | x :: r, 0, _ => by simp [layL, overL]
  | x :: r, i + 1, h => by
    simp only [layL, layS (cs := r) (i := i) (by simpa using h)]
    rfl
def aSp (L : List (Nat × Nat)) : AV := .fslc 2 (L.map spn)
theorem atSp {L : List (Nat × Nat)} {i : Nat} (h : i < L.length) : indexAddrA Tryz.prog 132 (aSp L) (.int .i64 (i : Int)) = some (.fptr [.int .i64 ((L[i]).1 : Int), .int .i64 ((L[i]).2 : Int)] 0) := by
  simp [indexAddrA, aSp, idx_nat h, getL_map h]
  simp [spn]
theorem lenSp {H : Heap} {L : List (Nat × Nat)} : lenA Tryz.prog H 132 (aSp L) = some L.length := by simp [lenA, aSp]
theorem slW {H : Heap} {s : Str} {a b : Nat} (h1 : a ≤ b) (h2 : b ≤ s.length) : sliceA Tryz.prog H 9 (.str s) (some (.int .i64 (a : Int))) (some (.int .i64 (b : Int))) none = some (.str (wordAt s (a, b))) := by
  have i1 : idx (b : Int) (Nat.succ s.length) = some b := idx_nat (by omega)
  have i2 : idx (a : Int) (Nat.succ b) = some a := idx_nat (by omega)
  simp [sliceA, hiOK, bound, i1, i2, wordAt, List.drop_take]
theorem nx_yes {m i : Nat} {s : Str} {B : Blk} (h : i < s.length) (hc : s[i].toNat < 128) : nextA ⟨m, [[(1, .iter s i), (0, B)]]⟩ 1 = some (.tup [.bool true, .int .i64 i, .int .i32 (s[i].toNat : Int)], ⟨m, [[(1, .iter s (i + 1)), (0, B)]]⟩) := by
  have hb : Nat.blt i s.length = true := by simpa using h
  simp [nextA, Heap.get, getFs, getF, hb, dec_ascii h hc, Heap.set, setFs, setF]
theorem nx_no {m i : Nat} {s : Str} {B : Blk} (h : ¬ i < s.length) : nextA ⟨m, [[(1, .iter s i), (0, B)]]⟩ 1 = some (.tup [.bool false], ⟨m, [[(1, .iter s i), (0, B)]]⟩) := by
  have hb : Nat.blt i s.length = false := by
    cases hq : Nat.blt i s.length with
    | false => rfl
    | true => exact absurd (by simpa using hq) h
  simp [nextA, Heap.get, getFs, getF, hb]
theorem spV_yes (n : Nat) (b : Nat) : ∃ c, (if n ≤ 32 then AV.slc b 0 n (.ex 32) else AV.slc b 0 n (.rest 2)) = .slc b 0 n c ∧ spV n = .slc 0 0 n c := by
  unfold spV
  split
  · exact ⟨_, rfl, rfl⟩
  · exact ⟨_, rfl, rfl⟩
theorem fit_spV {L : List (Nat × Nat)} {σ : List (Nat × Nat)} {Φ : List (Nat × List AV)} (h : lookC 0 Φ = some (spB L)) : fitV σ Φ (spV L.length) (aSp L) := by
  obtain ⟨c, _, hc⟩ := spV_yes L.length 0
  rw [hc]
  simp only [aSp, fitV]
  refine .inl ⟨_, h, ?_, by simp, (el_spn L).size⟩
  rw [flat_spn, sub_spB]
theorem fit_all {H : Heap} {b : Nat} {cs : List AV} (h : H.get b = some (.cells cs)) (hp : pureL cs = true) : FitH 0 [] [(b, cs)] H ⟨0, [[]]⟩ := by
  refine ⟨by simp, by simp, by simp [Heap.ents], fun x h => (by cases h), fun x h => (by cases h), Nat.le_refl _, fun e h => (by simp [Heap.ents] at h), fun x hx => ?_⟩
  rw [List.mem_singleton] at hx
  subst hx
  exact ⟨_, h, fitL_pure hp, hp⟩
theorem fit_spVV {n : Nat} : fitV [(1, 1), (0, 0)] [] (spV n) (spV n) := by
  obtain ⟨c, _, hc⟩ := spV_yes n 0
  rw [hc]
  simp [fitV, lookN]
def sbC : List Nat → Code → Code
  | [], c => c
  | d :: r, c => match c with
    | .seq a b => match d with
      | 0 => sbC r a
      | _ => sbC r b
    | c => c
def bdO (f : Func) : Code := match f.body with
  | some c => c
  | none => .skip
theorem flat_sts : ∀ (L : List Str), flatAV (L.map AV.str) = sts L
  | [] => rfl
  | a :: r => by simp only [List.map_cons, flatAV, flat_sts r]; rfl
noncomputable def cdFF : Code := sbC [1, 1, 1, 1, 1] (bdO Tryz.f63)
theorem ff_rest {T : List (Entry Tryz.prog)} (s : Str) (L : List (Nat × Nat)) (hL : L.length ≤ 1000000) (hr : ∀ p, p ∈ L → p.1 ≤ p.2 ∧ p.2 ≤ s.length) (W : List Str) (hW : L.map (wordAt s) = W) :
    WpSr (ctx T) 0 none cdFF ((⟨[0, 1, 4, 5, 6, 7, 8, 9, 10, 11, 14, 15, 47, 48, 49], [.str s, .undef, .nilS, aSp L, .undef, .undef, .undef, .undef, .undef, .undef, .undef, .undef, .undef, .undef, .undef], [], 65, ⟨0, [[]]⟩⟩ : St)) (fun x s => (x = .normal ∨ x = .ret) ∧ ∃ vs, retVal (ctx T) s [.tmp 4] = some vs ∧ ∃ σ Φ, fitV σ Φ (oneOr vs) (aStrs W) ∧ FitH 0 σ Φ s.H ⟨0, []⟩) := by
  simp only [cdFF, sbC, bdO, Tryz.f63]
  have hm := fun H => mkStrs (H := H) (n := L.length) hL
  repeat refine wps_seq ?_
  refine wps_region callOK ?_
  simp [zS, lenSp, hm]
  repeat refine wps_seq ?_
  refine wps_region callOK ?_
  simp [zS, lenSp]
  obtain ⟨F, hF⟩ : ∃ F : Nat → List Str, F = fun i => (L.take i).map (wordAt s) := ⟨_, rfl⟩
  have hF0 : F 0 = [] := by rw [hF]; simp
  have hFl : ∀ i, i ≤ L.length → (F i).length = i := fun i hi => by rw [hF]; simp; omega
  have hFs : ∀ (i : Nat) (h : i < L.length), F (i + 1) = F i ++ [wordAt s L[i]] := fun i h => by
    rw [hF]
    show (L.take (i + 1)).map (wordAt s) = _
    rw [List.take_succ_eq_append_getElem h, List.map_append]; rfl
  have hFn : F L.length = W := by rw [hF, ← hW]; simp
  repeat refine wps_seq ?_
  refine wps_block (wps_loop' (fun i : Nat => (⟨[0, 1, 4, 5, 6, 7, 8, 9, 10, 11, 14, 15, 47, 48, 49], [.str s, .undef, .nilS, .undef, .undef, .undef, .undef, .slc 0 0 L.length (.ex L.length), .undef, .undef, .undef, .undef, aSp L, .int .i64 (L.length : Nat), .int .i64 i], [], 65, ⟨1, [[(0, .cells (sts (F i) ++ bl5 (L.length - i)))]]⟩⟩ : St))
    (fun i => i ≤ L.length) (fun i => L.length - i) [(0, 0)] [] 0 (Nat.zero_le _)
    ⟨rfl, rfl, rfl, by simp [fitL, fitV, lookN, pureV, aSp], .keep1 (b := 0) (by rw [hF0]; simp [Heap.get, getFs, getF, sts]) (by rw [pureL_append, sts_pure, bl5_pure]; rfl) rfl⟩ ?_)
  rintro i hi B hB
  repeat refine wps_seq ?_
  refine wps_region callOK ?_
  simp [zS]
  repeat refine wps_seq ?_
  refine wps_cond rfl (fun h => ?_) fun h => ?_
  · simp at h
    repeat refine wps_seq ?_
    refine wps_skip ?_
    simp
    repeat refine wps_seq ?_
    refine wps_block ?_
    obtain ⟨r1, r2⟩ := hr L[i] (List.getElem_mem _)
    have hw := fun H => slW (H := H) r1 r2
    have hlen : i < (sts (F i) ++ bl5 (L.length - i)).length := by simp [sts, bl5, hFl i hi]; omega
    have hset : (sts (F i) ++ bl5 (L.length - i)).set i (.str (wordAt s ((L[i]).1, (L[i]).2))) = sts (F (i + 1)) ++ bl5 (L.length - (i + 1)) := by
      have := sts_set (X := F i) (k := L.length - (i + 1)) (w := wordAt s L[i])
      rw [hFl i hi, ← hFs i h] at this
      rw [show L.length - i = L.length - (i + 1) + 1 by omega]
      exact this
    have hla := layS (v := .str (wordAt s ((L[i]).1, (L[i]).2))) hlen
    rw [hset] at hla
    generalize sts (F i) ++ bl5 (L.length - i) = C0 at *
    generalize hC1 : sts (F (i + 1)) ++ bl5 (L.length - (i + 1)) = C1 at *
    repeat refine wps_seq ?_
    refine wps_region callOK ?_
    simp [zS, atSp h]
    repeat refine wps_seq ?_
    refine wps_region callOK ?_
    simp [zS, hw, ixS h, hla]
    repeat refine wps_seq ?_
    refine wps_region callOK ?_
    simp [zS, add_one (show i ≤ 1000000000 by omega)]
    refine hB _ (i + 1) (by omega) (by omega) ⟨[(0, 0)], [], rfl, rfl, rfl, by simp [fitL, fitV, lookN, pureV, aSp], ?_⟩
    rw [hC1]
    exact .keep1 (b := 0) (by simp [Heap.get, getFs, getF]) (by rw [← hC1, pureL_append, sts_pure, bl5_pure]; rfl) rfl
  · simp at h
    have hie : i = L.length := by omega
    subst hie
    have hz : sts (F L.length) ++ bl5 (L.length - L.length) = sts W := by rw [Nat.sub_self, hFn]; simp [bl5]
    have hlW : W.length = L.length := by rw [← hW]; simp
    rw [hz, ← hlW]
    repeat refine wps_seq ?_
    refine wps_exit ?_
    simp
    repeat refine wps_seq ?_
    refine wps_region callOK ?_
    simp [zS]
    repeat refine wps_seq ?_
    refine wps_ret ?_
    simp [retVal, oneOr]
    refine ⟨[], [(0, sts W)], ?_, .froze (by simp) fun y hy => ?_⟩
    · have hf := flat_sts W
      simp only [fitV]
      refine .inl ⟨sts W, by simp [lookC], ?_, by simp, (el_str W).size⟩
      rw [hf, subL_front (by simp [sts]), List.drop_zero, List.take_of_length_le (by simp [sts])]
    · rw [List.mem_singleton] at hy
      subst hy
      exact ⟨_, by simp [Heap.get, getFs, getF], fitL_pure (sts_pure W), sts_pure W⟩
theorem c63 {T : List (Entry Tryz.prog)} (s : Str) (hs : asciiB s) (hl : s.length ≤ 900000) (clo : FuncId) (hp : ∀ c : UInt8, c.toNat < 128 → CallAt (ctx T) clo [.int .i32 (c.toNat : Int)] ⟨0, []⟩ (.bool (sp c)) ⟨0, []⟩) :
    CallAt (ctx T) 63 [.str s, .func (.func clo) [] []] ⟨0, []⟩ (aStrs (wsplit s)) ⟨0, []⟩ := by
  have hm1 : wr .i64 (0 - 1) = some (-1) := rfl
  refine callAt_body (fn := Tryz.f63) (s0 := ⟨[0, 1, 4, 5, 6, 7, 8, 9, 10, 11, 14, 15, 47, 48, 49], [.str s, .func (.func clo) [] [], .undef, .undef, .undef, .undef, .undef, .undef, .undef, .undef, .undef, .undef, .undef, .undef, .undef], [], 65, ⟨0, [[]]⟩⟩) Tryz.func63 rfl rfl rfl ?_
  repeat refine wps_seq ?_
  refine wps_region callOK ?_
  simp [zS]
  repeat refine wps_seq ?_
  refine wps_region callOK ?_
  simp [zS, mkSp]
  repeat refine wps_seq ?_
  refine wps_region callOK ?_
  simp [zS]
  repeat refine wps_seq ?_
  refine wps_region callOK ?_
  simp [zS, rgV]
  repeat refine wps_seq ?_
  refine wps_block (wps_loop' (fun x : Nat × List (Nat × Nat) × Int => (⟨[0, 1, 4, 5, 6, 7, 8, 9, 10, 11, 14, 15, 47, 48, 49], [.str s, .func (.func clo) [] [], .nilS, spV x.2.1.length, .int .i64 x.2.2, .undef, .undef, .undef, .undef, .undef, .ptr 1 0, .undef, .undef, .undef, .undef], [], 65, ⟨2, [[(1, .iter s x.1), (0, .cells (spB x.2.1))]]⟩⟩ : St))
    (fun x => SpOk s x.1 x.2.1 x.2.2) (fun x => s.length - x.1) [(1, 1), (0, 0)] [] (0, [], -1) (sp_begin s)
    ⟨rfl, rfl, rfl, by simp [fitL, fitV, lookN, pureV, pureL, spV], fit_sp (by omega) (by simp [Heap.get, getFs, getF]) (by simp [Heap.get, getFs, getF, spB, spnC]) (spB_pure _)⟩ ?_)
  rintro ⟨i, L, st⟩ hk B hB
  have hi := hk.le
  have hfew := hk.few
  have hlo := hk.lo
  simp only at hi hfew hlo hk
  by_cases h : i < s.length
  · have hc : s[i].toNat < 128 := hs _ (List.getElem_mem _)
    have hbu : ∀ a : Nat, buildA Tryz.prog 134 [(0, .int .i64 (a : Int)), (1, .int .i64 (i : Int))] = some (.agg [.int .i64 (a : Int), .int .i64 (i : Int)]) := fun a => rfl
    have hcall := (hp s[i] hc).lift (by simp [pureL, pureV]) ⟨2, [[(1, .iter s (i + 1)), (0, .cells (spB L))]]⟩
    have stay : ∀ (st' : Int) (σ0 : Unit), SpOk s (i + 1) L st' → ∀ s' : St, Fit 0 [(1, 1), (0, 0)] [] s' ((⟨[0, 1, 4, 5, 6, 7, 8, 9, 10, 11, 14, 15, 47, 48, 49], [.str s, .func (.func clo) [] [], .nilS, spV L.length, .int .i64 st', .undef, .undef, .undef, .undef, .undef, .ptr 1 0, .undef, .undef, .undef, .undef], [], 65, ⟨2, [[(1, .iter s (i + 1)), (0, .cells (spB L))]]⟩⟩ : St)) → B s' := fun st' _ hok s' hf => hB s' (i + 1, L, st') (by simp only; omega) hok ⟨_, _, hf⟩
    repeat refine wps_seq ?_
    refine wps_region callOK ?_
    simp [zS, nxV, nx_yes h hc]
    repeat refine wps_seq ?_
    refine wps_cond (t := true) rfl (fun _ => ?_) fun h => by cases h
    repeat refine wps_seq ?_
    refine wps_skip ?_
    simp
    repeat refine wps_seq ?_
    refine wps_block ?_
    rcases Bool.eq_false_or_eq_true (sp s[i]) with hsp | hsp
    · rw [hsp] at hcall
      repeat refine wps_seq ?_
      refine wps_region callOK ?_
      simp [zS]
      repeat refine wps_seq ?_
      refine wps_region (callOKF [⟨clo, _, _, _, _, hcall⟩]) ?_
      simp [zS, callF]
      repeat refine wps_seq ?_
      refine wps_cond (t := true) rfl (fun _ => ?_) fun h => by cases h
      rcases hk.cur with ⟨h0, _⟩ | ⟨a, ha, hai, _⟩
      · have hge : ¬ (0 : Int) ≤ st := by omega
        repeat refine wps_seq ?_
        refine wps_region callOK ?_
        simp [zS, hge]
        repeat refine wps_seq ?_
        refine wps_cond (t := false) rfl (fun h => by cases h) fun _ => ?_
        repeat refine wps_seq ?_
        refine wps_skip ?_
        simp
        exact stay st () (sp_space0 h hk hsp h0) _ ⟨rfl, rfl, rfl, by simp [fitL, fitV, lookN, pureV, pureL, fit_spVV], fit_sp (by omega) (by simp [Heap.get, getFs, getF]) (by simp [Heap.get, getFs, getF]) (spB_pure _)⟩
      · subst ha
        have hge : (0 : Int) ≤ (a : Int) := by omega
        obtain ⟨b, m, f, hb1, happ, hg1, hg2⟩ := app_sp (L := L) (p := (a, i)) (I := .iter s (i + 1)) (by omega)
        have hxo := xor_not (a := a) (by omega)
        obtain ⟨c, e1, e2⟩ := spV_yes (L.length + 1) b
        simp only [e1] at happ
        repeat refine wps_seq ?_
        refine wps_region callOK ?_
        simp [zS, hge]
        repeat refine wps_seq ?_
        refine wps_cond (t := true) (by simp [opnd, St.get]) (fun _ => ?_) fun h => by cases h
        repeat refine wps_seq ?_
        refine wps_region callOK ?_
        simp [zS, hbu, happ]
        repeat refine wps_seq ?_
        refine wps_region callOK ?_
        simp [zS, hxo]
        refine hB _ (i + 1, L ++ [(a, i)], -(a : Int) - 1) (by simp only; omega) (sp_space1 h hk hsp (by omega)) ⟨[(1, 1), (b, 0)], [], rfl, rfl, rfl, ?_, fit_sp hb1 hg1 hg2 (spB_pure _)⟩
        simp only [List.length_append, List.length_cons, List.length_nil, Nat.zero_add, e2]
        simp [fitL, fitV, lookN, pureV, pureL]
        omega
    · rw [hsp] at hcall
      repeat refine wps_seq ?_
      refine wps_region callOK ?_
      simp [zS]
      repeat refine wps_seq ?_
      refine wps_region (callOKF [⟨clo, _, _, _, _, hcall⟩]) ?_
      simp [zS, callF]
      repeat refine wps_seq ?_
      refine wps_cond (t := false) rfl (fun h => by cases h) fun _ => ?_
      rcases hk.cur with ⟨h0, _⟩ | ⟨a, ha, hai, _⟩
      · repeat refine wps_seq ?_
        refine wps_region callOK ?_
        simp [zS, h0]
        repeat refine wps_seq ?_
        refine wps_cond (t := true) rfl (fun _ => ?_) fun h => by cases h
        repeat refine wps_seq ?_
        refine wps_region callOK ?_
        simp [zS]
        exact stay i () (sp_char0 h hk hsp h0) _ ⟨rfl, rfl, rfl, by simp [fitL, fitV, lookN, pureV, pureL, fit_spVV], fit_sp (by omega) (by simp [Heap.get, getFs, getF]) (by simp [Heap.get, getFs, getF]) (spB_pure _)⟩
      · subst ha
        have hge : ¬ (a : Int) < 0 := by omega
        repeat refine wps_seq ?_
        refine wps_region callOK ?_
        simp [zS, hge]
        repeat refine wps_seq ?_
        refine wps_cond (t := false) (by simp [opnd, St.get, hge]) (fun h => by cases h) fun _ => ?_
        repeat refine wps_seq ?_
        refine wps_skip ?_
        simp
        exact stay a () (sp_char1 h hk hsp) _ ⟨rfl, rfl, rfl, by simp [fitL, fitV, lookN, pureV, pureL, fit_spVV], fit_sp (by omega) (by simp [Heap.get, getFs, getF]) (by simp [Heap.get, getFs, getF]) (spB_pure _)⟩
  · have hie : i = s.length := by omega
    subst hie
    have hbu : ∀ a : Nat, buildA Tryz.prog 134 [(0, .int .i64 (a : Int)), (1, .int .i64 (s.length : Int))] = some (.agg [.int .i64 (a : Int), .int .i64 (s.length : Int)]) := fun a => rfl
    repeat refine wps_seq ?_
    refine wps_region callOK ?_
    simp [zS, nxV, nx_no h]
    repeat refine wps_seq ?_
    refine wps_cond (t := false) rfl (fun h => by cases h) fun _ => ?_
    repeat refine wps_seq ?_
    refine wps_exit ?_
    simp
    rcases hk.cur with ⟨h0, _⟩ | ⟨a, ha, hai, _⟩
    · have hge : ¬ (0 : Int) ≤ st := by omega
      repeat refine wps_seq ?_
      refine wps_region callOK ?_
      simp [zS, hge]
      repeat refine wps_seq ?_
      refine wps_cond (t := false) (by simp [opnd, St.get, hge]) (fun h => by cases h) fun _ => ?_
      repeat refine wps_seq ?_
      refine wps_skip ?_
      simp only [thenQ]
      refine WpSr.fit [] [(0, spB L)] (s' := (⟨[0, 1, 4, 5, 6, 7, 8, 9, 10, 11, 14, 15, 47, 48, 49], [.str s, .undef, .nilS, aSp L, .undef, .undef, .undef, .undef, .undef, .undef, .undef, .undef, .undef, .undef, .undef], [], 65, ⟨0, [[]]⟩⟩ : St)) ⟨rfl, rfl, rfl, by simp [fitL, fitV, pureV]; exact fit_spV (by simp [lookC]), ?_⟩ (ff_rest s L (by omega) hk.rng _ (sp_end0 hk h0))
      exact fit_all (by simp [Heap.get, getFs, getF]) (spB_pure _)
    · subst ha
      obtain ⟨hw, hal⟩ := sp_end1 hk
      have hge : (0 : Int) ≤ (a : Int) := by omega
      obtain ⟨b, m, f, hb1, happ, hg1, hg2⟩ := app_sp (L := L) (p := (a, s.length)) (I := .iter s s.length) (by omega)
      obtain ⟨c, e1, e2⟩ := spV_yes (L.length + 1) b
      simp only [e1] at happ
      repeat refine wps_seq ?_
      refine wps_region callOK ?_
      simp [zS, hge]
      repeat refine wps_seq ?_
      refine wps_cond (t := true) (by simp [opnd, St.get]) (fun _ => ?_) fun h => by cases h
      repeat refine wps_seq ?_
      refine wps_region callOK ?_
      simp [zS, hbu, happ]
      have hfv : fitV [] [(b, spB (L ++ [(a, s.length)]))] (.slc b 0 (L.length + 1) c) (aSp (L ++ [(a, s.length)])) := by
        simp only [aSp, fitV]
        refine .inl ⟨_, by simp [lookC]; rfl, ?_, by simp, (el_spn _).size⟩
        have := sub_spB (L ++ [(a, s.length)])
        rw [flat_spn]
        simpa using this
      refine WpSr.fit [] [(b, spB (L ++ [(a, s.length)]))] (s' := (⟨[0, 1, 4, 5, 6, 7, 8, 9, 10, 11, 14, 15, 47, 48, 49], [.str s, .undef, .nilS, aSp (L ++ [(a, s.length)]), .undef, .undef, .undef, .undef, .undef, .undef, .undef, .undef, .undef, .undef, .undef], [], 65, ⟨0, [[]]⟩⟩ : St)) ⟨rfl, rfl, rfl, by simp [fitL, fitV, pureV] at hfv ⊢; exact hfv, ?_⟩ (ff_rest s (L ++ [(a, s.length)]) (by simp; omega) (fun p hp => ?_) _ hw)
      · exact fit_all hg2 (spB_pure _)
      · rcases List.mem_append.1 hp with hp | hp
        · exact hk.rng p hp
        · simp at hp; subst hp; exact ⟨by simp only; omega, by simp only; omega⟩
theorem c38 {T : List (Entry Tryz.prog)} (s : Str) (hs : asciiB s) (hl : s.length ≤ 900000) : CallAt (ctx T) 38 [.str s] ⟨0, []⟩ (aStrs (wsplit s)) ⟨0, []⟩ := by
  have hc := (c63 (T := T) s hs hl 64 fun c h => c64 (T := [e36]) rfl c h).lift (by simp [pureL, pureV]) ⟨0, [[]]⟩
  generalize wsplit s = W at *
  refine callAt_body (fn := Tryz.f38) (s0 := ⟨[0, 2], [.str s, .undef], [], 5, ⟨0, [[]]⟩⟩) Tryz.func38 rfl rfl rfl ?_
  repeat refine wps_seq ?_
  refine wps_region callOK ?_
  simp [zS]
  repeat refine wps_seq ?_
  refine wps_region (callOKF [⟨63, _, _, _, _, hc⟩]) ?_
  simp [zS, callF]
  repeat refine wps_seq ?_
  refine wps_ret ?_
  simp [retVal, Tryz.f38, oneOr, thenQ, blockQ]
  first | exact ⟨[], [], FitH.empty⟩ | exact ends_pure rfl (by rfl)
end Go.Proofs.YtlgdgolobnbefaaGreatDoor
