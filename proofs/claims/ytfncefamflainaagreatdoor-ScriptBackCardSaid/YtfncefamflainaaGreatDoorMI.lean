/- The two readings of UTF-8 agree. No condition. -/
import Derived.Test.YtfncefamflainaaGreatDoorMG
import Derived.Shelf.Strings.Search3
import Derived.Lib.IndexMore
import Derived.Test.YtfncefamflainaaGreatDoorProg
import Derived.Test.YtfncefamflainaaGreatDoorMH
import Derived.Lib.ValidLaws
namespace Go.Proofs.YtfncefamflainaaGreatDoor
set_option linter.unusedSimpArgs false
set_option linter.unusedVariables false
open Go Go.RowKit
set_option maxRecDepth 100000
structure WordAt (s x : Str) (p : Nat) : Prop where
 room : p + x.length ≤ s.length
 occ : (s.drop p).take x.length = x
 pre : ∀ c, 0 < p → s[p - 1]? = some c → sp c = true
 post : ∀ c, s[p + x.length]? = some c → sp c = true
structure WInv (s : Str) (i : Nat) (st : List Str × Str) : Prop where
 le : i ≤ s.length
 words : ∀ w, w ∈ st.1 → ∃ p, WordAt s w p
 len : st.2.length ≤ i
 cur : (s.take i).drop (i - st.2.length) = st.2
 pre : ∀ c, 0 < i - st.2.length → s[i - st.2.length - 1]? = some c → sp c = true
theorem winv {s : Str} : ∀ (i : Nat), i ≤ s.length → WInv s i (wst (s.take i))
 | 0, _ => by
  have e : wst (s.take 0) = ([], []) := by simp [wst]
  rw [e]
  exact ⟨Nat.zero_le _, fun w h => (by cases h), Nat.le_refl _, rfl, fun c h => absurd h (Nat.lt_irrefl 0)⟩
 | i + 1, hi => by
  have ih := winv (s := s) i (by omega)
  have hlt : i < s.length := by omega
  rw [wst_at hlt]
  generalize wst (s.take i) = st at ih
  obtain ⟨W, c⟩ := st
  have ihl := ih.len
  have ihc := ih.cur
  have ihp := ih.pre
  simp only at ihl ihc ihp
  unfold wstep
  by_cases hs : sp s[i] = true
  ·rw [if_pos hs]
   refine ⟨hi, ?_, Nat.zero_le _, ?_, ?_⟩
   ·intro w hw
    simp only at hw
    by_cases hc : c = []
    ·rw [if_pos hc] at hw
     exact ih.words w hw
    ·rw [if_neg hc] at hw
     rcases List.mem_append.1 hw with hw | hw
     ·exact ih.words w hw
     ·rw [List.mem_singleton] at hw
      subst hw
      refine ⟨i - w.length, by omega, ?_, fun d h1 h2 => ihp d h1 h2, fun d h => ?_⟩
      ·rw [List.drop_take, show i - (i - w.length) = w.length by omega] at ihc
       exact ihc
      ·rw [show i - w.length + w.length = i by omega, List.getElem?_eq_getElem hlt, Option.some.injEq] at h
       rw [← h]; exact hs
   ·simp
   ·intro d _ h
    simp only [List.length_nil, Nat.sub_zero, Nat.add_sub_cancel] at h
    rw [List.getElem?_eq_getElem hlt, Option.some.injEq] at h
    rw [← h]; exact hs
  ·rw [if_neg hs]
   refine ⟨hi, ih.words, by simp; omega, ?_, ?_⟩
   ·simp only [List.length_append, List.length_singleton]
    rw [show i + 1 - (c.length + 1) = i - c.length by omega, List.take_succ_eq_append_getElem hlt, List.drop_append_of_le_length (by simp; omega), ihc]
   ·simp only [List.length_append, List.length_singleton]
    rw [show i + 1 - (c.length + 1) = i - c.length by omega]
    exact ihp
theorem word_at {s x : Str} (h : x ∈ wsplit s) : ∃ p, WordAt s x p := by
 have inv := winv (s := s) s.length (Nat.le_refl _)
 rw [List.take_of_length_le (Nat.le_refl _)] at inv
 unfold wsplit wfin at h
 generalize wst s = st at *
 obtain ⟨W, c⟩ := st
 have il := inv.len
 have ic := inv.cur
 have ip := inv.pre
 simp only at il ic ip h
 by_cases hc : c = []
 ·rw [if_pos hc] at h
  exact inv.words x h
 ·rw [if_neg hc] at h
  rcases List.mem_append.1 h with h | h
  ·exact inv.words x h
  ·rw [List.mem_singleton] at h
   subst h
   refine ⟨s.length - x.length, by omega, ?_, ip, fun d h => ?_⟩
   ·rw [List.take_of_length_le (Nat.le_refl _)] at ic
    rw [ic, List.take_of_length_le (Nat.le_refl _)]
   ·rw [show s.length - x.length + x.length = s.length by omega, List.getElem?_eq_none (Nat.le_refl _)] at h
    cases h
theorem word_ne {s x : Str} (h : x ∈ wsplit s) : x ≠ [] := by
 have key : ∀ (l : Str) (st : List Str × Str), (∀ w, w ∈ st.1 → w ≠ []) → ∀ w, w ∈ (l.foldl wstep st).1 → w ≠ [] := by
  intro l
  induction l with
  | nil => intro st h; exact h
  | cons c r ih =>
   intro st h
   rw [List.foldl_cons]
   refine ih _ ?_
   intro w hw
   unfold wstep at hw
   split at hw
   ·simp only at hw
    split at hw
    ·exact h w hw
    ·rename_i hn
     rcases List.mem_append.1 hw with hw | hw
     ·exact h w hw
     ·rw [List.mem_singleton] at hw; rw [hw]; exact hn
   ·exact h w hw
 unfold wsplit wfin at h
 split at h
 ·exact key s ([], []) (fun w h => by cases h) x h
 ·rename_i hn
  rcases List.mem_append.1 h with h | h
  ·exact key s ([], []) (fun w h => by cases h) x h
  ·rw [List.mem_singleton] at h; rw [h]; exact hn
def lays143_ren : Go.Shelf.Ren := ⟨fun | 143 => 101 | 219 => 70 | 217 => 69 | 225 => 89 | 224 => 90 | 267 => 91 | 266 => 88 | 314 => 110 | n => n, fun | 9 => 9 | 3 => 3 | 4 => 4 | 5 => 5 | 46 => 96 | 146 => 120 | 51 => 119 | n => n, fun | 1 => 0 | n => n⟩
theorem lays143 : Go.Proofs.Lays.n143 Tryz.prog lays143_ren where
 mixed := by kernel_rfl
 f143 := Tryz.func101.trans (congrArg some (by kernel_rfl))
 f217 := Tryz.func69.trans (congrArg some (by kernel_rfl))
 f219 := Tryz.func70.trans (congrArg some (by kernel_rfl))
 f224 := Tryz.func90.trans (congrArg some (by kernel_rfl))
 f225 := Tryz.func89.trans (congrArg some (by kernel_rfl))
 f266 := Tryz.func88.trans (congrArg some (by kernel_rfl))
 f267 := Tryz.func91.trans (congrArg some (by kernel_rfl))
 f314 := Tryz.func110.trans (congrArg some (by kernel_rfl))
 t3 := Tryz.underlying3
 a3 := Tryz.isAgg3
 z3 := Tryz.sizeOf3
 v3 := Tryz.zeroValue3
 t4 := Tryz.underlying4
 a4 := Tryz.isAgg4
 z4 := Tryz.sizeOf4
 v4 := Tryz.zeroValue4
 t5 := Tryz.underlying5
 a5 := Tryz.isAgg5
 z5 := Tryz.sizeOf5
 v5 := Tryz.zeroValue5
 t9 := Tryz.underlying9
 a9 := Tryz.isAgg9
 z9 := Tryz.sizeOf9
 v9 := Tryz.zeroValue9
 t46 := Tryz.underlying96
 a46 := Tryz.isAgg96
 z46 := Tryz.sizeOf96
 v46 := Tryz.zeroValue96
 t51 := Tryz.underlying119
 a51 := Tryz.isAgg119
 z51 := Tryz.sizeOf119
 v51 := Tryz.zeroValue119
 t146 := Tryz.underlying120
 a146 := Tryz.isAgg120
 z146 := Tryz.sizeOf120
 v146 := Tryz.zeroValue120
 g1 := by kernel_rfl
theorem index_at (s sub : ByteArray) (m : Int) (w : World) (hs : s.size < 4294967281) (hm : w.cell? ⟨0, 0, none⟩ = some (.int .i64 m)) :
  Calls Tryz.prog 101 #[.string s, .string sub] w fun e w' => e = .returned (.int .i64 (Lib.index s.data.toList sub.data.toList)) ∧ w' = w := Any.strings_Index lays143 s sub m w hs hm
theorem c101 {T : List (Entry Tryz.prog)} (s t : Str) (hl : s.length ≤ 1000000) : CallAt (ctx T) 101 [.str s, .str t] ⟨0, []⟩ (.int .i64 (Lib.index s t)) ⟨0, []⟩ := by
 intro ρ w xs sm hx
 match xs, hx with
 | [x, y], hx =>
  have h0 := hx.2 0 (by simp) (by simp)
  have h1 := hx.2 1 (by simp) (by simp)
  simp only [List.getElem_cons_zero, List.getElem_cons_succ] at h0 h1
  cases h0; cases h1
  obtain ⟨hB, m, hm⟩ := ρ.gl 0 (by simp [globs])
  have hc : w.cell? ⟨0, 0, none⟩ = some (.int .i64 m) := by rw [World.cell?, sm.below 0 hB]; exact hm
  have hrun : (callFunc 101 #[.string ⟨s.toArray⟩, .string ⟨t.toArray⟩]).run (ctx T).P w = .ok (.enter 101 #[.string ⟨s.toArray⟩, .string ⟨t.toArray⟩]) w := by
   have hf : (ctx T).P.funcs[101]? = some Tryz.f101 := Tryz.func101
   have hn : ¬ Tryz.f101.name = "runtime.NumGoroutine" := by decide +kernel
   simp [callFunc, hf, hn, Tryz.f101]
  refine .inr ⟨101, _, hrun, callsIn_wide.2 ((index_at ⟨s.toArray⟩ ⟨t.toArray⟩ m w ?_ hc).mono ?_)⟩
  ·show s.toArray.size < _
   simp; omega
  ·rintro e w' ⟨rfl, rfl⟩
   exact ⟨_, ρ, rfl, .int _ _, sm, Step.refl _ _ _⟩
noncomputable def e101 : Entry Tryz.prog := mkE 101 [[], []] (fun x : Str × Str => [.str x.1, .str x.2]) (fun x => x.1.length ≤ 1000000) (fun x => .int .i64 (Lib.index x.1 x.2)) fun x h => c101 (T := []) x.1 x.2 h
theorem k101 {T : List (Entry Tryz.prog)} (hT : findE 101 T = some e101.g) {s t : Str} (h1 : s.length ≤ 1000000) (H : Heap) : callL (ctx T) (.fn 101) [.str s, .str t] H = some (.int .i64 (Lib.index s t), H) :=
 mkE_scalar hT inj_str2 (s, t) h1 rfl (by simp)
theorem c67 {T : List (Entry Tryz.prog)} (c : UInt8) : CallAt (ctx T) 67 [.int .u8 c.toNat] ⟨0, []⟩ (.bool (sp c)) ⟨0, []⟩ := by
 refine callAt_body (fn := Tryz.f67) (s0 := ⟨[0, 2, 3, 4], [.int .u8 c.toNat, .undef, .undef, .undef], [], 10, ⟨0, [[]]⟩⟩) Tryz.func67 rfl rfl rfl ?_
 repeat apply wq
 refine wps_region callOK ?_
 simp [zS]
 repeat apply wq
 refine wps_region callOK ?_
 simp [zS]
 repeat apply wq
 refine wps_block ?_
 by_cases h1 : (c.toNat : Int) = 9
 ·(repeat (first
   | (refine wps_seq ?_)
   | (refine wps_block ?_)
   | (refine wps_label ?_; simp only [thenQ, blockQ])
   | ((refine wps_region callOK ?_); simp [zS, h1])
   | (refine wps_ct rfl ?_)
   | (refine wps_cf rfl ?_)
   | ((refine wps_skip ?_); simp only [thenQ, blockQ])
   | ((refine wps_exit ?_); simp [thenQ, blockQ])))
  repeat apply wq
  refine wps_ret ?_
  simp [retVal, Tryz.f67, oneOr, thenQ, blockQ]
  exact ends_pure rfl (by simp [sp, h1])
 by_cases h2 : (c.toNat : Int) = 10
 ·(repeat (first
   | (refine wps_seq ?_)
   | (refine wps_block ?_)
   | (refine wps_label ?_; simp only [thenQ, blockQ])
   | ((refine wps_region callOK ?_); simp [zS, h1, h2])
   | (refine wps_ct rfl ?_)
   | (refine wps_cf rfl ?_)
   | ((refine wps_skip ?_); simp only [thenQ, blockQ])
   | ((refine wps_exit ?_); simp [thenQ, blockQ])))
  repeat apply wq
  refine wps_ret ?_
  simp [retVal, Tryz.f67, oneOr, thenQ, blockQ]
  exact ends_pure rfl (by simp [sp, h2])
 by_cases h3 : (c.toNat : Int) = 12
 ·(repeat (first
   | (refine wps_seq ?_)
   | (refine wps_block ?_)
   | (refine wps_label ?_; simp only [thenQ, blockQ])
   | ((refine wps_region callOK ?_); simp [zS, h1, h2, h3])
   | (refine wps_ct rfl ?_)
   | (refine wps_cf rfl ?_)
   | ((refine wps_skip ?_); simp only [thenQ, blockQ])
   | ((refine wps_exit ?_); simp [thenQ, blockQ])))
  repeat apply wq
  refine wps_ret ?_
  simp [retVal, Tryz.f67, oneOr, thenQ, blockQ]
  exact ends_pure rfl (by simp [sp, h3])
 by_cases h4 : (c.toNat : Int) = 13
 ·(repeat (first
   | (refine wps_seq ?_)
   | (refine wps_block ?_)
   | (refine wps_label ?_; simp only [thenQ, blockQ])
   | ((refine wps_region callOK ?_); simp [zS, h1, h2, h3, h4])
   | (refine wps_ct rfl ?_)
   | (refine wps_cf rfl ?_)
   | ((refine wps_skip ?_); simp only [thenQ, blockQ])
   | ((refine wps_exit ?_); simp [thenQ, blockQ])))
  repeat apply wq
  refine wps_ret ?_
  simp [retVal, Tryz.f67, oneOr, thenQ, blockQ]
  exact ends_pure rfl (by simp [sp, h4])
 by_cases h5 : (c.toNat : Int) = 32
 ·(repeat (first
   | (refine wps_seq ?_)
   | (refine wps_block ?_)
   | (refine wps_label ?_; simp only [thenQ, blockQ])
   | ((refine wps_region callOK ?_); simp [zS, h1, h2, h3, h4, h5])
   | (refine wps_ct rfl ?_)
   | (refine wps_cf rfl ?_)
   | ((refine wps_skip ?_); simp only [thenQ, blockQ])
   | ((refine wps_exit ?_); simp [thenQ, blockQ])))
  repeat apply wq
  refine wps_ret ?_
  simp [retVal, Tryz.f67, oneOr, thenQ, blockQ]
  exact ends_pure rfl (by simp [sp, h5])
 ·(repeat (first
   | (refine wps_seq ?_)
   | (refine wps_block ?_)
   | (refine wps_label ?_; simp only [thenQ, blockQ])
   | ((refine wps_region callOK ?_); simp [zS, h1, h2, h3, h4, h5])
   | (refine wps_ct rfl ?_)
   | (refine wps_cf rfl ?_)
   | ((refine wps_skip ?_); simp only [thenQ, blockQ])
   | ((refine wps_exit ?_); simp [thenQ, blockQ])))
  repeat apply wq
  refine wps_ret ?_
  simp [retVal, Tryz.f67, oneOr, thenQ, blockQ]
  exact ends_pure rfl (by simp [sp, h1, h2, h3, h4, h5])
noncomputable def e67 : Entry Tryz.prog := mkE 67 [[]] (fun x : UInt8 => [.int .u8 x.toNat]) (fun _ => True) (fun x => .bool (sp x)) fun x _ => c67 (T := []) x
theorem k67 {T : List (Entry Tryz.prog)} (hT : findE 67 T = some e67.g) (c : UInt8) (H : Heap) : callL (ctx T) (.fn 67) [.int .u8 c.toNat] H = some (.bool (sp c), H) :=
 mkE_scalar hT inj_u8 c trivial rfl (by simp)
def eqN : Str → Str → Bool
 | [], l => match l with | [] => true | _ :: _ => false
 | a :: x, l => match l with
  | [] => false
  | b :: y => match Nat.beq a.toNat b.toNat with
   | true => eqN x y
   | false => false
theorem eqN_eq : ∀ (x y : Str), eqN x y = decide (x = y)
 | [], [] => rfl
 | [], _ :: _ => by simp [eqN]
 | _ :: _, [] => by simp [eqN]
 | a :: x, b :: y => by
  unfold eqN
  simp only
  split
  ·rename_i h
   have := UInt8.toNat_inj.1 (Nat.eq_of_beq_eq_true h)
   subst this
   rw [eqN_eq]; simp
  ·rename_i h
   have : ¬ a = b := fun e => by subst e; rw [Nat.beq_refl] at h; cases h
   simp [this]
def spN (n : Nat) : Bool := match Nat.beq n 32 with
 | true => true
 | false => match Nat.beq n 9 with
  | true => true
  | false => match Nat.beq n 10 with
   | true => true
   | false => match Nat.beq n 12 with
    | true => true
    | false => Nat.beq n 13
theorem spN_eq (c : UInt8) : spN c.toNat = sp c := by
 have k : ∀ m : Nat, Nat.beq c.toNat m = decide ((c.toNat : Int) = (m : Int)) := fun m => by
  by_cases h : c.toNat = m
  ·subst h; simp
  ·rw [beqN_ne h]; simp; omega
 unfold spN sp
 rw [k 32, k 9, k 10, k 12, k 13]
 simp only [Int.cast_ofNat_Int]
 by_cases h1 : (c.toNat : Int) = 9 <;> by_cases h2 : (c.toNat : Int) = 10 <;> by_cases h3 : (c.toNat : Int) = 12 <;> by_cases h4 : (c.toNat : Int) = 13 <;> by_cases h5 : (c.toNat : Int) = 32 <;> simp [h1, h2, h3, h4, h5]
def inN (x : Str) : Str → Option Str → Bool → Bool
 | [], w, some' => match some' with
  | true => match w with
   | some r => match r with | [] => true | _ :: _ => false
   | none => false
  | false => false
 | c :: r, w, some' => match spN c.toNat with
  | true => match some' with
   | true => match w with
    | some q => match q with
     | [] => true
     | _ :: _ => inN x r (some x) false
    | none => inN x r (some x) false
   | false => inN x r (some x) false
  | false => match w with
   | some q => match q with
    | [] => inN x r none true
    | d :: q => match Nat.beq d.toNat c.toNat with
     | true => inN x r (some q) true
     | false => inN x r none true
   | none => inN x r none true
def leftOf : Str → Str → Option Str
 | [], x => some x
 | a :: c, x => match x with
  | [] => none
  | b :: x => if b = a then leftOf c x else none
theorem leftOf_snoc : ∀ (cur x : Str) (c : UInt8), leftOf (cur ++ [c]) x = match leftOf cur x with
  | some q => (match q with | [] => none | d :: q => if d = c then some q else none)
  | none => none
 | [], x, c => by cases x <;> simp [leftOf]
 | a :: r, [], c => by simp [leftOf]
 | a :: r, b :: x, c => by
  simp only [List.cons_append, leftOf]
  by_cases h : b = a
  ·simp only [h, if_true]; exact leftOf_snoc r x c
  ·simp [h]
theorem leftOf_nil : ∀ (cur x : Str), leftOf cur x = some [] ↔ x = cur
 | [], x => by simp [leftOf]
 | a :: r, [] => by simp [leftOf]
 | a :: r, b :: x => by
  simp only [leftOf]
  by_cases h : b = a
  ·simp [h, leftOf_nil r x]
  ·simp [h]
theorem inN_eq (x : Str) (hx : x ≠ []) : ∀ (r : Str) (st : List Str × Str), x ∉ st.1 → inN x r (leftOf st.2 x) (!decide (st.2 = [])) = decide (x ∈ wfin (r.foldl wstep st))
 | [], st, hn => by
  simp only [List.foldl_nil, wfin]
  unfold inN
  by_cases h : st.2 = []
  ·simp [h, hn]
  ·simp only [h, decide_false, Bool.not_false, if_false]
   cases hl : leftOf st.2 x with
   | none =>
    have : ¬ x = st.2 := fun e => by rw [(leftOf_nil st.2 x).2 e] at hl; cases hl
    simp [hn, this]
   | some q =>
    cases q with
    | nil =>
     have := (leftOf_nil st.2 x).1 hl
     simp [this]
    | cons d q =>
     have : ¬ x = st.2 := fun e => by rw [(leftOf_nil st.2 x).2 e] at hl; cases hl
     simp [hn, this]
 | c :: r, st, hn => by
  show inN x (c :: r) _ _ = decide (x ∈ wfin (r.foldl wstep (wstep st c)))
  have grow : ∀ (r : Str) (st : List Str × Str), x ∈ st.1 → x ∈ (r.foldl wstep st).1 := by
   intro r
   induction r with
   | nil => exact fun _ h => h
   | cons c r ih =>
    intro st h
    refine ih _ ?_
    unfold wstep
    split
    ·split
     ·exact h
     ·exact List.mem_append_left _ h
    ·exact h
  rw [show inN x (c :: r) (leftOf st.2 x) (!decide (st.2 = [])) = (match spN c.toNat with
  | true => match (!decide (st.2 = [])) with
   | true => match leftOf st.2 x with
    | some q => match q with
     | [] => true
     | _ :: _ => inN x r (some x) false
    | none => inN x r (some x) false
   | false => inN x r (some x) false
  | false => match leftOf st.2 x with
   | some q => match q with
    | [] => inN x r none true
    | d :: q => match Nat.beq d.toNat c.toNat with
     | true => inN x r (some q) true
     | false => inN x r none true
   | none => inN x r none true) from rfl, spN_eq]
  cases hs : sp c with
  | true =>
   simp only
   by_cases h : st.2 = []
   ·have e : wstep st c = (st.1, []) := by simp [wstep, hs, h]
    rw [e]
    have ih := inN_eq x hx r (st.1, []) hn
    simp only [h, decide_true, Bool.not_true]
    simpa [leftOf] using ih
   ·have e : wstep st c = (st.1 ++ [st.2], []) := by simp [wstep, hs, h]
    rw [e]
    simp only [h, decide_false, Bool.not_false]
    by_cases hq : x = st.2
    ·rw [(leftOf_nil st.2 x).2 hq]
     simp only
     have hm := grow r (st.1 ++ [st.2], []) (by rw [hq]; simp)
     unfold wfin
     split
     ·simp [hm]
     ·simp [hm]
    ·have hn' : x ∉ st.1 ++ [st.2] := by simp [hn, hq]
     have ih := inN_eq x hx r (st.1 ++ [st.2], []) hn'
     simp only [leftOf, decide_true, Bool.not_true] at ih
     cases hl : leftOf st.2 x with
     | none => exact ih
     | some q =>
      cases q with
      | nil => exact absurd ((leftOf_nil st.2 x).1 hl) hq
      | cons d q => exact ih
  | false =>
   simp only
   have e : wstep st c = (st.1, st.2 ++ [c]) := by simp [wstep, hs]
   rw [e]
   have ih := inN_eq x hx r (st.1, st.2 ++ [c]) hn
   simp only [List.append_eq_nil_iff, List.cons_ne_nil, and_false, decide_false, Bool.not_false] at ih
   rw [leftOf_snoc] at ih
   cases hl : leftOf st.2 x with
   | none => rw [hl] at ih; exact ih
   | some q =>
    rw [hl] at ih
    cases q with
    | nil => exact ih
    | cons d q =>
     simp only at ih ⊢
     by_cases hd : d = c
     ·rw [if_pos hd] at ih
      rw [hd, Nat.beq_refl]; exact ih
     ·rw [if_neg hd] at ih
      rw [beqN_ne (fun e => hd (UInt8.toNat_inj.1 e))]; exact ih
theorem words_ne (s : Str) : [] ∉ wsplit s := by
 have key : ∀ (r : Str) (st : List Str × Str), [] ∉ st.1 → [] ∉ (r.foldl wstep st).1 := by
  intro r
  induction r with
  | nil => exact fun _ h => h
  | cons c r ih =>
   intro st h
   refine ih _ ?_
   unfold wstep
   split
   ·split
    ·exact h
    ·rename_i h2
     simp only [List.mem_append, List.mem_singleton, not_or]
     exact ⟨h, fun e => h2 e.symm⟩
   ·exact h
 have := key s ([], []) (by simp)
 unfold wsplit wfin wst
 split
 ·exact this
 ·rename_i h2
  simp only [List.mem_append, List.mem_singleton, not_or]
  exact ⟨this, fun e => h2 e.symm⟩
def inB (w x : Str) : Bool := match x with
 | [] => false
 | _ :: _ => inN x w (some x) false
theorem inB_eq (w x : Str) : inB w x = inW w x := by
 unfold inB
 split
 ·simp [inW, words_ne]
 ·rename_i a r
  have := inN_eq (a :: r) (by simp) w ([], []) (by simp)
  exact (show inN (a :: r) w (some (a :: r)) false = _ from this).trans (decide_eq_decide.2 Iff.rfl)
def runIn : List AV → Heap → Option (AV × Heap) := fun args H => match args with
 | [.str w, .str x] => match Nat.ble w.length 900000 with
  | true => some (.bool (inB w x), H)
  | false => none
 | _ => none
def r86 : Entry Tryz.prog := ⟨86, runIn, fun args H v H' h => by
 unfold runIn at h
 split at h
 ·rename_i w x
  split at h
  ·rename_i hl
   simp only [Option.some.injEq, Prod.mk.injEq] at h
   obtain ⟨rfl, rfl⟩ := h
   rw [inB_eq]
   exact (c86 (T := [e109, e108]) rfl rfl w x (Nat.le_of_ble_eq_true hl)).lift (by simp [pureL, pureV]) H
  ·cases h
 ·cases h⟩
end Go.Proofs.YtfncefamflainaaGreatDoor
namespace Go.Proofs.YtfncefamflainaaGreatDoor
noncomputable section
set_option linter.unusedSimpArgs false
set_option linter.unusedVariables false
open Go Go.RowKit
set_option maxRecDepth 100000
def noneL : List AV → Bool
 | [] => true
 | _ :: _ => false
mutual
def fitVb (Φ : List (Nat × List AV)) : AV → AV → Bool
 | .slc b o len cap, v' => match v' with
  | .undef => true
  | .fslc sz es => (match lookC b Φ with
   | some cs => (match subL o (len * sz) cs with
    | some x => AV.beqL x (flatAV es) && Nat.beq es.length len && allSize sz es
    | none => false)
   | none => false) || (Nat.beq len 0 && noneL es)
  | _ => false
 | .ptr b o, v' => match v' with
  | .undef => true
  | .fptr cs o' => (match lookC b Φ with
   | some c => AV.beqL c cs
   | none => false) && Nat.beq o' o
  | _ => false
 | .nilS, v' => match v' with
  | .undef => true
  | .nilS => true
  | .fslc _ es => noneL es
  | _ => false
 | .fslc sz es, v' => match v' with
  | .undef => true
  | .fslc sz' es' => Nat.beq sz sz' && AV.beqL es es'
  | _ => false
 | .agg cs, v' => match v' with
  | .undef => true
  | .agg cs' => fitLb Φ cs cs'
  | _ => false
 | .tup cs, v' => match v' with
  | .undef => true
  | .tup cs' => fitLb Φ cs cs'
  | _ => false
 | .int k n, v' => match v' with
  | .undef => true
  | .int k' n' => decide (k' = k) && decide (n' = n)
  | _ => false
 | .str s, v' => match v' with
  | .undef => true
  | .str s' => eqN s' s
  | _ => false
 | .bool s, v' => match v' with
  | .undef => true
  | .bool s' => s' == s
  | _ => false
 | _, v' => match v' with
  | .undef => true
  | _ => false
def fitLb (Φ : List (Nat × List AV)) : List AV → List AV → Bool
 | [], l' => noneL l'
 | a :: r, l' => match l' with
  | [] => false
  | a' :: r' => fitVb Φ a a' && fitLb Φ r r'
end
theorem noneL_eq {l : List AV} (h : noneL l = true) : l = [] := by cases l <;> first | rfl | cases h
mutual
theorem fitVb_ok {Φ : List (Nat × List AV)} : ∀ {v v' : AV}, fitVb Φ v v' = true → fitV [] Φ v v' := by
 intro v v' h
 cases v with
 | slc b o len cap =>
  unfold fitVb at h
  unfold fitV
  cases v' <;> simp only [Bool.false_eq_true] at h ⊢
  rename_i sz es
  simp only [Bool.or_eq_true, Bool.and_eq_true] at h
  rcases h with h | h
  ·left
   cases hl : lookC b Φ with
   | none => rw [hl] at h; cases h
   | some cs =>
    rw [hl] at h
    simp only at h
    cases hs : subL o (len * sz) cs with
    | none => rw [hs] at h; cases h
    | some x =>
     rw [hs] at h
     simp only [Bool.and_eq_true] at h
     exact ⟨cs, rfl, by rw [hs, AV.eqL_of_beq _ _ h.1.1], Nat.eq_of_beq_eq_true h.1.2, h.2⟩
  ·exact .inr ⟨Nat.eq_of_beq_eq_true h.1, noneL_eq h.2⟩
 | fslc sz es =>
  cases v' with
  | undef => simp [fitV]
  | fslc sz' es' =>
   unfold fitVb at h
   simp only [Bool.and_eq_true] at h
   have h1 := Nat.eq_of_beq_eq_true h.1
   have h2 := AV.eqL_of_beq _ _ h.2
   subst h1; subst h2
   exact fitV_pure rfl
  | _ => simp [fitVb] at h
 | ptr b o =>
  unfold fitVb at h
  unfold fitV
  cases v' <;> simp only [Bool.false_eq_true] at h ⊢
  simp only [Bool.and_eq_true] at h
  cases hl : lookC b Φ with
  | none => rw [hl] at h; cases h.1
  | some cs =>
   rw [hl] at h
   exact ⟨by rw [AV.eqL_of_beq _ _ h.1], Nat.eq_of_beq_eq_true h.2⟩
 | nilS =>
  unfold fitVb at h
  unfold fitV
  cases v' <;> simp only [Bool.false_eq_true] at h ⊢
  exact noneL_eq h
 | agg cs =>
  unfold fitVb at h
  unfold fitV
  cases v' <;> simp only [Bool.false_eq_true] at h ⊢
  exact .inl (fitLb_ok h)
 | tup cs =>
  unfold fitVb at h
  unfold fitV
  cases v' <;> simp only [Bool.false_eq_true] at h ⊢
  exact .inl (fitLb_ok h)
 | int k n =>
  unfold fitVb at h
  unfold fitV
  cases v' <;> simp only [Bool.false_eq_true] at h ⊢
  ·simp
  ·simp only [Bool.and_eq_true, decide_eq_true_eq] at h
   obtain ⟨rfl, rfl⟩ := h
   exact .inr ⟨rfl, rfl⟩
 | str s =>
  unfold fitVb at h
  unfold fitV
  cases v' <;> simp only [Bool.false_eq_true] at h ⊢
  ·simp
  ·rw [eqN_eq, decide_eq_true_eq] at h
   subst h
   exact .inr ⟨rfl, rfl⟩
 | bool s =>
  unfold fitVb at h
  unfold fitV
  cases v' <;> simp only [Bool.false_eq_true] at h ⊢
  ·simp
  ·simp only [beq_iff_eq] at h
   subst h
   exact .inr ⟨rfl, rfl⟩
 | _ =>
  unfold fitVb at h
  cases v' <;> simp only [Bool.false_eq_true] at h
  simp [fitV]
theorem fitLb_ok {Φ : List (Nat × List AV)} : ∀ {l l' : List AV}, fitLb Φ l l' = true → fitL [] Φ l l' := by
 intro l l' h
 cases l with
 | nil =>
  unfold fitLb at h
  unfold fitL
  exact noneL_eq h
 | cons a r =>
  unfold fitLb at h
  unfold fitL
  cases l' with
  | nil => cases h
  | cons a' r' =>
   simp only [Bool.and_eq_true] at h
   exact ⟨fitVb_ok h.1, fitLb_ok h.2⟩
end
def undefL : Nat → List AV → List AV
 | 0, _ => []
 | _ + 1, [] => []
 | n + 1, _ :: r => .undef :: undefL n r
def undefA : List AV → List AV
 | [] => []
 | _ :: r => .undef :: undefA r
def pairsL : List AV → List AV → List (AV × AV) → List (AV × AV)
 | a :: r, b :: s, acc => (a, b) :: pairsL r s acc
 | _, _, acc => acc
def coll (H : Heap) : Nat → List (AV × AV) → List (Nat × List AV) → Option (List (Nat × List AV))
 | 0, _, _ => none
 | n + 1, todo, Φ => match todo with
  | [] => some Φ
  | x :: r => match x.1, x.2 with
   | .agg xs, .agg ys => coll H n (pairsL xs ys r) Φ
   | .tup xs, .tup ys => coll H n (pairsL xs ys r) Φ
   | .slc b o len _, .fslc sz es => match len with
    | 0 => coll H n r Φ
    | Nat.succ _ => match lookC b Φ with
     | some _ => coll H n r Φ
     | none => match H.get b with
      | some (.cells cs) => coll H n (pairsL (cs.drop o) (flatAV es) r) ((b, undefL o cs ++ flatAV es ++ undefA (cs.drop (o + len * sz))) :: Φ)
      | _ => none
   | .ptr b _, .fptr ys _ => match lookC b Φ with
    | some _ => coll H n r Φ
    | none => match H.get b with
     | some (.cells cs) => coll H n (pairsL cs ys r) ((b, ys) :: Φ)
     | _ => none
   | _, _ => coll H n r Φ
def nodupB : List Nat → Bool
 | [] => true
 | x :: r => match memT x r with
  | true => false
  | false => nodupB r
theorem memT_mem {n : Nat} : ∀ {l : List Nat}, memT n l = false → n ∉ l
 | [], _ => by simp
 | m :: r, h => by
  unfold memT at h
  split at h
  ·cases h
  ·rename_i hb
   have : n ≠ m := fun e => by rw [e, Nat.beq_refl] at hb; cases hb
   simp [this, memT_mem h]
theorem nodupB_ok : ∀ {l : List Nat}, nodupB l = true → l.Nodup
 | [], _ => List.nodup_nil
 | x :: r, h => by
  unfold nodupB at h
  split at h
  ·cases h
  ·rename_i hm
   exact List.nodup_cons.2 ⟨memT_mem hm, nodupB_ok h⟩
def frzOK (H : Heap) (Φ : List (Nat × List AV)) : List (Nat × List AV) → Bool
 | [] => true
 | x :: r => (match H.get x.1 with
  | some (.cells cs) => fitLb Φ cs x.2 && pureL x.2
  | _ => false) && frzOK H Φ r
theorem frzOK_ok {H : Heap} {Φ : List (Nat × List AV)} : ∀ {l : List (Nat × List AV)}, frzOK H Φ l = true → ∀ x, x ∈ l → ∃ cs, H.get x.1 = some (.cells cs) ∧ fitL [] Φ cs x.2 ∧ pureL x.2 = true
 | [], _, x, hx => by cases hx
 | y :: r, h, x, hx => by
  unfold frzOK at h
  simp only [Bool.and_eq_true] at h
  rcases List.mem_cons.1 hx with rfl | hx
  ·have h1 := h.1
   split at h1
   ·rename_i cs hg
    simp only [Bool.and_eq_true] at h1
    exact ⟨cs, hg, fitLb_ok h1.1, h1.2⟩
   ·cases h1
  ·exact frzOK_ok h.2 x hx
def litOK (lit : AV) : Option (AV × Heap) → Bool
 | some (v, H) => match coll H 100000 [(v, lit)] [] with
  | some Φ => nodupB (Φ.map (·.1)) && frzOK H Φ Φ && fitVb Φ v lit
  | none => false
 | none => false
theorem closedLit {T : List (Entry Tryz.prog)} {f : FuncId} {args : List AV} {lit : AV} (h : litOK lit (callN (ctx T) 100000 (.fn f) args ⟨0, []⟩) = true) : CallAt (ctx T) f args ⟨0, []⟩ lit ⟨0, []⟩ := by
 revert h
 cases hr : callN (ctx T) 100000 (.fn f) args ⟨0, []⟩ with
 | none => intro h; cases h
 | some r =>
  obtain ⟨v, H'⟩ := r
  intro h
  unfold litOK at h
  simp only at h
  cases hc : coll H' 100000 [(v, lit)] [] with
  | none => rw [hc] at h; cases h
  | some Φ =>
   rw [hc] at h
   simp only [Bool.and_eq_true] at h
   exact ((call_ok mixed (mkC_ok _ _ _) 100000).fn f args ⟨0, []⟩ _ _ hr).freeze (fitVb_ok h.2) (FitH.froze (nodupB_ok h.1.1) (frzOK_ok h.1.2))
end
end Go.Proofs.YtfncefamflainaaGreatDoor
namespace Go.Proofs.YtfncefamflainaaGreatDoor
set_option linter.unusedSimpArgs false
set_option linter.unusedVariables false
open Go Go.RowKit
set_option maxRecDepth 100000
abbrev enc3 : Str := [239, 191, 189]
theorem enc_lit : litOK (.str enc3) (callN (ctx []) 100000 (.fn 125) [.int .i64 65533] ⟨0, []⟩) = true := by decide +kernel
noncomputable def e125 : Entry Tryz.prog := mkE 125 [[]] (fun _ : Unit => [.int .i64 65533]) (fun _ => True) (fun _ => .str enc3) fun _ _ => closedLit (T := []) enc_lit
theorem k125 {T : List (Entry Tryz.prog)} (hT : findE 125 T = some e125.g) (H : Heap) : callL (ctx T) (.fn 125) [.int .i64 65533] H = some (.str enc3, H) :=
 mkE_scalar hT (fun _ _ _ => rfl) () trivial rfl (by simp)
theorem oneGo_le (s : Str) : ∀ k i lo hi, 1 ≤ i → i ≤ s.length → i ≤ (oneGo s k i lo hi).1 ∧ (oneGo s k i lo hi).1 ≤ s.length
 | 0, i, _, _, h1, h2 => ⟨Nat.le_refl _, h2⟩
 | k + 1, i, lo, hi, h1, h2 => by
  unfold oneGo
  split
  ·rename_i hc
   simp only [contN, Bool.and_eq_true, decide_eq_true_eq] at hc
   obtain ⟨a, b⟩ := oneGo_le s k (i + 1) 128 191 (by omega) (by omega)
   exact ⟨by omega, b⟩
  ·exact ⟨Nat.le_refl _, h2⟩
theorem oneR_le {s : Str} (h : 0 < s.length) : 1 ≤ (oneR s).1 ∧ (oneR s).1 ≤ s.length := by
 unfold oneR
 split
 ·exact ⟨Nat.le_refl _, h⟩
 ·split
  ·exact ⟨Nat.le_refl _, h⟩
  ·exact oneGo_le s _ 1 _ _ (Nat.le_refl _) h
def decStep (s : Str) : Str × Nat := if (oneR s).2 = false ∨ cN s 0 = 0 then (enc3, (oneR s).1) else if cN s 0 = 13 then ([10], if 1 < s.length ∧ cN s 1 = 10 then 2 else (oneR s).1) else (s.take (oneR s).1, (oneR s).1)
def decGo : Nat → Str → Str
 | 0, _ => []
 | k + 1, s => if s = [] then [] else (decStep s).1 ++ decGo k (s.drop (decStep s).2)
def decR (s : Str) : Str := decGo s.length s
theorem cN_drop {s : Str} {i j : Nat} : cN (s.drop i) j = cN s (i + j) := by
 unfold cN
 simp [List.getD_eq_getElem?_getD, List.getElem?_drop]
theorem c107 {T : List (Entry Tryz.prog)} (hO : findE 124 T = some e124.g) (hE : findE 125 T = some e125.g) (s : Str) (hl : s.length ≤ 1000000) : CallAt (ctx T) 107 [aB s] ⟨0, []⟩ (.str (decR s)) ⟨0, []⟩ := by
 have ke := fun H => k125 hE H
 refine callAt_body (fn := Tryz.f107) (s0 := ⟨[0, 2, 3, 4, 5, 6], [aB s, .undef, .undef, .undef, .undef, .undef], [], 64, ⟨0, [[]]⟩⟩) Tryz.func107 rfl rfl rfl ?_
 repeat apply wq
 refine wps_region callOK ?_
 simp [zS]
 repeat apply wq
 refine wps_region callOK ?_
 simp [zS]
 repeat apply wq
 refine wps_region callOK ?_
 simp [zS]
 repeat apply wq
 refine wps_block (wps_loop' (fun x : Nat × Str × Nat => (⟨[0, 2, 3, 4, 5, 6], [aB s, .str [], gV 0 x.2.1, .int .i64 (x.2.2 : Nat), .undef, .undef], [], 64, ⟨1, [gF 0 x.2.1]⟩⟩ : St))
  (fun x => x.2.2 ≤ s.length ∧ s.length ≤ x.2.2 + x.1 ∧ x.2.1 ++ decGo x.1 (s.drop x.2.2) = decR s ∧ x.2.1.length ≤ 3 * x.2.2) (fun x => x.1) [] [] (s.length, [], 0) ⟨Nat.zero_le _, by simp, by simp [decR], by simp⟩
  ⟨rfl, rfl, rfl, by simp [fitL, fitV, pureV, aB, gV], .keep0 (by simp [gF])⟩ ?_)
 rintro ⟨k, out, i⟩ ⟨hi, hk, hd, hol⟩ B hB
 simp only at hi hk hd hol hB
 by_cases h : i < s.length
 ·obtain ⟨k, rfl⟩ : ∃ k', k = k' + 1 := ⟨k - 1, by omega⟩
  have hx : (i : Int) < (s.length : Int) := by omega
  have hdl : 0 < (s.drop i).length := by rw [List.length_drop]; omega
  have ko := fun H => k124 hO (s := s.drop i) hdl (by rw [List.length_drop]; omega) H
  have hsl := fun H => slB (H := H) (s := s) (i := i) (by omega)
  have hat := atB h
  rw [cN_get h] at hat
  obtain ⟨n1, n2⟩ := oneR_le hdl
  have hstep : decGo (k + 1) (s.drop i) = (decStep (s.drop i)).1 ++ decGo k ((s.drop i).drop (decStep (s.drop i)).2) := by
   have : ¬ s.drop i = [] := fun e => by rw [e] at hdl; simp at hdl
   simp only [decGo, if_neg this]
  rw [hstep] at hd
  have hc0 : cN (s.drop i) 0 = cN s i := by rw [cN_drop, Nat.add_zero]
  have hc1 : cN (s.drop i) 1 = cN s (i + 1) := cN_drop
  have hds : decStep (s.drop i) = if (oneR (s.drop i)).2 = false ∨ cN s i = 0 then (enc3, (oneR (s.drop i)).1) else if cN s i = 13 then ([10], if 1 < (s.drop i).length ∧ cN s (i + 1) = 10 then 2 else (oneR (s.drop i)).1) else ((s.drop i).take (oneR (s.drop i)).1, (oneR (s.drop i)).1) := by
   unfold decStep; rw [hc0, hc1]
  rw [List.length_drop] at n2 hds
  generalize hone : oneR (s.drop i) = o at *
  obtain ⟨n, ok⟩ := o
  simp only [oneA] at ko n1 n2 hds
  obtain ⟨c, hc⟩ : ∃ c, c = cN s i := ⟨_, rfl⟩
  rw [← hc] at hat hds
  have hadd : ∀ j : Nat, j ≤ 1000000 → wr .i64 ((i : Int) + (j : Int)) = some ((i + j : Nat) : Int) := fun j hj => by rw [wr_small (by omega) (by omega)]; simp
  have put : ∀ (t : Str) (m j : Nat) (g : List (Nat × Blk)) (v5 v6 : AV) (L m' : Nat) (J : Int) (ts : List (Nat × AV)), L = t.length → J = j → 0 < t.length → t.length ≤ 3 * j → 1 ≤ j → i + j ≤ s.length → decStep (s.drop i) = (t, j) →
    B { (⟨[0, 2, 3, 4, 5, 6], [aB s, .str [], .slc m 0 (out.length + L) (.rest 1), .int .i64 ((i : Int) + J), v5, v6], [], 64, ⟨m', [(m, .buf 5 0 (bytesAV (out ++ t))) :: g]⟩⟩ : St) with ts := ts } := fun t m j g v5 v6 L m' J ts hL hJ ht htl hj hij hst => by
   subst hL; subst hJ
   have hne : out ++ t ≠ [] := fun e => by have := congrArg List.length e; simp at this; rw [this.2] at ht; simp at ht
   refine hB _ (k, out ++ t, i + j) (by simp only; omega) ⟨by simp only; omega, by simp only; omega, ?_, by simp only [List.length_append]; omega⟩ ⟨[(m, 0)], [], rfl, rfl, rfl, ?_, fit_g (b := m) hne (by simp [Heap.get, getFs, getF])⟩
   ·simp only
    rw [← hd, hst, List.append_assoc, List.drop_drop]
   ·have := fitV_g (σ := [(m, 0)]) (Φ := []) (b := m) (s := out ++ t) (by simp [lookN]) hne
    rw [List.length_append] at this
    simp [fitL, pureV, aB, this]
    exact ⟨fitV_pure rfl, fitV_pure rfl, fitV_pure rfl⟩
  repeat apply wq
  refine wps_region callOK ?_
  simp [zS, lenB, hx, h]
  repeat apply wq
  refine wps_ct rfl ?_
  repeat apply wq
  refine wps_skip ?_
  simp
  repeat apply wq
  refine wps_block ?_
  repeat apply wq
  refine wps_region callOK ?_
  simp [zS, hsl, ko]
  have bad : ∀ {Q : Out → St → Prop}, True := fun {_} => trivial
  by_cases hb : ok = false ∨ c = 0
  ·have hst : decStep (s.drop i) = (enc3, n) := by rw [hds, if_pos hb]
   have happ := app_g (m := 1) (s := out) (t := enc3) (x := .str enc3) (g := []) rfl rfl rfl (by decide) (by simp; omega)
   simp only [List.nil_append] at happ
   have hfin := fun ts => put enc3 1 n [] (.int .i64 (n : Int)) (.bool ok) 3 2 n ts rfl rfl (by decide) (by simp; omega) n1 (by omega) hst
   cases ok with
   | false =>
    repeat apply wq
    refine wps_region callOK ?_
    simp [zS]
    repeat apply wq
    refine wps_ct rfl ?_
    repeat apply wq
    refine wps_region callOK ?_
    simp [zS, ke, happ]
    repeat apply wq
    refine wps_region callOK ?_
    simp [zS, hadd n (by omega)]
    exact hfin _
   | true =>
    have hc00 : c = 0 := by simpa using hb
    subst hc00
    repeat apply wq
    refine wps_region callOK ?_
    simp [zS, hat]
    repeat apply wq
    refine wps_ct rfl ?_
    repeat apply wq
    refine wps_region callOK ?_
    simp [zS, ke, happ]
    repeat apply wq
    refine wps_region callOK ?_
    simp [zS, hadd n (by omega)]
    exact hfin _
  ·have hok : ok = true := by cases ok <;> simp at hb ⊢
   subst hok
   have hcn : ¬ c = 0 := fun e => hb (.inr e)
   have hcn' : ¬ (c : Int) = 0 := by omega
   repeat apply wq
   refine wps_region callOK ?_
   simp [zS, hat, hcn, hcn']
   repeat apply wq
   refine wps_cf rfl ?_
   rw [if_neg hb] at hds
   by_cases h13 : c = 13
   ·have h13' : (c : Int) = 13 := by omega
    rw [if_pos h13] at hds
    repeat apply wq
    refine wps_region callOK ?_
    simp [zS, hat, h13']
    repeat apply wq
    refine wps_ct rfl ?_
    have happ := app_g (m := 2) (s := out) (t := [10]) (x := .slc 1 0 1 (.ex 1)) (g := [(1, .cells [.int .u8 10])]) rfl (by simp [srcCells, readCells, Heap.get, getFs, getF, bytesAV]) (by simp [getF]) (by decide) (by simp; omega)
    simp only [List.cons_append, List.nil_append] at happ
    repeat apply wq
    refine wps_region callOK ?_
    simp [zS, happ]
    obtain ⟨i1, hi1⟩ : ∃ i1, i1 = i + 1 := ⟨_, rfl⟩
    have ha1 : wr .i64 ((i : Int) + 1) = some ((i1 : Nat) : Int) := by rw [hi1]; exact add_one (by omega)
    rw [← hi1] at hds
    by_cases q1 : i1 < s.length
    ·have q1' : (i1 : Int) < (s.length : Int) := by omega
     have hat1 := atB q1
     rw [cN_get q1] at hat1
     obtain ⟨d, hd1⟩ : ∃ d, d = cN s i1 := ⟨_, rfl⟩
     rw [← hd1] at hat1 hds
     by_cases q2 : d = 10
     ·have q2' : (d : Int) = 10 := by omega
      rw [if_pos ⟨by omega, q2⟩] at hds
      repeat apply wq
      refine wps_region callOK ?_
      simp [zS, ha1, lenB, q1, q1', hat1, q2']
      repeat apply wq
      refine wps_ct rfl ?_
      repeat apply wq
      refine wps_region callOK ?_
      simp [zS]
      have h2 : wr .i64 ((i : Int) + 2) = some ((i : Int) + 2) := wr_small (by omega) (by omega)
      repeat apply wq
      refine wps_region callOK ?_
      simp [zS, h2]
      exact put [10] 2 2 _ (.int .i64 2) _ 1 3 2 _ rfl rfl (by decide) (by simp) (by omega) (by omega) hds
     ·have q2' : ¬ (d : Int) = 10 := by omega
      rw [if_neg (fun e => q2 e.2)] at hds
      repeat apply wq
      refine wps_region callOK ?_
      simp [zS, ha1, lenB, q1, q1', hat1, q2']
      repeat apply wq
      refine wps_cf rfl ?_
      repeat apply wq
      refine wps_skip ?_
      simp
      repeat apply wq
      refine wps_region callOK ?_
      simp [zS, hadd n (by omega)]
      exact put [10] 2 n _ (.int .i64 (n : Int)) _ 1 3 n _ rfl rfl (by decide) (by simp; omega) n1 (by omega) hds
    ·have q1' : ¬ (i1 : Int) < (s.length : Int) := by omega
     rw [if_neg (fun e => q1 (by omega))] at hds
     repeat apply wq
     refine wps_region callOK ?_
     simp [zS, ha1, lenB, q1, q1']
     repeat apply wq
     refine wps_cf rfl ?_
     repeat apply wq
     refine wps_skip ?_
     simp
     repeat apply wq
     refine wps_region callOK ?_
     simp [zS, hadd n (by omega)]
     exact put [10] 2 n _ (.int .i64 (n : Int)) _ 1 3 n _ rfl rfl (by decide) (by simp; omega) n1 (by omega) hds
   ·have h13' : ¬ (c : Int) = 13 := by omega
    rw [if_neg h13] at hds
    have hsl2 := fun H => slB2 (H := H) (s := s) (i := i) (j := i + n) (by omega) (by omega)
    have htk : (s.take (i + n)).drop i = (s.drop i).take n := by rw [List.drop_take]; congr 1; omega
    have htl : ((s.drop i).take n).length = n := by simp; omega
    have happ := app_g (m := 1) (s := out) (t := (s.drop i).take n) (x := aB ((s.drop i).take n)) (g := []) (by simp [aB, srcLen, byte_len]) (by
     have := flat_bytes ((s.drop i).take n)
     simp only [aB, srcCells, Nat.beq_refl]
     rw [List.take_of_length_le (by rw [byte_len]; omega), this]) rfl (by omega) (by omega)
    simp only [List.nil_append] at happ
    simp only [htk, Int.natCast_add] at hsl2
    have hfin := fun ts => put ((s.drop i).take n) 1 n [] (.int .i64 (n : Int)) (.bool true) _ 2 n ts rfl rfl (by omega) (by omega) n1 (by omega) hds
    repeat apply wq
    refine wps_region callOK ?_
    simp [zS, hat, h13']
    repeat apply wq
    refine wps_cf rfl ?_
    have ha := hadd n (by omega)
    generalize (s.drop i).take n = t at *
    repeat apply wq
    refine wps_region callOK ?_
    simp [zS, ha, hsl2, happ]
    repeat apply wq
    refine wps_region callOK ?_
    simp [zS, ha]
    exact hfin _
 ·have hx : ¬ (i : Int) < (s.length : Int) := by omega
  have hie : i = s.length := by omega
  subst hie
  have hnil : decGo k (s.drop s.length) = [] := by
   rw [List.drop_length]
   cases k <;> simp [decGo]
  rw [hnil, List.append_nil] at hd
  subst hd
  repeat apply wq
  refine wps_region callOK ?_
  simp [zS, lenB]
  repeat apply wq
  refine wps_cf (by simp [opnd, St.get]) ?_
  repeat apply wq
  refine wps_exit ?_
  simp
  repeat apply wq
  refine wps_region callOK ?_
  simp [zS, conv_g]
  repeat apply wq
  refine wps_ret ?_
  simp [retVal, Tryz.f107, oneOr, thenQ, blockQ]
  exact ends_pure rfl (by rfl)
noncomputable def e107 : Entry Tryz.prog := mkE 107 [[1]] (fun x : Str => [aB x]) (fun x => x.length ≤ 1000000) (fun x => .str (decR x)) fun x h => c107 (T := [e124, e125]) rfl rfl x h
theorem k107 {T : List (Entry Tryz.prog)} (hT : findE 107 T = some e107.g) {s : Str} (hl : s.length ≤ 1000000) {cap : Cap} {b : Nat} (H : Heap) (hb : H.get b = some (.cells (bytesAV s))) : callL (ctx T) (.fn 107) [.slc b 0 s.length cap] H = some (.str (decR s), H) := by
 refine mkE_scalar hT inj_b1 s hl rfl ?_
 have := thawA_slc (r := []) (cap := cap) (el_bytes s) (by rw [flat_bytes]; exact hb)
 rw [byte_len] at this
 simp [this, aB]
def validR (s : Str) : Bool := decide (decR s = s)
theorem c84 {T : List (Entry Tryz.prog)} (hD : findE 107 T = some e107.g) (s : Str) (hl : s.length ≤ 1000000) : CallAt (ctx T) 84 [.str s] ⟨0, []⟩ (.bool (validR s)) ⟨0, []⟩ := by
 have hk := k107 hD (s := s) hl (cap := .rest 1) (b := 0) (bytesH 1 s) (by simp [bytesH, Heap.get, getFs, getF])
 refine callAt_body (fn := Tryz.f84) (s0 := ⟨[0, 2], [.str s, .undef], [], 8, ⟨0, [[]]⟩⟩) Tryz.func84 rfl rfl rfl ?_
 repeat apply wq
 refine wps_region callOK ?_
 simp [zS]
 repeat apply wq
 refine wps_region callOK ?_
 simp [zS, conv1 hl, hk]
 repeat apply wq
 refine wps_ret ?_
 simp [retVal, Tryz.f84, oneOr, thenQ, blockQ]
 exact ends_pure rfl (by rfl)
noncomputable def e84 : Entry Tryz.prog := mkE 84 [[]] (fun x : Str => [.str x]) (fun x => x.length ≤ 1000000) (fun x => .bool (validR x)) fun x h => c84 (T := [e107]) rfl x h
theorem k84 {T : List (Entry Tryz.prog)} (hT : findE 84 T = some e84.g) {s : Str} (hl : s.length ≤ 1000000) (H : Heap) : callL (ctx T) (.fn 84) [.str s] H = some (.bool (validR s), H) :=
 mkE_scalar hT inj_str s hl rfl (by simp)
def oneN (n b0 b1 b2 b3 : Nat) : Nat × Bool :=
 if b0 < 128 then (1, true) else if moreN b0 = 0 then (1, false)
 else if ¬ (1 < n ∧ loN b0 ≤ b1 ∧ b1 ≤ hiN b0) then (1, false) else if moreN b0 = 1 then (2, true)
 else if ¬ (2 < n ∧ 128 ≤ b2 ∧ b2 ≤ 191) then (2, false) else if moreN b0 = 2 then (3, true)
 else if ¬ (3 < n ∧ 128 ≤ b3 ∧ b3 ≤ 191) then (3, false) else (4, true)
theorem oneR_N (s : Str) : oneR s = oneN s.length (cN s 0) (cN s 1) (cN s 2) (cN s 3) := by
 unfold oneR oneN
 generalize cN s 0 = c
 have h3 := moreN_le c
 have hc : ∀ i lo hi, (contN s i lo hi = true) = (i < s.length ∧ lo ≤ cN s i ∧ cN s i ≤ hi) := fun i lo hi => by simp [contN]
 obtain h | h | h | h : moreN c = 0 ∨ moreN c = 1 ∨ moreN c = 2 ∨ moreN c = 3 := by omega
 all_goals
  simp only [h, oneGo, hc, ite_not, Nat.reduceEqDiff, if_true, if_false, Nat.reduceAdd]
  try (repeat' split) <;> first | rfl | (exfalso; omega)
set_option maxHeartbeats 1000000 in
theorem one_decode (n b0 b1 b2 b3 : Nat) (hn : 1 ≤ n) (h0 : b0 < 256) (h1 : b1 < 256) (h2 : b2 < 256) (h3 : b3 < 256) :
  ((oneN n b0 b1 b2 b3).2 = false ∧ Lib.decodeN n b0 b1 b2 b3 = (65533, 1)) ∨ ((oneN n b0 b1 b2 b3).2 = true ∧ (Lib.decodeN n b0 b1 b2 b3).2 = (oneN n b0 b1 b2 b3).1 ∧ ¬ ((Lib.decodeN n b0 b1 b2 b3).1 = 65533 ∧ (Lib.decodeN n b0 b1 b2 b3).2 = 1)) := by
 by_cases ha : b0 < 128
 ·exact .inr ⟨by simp [oneN, ha], by simp [oneN, Lib.decodeN, ha], by simp [Lib.decodeN, ha]; omega⟩
 rcases Lib.check_decode n b0 b1 b2 b3 hn (by omega) h0 h1 h2 h3 with ⟨g1, g2⟩ | ⟨k, hk, g1, g2⟩
 all_goals
  have cls : b0 < 194 ∨ (194 ≤ b0 ∧ b0 < 224) ∨ b0 = 224 ∨ (225 ≤ b0 ∧ b0 < 237) ∨ b0 = 237 ∨ (238 ≤ b0 ∧ b0 < 240) ∨ b0 = 240 ∨ (241 ≤ b0 ∧ b0 < 244) ∨ b0 = 244 ∨ 245 ≤ b0 := by omega
  have F : ∀ m l h x y z, moreN b0 = m → loN b0 = l → hiN b0 = h → Lib.firstT b0 % 8 = x → Lib.accLo (Lib.firstT b0 / 16) = y → Lib.accHi (Lib.firstT b0 / 16) = z → (m = 0 ∧ 4 < x ∨ m = 0 ∧ x < 2 ∨ x = m + 1 ∧ 1 ≤ m ∧ m ≤ 3 ∧ y = l ∧ z = h) →
    ((oneN n b0 b1 b2 b3).2 = false ∧ Lib.checkN n b1 b2 b3 x y z = none) ∨ ((oneN n b0 b1 b2 b3).2 = true ∧ Lib.checkN n b1 b2 b3 x y z = some (oneN n b0 b1 b2 b3).1) := by
   intro m l h x y z e1 e2 e3 _ _ _ hh
   simp only [oneN, ha, if_false, e1, e2, e3, Lib.checkN, ite_not]
   rcases hh with ⟨rfl, hx⟩ | ⟨rfl, hx⟩ | ⟨rfl, hm1, hm2, rfl, rfl⟩
   ·left; simp only [if_true]; refine ⟨trivial, ?_⟩; rw [if_neg (by omega), if_neg (by omega), if_neg (by omega)]
   ·left; simp only [if_true]; refine ⟨trivial, ?_⟩; rw [if_neg (by omega), if_neg (by omega), if_neg (by omega)]
   ·obtain rfl | rfl | rfl : m = 1 ∨ m = 2 ∨ m = 3 := by omega
    all_goals
     simp only [Nat.reduceEqDiff, if_false, if_true, Nat.reduceAdd]
     (repeat' split) <;> first | (exfalso; omega) | (left; exact ⟨rfl, rfl⟩) | (right; exact ⟨rfl, rfl⟩)
  have G : ((oneN n b0 b1 b2 b3).2 = false ∧ Lib.checkN n b1 b2 b3 (Lib.firstT b0 % 8) (Lib.accLo (Lib.firstT b0 / 16)) (Lib.accHi (Lib.firstT b0 / 16)) = none) ∨ ((oneN n b0 b1 b2 b3).2 = true ∧ Lib.checkN n b1 b2 b3 (Lib.firstT b0 % 8) (Lib.accLo (Lib.firstT b0 / 16)) (Lib.accHi (Lib.firstT b0 / 16)) = some (oneN n b0 b1 b2 b3).1) := by
   refine F _ _ _ _ _ _ rfl rfl rfl rfl rfl rfl ?_
   have k1 : ∀ c : Fin 256, 128 ≤ c.val → (moreN c.val = 0 ∧ 4 < Lib.firstT c.val % 8 ∨ moreN c.val = 0 ∧ Lib.firstT c.val % 8 < 2 ∨ Lib.firstT c.val % 8 = moreN c.val + 1 ∧ 1 ≤ moreN c.val ∧ moreN c.val ≤ 3 ∧ Lib.accLo (Lib.firstT c.val / 16) = loN c.val ∧ Lib.accHi (Lib.firstT c.val / 16) = hiN c.val) := by decide +kernel
   exact k1 ⟨b0, h0⟩ (by simp only; omega)
  rcases G with ⟨G1, G2⟩ | ⟨G1, G2⟩
 ·exact .inl ⟨G1, g2⟩
 ·rw [g1] at G2; cases G2
 ·rw [g1] at G2; cases G2
 ·rw [g1] at G2
  simp only [Option.some.injEq] at G2
  exact .inr ⟨G1, by rw [g2, G2], by omega⟩
theorem one_dec (s : Str) (h : 0 < s.length) : ((oneR s).2 = false ∧ Lib.decodeL s = (65533, 1)) ∨ ((oneR s).2 = true ∧ (Lib.decodeL s).2 = (oneR s).1 ∧ ¬ ((Lib.decodeL s).1 = 65533 ∧ (Lib.decodeL s).2 = 1)) := by
 rw [oneR_N, Lib.decodeL_N]
 exact one_decode _ _ _ _ _ (by omega) (UInt8.toNat_lt _) (UInt8.toNat_lt _) (UInt8.toNat_lt _) (UInt8.toNat_lt _)
theorem one_high {s : Str} (h : (oneR s).2 = true) : cN s 0 < 128 ∧ (oneR s).1 = 1 ∨ 128 ≤ cN s 0 ∧ 2 ≤ (oneR s).1 ∧ (oneR s).1 ≤ s.length ∧ ∀ k, k < (oneR s).1 → 128 ≤ cN s k := by
 rw [oneR_N] at h ⊢
 unfold oneN at h ⊢
 by_cases ha : cN s 0 < 128
 ·left; simp [ha]
 right
 simp only [ha, if_false] at h ⊢
 split at h
 ·cases h
 rename_i hm
 rw [if_neg hm]
 have hlo : 128 ≤ loN (cN s 0) := by unfold loN; (repeat' split) <;> omega
 split at h
 ·cases h
 rename_i g1
 rw [if_neg g1]
 simp only [Decidable.not_not] at g1
 have k4 : ∀ m k, k < m → m ≤ 4 → k = 0 ∨ k = 1 ∨ (2 < m ∧ k = 2) ∨ (3 < m ∧ k = 3) := fun m k h1 h2 => by omega
 split at h
 ·rename_i m1
  rw [if_pos m1]
  refine ⟨by omega, by simp, by simp; omega, fun k hk => ?_⟩
  rcases k4 2 k hk (by omega) with rfl | rfl | h | h <;> omega
 rename_i m1
 rw [if_neg m1]
 split at h
 ·cases h
 rename_i g2
 rw [if_neg g2]
 simp only [Decidable.not_not] at g2
 split at h
 ·rename_i m2
  rw [if_pos m2]
  refine ⟨by omega, by simp, by simp; omega, fun k hk => ?_⟩
  rcases k4 3 k hk (by omega) with rfl | rfl | h | h
  ·omega
  ·omega
  ·rw [h.2]; omega
  ·omega
 rename_i m2
 rw [if_neg m2]
 split at h
 ·cases h
 rename_i g3
 rw [if_neg g3]
 simp only [Decidable.not_not] at g3
 refine ⟨by omega, by simp, by simp; omega, fun k hk => ?_⟩
 rcases k4 4 k hk (by omega) with rfl | rfl | h | h
 ·omega
 ·omega
 ·rw [h.2]; omega
 ·rw [h.2]; omega
theorem mem_cN {s : Str} {c : UInt8} (h : c ∈ s) : ∃ i, i < s.length ∧ cN s i = c.toNat := by
 obtain ⟨i, hi, rfl⟩ := List.getElem_of_mem h
 exact ⟨i, hi, (cN_get hi).symm⟩
theorem cN_mem {s : Str} {i : Nat} (h : i < s.length) : ∃ c, c ∈ s ∧ c.toNat = cN s i := ⟨s[i], List.getElem_mem h, cN_get h⟩
theorem low_rest {s : Str} (n : Nat) (h : ∀ k, k < n → 128 ≤ cN s k) {m : Nat} (hm : m < 128) : (∃ i, i < s.length ∧ cN s i = m) ↔ ∃ i, i < (s.drop n).length ∧ cN (s.drop n) i = m := by
 constructor
 ·rintro ⟨i, hi, hc⟩
  have : n ≤ i := by
   apply Decidable.byContradiction
   intro hn
   have := h i (by omega)
   omega
  exact ⟨i - n, by rw [List.length_drop]; omega, by rw [cN_drop, show n + (i - n) = i by omega]; exact hc⟩
 ·rintro ⟨i, hi, hc⟩
  rw [List.length_drop] at hi
  exact ⟨n + i, by omega, by rw [← cN_drop]; exact hc⟩
def hasN (s : Str) (m : Nat) : Prop := ∃ i, i < s.length ∧ cN s i = m
theorem hasN_one {s : Str} (h : 0 < s.length) {m : Nat} : hasN s m ↔ cN s 0 = m ∨ hasN (s.drop 1) m := by
 constructor
 ·rintro ⟨i, hi, hc⟩
  cases i with
  | zero => exact .inl hc
  | succ i => exact .inr ⟨i, by rw [List.length_drop]; omega, by rw [cN_drop, Nat.add_comm]; exact hc⟩
 ·rintro (hc | ⟨i, hi, hc⟩)
  ·exact ⟨0, h, hc⟩
  ·rw [List.length_drop] at hi
   exact ⟨1 + i, by omega, by rw [← cN_drop]; exact hc⟩
theorem bad_enc {s : Str} (h : s = enc3 ++ s.drop 3) (h3 : 3 ≤ s.length) : (oneR s).2 = true := by
 have e : ∀ i, i < 3 → cN s i = cN enc3 i := fun i hi => by
  rw [h]
  unfold cN
  simp only [List.getD_eq_getElem?_getD]
  rw [List.getElem?_append_left (by simpa using hi)]
 have c0 := e 0 (by omega)
 have c1 := e 1 (by omega)
 have c2 := e 2 (by omega)
 rw [oneR_N, c0, c1, c2]
 have : oneN s.length (cN enc3 0) (cN enc3 1) (cN enc3 2) (cN s 3) = (3, true) := by
  have a0 : cN enc3 0 = 239 := by decide
  have a1 : cN enc3 1 = 191 := by decide
  have a2 : cN enc3 2 = 189 := by decide
  have m : moreN 239 = 2 := by decide
  have l : loN 239 = 128 := by decide
  have hh : hiN 239 = 191 := by decide
  unfold oneN
  rw [a0, a1, a2, m, l, hh, if_neg (by omega), if_neg (by omega), if_neg (by omega), if_neg (by omega), if_neg (by omega), if_pos rfl]
 rw [this]
theorem dec_fuel : ∀ (k m : Nat) (s : Str), s.length ≤ k → s.length ≤ m → decGo k s = decGo m s
 | 0, m, s, h, _ => by
  have : s = [] := List.eq_nil_of_length_eq_zero (by omega)
  subst this
  cases m <;> simp [decGo]
 | k + 1, 0, s, _, h => by
  have : s = [] := List.eq_nil_of_length_eq_zero (by omega)
  subst this
  simp [decGo]
 | k + 1, m + 1, s, h1, h2 => by
  unfold decGo
  by_cases hs : s = []
  ·simp [hs]
  ·rw [if_neg hs, if_neg hs]
   have hl : 0 < s.length := List.length_pos_iff.2 hs
   have hj : 1 ≤ (decStep s).2 := by
    have := (oneR_le hl).1
    unfold decStep
    (repeat' split) <;> simp only <;> omega
   rw [dec_fuel k m (s.drop (decStep s).2) (by rw [List.length_drop]; omega) (by rw [List.length_drop]; omega)]
theorem decR_step {s : Str} (hs : s ≠ []) : decR s = (decStep s).1 ++ decR (s.drop (decStep s).2) := by
 have hl : 0 < s.length := List.length_pos_iff.2 hs
 have hj : 1 ≤ (decStep s).2 := by
  have := (oneR_le hl).1
  unfold decStep
  (repeat' split) <;> simp only <;> omega
 unfold decR
 rw [dec_fuel s.length (s.length - 1 + 1) s (Nat.le_refl _) (by omega)]
 conv => lhs; unfold decGo
 rw [if_neg hs, dec_fuel (s.length - 1) (s.drop (decStep s).2).length _ (by rw [List.length_drop]; omega) (Nat.le_refl _)]
theorem valid_two : ∀ (k : Nat) (s : Str), s.length ≤ k → (decR s = s ↔ Lib.validD s = true ∧ ¬ hasN s 0 ∧ ¬ hasN s 13)
 | 0, s, h => by
  have : s = [] := List.eq_nil_of_length_eq_zero (by omega)
  subst this
  simp [decR, decGo, Lib.validD_nil, hasN]
 | k + 1, s, h => by
  by_cases hs : s = []
  ·subst hs; simp [decR, decGo, Lib.validD_nil, hasN]
  have hl : 0 < s.length := List.length_pos_iff.2 hs
  have hone := oneR_le hl
  rw [decR_step hs, Lib.validD_step s hs]
  rcases one_dec s hl with ⟨g1, g2⟩ | ⟨g1, g2, g3⟩
  ·rw [g2]
   simp only [and_self, if_true, Bool.false_eq_true, false_and, iff_false]
   intro he
   have hst : decStep s = (enc3, (oneR s).1) := by unfold decStep; rw [if_pos (.inl g1)]
   rw [hst] at he
   have hlen := congrArg List.length he
   simp only [List.length_append, List.length_cons, List.length_nil] at hlen
   have hd : s.drop 3 = decR (s.drop (oneR s).1) := by have := congrArg (List.drop 3) he; simpa using this.symm
   have : (oneR s).2 = true := bad_enc (by rw [hd]; exact he.symm) (by omega)
   rw [g1] at this; cases this
  ·rw [if_neg g3, g2]
   have hdl : (s.drop (oneR s).1).length ≤ k := by rw [List.length_drop]; omega
   have ih := valid_two k (s.drop (oneR s).1) hdl
   by_cases h0 : cN s 0 = 0
   ·have hst : decStep s = (enc3, (oneR s).1) := by unfold decStep; rw [if_pos (.inr h0)]
    rw [hst]
    constructor
    ·intro he
     have hc : cN s 0 = 239 := by rw [← he]; rfl
     omega
    ·exact fun ⟨_, hn, _⟩ => absurd ⟨0, hl, h0⟩ hn
   by_cases h13 : cN s 0 = 13
   ·constructor
    ·intro he
     have hst : (decStep s).1 = [10] := by unfold decStep; rw [if_neg (by simp [g1, h0]), if_pos h13]
     rw [hst] at he
     have hc : cN s 0 = 10 := by rw [← he]; rfl
     omega
    ·exact fun ⟨_, _, hn⟩ => absurd ⟨0, hl, h13⟩ hn
   have hst : decStep s = (s.take (oneR s).1, (oneR s).1) := by unfold decStep; rw [if_neg (by simp [g1, h0]), if_neg h13]
   rw [hst]
   have e1 : (s.take (oneR s).1 ++ decR (s.drop (oneR s).1) = s) ↔ decR (s.drop (oneR s).1) = s.drop (oneR s).1 := by
    constructor
    ·intro he
     have : s.take (oneR s).1 ++ decR (s.drop (oneR s).1) = s.take (oneR s).1 ++ s.drop (oneR s).1 := by rw [List.take_append_drop]; exact he
     exact List.append_cancel_left this
    ·intro he; rw [he, List.take_append_drop]
   simp only
   rw [e1, ih]
   rcases one_high g1 with ⟨q1, q2⟩ | ⟨q1, q2, q3, q4⟩
   ·rw [q2]
    have a0 := hasN_one hl (m := 0)
    have a1 := hasN_one hl (m := 13)
    rw [a0, a1]
    simp [h0, h13]
   ·have a0 : hasN s 0 ↔ hasN (s.drop (oneR s).1) 0 := low_rest _ q4 (by omega)
    have a1 : hasN s 13 ↔ hasN (s.drop (oneR s).1) 13 := low_rest _ q4 (by omega)
    rw [a0, a1]
end Go.Proofs.YtfncefamflainaaGreatDoor