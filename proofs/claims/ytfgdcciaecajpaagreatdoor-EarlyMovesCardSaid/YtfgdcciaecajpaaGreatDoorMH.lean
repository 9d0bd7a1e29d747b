/- A writer's memory; frames told in another way. No condition. -/
import Derived.Test.YtfgdcciaecajpaaGreatDoorMG
import Derived.Test.YtfgdcciaecajpaaGreatDoorMF
import Derived.Shelf.Strings.Search3
import Derived.Lib.IndexMore
import Derived.Test.YtfgdcciaecajpaaGreatDoorProg
import Derived.Lib.Builder
namespace Go.Proofs.YtfgdcciaecajpaaGreatDoor
set_option linter.unusedSimpArgs false
set_option linter.unusedVariables false
open Go Go.RowKit
set_option maxRecDepth 100000
theorem c73 {T : List (Entry Tryz.prog)} (L : List Int) (hl : L.length ≤ 1000) (clo : FuncId) (cap : List AV) (hc : pureL cap = true) (p : Int → Bool) (hp : ∀ a, a ∈ L → CallAt (ctx T) clo (.int .i64 a :: cap) ⟨0, []⟩ (.bool (p a)) ⟨0, []⟩) :
  CallAt (ctx T) 73 [aInts L, .func (.func clo) [] cap] ⟨0, []⟩ (.int .i64 (idxFrom p L 0)) ⟨0, []⟩ := by
 refine callAt_body (fn := Tryz.f73) (s0 := ⟨[0, 1, 4, 5, 7, 8], [aInts L, .func (.func clo) [] cap, .undef, .undef, .undef, .undef], [], 19, ⟨0, [[]]⟩⟩) Tryz.func73 rfl rfl rfl ?_
 repeat apply wq
 refine wps_region callOK ?_
 simp [zS]
 repeat apply wq
 refine wps_region callOK ?_
 simp [zS, lenI]
 repeat apply wq
 refine wps_block (wps_loop' (fun i : Nat => (⟨[0, 1, 4, 5, 7, 8], [aInts L, .func (.func clo) [] cap, .undef, .undef, .int .i64 L.length, .int .i64 i], [], 19, ⟨0, [[]]⟩⟩ : St))
  (fun i => i ≤ L.length ∧ idxFrom p L 0 = idxFrom p (L.drop i) i) (fun i => L.length - i) [] [] 0 ⟨Nat.zero_le _, rfl⟩ ⟨rfl, rfl, rfl, by simp [fitL, fitV, pureV, pureL, hc, aInts], FitH.nothing⟩ ?_)
 rintro i ⟨hi, hx⟩ B hB
 repeat apply wq
 refine wps_region callOK ?_
 simp [zS]
 repeat apply wq
 refine wps_cond rfl (fun h => ?_) fun h => ?_
 ·simp at h
  repeat apply wq
  refine wps_skip ?_
  simp
  repeat apply wq
  refine wps_block ?_
  repeat apply wq
  refine wps_region callOK ?_
  simp [zS]
  repeat apply wq
  refine wps_region (callF_ok callOK [⟨clo, [.int .i64 L[i]] ++ cap, ⟨0, [[]]⟩, .bool (p L[i]), ⟨0, [[]]⟩, (hp L[i] (List.getElem_mem _)).lift (by simp [pureL, pureV, hc]) _⟩]) ?_
  simp [zS, atI h, callF]
  repeat apply wq
  refine wps_cond rfl (fun h2 => ?_) fun h2 => ?_
  ·repeat apply wq
   refine wps_region callOK ?_
   simp [zS]
   repeat apply wq
   refine wps_ret ?_
   simp [retVal, Tryz.f73, oneOr]
   refine ⟨[], [], ?_, FitH.empty⟩
   rw [hx, idxFrom_at h, if_pos h2]
   exact fitV_pure rfl
  ·repeat apply wq
   refine wps_skip ?_
   simp
   repeat apply wq
   refine wps_region callOK ?_
   simp [zS, add_one (show i ≤ 1000000000 by omega)]
   refine hB _ (i + 1) (by omega) ⟨by omega, ?_⟩ ⟨[], [], ⟨rfl, rfl, rfl, by simp [fitL, fitV, pureV, pureL, hc, aInts], FitH.nothing⟩⟩
   rw [hx, idxFrom_at h, h2]
   simp
 ·simp at h
  repeat apply wq
  refine wps_exit ?_
  simp
  repeat apply wq
  refine wps_region callOK ?_
  simp [zS]
  repeat apply wq
  refine wps_ret ?_
  simp [retVal, Tryz.f73, oneOr]
  refine ⟨[], [], ?_, FitH.empty⟩
  rw [hx, List.drop_eq_nil_of_le (by omega)]
  exact fitV_pure rfl
theorem idx_cases {α : Type} {p : α → Bool} : ∀ (L : List α) (k : Nat), (idxFrom p L k = -1 ∧ ∀ a, a ∈ L → p a = false) ∨ ∃ i, ∃ h : i < L.length, idxFrom p L k = (k + i : Nat) ∧ p L[i] = true ∧ ∀ a, a ∈ L.take i → p a = false
 | [], k => .inl ⟨rfl, fun a ha => by cases ha⟩
 | x :: r, k => by
  by_cases hx : p x = true
  ·exact .inr ⟨0, by simp, by simp [idxFrom, hx], by simpa using hx, fun a ha => by simp at ha⟩
  ·simp only [Bool.not_eq_true] at hx
   rcases idx_cases r (k + 1) with ⟨h1, h2⟩ | ⟨i, h, h1, h2, h3⟩
   ·refine .inl ⟨by rw [idxFrom, if_neg (by simp [hx]), h1], fun a ha => ?_⟩
    rcases List.mem_cons.1 ha with rfl | ha
    ·exact hx
    ·exact h2 a ha
   ·refine .inr ⟨i + 1, by simpa using h, by simp [idxFrom, hx, h1]; omega, by simpa using h2, fun a ha => ?_⟩
    rw [List.take_succ_cons] at ha
    rcases List.mem_cons.1 ha with rfl | ha
    ·exact hx
    ·exact h3 a ha
def owX (b : Nat) (K : List Int) : AV := match K with
 | [] => .fslc 1 []
 | _ :: _ => .slc b 0 K.length (.rest 1)
def owB (b : Nat) (K : List Int) : List (Nat × Blk) := match K with
 | [] => []
 | _ :: _ => [(b, .cells (ints K))]
theorem owX_ne {b : Nat} {K : List Int} (h : K ≠ []) : owX b K = .slc b 0 K.length (.rest 1) := by cases K <;> first | exact absurd rfl h | rfl
theorem owB_ne {b : Nat} {K : List Int} (h : K ≠ []) : owB b K = [(b, .cells (ints K))] := by cases K <;> first | exact absurd rfl h | rfl
theorem thawI {H : Heap} {b : Nat} {r : List Nat} {cap : Cap} {L : List Int} (h : H.get b = some (.cells (ints L))) : thawA H (1 :: r) (.slc b 0 L.length cap) = some (aInts L) := by
 have := thawA_slc (r := r) (cap := cap) (el_int L) (by rw [flat_ints]; exact h)
 rw [show (ints L).length = L.length by simp [ints]] at this
 exact this
theorem ixO {b n i : Nat} {cap : Cap} (h : i < n) : indexAddrA Tryz.prog 32 (.slc b 0 n cap) (.int .i64 (i : Int)) = some (.ptr b i) := by simp [indexAddrA, idx_nat h]
theorem get_ints {L : List Int} {i : Nat} (h : i < L.length) : getL (ints L) i = some (.int .i64 L[i]) := by simp [ints, getL_map h, aInt]
theorem lay_ints {L : List Int} {i : Nat} {v : Int} (h : i < L.length) : layL [.int .i64 v] i (ints L) = some (ints (L.set i v)) := by
 have := lay_at (el_int L) (i := i) (e := .int .i64 v) (by rw [len_ints]; exact h) rfl
 simp only [Nat.mul_one, flat_ints, AV.cells] at this
 rw [this, show (ints L).set i (.int .i64 v) = ints (L.set i v) by simp [ints, aInt], flat_ints]
structure DelOk (L : List Int) (p : Int → Bool) (i j : Nat) (R : List Int) : Prop where
 ij : i < j
 jn : j ≤ L.length
 len : R.length = L.length
 fr : R.take i = (L.take j).filter fun a => !p a
 bk : R.drop j = L.drop j
theorem DelOk.at {L R : List Int} {p : Int → Bool} {i j : Nat} (h : DelOk L p i j R) (hj : j < L.length) : R[j]'(by rw [h.len]; exact hj) = L[j] := by
 have hR : j < R.length := by rw [h.len]; exact hj
 have := h.bk
 rw [List.drop_eq_getElem_cons hR, List.drop_eq_getElem_cons hj] at this
 exact (List.cons.inj this).1
theorem DelOk.keep {L R : List Int} {p : Int → Bool} {i j : Nat} (h : DelOk L p i j R) (hj : j < L.length) (hp : p L[j] = false) : DelOk L p (i + 1) (j + 1) (R.set i L[j]) := by
 have hR : j < R.length := by rw [h.len]; exact hj
 have hij := h.ij
 refine ⟨by omega, by omega, by simp [h.len], ?_, ?_⟩
 ·rw [List.take_succ_eq_append_getElem hj, List.filter_append, ← h.fr, List.take_succ_eq_append_getElem (by simp; omega)]
  simp [hp, List.take_set_of_le]
 ·rw [List.drop_set_of_lt (by omega)]
  have := h.bk
  rw [List.drop_eq_getElem_cons hR, List.drop_eq_getElem_cons hj] at this
  exact (List.cons.inj this).2
theorem DelOk.pass {L R : List Int} {p : Int → Bool} {i j : Nat} (h : DelOk L p i j R) (hj : j < L.length) (hp : p L[j] = true) : DelOk L p i (j + 1) R := by
 have hR : j < R.length := by rw [h.len]; exact hj
 have hij := h.ij
 refine ⟨by omega, by omega, h.len, ?_, ?_⟩
 ·rw [List.take_succ_eq_append_getElem hj, List.filter_append, ← h.fr]
  simp [hp]
 ·have := h.bk
  rw [List.drop_eq_getElem_cons hR, List.drop_eq_getElem_cons hj] at this
  exact (List.cons.inj this).2
theorem DelOk.start {L : List Int} {p : Int → Bool} {i : Nat} (hi : i < L.length) (hp : p L[i] = true) (hb : ∀ a, a ∈ L.take i → p a = false) : DelOk L p i (i + 1) L := by
 refine ⟨by omega, by omega, rfl, ?_, rfl⟩
 rw [List.take_succ_eq_append_getElem hi, List.filter_append]
 have : (L.take i).filter (fun a => !p a) = L.take i := List.filter_eq_self.2 fun a ha => by simp [hb a ha]
 simp [this, hp]
def zrs (n : Nat) : List Int := List.replicate n 0
theorem repl_zrs : ∀ (n : Nat), replL [.int .i64 0] n = ints (zrs n)
 | 0 => rfl
 | n + 1 => by simp only [replL, repl_zrs n, zrs, List.replicate_succ, ints, List.map_cons]; rfl
theorem clr_ints {m i n : Nat} {f : List (Nat × Blk)} {R : List Int} (hf : getF 0 f = none) (hs : setF 0 (.cells (ints (R.take i ++ zrs (n - i)))) f = none) (hR : R.length = n) (hi : i < n) :
  clearA Tryz.prog ⟨m, [f, [(0, .cells (ints R))]]⟩ 32 (.slc 0 i (n - i) (.rest 1)) = some ⟨m, [f, [(0, .cells (ints (R.take i ++ zrs (n - i))))]]⟩ := by
 have hl := lay_end (el_int R) (i := i) (l := ints (zrs (n - i))) (by rw [len_ints]; omega) (by rw [len_ints, len_ints, hR]; simp [zrs])
 rw [Nat.mul_one, flat_ints] at hl
 have e : flatAV ((ints R).take i) ++ ints (zrs (n - i)) = ints (R.take i ++ zrs (n - i)) := by
  rw [show (ints R).take i = ints (R.take i) by simp [ints], flat_ints]; simp [ints]
 rw [e] at hl
 have hsng : allSingle (ints (zrs (n - i))) = true := by
  have : ∀ (l : List Int), allSingle (ints l) = true := by
   intro l
   induction l with
   | nil => rfl
   | cons x r ih => simp only [ints, List.map_cons, allSingle, aInt, AV.single] at ih ⊢; exact ih
  exact this _
 have hz : zeroOf Tryz.prog 3 = some (.int .i64 0) := zeT3
 have hsz : sizeT Tryz.prog 3 = some 1 := szT3
 have hrf : (ints (zrs (n - i))).flatMap (refs 6) = [] := by
  have : ∀ (l : List Int), (ints l).flatMap (refs 6) = [] := by
   intro l
   induction l with
   | nil => rfl
   | cons x r ih => simp only [ints, List.map_cons, List.flatMap_cons, aInt, refs] at ih ⊢; exact ih
  exact this _
 simp only [clearA, Tryz.underlying32, Option.bind_some, hz, hsz]
 simp [AV.cells, allSingle, AV.single, repl_zrs, writeCells, Heap.get, getFs, hf, getF, Blk.wt, hl, Heap.ready, hrf, Heap.set, setFs, hs, setF, Blk.re]
theorem c560 {T : List (Entry Tryz.prog)} (clo : FuncId) (cap : List AV) (hc : pureL cap = true) :
  CallAt (ctx T) 56 [.fslc 1 [], .func (.func clo) [] cap] ⟨0, []⟩ (.fslc 1 []) ⟨0, []⟩ := by
 have hi := c73 (T := T) [] (by simp) clo cap hc (fun _ => false) (fun a ha => by cases ha)
 have hk := hi.lift (by simp [pureL, pureV, aInts, hc]) ⟨0, [[]]⟩
 simp only [aInts, List.map_nil, idxFrom] at hk
 refine callAt_body (fn := Tryz.f56) (s0 := ⟨[0, 1, 4, 5, 6, 7], [.fslc 1 [], .func (.func clo) [] cap, .undef, .undef, .undef, .undef], [], 42, ⟨0, [[]]⟩⟩) Tryz.func56 rfl rfl rfl ?_
 repeat apply wq
 refine wps_region callOK ?_
 simp [zS]
 repeat apply wq
 refine wps_region (callOKF [⟨73, _, _, _, _, hk⟩]) ?_
 simp [zS, callF]
 repeat apply wq
 refine wps_region callOK ?_
 simp [zS]
 repeat apply wq
 refine wps_ct rfl ?_
 repeat apply wq
 refine wps_region callOK ?_
 simp [zS]
 repeat apply wq
 refine wps_ret ?_
 simp [retVal, Tryz.f56, oneOr]
 exact ⟨[], [], by simp [fitV, pureV], FitH.empty⟩
theorem fitD {n m : Nat} {f : List (Nat × Blk)} {K : List Int} (hf : getF 0 f = none) (hn : n ≤ 1) : FitH n [(0, 0)] [] ⟨m, [f, [(0, .cells (ints K))]]⟩ ⟨1, [[], [(0, .cells (ints K))]]⟩ := by
 refine .same (by simp) (by simp) (by simp) hn (by simp [Heap.ents]) ?_
 intro e he
 simp [Heap.ents] at he
 subst he
 exact ⟨by simp, by simp [Heap.get, getFs, hf, getF], fitL_pure (pure_ints _)⟩
theorem c56 {T : List (Entry Tryz.prog)} (L : List Int) (hl : L.length ≤ 1000) (hne : L ≠ []) (clo : FuncId) (cap : List AV) (hc : pureL cap = true) (p : Int → Bool) (hp : ∀ a, a ∈ L → CallAt (ctx T) clo (.int .i64 a :: cap) ⟨0, []⟩ (.bool (p a)) ⟨0, []⟩) :
  CallAt (ctx T) 56 [.slc 0 0 L.length (.rest 1), .func (.func clo) [] cap] ⟨1, [[(0, .cells (ints L))]]⟩ (owX 0 (L.filter fun a => !p a)) ⟨1, [owB 0 (L.filter fun a => !p a)]⟩ := by
 have hk := CallAt.thaw (c73 (T := T) L hl clo cap hc p hp) rfl [[1], []] (H := ⟨1, [[], [(0, .cells (ints L))]]⟩) (args := [.slc 0 0 L.length (.rest 1), .func (.func clo) [] cap])
  (by simp [thawL, thawI (H := ⟨1, [[], [(0, .cells (ints L))]]⟩) (b := 0) (r := []) (cap := .rest 1) (L := L) rfl, thawA_ok, okV, pureV, pureL, hc])
 have ends : ∀ (m : Nat) (K : List Int), K ≠ [] → FitH 1 [(0, 0)] [] ⟨m, [[], [(0, .cells (ints K))]]⟩ ⟨1, [owB 0 K]⟩ := fun m K hK => by
  rw [owB_ne hK]
  refine .same (by simp) (by simp) (by simp) (by simp) (by simp [Heap.ents]) ?_
  intro e he
  simp [Heap.ents] at he
  subst he
  exact ⟨by simp, by simp [Heap.get, getFs, getF], fitL_pure (pure_ints _)⟩
 refine callAt_body (fn := Tryz.f56) (s0 := ⟨[0, 1, 4, 5, 6, 7], [.slc 0 0 L.length (.rest 1), .func (.func clo) [] cap, .undef, .undef, .undef, .undef], [], 42, ⟨1, [] :: [[(0, .cells (ints L))]]⟩⟩) Tryz.func56 rfl rfl rfl ?_
 repeat apply wq
 refine wps_region callOK ?_
 simp [zS]
 repeat apply wq
 refine wps_region (callOKF [⟨73, _, _, _, _, hk⟩]) ?_
 simp [zS, callF]
 rcases idx_cases (p := p) L 0 with ⟨h1, h2⟩ | ⟨i0, hi0, h1, h2, h3⟩
 ·have hK : (L.filter fun a => !p a) = L := List.filter_eq_self.2 fun a ha => by simp [h2 a ha]
  repeat apply wq
  refine wps_region callOK ?_
  simp [zS, h1]
  repeat apply wq
  refine wps_ct rfl ?_
  repeat apply wq
  refine wps_region callOK ?_
  simp [zS]
  repeat apply wq
  refine wps_ret ?_
  simp [retVal, Tryz.f56, oneOr]
  rw [hK]
  exact ⟨[(0, 0)], [], by rw [owX_ne hne]; simp [fitV, lookN], ends _ L hne⟩
 ·rw [Nat.zero_add] at h1
  have hno : ¬ ((i0 : Int) = -1) := by omega
  repeat apply wq
  refine wps_region callOK ?_
  simp [zS, h1, hno]
  repeat apply wq
  refine wps_cf rfl ?_
  repeat apply wq
  refine wps_skip ?_
  simp
  repeat apply wq
  refine wps_region callOK ?_
  simp [zS, add_one (show i0 ≤ 1000000000 by omega)]
  repeat apply wq
  refine wps_block (wps_loop' (fun x : Nat × Nat × List Int => (⟨[0, 1, 4, 5, 6, 7], [.slc 0 0 L.length (.rest 1), .func (.func clo) [] cap, .undef, .int .i64 x.1, .int .i64 x.2.1, .undef], [], 42, ⟨1, [[], [(0, .cells (ints x.2.2))]]⟩⟩ : St))
   (fun x => DelOk L p x.1 x.2.1 x.2.2) (fun x => L.length - x.2.1) [(0, 0)] [] (i0, i0 + 1, L) (.start hi0 h2 h3) ⟨rfl, rfl, rfl, by simp [fitL, fitV, lookN, pureV, pureL, hc], fitD rfl (by omega)⟩ ?_)
  rintro ⟨i, j, R⟩ hx B hB
  simp only at hx
  have hij := hx.ij
  have hjn := hx.jn
  have hRl := hx.len
  repeat apply wq
  refine wps_region callOK ?_
  simp [zS, lenA]
  repeat apply wq
  refine wps_cond rfl (fun h => ?_) fun h => ?_
  ·simp at h
   repeat apply wq
   refine wps_skip ?_
   simp
   repeat apply wq
   refine wps_block ?_
   have hR : j < R.length := by omega
   repeat apply wq
   refine wps_region callOK ?_
   simp [zS, ixO h, get_ints hR, hx.at h]
   have hcall := (hp L[j] (List.getElem_mem _)).lift (by simp [pureL, pureV, hc]) ⟨1, [[], [(0, .cells (ints R))]]⟩
   repeat apply wq
   refine wps_region (callOKF [⟨clo, _, _, _, _, hcall⟩]) ?_
   rcases Bool.eq_false_or_eq_true (p L[j]) with hv | hv
   case inr =>
    simp [zS, callF, hv]
    repeat apply wq
    refine wps_ct rfl ?_
    repeat apply wq
    refine wps_region callOK ?_
    simp [zS, ixO (show i < L.length by omega), lay_ints (L := R) (show i < R.length by omega), add_one (show i ≤ 1000000000 by omega)]
    repeat apply wq
    refine wps_region callOK ?_
    simp [zS, add_one (show i ≤ 1000000000 by omega)]
    repeat apply wq
    refine wps_region callOK ?_
    simp [zS, add_one (show j ≤ 1000000000 by omega)]
    exact hB _ (i + 1, j + 1, R.set i L[j]) (by simp; omega) (hx.keep h hv) ⟨[(0, 0)], [], rfl, rfl, rfl, by simp [fitL, fitV, lookN, pureV, pureL, hc], fitD rfl (by omega)⟩
   case inl =>
    simp [zS, callF, hv]
    repeat apply wq
    refine wps_cf rfl ?_
    repeat apply wq
    refine wps_skip ?_
    simp
    repeat apply wq
    refine wps_region callOK ?_
    simp [zS, add_one (show j ≤ 1000000000 by omega)]
    exact hB _ (i, j + 1, R) (by simp; omega) (hx.pass h hv) ⟨[(0, 0)], [], rfl, rfl, rfl, by simp [fitL, fitV, lookN, pureV, pureL, hc], fitD rfl (by omega)⟩
  ·simp at h
   have hje : j = L.length := by omega
   subst hje
   have hfr : R.take i = L.filter fun a => !p a := by have := hx.fr; rwa [List.take_length] at this
   repeat apply wq
   refine wps_exit ?_
   simp
   have hs1 := slice_from (P := Tryz.prog) (H := ⟨1, [[], [(0, .cells (ints R))]]⟩) (t := 32) (elem := 3) (sz := 1) (b := 0) (cs := ints R) (len := L.length) (i := i) Tryz.underlying32 szT3 (by omega) rfl (by rw [len_ints, hRl]; omega) (by omega)
   have hcl := clr_ints (m := 1) (i := i) (n := L.length) (f := []) (R := R) rfl rfl hRl (by omega)
   have hs2 := slice_to (P := Tryz.prog) (H := ⟨1, [[], [(0, .cells (ints (R.take i ++ zrs (L.length - i))))]]⟩) (t := 32) (elem := 3) (sz := 1) (b := 0) (cs := ints (R.take i ++ zrs (L.length - i))) (len := L.length) (i := i) Tryz.underlying32 szT3 (by omega) rfl (by rw [len_ints]; simp [zrs]; omega) (by omega) (by omega)
   repeat apply wq
   refine wps_region callOK ?_
   simp [zS, hs1, hcl, opndO]
   repeat apply wq
   refine wps_region callOK ?_
   simp [zS, hs2, opndO]
   rw [← hfr]
   have hKl : (R.take i).length = i := by simp; omega
   generalize R.take i = K at *
   cases K with
   | nil =>
    repeat apply wq
    refine wps_ret ?_
    simp [retVal, Tryz.f56, oneOr]
    refine ⟨[], [], ?_, ?_⟩
    ·simp only [List.length_nil] at hKl
     subst hKl
     simp [owX, fitV]
    ·exact FitH.same (by simp) (by simp) (by simp) (by simp) (by simp [owB, Heap.ents]) (fun e he => by simp [owB, Heap.ents] at he)
   | cons k K =>
    refine .shr (H' := ⟨1, [[], [(0, .cells (ints (k :: K)))]]⟩) ⟨rfl, ⟨rfl, .inr ⟨ints (k :: K), ints (zrs (L.length - i)), by simp [ints], rfl⟩, trivial⟩⟩ ?_
    repeat apply wq
    refine wps_ret ?_
    simp [retVal, Tryz.f56, oneOr]
    refine ⟨[(0, 0)], [], ?_, ends _ (k :: K) (by simp)⟩
    rw [owX_ne (by simp), hKl]
    simp [fitV, lookN]
section
variable {ρ ρ' : Place} {H H' : Heap} {w w' : World} {b : Nat} {k k' : Blk}
end
theorem fitL_app {σ : List (Nat × Nat)} {Φ : List (Nat × List AV)} : ∀ {a a' b b' : List AV}, fitL σ Φ a a' → fitL σ Φ b b' → fitL σ Φ (a ++ b) (a' ++ b')
 | [], [], _, _, _, h => h
 | x :: a, y :: a', b, b', h, k => by
  simp only [List.cons_append, fitL] at h ⊢
  exact ⟨h.1, fitL_app h.2 k⟩
 | [], _ :: _, _, _, h, _ => by simp [fitL] at h
 | _ :: _, [], _, _, h, _ => by simp [fitL] at h
section
variable {C : Ctx} {f : FuncId} {args : List AV} {v : AV} {H : Heap} {bt nb n n' : Nat} {cap cap' : Cap} {pre post cs cs' : List AV}
end
def isB (t : Tr) (i : Int) : Bool := decide (0 ≤ i) && decide (i < (t.length : Int))
theorem c23 {T : List (Entry Tryz.prog)} (t : Tr) (i : Int) : CallAt (ctx T) 23 [aTree t, .int .i64 i] ⟨0, []⟩ (.bool (isB t i)) ⟨0, []⟩ := by
 refine callAt_body (fn := Tryz.f23) (s0 := ⟨[0, 1, 2, 4], [aTree t, .int .i64 i, .undef, .undef], [], 14, ⟨0, [[]]⟩⟩) Tryz.func23 rfl rfl rfl ?_
 repeat apply wq
 refine wps_region callOK ?_
 simp [zS, aTree]
 by_cases h : 0 ≤ i
 ·repeat apply wq
  refine wps_region callOK ?_
  simp [zS, lenN, h]
  repeat apply wq
  refine wps_ret ?_
  simp [retVal, Tryz.f23, oneOr, thenQ, blockQ]
  exact ends_pure rfl (by simp [isB, h])
 ·repeat apply wq
  refine wps_region callOK ?_
  simp [zS, lenN, h]
  repeat apply wq
  refine wps_ret ?_
  simp [retVal, Tryz.f23, oneOr, thenQ, blockQ]
  exact ends_pure rfl (by simp [isB, h])
def holdsF (t : Tr) (up : Int) : Nat → Int → Bool
 | 0, _ => false
 | n + 1, kid => if isB t kid = true then (if kid = up then true else holdsF t up n (nodeAt t kid).up) else false
def holdsB (t : Tr) (up kid : Int) : Bool := isB t up && holdsF t up (t.length + 1) kid
theorem th_tree (H : Heap) (t : Tr) : thawA H [7] (aTree t) = some (aTree t) := thawA_ok (by simp)
noncomputable def e23 : Entry Tryz.prog := mkE 23 [[7], []] (fun x : Tr × Int => [aTree x.1, .int .i64 x.2]) (fun _ => True) (fun x => .bool (isB x.1 x.2)) fun x _ => c23 (T := []) x.1 x.2
theorem k23 {T : List (Entry Tryz.prog)} (hT : findE 23 T = some e23.g) (t : Tr) (i : Int) (H : Heap) : callL (ctx T) (.fn 23) [aTree t, .int .i64 i] H = some (.bool (isB t i), H) :=
 mkE_scalar hT injTI (t, i) trivial rfl (by simp [th_tree])
theorem c24 {T : List (Entry Tryz.prog)} (hS : findE 23 T = some e23.g) (t : Tr) (ht : t.length ≤ 1000000) (up kid : Int) : CallAt (ctx T) 24 [aTree t, .int .i64 up, .int .i64 kid] ⟨0, []⟩ (.bool (holdsB t up kid)) ⟨0, []⟩ := by
 have ks := fun i H => k23 hS t i H
 simp only [aTree] at ks
 refine callAt_body (fn := Tryz.f24) (s0 := ⟨[0, 1, 2, 3, 6, 14, 15], [aTree t, .int .i64 up, .int .i64 kid, .undef, .undef, .undef, .undef], [], 31, ⟨0, [[]]⟩⟩) Tryz.func24 rfl rfl rfl ?_
 repeat apply wq
 refine wps_region callOK ?_
 simp [zS, aTree]
 repeat apply wq
 refine wps_region callOK ?_
 simp [zS, aTree, ks]
 cases h0 : isB t up with
 | false =>
  repeat apply wq
  refine wps_ct rfl ?_
  repeat apply wq
  refine wps_region callOK ?_
  simp [zS]
  repeat apply wq
  refine wps_ret ?_
  simp [retVal, Tryz.f24, oneOr, thenQ, blockQ]
  exact ends_pure rfl (by simp [holdsB, h0])
 | true =>
  repeat apply wq
  refine wps_cf rfl ?_
  repeat apply wq
  refine wps_skip ?_
  simp
  repeat apply wq
  refine wps_region callOK ?_
  simp [zS, lenN, aTree, add_one (show t.length ≤ 1000000000 by omega)]
  repeat apply wq
  refine wps_block (wps_loop' (fun x : Nat × Int => (⟨[0, 1, 2, 3, 6, 14, 15], [.undef, .int .i64 up, .int .i64 x.2, .ptr 0 0, .undef, .int .i64 ((t.length : Int) + 1), .int .i64 (x.1 : Int)], [], 31, ⟨1, [[(0, .cells [aNodes t])]]⟩⟩ : St))
   (fun x => x.1 ≤ t.length + 1 ∧ holdsF t up (t.length + 1) kid = holdsF t up (t.length + 1 - x.1) x.2) (fun x => t.length + 1 - x.1) [(0, 0)] [] (0, kid) ⟨by omega, rfl⟩ ⟨rfl, rfl, rfl, by simp [fitL, fitV, lookN, pureV], .id1 (g := [(0, .cells [aNodes t])]) (by simp) (by simp) (by simp [Heap.get, getFs, getF, pureL])⟩ ?_)
  rintro ⟨i, k⟩ ⟨hi, hx⟩ B hB
  simp only at hi hx
  by_cases h : i < t.length + 1
  ·have hc : (i : Int) < (t.length : Int) + 1 := by omega
   have hs : t.length + 1 - i = (t.length - i) + 1 := by omega
   rw [hs] at hx
   repeat apply wq
   refine wps_region callOK ?_
   simp [zS, hc]
   repeat apply wq
   refine wps_ct rfl ?_
   repeat apply wq
   refine wps_skip ?_
   simp
   repeat apply wq
   refine wps_block ?_
   repeat apply wq
   refine wps_region callOK ?_
   simp [zS, ks]
   cases h1 : isB t k with
   | false =>
    repeat apply wq
    refine wps_ct rfl ?_
    repeat apply wq
    refine wps_region callOK ?_
    simp [zS]
    repeat apply wq
    refine wps_ret ?_
    simp [retVal, Tryz.f24, oneOr, thenQ, blockQ]
    exact ends_pure rfl (by unfold holdsB; rw [h0, hx]; simp [h0, holdsF, h1])
   | true =>
    repeat apply wq
    refine wps_cf rfl ?_
    repeat apply wq
    refine wps_skip ?_
    simp
    by_cases h2 : k = up
    ·repeat apply wq
     refine wps_region callOK ?_
     simp [zS, h2]
     repeat apply wq
     refine wps_ct rfl ?_
     repeat apply wq
     refine wps_region callOK ?_
     simp [zS]
     repeat apply wq
     refine wps_ret ?_
     simp [retVal, Tryz.f24, oneOr, thenQ, blockQ]
     exact ends_pure rfl (by unfold holdsB; rw [h0, hx]; simp [h0, holdsF, h1, h2])
    ·have hk : 0 ≤ k ∧ k < (t.length : Int) := by simpa [isB] using h1
     repeat apply wq
     refine wps_region callOK ?_
     simp [zS, h2]
     repeat apply wq
     refine wps_cf rfl ?_
     repeat apply wq
     refine wps_skip ?_
     simp
     repeat apply wq
     refine wps_region callOK ?_
     simp [zS, atX hk.1 hk.2, Nd.cs, aInt]
     repeat apply wq
     refine wps_region callOK ?_
     simp [zS, add_one (show i ≤ 1000000000 by omega)]
     refine hB _ (i + 1, (nodeAt t k).up) (by simp only; omega) ⟨by simp only; omega, ?_⟩ ⟨[(0, 0)], [], rfl, rfl, rfl, by simp [fitL, fitV, lookN, pureV], .id1 (g := [(0, .cells [aNodes t])]) (by simp) (by simp) (by simp [Heap.get, getFs, getF, pureL])⟩
     simp only
     rw [show t.length + 1 - (i + 1) = t.length - i by omega, hx]
     simp [h0, holdsF, h1, h2]
  ·have hc : ¬ (i : Int) < (t.length : Int) + 1 := by omega
   rw [show t.length + 1 - i = 0 by omega] at hx
   repeat apply wq
   refine wps_region callOK ?_
   simp [zS, hc]
   repeat apply wq
   refine wps_cf rfl ?_
   repeat apply wq
   refine wps_exit ?_
   simp
   repeat apply wq
   refine wps_region callOK ?_
   simp [zS]
   repeat apply wq
   refine wps_ret ?_
   simp [retVal, Tryz.f24, oneOr, thenQ, blockQ]
   exact ends_pure rfl (by unfold holdsB; rw [h0, hx]; simp [h0, holdsF])
theorem injTII (x y : Tr × Int × Int) (h : [aTree x.1, .int .i64 x.2.1, .int .i64 x.2.2] = [aTree y.1, .int .i64 y.2.1, .int .i64 y.2.2]) : x = y := by
 simp at h; exact Prod.ext (inj_aTree h.1) (Prod.ext h.2.1 h.2.2)
theorem q23 {T : List (Entry Tryz.prog)} (hT : findE 23 T = some e23.g) {a : AV} {H : Heap} {t : Tr} (ha : thawA H [7] a = some (aTree t)) (i : Int) : callL (ctx T) (.fn 23) [a, .int .i64 i] H = some (.bool (isB t i), H) :=
 mkE_scalar hT injTI (t, i) trivial rfl (by simp [ha])
structure WordAt (s x : Str) (p : Nat) : Prop where
 room : p + x.length ≤ s.length
 occ : (s.drop p).take x.length = x
 pre : ∀ c, 0 < p → s[p - 1]? = some c → sp c = true
 post : ∀ c, s[p + x.length]? = some c → sp c = true
structure WInv (s : Str) (i : Nat) (st : List Str × Str) : Prop where
 le : i ≤ s.length
 words : ∀ w, w ∈ st.1 → ∃ p, WordAt s w p
 len : st.2.length ≤ i
 cur : (s.take i).drop (i - st.2.length) = st.2
 pre : ∀ c, 0 < i - st.2.length → s[i - st.2.length - 1]? = some c → sp c = true
theorem winv {s : Str} : ∀ (i : Nat), i ≤ s.length → WInv s i (wst (s.take i))
 | 0, _ => by
  have e : wst (s.take 0) = ([], []) := by simp [wst]
  rw [e]
  exact ⟨Nat.zero_le _, fun w h => (by cases h), Nat.le_refl _, rfl, fun c h => absurd h (Nat.lt_irrefl 0)⟩
 | i + 1, hi => by
  have ih := winv (s := s) i (by omega)
  have hlt : i < s.length := by omega
  rw [wst_at hlt]
  generalize wst (s.take i) = st at ih
  obtain ⟨W, c⟩ := st
  have ihl := ih.len
  have ihc := ih.cur
  have ihp := ih.pre
  simp only at ihl ihc ihp
  unfold wstep
  by_cases hs : sp s[i] = true
  ·rw [if_pos hs]
   refine ⟨hi, ?_, Nat.zero_le _, ?_, ?_⟩
   ·intro w hw
    simp only at hw
    by_cases hc : c = []
    ·rw [if_pos hc] at hw
     exact ih.words w hw
    ·rw [if_neg hc] at hw
     rcases List.mem_append.1 hw with hw | hw
     ·exact ih.words w hw
     ·rw [List.mem_singleton] at hw
      subst hw
      refine ⟨i - w.length, by omega, ?_, fun d h1 h2 => ihp d h1 h2, fun d h => ?_⟩
      ·rw [List.drop_take, show i - (i - w.length) = w.length by omega] at ihc
       exact ihc
      ·rw [show i - w.length + w.length = i by omega, List.getElem?_eq_getElem hlt, Option.some.injEq] at h
       rw [← h]; exact hs
   ·simp
   ·intro d _ h
    simp only [List.length_nil, Nat.sub_zero, Nat.add_sub_cancel] at h
    rw [List.getElem?_eq_getElem hlt, Option.some.injEq] at h
    rw [← h]; exact hs
  ·rw [if_neg hs]
   refine ⟨hi, ih.words, by simp; omega, ?_, ?_⟩
   ·simp only [List.length_append, List.length_singleton]
    rw [show i + 1 - (c.length + 1) = i - c.length by omega, List.take_succ_eq_append_getElem hlt, List.drop_append_of_le_length (by simp; omega), ihc]
   ·simp only [List.length_append, List.length_singleton]
    rw [show i + 1 - (c.length + 1) = i - c.length by omega]
    exact ihp
theorem word_at {s x : Str} (h : x ∈ wsplit s) : ∃ p, WordAt s x p := by
 have inv := winv (s := s) s.length (Nat.le_refl _)
 rw [List.take_of_length_le (Nat.le_refl _)] at inv
 unfold wsplit wfin at h
 generalize wst s = st at *
 obtain ⟨W, c⟩ := st
 have il := inv.len
 have ic := inv.cur
 have ip := inv.pre
 simp only at il ic ip h
 by_cases hc : c = []
 ·rw [if_pos hc] at h
  exact inv.words x h
 ·rw [if_neg hc] at h
  rcases List.mem_append.1 h with h | h
  ·exact inv.words x h
  ·rw [List.mem_singleton] at h
   subst h
   refine ⟨s.length - x.length, by omega, ?_, ip, fun d h => ?_⟩
   ·rw [List.take_of_length_le (Nat.le_refl _)] at ic
    rw [ic, List.take_of_length_le (Nat.le_refl _)]
   ·rw [show s.length - x.length + x.length = s.length by omega, List.getElem?_eq_none (Nat.le_refl _)] at h
    cases h
theorem word_ne {s x : Str} (h : x ∈ wsplit s) : x ≠ [] := by
 have key : ∀ (l : Str) (st : List Str × Str), (∀ w, w ∈ st.1 → w ≠ []) → ∀ w, w ∈ (l.foldl wstep st).1 → w ≠ [] := by
  intro l
  induction l with
  | nil => intro st h; exact h
  | cons c r ih =>
   intro st h
   rw [List.foldl_cons]
   refine ih _ ?_
   intro w hw
   unfold wstep at hw
   split at hw
   ·simp only at hw
    split at hw
    ·exact h w hw
    ·rename_i hn
     rcases List.mem_append.1 hw with hw | hw
     ·exact h w hw
     ·rw [List.mem_singleton] at hw; rw [hw]; exact hn
   ·exact h w hw
 unfold wsplit wfin at h
 split at h
 ·exact key s ([], []) (fun w h => by cases h) x h
 ·rename_i hn
  rcases List.mem_append.1 h with h | h
  ·exact key s ([], []) (fun w h => by cases h) x h
  ·rw [List.mem_singleton] at h; rw [h]; exact hn
def lays143_ren : Go.Shelf.Ren := ⟨fun | 143 => 67 | 219 => 96 | 217 => 122 | 225 => 123 | 224 => 124 | 267 => 125 | 266 => 141 | 314 => 142 | n => n, fun | 9 => 9 | 3 => 3 | 4 => 4 | 5 => 5 | 46 => 131 | 146 => 149 | 51 => 148 | n => n, fun | 1 => 0 | n => n⟩
theorem lays143 : Go.Proofs.Lays.n143 Tryz.prog lays143_ren where
 mixed := by kernel_rfl
 f143 := Tryz.func67.trans (congrArg some (by kernel_rfl))
 f217 := Tryz.func122.trans (congrArg some (by kernel_rfl))
 f219 := Tryz.func96.trans (congrArg some (by kernel_rfl))
 f224 := Tryz.func124.trans (congrArg some (by kernel_rfl))
 f225 := Tryz.func123.trans (congrArg some (by kernel_rfl))
 f266 := Tryz.func141.trans (congrArg some (by kernel_rfl))
 f267 := Tryz.func125.trans (congrArg some (by kernel_rfl))
 f314 := Tryz.func142.trans (congrArg some (by kernel_rfl))
 t3 := Tryz.underlying3
 a3 := Tryz.isAgg3
 z3 := Tryz.sizeOf3
 v3 := Tryz.zeroValue3
 t4 := Tryz.underlying4
 a4 := Tryz.isAgg4
 z4 := Tryz.sizeOf4
 v4 := Tryz.zeroValue4
 t5 := Tryz.underlying5
 a5 := Tryz.isAgg5
 z5 := Tryz.sizeOf5
 v5 := Tryz.zeroValue5
 t9 := Tryz.underlying9
 a9 := Tryz.isAgg9
 z9 := Tryz.sizeOf9
 v9 := Tryz.zeroValue9
 t46 := Tryz.underlying131
 a46 := Tryz.isAgg131
 z46 := Tryz.sizeOf131
 v46 := Tryz.zeroValue131
 t51 := Tryz.underlying148
 a51 := Tryz.isAgg148
 z51 := Tryz.sizeOf148
 v51 := Tryz.zeroValue148
 t146 := Tryz.underlying149
 a146 := Tryz.isAgg149
 z146 := Tryz.sizeOf149
 v146 := Tryz.zeroValue149
 g1 := by kernel_rfl
theorem index_at (s sub : ByteArray) (m : Int) (w : World) (hs : s.size < 4294967281) (hm : w.cell? ⟨0, 0, none⟩ = some (.int .i64 m)) :
  Calls Tryz.prog 67 #[.string s, .string sub] w fun e w' => e = .returned (.int .i64 (Lib.index s.data.toList sub.data.toList)) ∧ w' = w := Any.strings_Index lays143 s sub m w hs hm
theorem c67 {T : List (Entry Tryz.prog)} (s t : Str) (hl : s.length ≤ 1000000) : CallAt (ctx T) 67 [.str s, .str t] ⟨0, []⟩ (.int .i64 (Lib.index s t)) ⟨0, []⟩ := by
 intro ρ w xs sm hx
 match xs, hx with
 | [x, y], hx =>
  have h0 := hx.2 0 (by simp) (by simp)
  have h1 := hx.2 1 (by simp) (by simp)
  simp only [List.getElem_cons_zero, List.getElem_cons_succ] at h0 h1
  cases h0; cases h1
  obtain ⟨hB, m, hm⟩ := ρ.gl 0 (by simp [globs])
  have hc : w.cell? ⟨0, 0, none⟩ = some (.int .i64 m) := by rw [World.cell?, sm.below 0 hB]; exact hm
  have hrun : (callFunc 67 #[.string ⟨s.toArray⟩, .string ⟨t.toArray⟩]).run (ctx T).P w = .ok (.enter 67 #[.string ⟨s.toArray⟩, .string ⟨t.toArray⟩]) w := by
   have hf : (ctx T).P.funcs[67]? = some Tryz.f67 := Tryz.func67
   have hn : ¬ Tryz.f67.name = "runtime.NumGoroutine" := by decide +kernel
   simp [callFunc, hf, hn, Tryz.f67]
  refine .inr ⟨67, _, hrun, callsIn_wide.2 ((index_at ⟨s.toArray⟩ ⟨t.toArray⟩ m w ?_ hc).mono ?_)⟩
  ·show s.toArray.size < _
   simp; omega
  ·rintro e w' ⟨rfl, rfl⟩
   exact ⟨_, ρ, rfl, .int _ _, sm, Step.refl _ _ _⟩
noncomputable def e67 : Entry Tryz.prog := mkE 67 [[], []] (fun x : Str × Str => [.str x.1, .str x.2]) (fun x => x.1.length ≤ 1000000) (fun x => .int .i64 (Lib.index x.1 x.2)) fun x h => c67 (T := []) x.1 x.2 h
theorem k67 {T : List (Entry Tryz.prog)} (hT : findE 67 T = some e67.g) {s t : Str} (h1 : s.length ≤ 1000000) (H : Heap) : callL (ctx T) (.fn 67) [.str s, .str t] H = some (.int .i64 (Lib.index s t), H) :=
 mkE_scalar hT inj_str2 (s, t) h1 rfl (by simp)
theorem c68 {T : List (Entry Tryz.prog)} (c : UInt8) : CallAt (ctx T) 68 [.int .u8 c.toNat] ⟨0, []⟩ (.bool (sp c)) ⟨0, []⟩ := by
 refine callAt_body (fn := Tryz.f68) (s0 := ⟨[0, 2, 3, 4], [.int .u8 c.toNat, .undef, .undef, .undef], [], 10, ⟨0, [[]]⟩⟩) Tryz.func68 rfl rfl rfl ?_
 repeat apply wq
 refine wps_region callOK ?_
 simp [zS]
 repeat apply wq
 refine wps_region callOK ?_
 simp [zS]
 repeat apply wq
 refine wps_block ?_
 by_cases h1 : (c.toNat : Int) = 9
 ·(repeat (first
   | (refine wps_seq ?_)
   | (refine wps_block ?_)
   | (refine wps_label ?_; simp only [thenQ, blockQ])
   | ((refine wps_region callOK ?_); simp [zS, h1])
   | (refine wps_ct rfl ?_)
   | (refine wps_cf rfl ?_)
   | ((refine wps_skip ?_); simp only [thenQ, blockQ])
   | ((refine wps_exit ?_); simp [thenQ, blockQ])))
  repeat apply wq
  refine wps_ret ?_
  simp [retVal, Tryz.f68, oneOr, thenQ, blockQ]
  exact ends_pure rfl (by simp [sp, h1])
 by_cases h2 : (c.toNat : Int) = 10
 ·(repeat (first
   | (refine wps_seq ?_)
   | (refine wps_block ?_)
   | (refine wps_label ?_; simp only [thenQ, blockQ])
   | ((refine wps_region callOK ?_); simp [zS, h1, h2])
   | (refine wps_ct rfl ?_)
   | (refine wps_cf rfl ?_)
   | ((refine wps_skip ?_); simp only [thenQ, blockQ])
   | ((refine wps_exit ?_); simp [thenQ, blockQ])))
  repeat apply wq
  refine wps_ret ?_
  simp [retVal, Tryz.f68, oneOr, thenQ, blockQ]
  exact ends_pure rfl (by simp [sp, h2])
 by_cases h3 : (c.toNat : Int) = 12
 ·(repeat (first
   | (refine wps_seq ?_)
   | (refine wps_block ?_)
   | (refine wps_label ?_; simp only [thenQ, blockQ])
   | ((refine wps_region callOK ?_); simp [zS, h1, h2, h3])
   | (refine wps_ct rfl ?_)
   | (refine wps_cf rfl ?_)
   | ((refine wps_skip ?_); simp only [thenQ, blockQ])
   | ((refine wps_exit ?_); simp [thenQ, blockQ])))
  repeat apply wq
  refine wps_ret ?_
  simp [retVal, Tryz.f68, oneOr, thenQ, blockQ]
  exact ends_pure rfl (by simp [sp, h3])
 by_cases h4 : (c.toNat : Int) = 13
 ·(repeat (first
   | (refine wps_seq ?_)
   | (refine wps_block ?_)
   | (refine wps_label ?_; simp only [thenQ, blockQ])
   | ((refine wps_region callOK ?_); simp [zS, h1, h2, h3, h4])
   | (refine wps_ct rfl ?_)
   | (refine wps_cf rfl ?_)
   | ((refine wps_skip ?_); simp only [thenQ, blockQ])
   | ((refine wps_exit ?_); simp [thenQ, blockQ])))
  repeat apply wq
  refine wps_ret ?_
  simp [retVal, Tryz.f68, oneOr, thenQ, blockQ]
  exact ends_pure rfl (by simp [sp, h4])
 by_cases h5 : (c.toNat : Int) = 32
 ·(repeat (first
   | (refine wps_seq ?_)
   | (refine wps_block ?_)
   | (refine wps_label ?_; simp only [thenQ, blockQ])
   | ((refine wps_region callOK ?_); simp [zS, h1, h2, h3, h4, h5])
   | (refine wps_ct rfl ?_)
   | (refine wps_cf rfl ?_)
   | ((refine wps_skip ?_); simp only [thenQ, blockQ])
   | ((refine wps_exit ?_); simp [thenQ, blockQ])))
  repeat apply wq
  refine wps_ret ?_
  simp [retVal, Tryz.f68, oneOr, thenQ, blockQ]
  exact ends_pure rfl (by simp [sp, h5])
 ·(repeat (first
   | (refine wps_seq ?_)
   | (refine wps_block ?_)
   | (refine wps_label ?_; simp only [thenQ, blockQ])
   | ((refine wps_region callOK ?_); simp [zS, h1, h2, h3, h4, h5])
   | (refine wps_ct rfl ?_)
   | (refine wps_cf rfl ?_)
   | ((refine wps_skip ?_); simp only [thenQ, blockQ])
   | ((refine wps_exit ?_); simp [thenQ, blockQ])))
  repeat apply wq
  refine wps_ret ?_
  simp [retVal, Tryz.f68, oneOr, thenQ, blockQ]
  exact ends_pure rfl (by simp [sp, h1, h2, h3, h4, h5])
noncomputable def e68 : Entry Tryz.prog := mkE 68 [[]] (fun x : UInt8 => [.int .u8 x.toNat]) (fun _ => True) (fun x => .bool (sp x)) fun x _ => c68 (T := []) x
theorem k68 {T : List (Entry Tryz.prog)} (hT : findE 68 T = some e68.g) (c : UInt8) (H : Heap) : callL (ctx T) (.fn 68) [.int .u8 c.toNat] H = some (.bool (sp c), H) :=
 mkE_scalar hT inj_u8 c trivial rfl (by simp)
theorem occ_iff {s x : Str} {i : Nat} : Lib.occAt s x i = true ↔ (s.drop i).take x.length = x := by
 unfold Lib.occAt
 rw [List.isPrefixOf_iff_prefix, List.prefix_iff_eq_take]
 exact eq_comm
theorem c49 {T : List (Entry Tryz.prog)} (hI : findE 67 T = some e67.g) (hS : findE 68 T = some e68.g) (W x : Str) (hl : W.length ≤ 100000) (hx1 : x.length ≤ 1000000000)
  (hsp : CallAt (ctx T) 70 [.str W] ⟨0, []⟩ (aStrs (wsplit W)) ⟨0, []⟩) (hco : CallAt (ctx T) 69 [aStrs (wsplit W), .str x] ⟨0, []⟩ (.bool (decide (x ∈ wsplit W))) ⟨0, []⟩) :
  CallAt (ctx T) 49 [.str W, .str x] ⟨0, []⟩ (.bool (inW W x)) ⟨0, []⟩ := by
 have h1 := hsp.lift (by simp [pureL, pureV]) ⟨0, [[]]⟩
 have h2 := hco.lift (by simp [aStrs, pureL, pureV]) ⟨0, [[]]⟩
 refine callAt_body (fn := Tryz.f49) (s0 := ⟨[0, 1, 4, 5, 6, 7, 8], [.str W, .str x, .undef, .undef, .undef, .undef, .undef], [], 52, ⟨0, [[]]⟩⟩) Tryz.func49 rfl rfl rfl ?_
 repeat apply wq
 refine wps_region callOK ?_
 simp [zS]
 by_cases hx : x = []
 ·repeat apply wq
  refine wps_region callOK ?_
  simp [zS, hx]
  repeat apply wq
  refine wps_ct rfl ?_
  repeat apply wq
  refine wps_region callOK ?_
  simp [zS]
  repeat apply wq
  refine wps_ret ?_
  simp [retVal, Tryz.f49, oneOr, thenQ, blockQ]
  exact ends_pure rfl (by simp only [inW]; symm; simp; intro h; exact word_ne h rfl)
 repeat apply wq
 refine wps_region callOK ?_
 simp [zS, hx]
 repeat apply wq
 refine wps_cf rfl ?_
 repeat apply wq
 refine wps_skip ?_
 simp
 have hx0 : 0 < x.length := List.length_pos_iff.2 hx
 repeat apply wq
 refine wps_region callOK ?_
 simp [zS]
 repeat apply wq
 refine wps_block (wps_loop' (fun i : Nat => (⟨[0, 1, 4, 5, 6, 7, 8], [.str W, .str x, .undef, .int .i64 i, .undef, .undef, .undef], [], 52, ⟨0, [[]]⟩⟩ : St))
  (fun i => i ≤ W.length ∧ (x ∈ wsplit W → ∃ p, i ≤ p ∧ WordAt W x p)) (fun i => W.length + 1 - i) [] [] 0 ⟨Nat.zero_le _, fun h => let ⟨p, hp⟩ := word_at h; ⟨p, Nat.zero_le _, hp⟩⟩ ⟨rfl, rfl, rfl, by simp [fitL, fitV, pureV, pureL], FitH.nothing⟩ ?_)
 rintro i ⟨hi, hw⟩ B hB
 have hd : (W.drop i).length ≤ 1000000 := by simp; omega
 repeat apply wq
 refine wps_block ?_
 rcases Lib.index_spec (W.drop i) x with ⟨h0, hn⟩ | ⟨k, h0, hk, ho, hno⟩
 ·have hnot : ¬ x ∈ wsplit W := fun h => by
   obtain ⟨p, hp, hwa⟩ := hw h
   have hr := hwa.room
   have := hn (p - i) (by simp; omega)
   have h3 : Lib.occAt (W.drop i) x (p - i) = true := occ_iff.2 (by rw [List.drop_drop, show i + (p - i) = p by omega]; exact hwa.occ)
   rw [h3] at this
   cases this
  repeat apply wq
  refine wps_region callOK ?_
  simp [zS, slStr hi, k67 hI hd, h0]
  repeat apply wq
  refine wps_region callOK ?_
  simp [zS]
  repeat apply wq
  refine wps_ct rfl ?_
  repeat apply wq
  refine wps_region callOK ?_
  simp [zS]
  repeat apply wq
  refine wps_ret ?_
  simp [retVal, Tryz.f49, oneOr, thenQ, blockQ]
  exact ends_pure rfl (by simp [inW, hnot])
 ·have hk0 : ¬ (k : Int) < 0 := by omega
  obtain ⟨j, hj⟩ : ∃ j, j = i + k := ⟨_, rfl⟩
  have ho' := occ_iff.1 ho
  rw [List.drop_drop, ← hj] at ho'
  have hroom : j + x.length ≤ W.length := by
   have := congrArg List.length ho'
   simp at this
   simp at hk
   omega
  have a1 : wr .i64 ((i : Int) + (k : Int)) = some (j : Int) := by rw [wr_small (by omega) (by omega), hj]; simp
  obtain ⟨q, hq⟩ : ∃ q, q = j + x.length := ⟨_, rfl⟩
  have a2 : wr .i64 ((j : Int) + (x.length : Int)) = some (q : Int) := by rw [wr_small (by omega) (by omega), hq]; simp
  have nxt : ∀ s', ¬ WordAt W x j → (∃ σ Φ, Fit 0 σ Φ s' (⟨[0, 1, 4, 5, 6, 7, 8], [.str W, .str x, .undef, .int .i64 ((j + 1 : Nat) : Int), .undef, .undef, .undef], [], 52, ⟨0, [[]]⟩⟩ : St)) → B s' := fun s' hno2 hf =>
   hB s' (j + 1) (by omega) ⟨by omega, fun h => by
    obtain ⟨p, hp, hwa⟩ := hw h
    refine ⟨p, ?_, hwa⟩
    have hr := hwa.room
    apply Decidable.byContradiction
    intro hlt
    rcases Nat.lt_or_ge p j with hpj | hpj
    ·have h3 := hno (p - i) (by omega)
     have h4 : Lib.occAt (W.drop i) x (p - i) = true := occ_iff.2 (by rw [List.drop_drop, show i + (p - i) = p by omega]; exact hwa.occ)
     rw [h4] at h3
     cases h3
    ·have : p = j := by omega
     subst this
     exact hno2 hwa⟩ hf
  repeat apply wq
  refine wps_region callOK ?_
  simp [zS, slStr hi, k67 hI hd, h0]
  repeat apply wq
  refine wps_region callOK ?_
  simp [zS, hk0]
  repeat apply wq
  refine wps_cf rfl ?_
  repeat apply wq
  refine wps_skip ?_
  simp
  repeat apply wq
  refine wps_region callOK ?_
  simp [zS, a1]
  repeat apply wq
  refine wps_region callOK ?_
  simp [zS, a2]
  have kS := fun c H => k68 hS c H
  by_cases c0 : j = 0
  ·have a4 : wr .i64 1 = some ((j + 1 : Nat) : Int) := by rw [c0]; rfl
   by_cases d0 : q = W.length
   ·repeat apply wq
    refine wps_region callOK ?_
    simp [zS, c0, d0]
    repeat apply wq
    refine wps_ct rfl ?_
    repeat apply wq
    refine wps_region (callOKF [⟨70, _, _, _, _, h1⟩, ⟨69, _, _, _, _, h2⟩]) ?_
    simp [zS, callF, aStrs]
    repeat apply wq
    refine wps_ret ?_
    simp [retVal, Tryz.f49, oneOr, thenQ, blockQ]
    exact ends_pure rfl (by simp [inW])
   ·have hql : q < W.length := by omega
    have d0i : ¬ (q : Int) = (W.length : Int) := by omega
    rcases Bool.eq_false_or_eq_true (sp W[q]) with d1 | d1
    ·repeat apply wq
     refine wps_region callOK ?_
     simp [zS, c0, d0i, ixStr hql, kS, d1]
     repeat apply wq
     refine wps_ct rfl ?_
     repeat apply wq
     refine wps_region (callOKF [⟨70, _, _, _, _, h1⟩, ⟨69, _, _, _, _, h2⟩]) ?_
     simp [zS, callF, aStrs]
     repeat apply wq
     refine wps_ret ?_
     simp [retVal, Tryz.f49, oneOr, thenQ, blockQ]
     exact ends_pure rfl (by simp [inW])
    ·repeat apply wq
     refine wps_region callOK ?_
     simp [zS, c0, d0i, ixStr hql, kS, d1]
     repeat apply wq
     refine wps_cf rfl ?_
     repeat apply wq
     refine wps_skip ?_
     simp
     repeat apply wq
     refine wps_region callOK ?_
     simp [zS, a4]
     exact nxt _ (fun hwa => by have := hwa.post _ (by rw [← hq]; exact List.getElem?_eq_getElem hql); rw [d1] at this; cases this) ⟨[], [], ⟨rfl, rfl, rfl, by simp [fitL, fitV, pureV, pureL], FitH.nothing⟩⟩
  ·obtain ⟨q1, hq1⟩ : ∃ q1, q1 + 1 = j := ⟨j - 1, by omega⟩
   have hq1l : q1 < W.length := by omega
   have a3 : wr .i64 ((j : Int) - 1) = some (q1 : Int) := by rw [wr_small (by omega) (by omega)]; congr 1; omega
   rcases Bool.eq_false_or_eq_true (sp W[q1]) with c1 | c1
   ·skip
    by_cases d0 : q = W.length
    ·repeat apply wq
     refine wps_region callOK ?_
     simp [zS, c0, a3, ixStr hq1l, kS, c1, d0]
     repeat apply wq
     refine wps_ct rfl ?_
     repeat apply wq
     refine wps_region (callOKF [⟨70, _, _, _, _, h1⟩, ⟨69, _, _, _, _, h2⟩]) ?_
     simp [zS, callF, aStrs]
     repeat apply wq
     refine wps_ret ?_
     simp [retVal, Tryz.f49, oneOr, thenQ, blockQ]
     exact ends_pure rfl (by simp [inW])
    ·have hql : q < W.length := by omega
     have d0i : ¬ (q : Int) = (W.length : Int) := by omega
     rcases Bool.eq_false_or_eq_true (sp W[q]) with d1 | d1
     ·repeat apply wq
      refine wps_region callOK ?_
      simp [zS, c0, a3, ixStr hq1l, kS, c1, d0i, ixStr hql, kS, d1]
      repeat apply wq
      refine wps_ct rfl ?_
      repeat apply wq
      refine wps_region (callOKF [⟨70, _, _, _, _, h1⟩, ⟨69, _, _, _, _, h2⟩]) ?_
      simp [zS, callF, aStrs]
      repeat apply wq
      refine wps_ret ?_
      simp [retVal, Tryz.f49, oneOr, thenQ, blockQ]
      exact ends_pure rfl (by simp [inW])
     ·repeat apply wq
      refine wps_region callOK ?_
      simp [zS, c0, a3, ixStr hq1l, kS, c1, d0i, ixStr hql, kS, d1]
      repeat apply wq
      refine wps_cf rfl ?_
      repeat apply wq
      refine wps_skip ?_
      simp
      repeat apply wq
      refine wps_region callOK ?_
      simp [zS, add_one (show j ≤ 1000000000 by omega)]
      exact nxt _ (fun hwa => by have := hwa.post _ (by rw [← hq]; exact List.getElem?_eq_getElem hql); rw [d1] at this; cases this) ⟨[], [], ⟨rfl, rfl, rfl, by simp [fitL, fitV, pureV, pureL], FitH.nothing⟩⟩
   ·repeat apply wq
    refine wps_region callOK ?_
    simp [zS, c0, a3, ixStr hq1l, kS, c1]
    repeat apply wq
    refine wps_cf rfl ?_
    repeat apply wq
    refine wps_skip ?_
    simp
    repeat apply wq
    refine wps_region callOK ?_
    simp [zS, add_one (show j ≤ 1000000000 by omega)]
    exact nxt _ (fun hwa => by have := hwa.pre _ (by omega) (by rw [← hq1, Nat.add_sub_cancel]; exact List.getElem?_eq_getElem hq1l); rw [c1] at this; cases this) ⟨[], [], ⟨rfl, rfl, rfl, by simp [fitL, fitV, pureV, pureL], FitH.nothing⟩⟩
theorem c97 {T : List (Entry Tryz.prog)} (L : List Str) (x : Str) (hl : L.length ≤ 1000000) : CallAt (ctx T) 97 [aStrs L, .str x] ⟨0, []⟩ (.int .i64 (idxFrom (fun y => decide (x = y)) L 0)) ⟨0, []⟩ := by
 refine callAt_body (fn := Tryz.f97) (s0 := ⟨[0, 1, 4, 5, 7, 8], [aStrs L, .str x, .undef, .undef, .undef, .undef], [], 19, ⟨0, [[]]⟩⟩) Tryz.func97 rfl rfl rfl ?_
 repeat apply wq
 refine wps_region callOK ?_
 simp [zS]
 repeat apply wq
 refine wps_region callOK ?_
 simp [zS, lenS]
 repeat apply wq
 refine wps_block (wps_loop' (fun i : Nat => (⟨[0, 1, 4, 5, 7, 8], [aStrs L, .str x, .undef, .undef, .int .i64 (L.length : Nat), .int .i64 i], [], 19, ⟨0, [[]]⟩⟩ : St))
  (fun i => i ≤ L.length ∧ idxFrom (fun y => decide (x = y)) L 0 = idxFrom (fun y => decide (x = y)) (L.drop i) i) (fun i => L.length - i) [] [] 0 ⟨Nat.zero_le _, rfl⟩ ⟨rfl, rfl, rfl, by simp [fitL, fitV, pureV, pureL, aStrs], FitH.nothing⟩ ?_)
 rintro i ⟨hi, hx⟩ B hB
 repeat apply wq
 refine wps_region callOK ?_
 simp [zS]
 repeat apply wq
 refine wps_cond rfl (fun h => ?_) fun h => ?_
 ·simp at h
  rw [idxFrom_at h] at hx
  repeat apply wq
  refine wps_skip ?_
  simp
  repeat apply wq
  refine wps_block ?_
  repeat apply wq
  refine wps_region callOK ?_
  simp [zS]
  by_cases h2 : L[i] = x
  ·repeat apply wq
   refine wps_region callOK ?_
   simp [zS, atS h, h2]
   repeat apply wq
   refine wps_ct rfl ?_
   repeat apply wq
   refine wps_region callOK ?_
   simp [zS]
   repeat apply wq
   refine wps_ret ?_
   simp [retVal, Tryz.f97, oneOr, thenQ, blockQ]
   exact ends_pure rfl (by rw [hx, if_pos (by simp [h2])])
  ·have h2' : ¬ x = L[i] := fun e => h2 e.symm
   repeat apply wq
   refine wps_region callOK ?_
   simp [zS, atS h, h2']
   repeat apply wq
   refine wps_cf rfl ?_
   repeat apply wq
   refine wps_skip ?_
   simp
   repeat apply wq
   refine wps_region callOK ?_
   simp [zS, add_one (show i ≤ 1000000000 by omega)]
   exact hB _ (i + 1) (by omega) ⟨by omega, by rw [hx, if_neg (by simp [h2'])]⟩ ⟨[], [], ⟨rfl, rfl, rfl, by simp [fitL, fitV, pureV, pureL, aStrs], FitH.nothing⟩⟩
 ·simp at h
  repeat apply wq
  refine wps_exit ?_
  simp
  repeat apply wq
  refine wps_region callOK ?_
  simp [zS]
  repeat apply wq
  refine wps_ret ?_
  simp [retVal, Tryz.f97, oneOr, thenQ, blockQ]
  exact ends_pure rfl (by rw [hx, List.drop_eq_nil_of_le h]; rfl)
noncomputable def e97 : Entry Tryz.prog := mkE 97 [[1], []] (fun x : List Str × Str => [aStrs x.1, .str x.2]) (fun x => x.1.length ≤ 1000000) (fun x => .int .i64 (idxFrom (fun y => decide (x.2 = y)) x.1 0)) fun x hx => c97 (T := []) x.1 x.2 hx
theorem injSS (x y : List Str × Str) (h : [aStrs x.1, .str x.2] = [aStrs y.1, .str y.2]) : x = y := by
 simp at h; exact Prod.ext (inj_strs (by simpa [aStrs] using h.1)) h.2
theorem k97 {T : List (Entry Tryz.prog)} (hT : findE 97 T = some e97.g) {L : List Str} (x : Str) (hl : L.length ≤ 1000000) (H : Heap) : callL (ctx T) (.fn 97) [aStrs L, .str x] H = some (.int .i64 (idxFrom (fun y => decide (x = y)) L 0), H) :=
 mkE_scalar hT injSS (L, x) hl rfl (by simp [aStrs])
theorem idx_mem {x : Str} : ∀ (L : List Str) (k : Nat), (0 ≤ idxFrom (fun y => decide (x = y)) L k) ↔ x ∈ L
 | [], k => by simp [idxFrom]
 | y :: r, k => by
  unfold idxFrom
  by_cases h : x = y
  ·simp [h]
  ·simp only [h, decide_false, Bool.false_eq_true, if_false, List.mem_cons, false_or]
   exact idx_mem r (k + 1)
theorem c69 {T : List (Entry Tryz.prog)} (hI : findE 97 T = some e97.g) (L : List Str) (x : Str) (hl : L.length ≤ 1000000) : CallAt (ctx T) 69 [aStrs L, .str x] ⟨0, []⟩ (.bool (decide (x ∈ L))) ⟨0, []⟩ := by
 have hk := fun H => k97 hI x hl H
 have hm := idx_mem (x := x) L 0
 generalize idxFrom (fun y => decide (x = y)) L 0 = v at *
 simp only [aStrs] at hk
 refine callAt_body (fn := Tryz.f69) (s0 := ⟨[0, 1, 4], [aStrs L, .str x, .undef], [], 9, ⟨0, [[]]⟩⟩) Tryz.func69 rfl rfl rfl ?_
 (repeat (first
  | (refine wps_seq ?_)
  | (refine wps_block ?_)
  | (refine wps_label ?_; simp only [thenQ, blockQ])
  | ((refine wps_region callOK ?_); simp [zS, aStrs, hk])
  | (refine wps_ct rfl ?_)
  | (refine wps_cf rfl ?_)
  | ((refine wps_skip ?_); simp only [thenQ, blockQ])
  | ((refine wps_exit ?_); simp [thenQ, blockQ])))
 repeat apply wq
 refine wps_ret ?_
 simp [retVal, Tryz.f69, oneOr, thenQ, blockQ]
 exact ends_pure rfl (by simp [hm])
@[simp] theorem szT167 : sizeT Tryz.prog 167 = some 1 := rfl
@[simp] theorem agT167 : aggT Tryz.prog 167 = some false := rfl
@[simp] theorem byT167 : bytesT Tryz.prog 167 = some 24 := rfl
@[simp] theorem alT167 (H : Heap) : alV Tryz.prog H 167 = some (.ptr H.n 0, H.new (.cells [.nilS])) := rfl
@[simp] theorem zeT167 : zeroOf Tryz.prog 167 = some (.nilS) := rfl
attribute [simp] Tryz.underlying167
@[simp 500] theorem rvF167 (H : Heap) (cs : List AV) (o : Nat) : readVar Tryz.prog H 167 (.fptr cs o) = getL cs o := rfl
@[simp 500] theorem rvP167 (H : Heap) (b o : Nat) : readVar Tryz.prog H 167 (.ptr b o) = (H.get b).bind fun k => k.rd.bind fun cs => getL cs o := rfl
@[simp] theorem slz167 (sz : Nat) (e : AV) (r : List AV) : binA Tryz.prog .eql 167 (.fslc sz (e :: r)) .nilS = some (.bool false) := rfl
@[simp] theorem sln167 (sz : Nat) (e : AV) (r : List AV) : binA Tryz.prog .neq 167 (.fslc sz (e :: r)) .nilS = some (.bool true) := rfl
@[simp] theorem slze167 : binA Tryz.prog .eql 167 .eslc .nilS = some (.bool false) := rfl
@[simp] theorem slzz167 : binA Tryz.prog .eql 167 .nilS .nilS = some (.bool true) := rfl
theorem Sim.perm {ρ : Place} {H H2 : Heap} {w : World} (h : Sim ρ H w) (n : H2.n = H.n) (p : H2.ents.Perm H.ents) : Sim ρ H2 w where
 base := h.base
 below := h.below
 os := h.os
 tape := h.tape
 output := h.output
 dom := fun b hb => h.dom b (n ▸ hb)
 nodup := (p.map _).nodup_iff.2 h.nodup
 live := fun e he => h.live e (p.mem_iff.1 he)
 inj := fun e e' he he' => h.inj e e' (p.mem_iff.1 he) (p.mem_iff.1 he')
theorem Step.perm {ρ ρ' : Place} {H H2 H' H2' : Heap} {w w' : World} (h : Step ρ H w ρ' H' w') (n : H2.n = H.n) (n' : H2'.n = H'.n) (p : H2.ents.Perm H.ents) (p' : H2'.ents.Perm H'.ents) : Step ρ H2 w ρ' H2' w' where
 le := h.le
 size := h.size
 keeps := fun k hk hn => h.keeps k hk fun e he => hn e (p.mem_iff.2 he)
 rows := fun e' he' l' hl' => by
  rcases h.rows e' (p'.mem_iff.1 he') l' hl' with ⟨e, he, x⟩ | x
  ·exact .inl ⟨e, p.mem_iff.2 he, x⟩
  ·exact .inr x
 num := by rw [n, n']; exact h.num
 low := fun b hb => h.low b (n ▸ hb)
 cold := fun k hk => by
  rcases h.cold k hk with x | ⟨e, he, x⟩ | x
  ·exact .inl x
  ·exact .inr (.inl ⟨e, p.mem_iff.2 he, x⟩)
  ·exact .inr (.inr x)
theorem CallAt.perm {C : Ctx} {f : FuncId} {args : List AV} {H H2 H' H2' : Heap} {v : AV} (h : CallAt C f args H v H') (n : H2.n = H.n) (n' : H2'.n = H'.n) (p : H2.ents.Perm H.ents) (p' : H2'.ents.Perm H'.ents) : CallAt C f args H2 v H2' := by
 intro ρ w xs sm hx
 have sm' := sm.perm n.symm p.symm
 rcases h ρ w xs sm' hx with ⟨x, ρ', w', h0, h1, h2, h3⟩ | ⟨g, ys, h0, h1⟩
 ·exact .inl ⟨x, ρ', w', h0, h1, h2.perm n' p', h3.perm n n' p p'⟩
 ·refine .inr ⟨g, ys, h0, h1.mono ?_⟩
  rintro e w' ⟨x, ρ', rfl, m1, m2, m3⟩
  exact ⟨x, ρ', rfl, m1, m2.perm n' p', m3.perm n n' p p'⟩
theorem perm_top {x : Nat × Blk} {f B g : List (Nat × Blk)} : (f ++ (x :: (B ++ g))).Perm (x :: (B ++ (f ++ g))) := by
 refine (List.perm_append_comm (l₁ := f) (l₂ := x :: (B ++ g))).trans ?_
 show (x :: ((B ++ g) ++ f)).Perm _
 refine List.Perm.cons _ ?_
 rw [List.append_assoc]
 exact List.Perm.append_left _ List.perm_append_comm
theorem CallAt.top {C : Ctx} {f : FuncId} {args : List AV} {v : AV} {m m' : Nat} {x x' : Nat × Blk} {fr B B' g g' : List (Nat × Blk)} (h : CallAt C f args ⟨m, [x :: (B ++ (fr ++ g))]⟩ v ⟨m', [x' :: (B' ++ (fr ++ g'))]⟩) : CallAt C f args ⟨m, [fr, x :: (B ++ g)]⟩ v ⟨m', [fr, x' :: (B' ++ g')]⟩ :=
 h.perm rfl rfl (by simpa [Heap.ents] using perm_top) (by simpa [Heap.ents] using perm_top)
def idn (m : Nat) : List (Nat × Nat) := (List.range m).map fun i => (i, i)
theorem idn_mem {m i : Nat} (h : i < m) : (i, i) ∈ idn m := List.mem_map.2 ⟨i, by simpa using h, rfl⟩
theorem lookN_of : ∀ {σ : List (Nat × Nat)} {i j : Nat}, (σ.map (·.1)).Nodup → (i, j) ∈ σ → lookN i σ = some j
 | [], _, _, _, h => by cases h
 | x :: r, i, j, nd, h => by
  rw [List.map_cons, List.nodup_cons] at nd
  unfold lookN
  rcases List.mem_cons.1 h with rfl | h
  ·simp
  ·have hne : ¬ x.1 = i := fun e => nd.1 (List.mem_map.2 ⟨_, h, e.symm⟩)
   rw [if_neg hne]
   exact lookN_of nd.2 h
theorem idn_nd (m : Nat) : ((idn m).map (·.1)).Nodup := by
 have : (idn m).map (·.1) = List.range m := by simp [idn, Function.comp_def]
 rw [this]; exact List.nodup_range
theorem idn_nd2 (m : Nat) : ((idn m).map (·.2)).Nodup := by
 have : (idn m).map (·.2) = List.range m := by simp [idn, Function.comp_def]
 rw [this]; exact List.nodup_range
theorem lookN_idn {m i : Nat} (h : i < m) : lookN i (idn m) = some i := lookN_of (idn_nd m) (idn_mem h)
def Idl (m : Nat) (σ : List (Nat × Nat)) : Prop := ∀ i, i < m → lookN i σ = some i
theorem idl_idn (m : Nat) : Idl m (idn m) := fun i h => lookN_idn h
theorem idl_cons {m k k' : Nat} (h : m ≤ k) : Idl m ((k, k') :: idn m) := fun i hi => by
 have : ¬ k = i := by omega
 simp [lookN, this, lookN_idn hi]
def SelfB (m : Nat) (k : Blk) : Prop := ∀ σ, Idl m σ → fitB σ [] k k
theorem SelfB.mono {m m' : Nat} {k : Blk} (h : SelfB m k) (hm : m ≤ m') : SelfB m' k := fun σ hσ => h σ fun i hi => hσ i (by omega)
theorem self_pure {m : Nat} {cs : List AV} (h : pureL cs = true) : SelfB m (.cells cs) := fun σ _ => fitL_pure h
structure Bs where
 k : Nat
 out : Str
def upd (m : Nat) (b : Bs) (s : Str) : Bs := match s with
 | [] => b
 | _ :: _ => ⟨m, b.out ++ s⟩
end Go.Proofs.YtfgdcciaecajpaaGreatDoor