/- script.Parse: the whole. No condition. -/
import Derived.Test.YtfncefamflainaaGreatDoorMO
import Derived.Test.YtfncefamflainaaGreatDoorMN
import Derived.Lib.IndexLaws
namespace Go.Proofs.YtfncefamflainaaGreatDoor
set_option linter.unusedSimpArgs false
set_option linter.unusedVariables false
open Go Go.RowKit
set_option maxRecDepth 100000
def frzF (k : Nat) (L : List Str) : List (Nat × List AV) := match L with
 | [] => []
 | _ :: _ => [(k, strA L)]
def frzP (q : PolR) (ks : Ks) : List (Nat × List AV) := frzF ks.a q.res ++ (frzF ks.b q.els ++ (frzF ks.c q.ats ++ frzF ks.d q.sch))
theorem frzF_keys (k : Nat) (L : List Str) : ((frzF k L).map (·.1)).Sublist [k] := by cases L <;> simp [frzF]
theorem frzP_keys {q : PolR} {ks : Ks} : ((frzP q ks).map (·.1)).Sublist [ks.a, ks.b, ks.c, ks.d] := by
 simp only [frzP, List.map_append]
 exact (frzF_keys _ _).append ((frzF_keys _ _).append ((frzF_keys _ _).append (frzF_keys _ _)))
theorem frzF_mem {k : Nat} {L : List Str} {x : Nat × List AV} (h : x ∈ frzF k L) : x = (k, strA L) ∧ L ≠ [] := by
 cases L with
 | nil => cases h
 | cons y r => exact ⟨by simpa [frzF] using h, by simp⟩
theorem lookC_of : ∀ {Φ : List (Nat × List AV)} {b : Nat} {cs : List AV}, (Φ.map (·.1)).Nodup → (b, cs) ∈ Φ → lookC b Φ = some cs
 | [], _, _, _, h => by cases h
 | x :: r, b, cs, nd, h => by
  rw [List.map_cons, List.nodup_cons] at nd
  unfold lookC
  rcases List.mem_cons.1 h with rfl | h
  ·simp
  ·have hne : ¬ x.1 = b := fun e => nd.1 (List.mem_map.2 ⟨_, h, e.symm⟩)
   rw [if_neg hne]
   exact lookC_of nd.2 h
theorem fit_frz {σ : List (Nat × Nat)} {Φ : List (Nat × List AV)} {k : Nat} {L : List Str} (h : L ≠ [] → lookC k Φ = some (strA L)) : fitV σ Φ (ownV k 1 (strA L)) (aStrs L) := by
 cases L with
 | nil => simp [ownV, fitV, aStrs]
 | cons x r =>
  have h := h (by simp)
  rw [ownV_ne (by simp)]
  have e : flatAV (strA (x :: r)) = strA (x :: r) := flatS _
  simp only [fitV, aStrs]
  refine .inl ⟨strA (x :: r), h, ?_, by simp, (elS _).size⟩
  have := sub_pre (elS (x :: r)) (k := (strA (x :: r)).length) (Nat.le_refl _)
  rw [List.take_length, e] at this
  exact this.trans (congrArg some (flatS (x :: r)).symm)
theorem fit_polH {m : Nat} {q : PolR} {ks : Ks} {Z : List AV} {H : Heap} (h : Pok m 1 ks) (hz : 0 ∉ kids_ 1 ks) (pz : pureL Z = true) (get : ∀ e, e ∈ [((0, .cells Z) : Nat × Blk)] ++ PF 1 q ks → H.get e.1 = some e.2) : FitH 0 [(0, 0), (1, 1)] (frzP q ks) H ⟨2, [[(0, .cells Z), (1, .cells (polC q))]]⟩ := by
 have nd : (kids_ 1 ks).Nodup := h.nd
 have nd4 : [ks.a, ks.b, ks.c, ks.d].Nodup := by
  unfold kids_ at nd
  exact (List.nodup_cons.1 nd).2
 have ndF : ((frzP q ks).map (·.1)).Nodup := frzP_keys.nodup nd4
 have fz : ∀ {k : Nat} {L : List Str}, (∀ x, x ∈ frzF k L → x ∈ frzP q ks) → L ≠ [] → lookC k (frzP q ks) = some (strA L) := fun {k L} hs hne =>
  lookC_of ndF (hs _ (by cases L with
   | nil => exact absurd rfl hne
   | cons x r => simp [frzF]))
 have own : ∀ {k : Nat} {L : List Str}, L ≠ [] → (k, Blk.cells (strA L)) ∈ ownF k (strA L) := fun {k L} hne => by rw [ownF_ne (by simpa using hne), flatS]; simp
 refine ⟨?_, by simp, by simp [Heap.ents], by simp, fun x hx h => absurd h (Nat.not_lt_zero _), Nat.zero_le _, fun e he => ?_, fun x hx => ?_⟩
 ·simp only [List.map_cons, List.map_nil, List.cons_append, List.nil_append, List.nodup_cons, List.mem_cons, not_or]
  unfold kids_ at nd hz
  rw [List.nodup_cons] at nd
  simp only [List.mem_cons, not_or] at hz
  refine ⟨⟨by omega, fun hx => ?_⟩, fun hx => nd.1 (frzP_keys.subset hx), ndF⟩
  have := frzP_keys.subset hx
  simp only [List.mem_cons, List.not_mem_nil, or_false] at this
  omega
 ·have he : e = (0, .cells Z) ∨ e = (1, .cells (polC q)) := by simpa [Heap.ents] using he
  rcases he with rfl | rfl
  ·exact ⟨0, .cells Z, by simp, get (0, .cells Z) (by simp), fitL_pure pz⟩
  ·refine ⟨1, .cells (polO q ks), by simp, get (1, .cells (polO q ks)) (by simp [PF]), ?_⟩
   show fitL _ _ (polO q ks) (polC q)
   have f1 := fit_frz (σ := [(0, 0), (1, 1)]) (fz (k := ks.a) (L := q.res) fun x hx => by simp only [frzP, List.mem_append]; exact .inl hx)
   have f2 := fit_frz (σ := [(0, 0), (1, 1)]) (fz (k := ks.b) (L := q.els) fun x hx => by simp only [frzP, List.mem_append]; exact .inr (.inl hx))
   have f3 := fit_frz (σ := [(0, 0), (1, 1)]) (fz (k := ks.c) (L := q.ats) fun x hx => by simp only [frzP, List.mem_append]; exact .inr (.inr (.inl hx)))
   have f4 := fit_frz (σ := [(0, 0), (1, 1)]) (fz (k := ks.d) (L := q.sch) fun x hx => by simp only [frzP, List.mem_append]; exact .inr (.inr (.inr hx)))
   simp only [polO, polC, fitL, f1, f2, f3, f4, true_and, and_true]
   simp [fitV, pureV]
 ·have key : ∀ {k : Nat} {L : List Str}, x ∈ frzF k L → (∀ e, e ∈ ownF k (strA L) → e ∈ PF 1 q ks) → ∃ cs, Heap.get H x.1 = some (.cells cs) ∧ fitL [(0, 0), (1, 1)] (frzP q ks) cs x.2 ∧ pureL x.2 = true := fun {k L} hx hs => by
   obtain ⟨rfl, hne⟩ := frzF_mem hx
   exact ⟨strA L, get (k, .cells (strA L)) (List.mem_append_right _ (hs _ (own hne))), fitL_pure (pure_strA L), pure_strA L⟩
  simp only [frzP, List.mem_append] at hx
  rcases hx with hx | hx | hx | hx
  ·exact key hx fun e he => by simp [PF, polG, he]
  ·exact key hx fun e he => by simp [PF, polG, he]
  ·exact key hx fun e he => by simp [PF, polG, he]
  ·exact key hx fun e he => by simp [PF, polG, he]
theorem fit_pol {m : Nat} {q : PolR} {ks : Ks} {Z : List AV} (h : Pok m 1 ks) (hz : 0 ∉ kids_ 1 ks) (pz : pureL Z = true) : FitH 0 [(0, 0), (1, 1)] (frzP q ks) ⟨m, [[(0, .cells Z)] ++ PF 1 q ks]⟩ ⟨2, [[(0, .cells Z), (1, .cells (polC q))]]⟩ := by
 have hA : ∀ e, e ∈ [((0, .cells Z) : Nat × Blk)] → e.1 < m ∧ e.1 ∉ kids_ 1 ks := fun e he => by
  simp only [List.mem_singleton] at he
  subst he
  exact ⟨by have := h.lt; show 0 < m; omega, hz⟩
 have ndH := nodup_in (q := q) h.nd hA (by simp)
 exact fit_polH h hz pz fun e he => get_of_mem (fs := [[((0, .cells Z) : Nat × Blk)] ++ PF 1 q ks]) (b := e.1) (k := e.2) (by simpa using ndH) (by simp only [List.flatten_cons, List.flatten_nil, List.append_nil]; exact he)
def ks0 : Ks := ⟨2, 3, 4, 5⟩
theorem pok0 : Pok 6 1 ks0 := ⟨by simp [ks0], by simp [ks0]⟩
def renS (ks : Ks) : List (Nat × Nat) := [(0, 0), (1, 1), (ks.a, 2), (ks.b, 3), (ks.c, 4), (ks.d, 5)]
theorem fit_canon {m : Nat} {q : PolR} {ks : Ks} {Z : List AV} (h : Pok m 1 ks) (hz : 0 ∉ kids_ 1 ks) (pz : pureL Z = true) : FitH 0 (renS ks) [] ⟨m, [[(0, .cells Z)] ++ PF 1 q ks]⟩ ⟨6, [[(0, .cells Z)] ++ PF 1 q ks0]⟩ := by
 have nd : (kids_ 1 ks).Nodup := h.nd
 have hA : ∀ e, e ∈ [((0, .cells Z) : Nat × Blk)] → e.1 < m ∧ e.1 ∉ kids_ 1 ks := fun e he => by
  simp only [List.mem_singleton] at he
  subst he
  exact ⟨by have := h.lt; show 0 < m; omega, hz⟩
 have hA0 : ∀ e, e ∈ [((0, .cells Z) : Nat × Blk)] → e.1 < 6 ∧ e.1 ∉ kids_ 1 ks0 := fun e he => by
  simp only [List.mem_singleton] at he
  subst he
  exact ⟨by show 0 < 6; omega, by simp [kids_, ks0]⟩
 have ndH := nodup_in (q := q) nd hA (by simp)
 have get : ∀ e, e ∈ [((0, .cells Z) : Nat × Blk)] ++ PF 1 q ks → Heap.get ⟨m, [[(0, .cells Z)] ++ PF 1 q ks]⟩ e.1 = some e.2 := fun e he =>
  get_of_mem (fs := [[((0, .cells Z) : Nat × Blk)] ++ PF 1 q ks]) (b := e.1) (k := e.2) (by simpa using ndH) (by simp only [List.flatten_cons, List.flatten_nil, List.append_nil]; exact he)
 have ndS : ((renS ks).map (·.1)).Nodup := by
  simp only [kids_, List.mem_cons, not_or] at hz
  unfold kids_ at nd
  simp only [renS, List.map_cons, List.map_nil, List.nodup_cons, List.mem_cons, List.not_mem_nil, or_false, not_or, not_false_eq_true, List.nodup_nil, and_true] at nd ⊢
  omega
 have look : ∀ x, x ∈ renS ks → lookN x.1 (renS ks) = some x.2 := fun x hx => lookN_of ndS hx
 have own : ∀ {k k' : Nat} {L : List Str}, lookN k (renS ks) = some k' → fitV (renS ks) [] (ownV k 1 (strA L)) (ownV k' 1 (strA L)) := fun {k k' L} hl => by
  cases L with
  | nil => simp [ownV, fitV]
  | cons x r => rw [ownV_ne (by simp), ownV_ne (by simp)]; simp [fitV, hl]
 refine ⟨by simpa using ndS, by simp [renS], by simpa [Heap.ents] using nodup_in (q := q) pok0.nd hA0 (by simp), fun x hx => ?_, fun x hx h => absurd h (Nat.not_lt_zero _), Nat.zero_le _, fun e he => ?_, fun x h => by cases h⟩
 ·simp only [renS, List.mem_cons, List.not_mem_nil, or_false] at hx
  rcases hx with rfl | rfl | rfl | rfl | rfl | rfl <;> simp
 ·have rowK : ∀ {k k' : Nat} {L : List Str} {e : Nat × Blk}, e ∈ ownF k' (strA L) → (k, k') ∈ renS ks → (∀ e, e ∈ ownF k (strA L) → e ∈ PF 1 q ks) → ∃ b kk, (b, e.1) ∈ renS ks ∧ Heap.get ⟨m, [[(0, .cells Z)] ++ PF 1 q ks]⟩ b = some kk ∧ fitB (renS ks) [] kk e.2 := fun {k k' L e} he hm hs => by
   obtain ⟨e1, e2⟩ := ownF_mem he
   have hne : L ≠ [] := fun h0 => by subst h0; simp [ownF] at he
   refine ⟨k, .cells (strA L), by rw [e1]; exact hm, get (k, .cells (strA L)) (List.mem_append_right _ (hs _ (by rw [ownF_ne (by simpa using hne), flatS]; simp))), ?_⟩
   rw [e2]
   exact fitL_pure (pure_strA L)
  have he : e = (0, .cells Z) ∨ e ∈ PF 1 q ks0 := by simpa [Heap.ents] using he
  rcases he with rfl | he
  ·exact ⟨0, .cells Z, by simp [renS], get (0, .cells Z) (by simp), fitL_pure pz⟩
  ·rcases List.mem_cons.1 he with rfl | he
   ·refine ⟨1, .cells (polO q ks), by simp [renS], get (1, .cells (polO q ks)) (by simp [PF]), ?_⟩
    show fitL _ _ (polO q ks) (polO q ks0)
    have f1 := own (L := q.res) (look (ks.a, 2) (by simp [renS]))
    have f2 := own (L := q.els) (look (ks.b, 3) (by simp [renS]))
    have f3 := own (L := q.ats) (look (ks.c, 4) (by simp [renS]))
    have f4 := own (L := q.sch) (look (ks.d, 5) (by simp [renS]))
    simp only [polO, ks0, fitL, f1, f2, f3, f4, true_and, and_true]
    simp [fitV, pureV]
   ·simp only [polG, List.mem_append] at he
    rcases he with he | he | he | he
    ·exact rowK (k := ks.a) he (by simp [renS, ks0]) fun e he => by simp [PF, polG, he]
    ·exact rowK (k := ks.b) he (by simp [renS, ks0]) fun e he => by simp [PF, polG, he]
    ·exact rowK (k := ks.c) he (by simp [renS, ks0]) fun e he => by simp [PF, polG, he]
    ·exact rowK (k := ks.d) he (by simp [renS, ks0]) fun e he => by simp [PF, polG, he]
def jDig : Str := [48, 49, 50, 51, 52, 53, 54, 55, 56, 57]
theorem dec_small {n : Nat} (h : n < 10) : Lib.decDigits n = [UInt8.ofNat (48 + n)] := by rw [Lib.decDigits, dif_pos h]
theorem dec_step {n : Nat} (h : ¬ n < 10) : Lib.decDigits n = Lib.decDigits (n / 10) ++ [UInt8.ofNat (48 + n % 10)] := by rw [Lib.decDigits, dif_neg h]
theorem dec_len : ∀ (n : Nat), (Lib.decDigits n).length ≤ n + 1 := by
 intro n
 induction n using Nat.strongRecOn with
 | _ n ih =>
  by_cases h : n < 10
  ·rw [dec_small h]; simp
  ·rw [dec_step h, List.length_append]
   have := ih (n / 10) (by omega)
   simp
   omega
theorem sl_dig {H : Heap} {n : Nat} (h : n < 10) : sliceA Tryz.prog H 9 (.str [48, 49, 50, 51, 52, 53, 54, 55, 56, 57]) (some (.int .i64 (n : Int))) (some (.int .i64 ((n : Int) + 1))) none = some (.str [UInt8.ofNat (48 + n)]) := by
 have h1 := slStr1 (H := H) (s := jDig) (i := n) (by simpa [jDig] using h)
 have h2 : ∀ n : Fin 10, jDig[n.val]'(by simp [jDig]) = UInt8.ofNat (48 + n.val) := by decide
 have h3 := h2 ⟨n, h⟩
 simp only at h3
 rw [h3] at h1
 exact h1
theorem quo10 {n q : Nat} (h : q = n / 10) (hn : n ≤ 1000000000) : binA Tryz.prog .quo 3 (.int .i64 (n : Int)) (.int .i64 10) = some (.int .i64 (q : Int)) := by
 have e : (n : Int).tdiv 10 = (q : Int) := by
  rw [Int.tdiv_eq_ediv_of_nonneg (by omega), h]; omega
 have hw : wr .i64 (q : Int) = some (q : Int) := wr_small (by omega) (by omega)
 simp [binA, intOp, e, hw]
theorem rem10 {n d : Nat} (h : d = n % 10) : binA Tryz.prog .rem 3 (.int .i64 (n : Int)) (.int .i64 10) = some (.int .i64 (d : Int)) := by
 have e : (n : Int).tmod 10 = (d : Int) := by
  rw [Int.tmod_eq_emod_of_nonneg (by omega), h]; omega
 simp [binA, intOp, e]
theorem c32 {T : List (Entry Tryz.prog)} : ∀ (n : Nat), n ≤ 1000000000 → CallAt (ctx T) 32 [.int .i64 (n : Int)] ⟨0, []⟩ (.str (Lib.decDigits n)) ⟨0, []⟩ := by
 intro n
 induction n using Nat.strongRecOn with
 | _ n ih =>
  intro hn
  by_cases h : n < 10
  ·have h' : (n : Int) < 10 := by omega
   refine callAt_body (fn := Tryz.f32) (s0 := ⟨[0, 2], [.int .i64 (n : Int), .undef], [], 19, ⟨0, [[]]⟩⟩) Tryz.func32 rfl rfl rfl ?_
   repeat apply wq
   refine wps_region callOK ?_
   simp [zS]
   repeat apply wq
   refine wps_region callOK ?_
   simp [zS, h, h']
   repeat apply wq
   refine wps_ct (by simp [opnd, St.get, h, h', zS]) ?_
   have hsl := fun H => sl_dig (H := H) h
   rw [dec_small h]
   generalize UInt8.ofNat (48 + n) = c at *
   repeat apply wq
   refine wps_region callOK ?_
   simp [zS, add_one (show n ≤ 1000000000 by omega), hsl]
   repeat apply wq
   refine wps_ret ?_
   simp [retVal, Tryz.f32, oneOr, thenQ, blockQ]
   exact ends_pure rfl (by rfl)
  ·have h' : ¬ (n : Int) < 10 := by omega
   obtain ⟨q, hq⟩ : ∃ q, q = n / 10 := ⟨_, rfl⟩
   obtain ⟨d, hd⟩ : ∃ d, d = n % 10 := ⟨_, rfl⟩
   have hk := (ih q (by omega) (by omega)).lift rfl ⟨11, [[]]⟩
   have hc := dec_len q
   have e := dec_step h
   rw [← hq, ← hd] at e
   rw [e]
   generalize Lib.decDigits q = s at *
   have hsl := fun H => sl_dig (H := H) (show d < 10 by omega)
   generalize UInt8.ofNat (48 + d) = c at *
   have hcat : binA Tryz.prog .add 9 (.str s) (.str [c]) = some (.str (s ++ [c])) := catStr (by simp; omega)
   refine callAt_body (fn := Tryz.f32) (s0 := ⟨[0, 2], [.int .i64 (n : Int), .undef], [], 19, ⟨0, [[]]⟩⟩) Tryz.func32 rfl rfl rfl ?_
   repeat apply wq
   refine wps_region callOK ?_
   simp [zS]
   repeat apply wq
   refine wps_region callOK ?_
   simp [zS, h, h']
   repeat apply wq
   refine wps_cf (by simp [opnd, St.get, h, h', zS]) ?_
   repeat apply wq
   refine wps_skip ?_
   simp
   repeat apply wq
   repeat apply wq
   refine wps_drawK mixed (callOKF [⟨32, _, _, _, _, hk⟩]) (by decide +kernel) (by decide +kernel) ?_
   simp [zS, evalK_c, evalK_nil, thenK_some, callF, quo10 hq (by omega), rem10 hd, add_one (show d ≤ 1000000000 by omega), hsl, hcat]
   repeat apply wq
   refine wps_ret ?_
   simp [retVal, Tryz.f32, oneOr, thenQ, blockQ]
   exact ends_pure rfl (by rfl)
noncomputable def e32 : Entry Tryz.prog := mkE 32 [[]] (fun x : Nat => [.int .i64 (x : Int)]) (fun x => x ≤ 1000000000) (fun x => .str (Lib.decDigits x)) fun x h => c32 (T := []) x h
theorem inj_nat (x y : Nat) (h : [AV.int .i64 (x : Int)] = [AV.int .i64 (y : Int)]) : x = y := by simp at h; omega
theorem k32 {T : List (Entry Tryz.prog)} (hT : findE 32 T = some e32.g) {n : Int} (hn : 0 ≤ n ∧ n ≤ 1048576) (H : Heap) : callL (ctx T) (.fn 32) [.int .i64 n] H = some (.str (Lib.itoa n), H) := by
 obtain ⟨m, rfl⟩ := Int.eq_ofNat_of_zero_le hn.1
 rw [Lib.itoa_nonneg]
 exact mkE_scalar hT inj_nat m (by omega) rfl (by simp)
theorem c31 {T : List (Entry Tryz.prog)} (w : Str) (L : List Str) (B : Nat) (hw : w.length ≤ 1000) (hl : L.length ≤ 200) (hs : ∀ x, x ∈ L → x.length ≤ 200000) :
  CallAt (ctx T) 31 [.str w, aStrs L] ⟨0, []⟩ (.str (linesP w L)) ⟨0, []⟩ := by
 refine callAt_body (fn := Tryz.f31) (s0 := ⟨[0, 1, 4, 5, 6], [.str w, aStrs L, .undef, .undef, .undef], [], 24, ⟨0, [[]]⟩⟩) Tryz.func31 rfl rfl rfl ?_
 repeat apply wq
 refine wps_region callOK ?_
 simp [zS]
 repeat apply wq
 refine wps_region callOK ?_
 simp [zS]
 repeat apply wq
 refine wps_region callOK ?_
 simp [zS]
 repeat apply wq
 refine wps_block (wps_loop' (fun i : Nat => (⟨[0, 1, 4, 5, 6], [.str w, aStrs L, .str [], .str (linesP w (L.take i)), .int .i64 (i : Int)], [], 24, ⟨0, [[]]⟩⟩ : St))
  (fun i => i ≤ L.length) (fun i => L.length - i) [] [] 0 (Nat.zero_le _) ⟨rfl, rfl, rfl, by simp [fitL, fitV, pureV, pureL, aStrs, linesP], FitH.nothing⟩ ?_)
 rintro i hi B hB
 by_cases h : i < L.length
 ·have hc : (i : Int) < (L.length : Int) := by omega
  repeat apply wq
  refine wps_region callOK ?_
  simp [zS, lenS, hc]
  repeat apply wq
  refine wps_ct (by simp [opnd, St.get, zS, h]) ?_
  repeat apply wq
  refine wps_skip ?_
  simp
  repeat apply wq
  refine wps_block ?_
  have hx := hs L[i] (List.getElem_mem h)
  have hp := linesP_len w (L.take i) 200000 fun x hx => hs x (List.mem_of_mem_take hx)
  have hpl : (L.take i).length ≤ 200 := by rw [List.length_take]; omega
  have hm := Nat.mul_le_mul hpl (show w.length + 200000 + 2 ≤ 202000 by omega)
  have hb : (linesP w (L.take i)).length ≤ 40400000 := by omega
  have et := lines_take w L h
  have q1 : binA Tryz.prog .add 9 (.str w) (.str [32]) = some (.str (w ++ [32])) := catStr (by simp; omega)
  have q2 : binA Tryz.prog .add 9 (.str (w ++ [32])) (.str L[i]) = some (.str (w ++ [32] ++ L[i])) := catStr (by simp; omega)
  have q3 : binA Tryz.prog .add 9 (.str (w ++ [32] ++ L[i])) (.str [10]) = some (.str (lineP w L[i])) := by rw [catStr (by simp; omega)]; simp [lineP]
  have q4 : binA Tryz.prog .add 9 (.str (linesP w (L.take i))) (.str (lineP w L[i])) = some (.str (linesP w (L.take (i + 1)))) := by rw [catStr (by rw [lineP_len]; omega), et]
  obtain ⟨N, hN⟩ : ∃ N, N = linesP w (L.take (i + 1)) := ⟨_, rfl⟩
  rw [← hN] at q4
  clear et hp
  generalize lineP w L[i] = x3 at *
  generalize w ++ [32] ++ L[i] = x2 at *
  generalize w ++ [32] = x1 at *
  repeat apply wq
  refine wps_region callOK ?_
  simp [zS, atS h, q1, q2, q3, q4]
  repeat apply wq
  refine wps_region callOK ?_
  simp [zS, add_one (show i ≤ 1000000000 by omega)]
  exact hB _ (i + 1) (by omega) (by omega) ⟨[], [], ⟨rfl, rfl, rfl, by simp [fitL, fitV, pureV, pureL, aStrs, hN], FitH.nothing⟩⟩
 ·have hc : ¬ (i : Int) < (L.length : Int) := by omega
  repeat apply wq
  refine wps_region callOK ?_
  simp [zS, lenS, hc]
  repeat apply wq
  refine wps_cf (by simp [opnd, St.get, zS, h]) ?_
  repeat apply wq
  refine wps_exit ?_
  simp
  have e : L.take i = L := List.take_of_length_le (by omega)
  rw [e]
  repeat apply wq
  refine wps_region callOK ?_
  simp [zS]
  repeat apply wq
  refine wps_ret ?_
  simp [retVal, Tryz.f31, oneOr, thenQ, blockQ]
  exact ends_pure rfl (by rfl)
noncomputable def e31 : Entry Tryz.prog := mkE 31 [[], [1]] (fun x : Str × List Str => [.str x.1, aStrs x.2]) (fun x => x.1.length ≤ 1000 ∧ x.2.length ≤ 200 ∧ ∀ y, y ∈ x.2 → y.length ≤ 200000) (fun x => .str (linesP x.1 x.2)) fun x h => c31 (T := []) x.1 x.2 0 h.1 h.2.1 h.2.2
theorem inj_SL (x y : Str × List Str) (h : [AV.str x.1, aStrs x.2] = [AV.str y.1, aStrs y.2]) : x = y := by
 simp only [List.cons.injEq, AV.str.injEq, and_true] at h
 exact Prod.ext h.1 (inj_strs h.2)
theorem k31 {T : List (Entry Tryz.prog)} (hT : findE 31 T = some e31.g) {w : Str} {L : List Str} (hw : w.length ≤ 1000) (hl : L.length ≤ 200) (hs : ∀ y, y ∈ L → y.length ≤ 200000) (H : Heap) : callL (ctx T) (.fn 31) [.str w, aStrs L] H = some (.str (linesP w L), H) :=
 mkE_scalar hT inj_SL (w, L) ⟨hw, hl, hs⟩ rfl (by simp [aStrs])
theorem c10 {T : List (Entry Tryz.prog)} (hC : findE 13 T = some e13.g) (hL : findE 31 T = some e31.g) (hD : findE 32 T = some e32.g) (p : PolR) (ok : PolOk p) :
  CallAt (ctx T) 10 [polA p] ⟨0, []⟩ (.str (printV p)) ⟨0, []⟩ := by
 have kc := fun H => k13 hC ok H
 have hsub : subL 0 11 (polC p) = some (polC p) := rfl
 have hsg : allSingle (polC p) = true := by simp [polC, allSingle, AV.single]
 have rd : ∀ n, readVar Tryz.prog ⟨n, [[(0, .cells (polC p))]]⟩ 24 (.ptr 0 0) = some (polA p) := fun n => by simp [readCells, Heap.get, getFs, getF, hsub, polA]
 rcases Bool.eq_false_or_eq_true (checkB p) with hk | hk
 ·have num := check_num hk
  obtain ⟨f1, f2, f3, f4⟩ := check_few hk
  have l1 := fun H => k31 hL (w := [114, 101, 115, 101, 114, 118, 101, 100]) (by simp) f1 ok.short.1 H
  have l2 := fun H => k31 hL (w := [101, 108, 101, 109]) (by simp) f2 ok.short.2.1 H
  have l3 := fun H => k31 hL (w := [97, 116, 116, 114]) (by simp) f3 ok.short.2.2.1 H
  have l4 := fun H => k31 hL (w := [115, 99, 104, 101, 109, 101]) (by simp) f4 ok.short.2.2.2 H
  have d1 := fun H => k32 hD num.byt H
  have d2 := fun H => k32 hD num.nod H
  have d3 := fun H => k32 hD num.dep H
  have d4 := fun H => k32 hD num.per H
  have d5 := fun H => k32 hD num.loo H
  have hh := head_len ok hk
  have b1 := itoa_len num.byt
  have b2 := itoa_len num.nod
  have b3 := itoa_len num.dep
  have b4 := itoa_len num.per
  have b5 := itoa_len num.loo
  have e : printV p = headT p ++ tailT p := by unfold printV textP; rw [if_pos hk]
  have eh : headT p = lineP jPrefix p.pre ++ (linesP jReserved p.res ++ (linesP jElem p.els ++ (linesP jAttr p.ats ++ linesP jScheme p.sch))) := rfl
  have et : tailT p = lineP jBytes (Lib.itoa p.byt) ++ (lineP jNodes (Lib.itoa p.nod) ++ (lineP jDeep (Lib.itoa p.dep) ++ (lineP jAttrs (Lib.itoa p.per) ++ (lineP jLookups (Lib.itoa p.loo) ++ lineP jUnchanged (yesNo p.unc))))) := rfl
  rw [eh] at hh
  have o0 : getL (polC p) 0 = some (.str p.pre) := rfl
  have o1 : getL (polC p) 1 = some (aStrs p.res) := rfl
  have o2 : getL (polC p) 2 = some (aStrs p.els) := rfl
  have o3 : getL (polC p) 3 = some (aStrs p.ats) := rfl
  have o4 : getL (polC p) 4 = some (aStrs p.sch) := rfl
  have o5 : getL (polC p) 5 = some (.int .i64 p.byt) := rfl
  have o6 : getL (polC p) 6 = some (.int .i64 p.nod) := rfl
  have o7 : getL (polC p) 7 = some (.int .i64 p.dep) := rfl
  have o8 : getL (polC p) 8 = some (.int .i64 p.per) := rfl
  have o9 : getL (polC p) 9 = some (.int .i64 p.loo) := rfl
  have o10 : getL (polC p) 10 = some (.bool p.unc) := rfl
  have w1 : linesP [114, 101, 115, 101, 114, 118, 101, 100] p.res = linesP jReserved p.res := rfl
  have w2 : linesP [101, 108, 101, 109] p.els = linesP jElem p.els := rfl
  have w3 : linesP [97, 116, 116, 114] p.ats = linesP jAttr p.ats := rfl
  have w4 : linesP [115, 99, 104, 101, 109, 101] p.sch = linesP jScheme p.sch := rfl
  simp only [w1] at l1
  simp only [w2] at l2
  simp only [w3] at l3
  simp only [w4] at l4
  simp only [polA] at kc rd ⊢
  rw [e, eh, et]
  generalize linesP jReserved p.res = r1 at *
  generalize linesP jElem p.els = r2 at *
  generalize linesP jAttr p.ats = r3 at *
  generalize linesP jScheme p.sch = r4 at *
  generalize Lib.itoa p.byt = m1 at *
  generalize Lib.itoa p.nod = m2 at *
  generalize Lib.itoa p.dep = m3 at *
  generalize Lib.itoa p.per = m4 at *
  generalize Lib.itoa p.loo = m5 at *
  simp only [List.length_append, lineP_len] at hh
  have hj : jPrefix.length = 6 := rfl
  obtain ⟨x1, hx1⟩ : ∃ x : Str, x = [112, 114, 101, 102, 105, 120, 32] ++ p.pre := ⟨_, rfl⟩
  have nx1 : x1.length = ([112, 114, 101, 102, 105, 120, 32] : Str).length + (p.pre : Str).length := by rw [hx1, List.length_append]
  try simp only [List.length_cons, List.length_nil] at nx1
  have qx1 : binA Tryz.prog .add 9 (.str [112, 114, 101, 102, 105, 120, 32]) (.str p.pre) = some (.str x1) := by rw [catStr (by (try simp only [List.length_cons, List.length_nil]); omega), hx1]
  obtain ⟨x2, hx2⟩ : ∃ x : Str, x = x1 ++ [10] := ⟨_, rfl⟩
  have nx2 : x2.length = (x1 : Str).length + ([10] : Str).length := by rw [hx2, List.length_append]
  try simp only [List.length_cons, List.length_nil] at nx2
  have qx2 : binA Tryz.prog .add 9 (.str x1) (.str [10]) = some (.str x2) := by rw [catStr (by (try simp only [List.length_cons, List.length_nil]); omega), hx2]
  obtain ⟨x3, hx3⟩ : ∃ x : Str, x = x2 ++ r1 := ⟨_, rfl⟩
  have nx3 : x3.length = (x2 : Str).length + (r1 : Str).length := by rw [hx3, List.length_append]
  try simp only [List.length_cons, List.length_nil] at nx3
  have qx3 : binA Tryz.prog .add 9 (.str x2) (.str r1) = some (.str x3) := by rw [catStr (by (try simp only [List.length_cons, List.length_nil]); omega), hx3]
  obtain ⟨x4, hx4⟩ : ∃ x : Str, x = x3 ++ r2 := ⟨_, rfl⟩
  have nx4 : x4.length = (x3 : Str).length + (r2 : Str).length := by rw [hx4, List.length_append]
  try simp only [List.length_cons, List.length_nil] at nx4
  have qx4 : binA Tryz.prog .add 9 (.str x3) (.str r2) = some (.str x4) := by rw [catStr (by (try simp only [List.length_cons, List.length_nil]); omega), hx4]
  obtain ⟨x5, hx5⟩ : ∃ x : Str, x = x4 ++ r3 := ⟨_, rfl⟩
  have nx5 : x5.length = (x4 : Str).length + (r3 : Str).length := by rw [hx5, List.length_append]
  try simp only [List.length_cons, List.length_nil] at nx5
  have qx5 : binA Tryz.prog .add 9 (.str x4) (.str r3) = some (.str x5) := by rw [catStr (by (try simp only [List.length_cons, List.length_nil]); omega), hx5]
  obtain ⟨x6, hx6⟩ : ∃ x : Str, x = x5 ++ r4 := ⟨_, rfl⟩
  have nx6 : x6.length = (x5 : Str).length + (r4 : Str).length := by rw [hx6, List.length_append]
  try simp only [List.length_cons, List.length_nil] at nx6
  have qx6 : binA Tryz.prog .add 9 (.str x5) (.str r4) = some (.str x6) := by rw [catStr (by (try simp only [List.length_cons, List.length_nil]); omega), hx6]
  obtain ⟨y1, hy1⟩ : ∃ x : Str, x = [98, 121, 116, 101, 115, 32] ++ m1 := ⟨_, rfl⟩
  have ny1 : y1.length = ([98, 121, 116, 101, 115, 32] : Str).length + (m1 : Str).length := by rw [hy1, List.length_append]
  try simp only [List.length_cons, List.length_nil] at ny1
  have qy1 : binA Tryz.prog .add 9 (.str [98, 121, 116, 101, 115, 32]) (.str m1) = some (.str y1) := by rw [catStr (by (try simp only [List.length_cons, List.length_nil]); omega), hy1]
  obtain ⟨y2, hy2⟩ : ∃ x : Str, x = y1 ++ [10, 110, 111, 100, 101, 115, 32] := ⟨_, rfl⟩
  have ny2 : y2.length = (y1 : Str).length + ([10, 110, 111, 100, 101, 115, 32] : Str).length := by rw [hy2, List.length_append]
  try simp only [List.length_cons, List.length_nil] at ny2
  have qy2 : binA Tryz.prog .add 9 (.str y1) (.str [10, 110, 111, 100, 101, 115, 32]) = some (.str y2) := by rw [catStr (by (try simp only [List.length_cons, List.length_nil]); omega), hy2]
  obtain ⟨y3, hy3⟩ : ∃ x : Str, x = y2 ++ m2 := ⟨_, rfl⟩
  have ny3 : y3.length = (y2 : Str).length + (m2 : Str).length := by rw [hy3, List.length_append]
  try simp only [List.length_cons, List.length_nil] at ny3
  have qy3 : binA Tryz.prog .add 9 (.str y2) (.str m2) = some (.str y3) := by rw [catStr (by (try simp only [List.length_cons, List.length_nil]); omega), hy3]
  obtain ⟨y4, hy4⟩ : ∃ x : Str, x = y3 ++ [10, 100, 101, 101, 112, 32] := ⟨_, rfl⟩
  have ny4 : y4.length = (y3 : Str).length + ([10, 100, 101, 101, 112, 32] : Str).length := by rw [hy4, List.length_append]
  try simp only [List.length_cons, List.length_nil] at ny4
  have qy4 : binA Tryz.prog .add 9 (.str y3) (.str [10, 100, 101, 101, 112, 32]) = some (.str y4) := by rw [catStr (by (try simp only [List.length_cons, List.length_nil]); omega), hy4]
  obtain ⟨y5, hy5⟩ : ∃ x : Str, x = y4 ++ m3 := ⟨_, rfl⟩
  have ny5 : y5.length = (y4 : Str).length + (m3 : Str).length := by rw [hy5, List.length_append]
  try simp only [List.length_cons, List.length_nil] at ny5
  have qy5 : binA Tryz.prog .add 9 (.str y4) (.str m3) = some (.str y5) := by rw [catStr (by (try simp only [List.length_cons, List.length_nil]); omega), hy5]
  obtain ⟨y6, hy6⟩ : ∃ x : Str, x = y5 ++ [10, 97, 116, 116, 114, 115, 32] := ⟨_, rfl⟩
  have ny6 : y6.length = (y5 : Str).length + ([10, 97, 116, 116, 114, 115, 32] : Str).length := by rw [hy6, List.length_append]
  try simp only [List.length_cons, List.length_nil] at ny6
  have qy6 : binA Tryz.prog .add 9 (.str y5) (.str [10, 97, 116, 116, 114, 115, 32]) = some (.str y6) := by rw [catStr (by (try simp only [List.length_cons, List.length_nil]); omega), hy6]
  obtain ⟨y7, hy7⟩ : ∃ x : Str, x = y6 ++ m4 := ⟨_, rfl⟩
  have ny7 : y7.length = (y6 : Str).length + (m4 : Str).length := by rw [hy7, List.length_append]
  try simp only [List.length_cons, List.length_nil] at ny7
  have qy7 : binA Tryz.prog .add 9 (.str y6) (.str m4) = some (.str y7) := by rw [catStr (by (try simp only [List.length_cons, List.length_nil]); omega), hy7]
  obtain ⟨y8, hy8⟩ : ∃ x : Str, x = y7 ++ [10, 108, 111, 111, 107, 117, 112, 115, 32] := ⟨_, rfl⟩
  have ny8 : y8.length = (y7 : Str).length + ([10, 108, 111, 111, 107, 117, 112, 115, 32] : Str).length := by rw [hy8, List.length_append]
  try simp only [List.length_cons, List.length_nil] at ny8
  have qy8 : binA Tryz.prog .add 9 (.str y7) (.str [10, 108, 111, 111, 107, 117, 112, 115, 32]) = some (.str y8) := by rw [catStr (by (try simp only [List.length_cons, List.length_nil]); omega), hy8]
  obtain ⟨y9, hy9⟩ : ∃ x : Str, x = y8 ++ m5 := ⟨_, rfl⟩
  have ny9 : y9.length = (y8 : Str).length + (m5 : Str).length := by rw [hy9, List.length_append]
  try simp only [List.length_cons, List.length_nil] at ny9
  have qy9 : binA Tryz.prog .add 9 (.str y8) (.str m5) = some (.str y9) := by rw [catStr (by (try simp only [List.length_cons, List.length_nil]); omega), hy9]
  obtain ⟨y10, hy10⟩ : ∃ x : Str, x = y9 ++ [10, 117, 110, 99, 104, 97, 110, 103, 101, 100, 32] := ⟨_, rfl⟩
  have ny10 : y10.length = (y9 : Str).length + ([10, 117, 110, 99, 104, 97, 110, 103, 101, 100, 32] : Str).length := by rw [hy10, List.length_append]
  try simp only [List.length_cons, List.length_nil] at ny10
  have qy10 : binA Tryz.prog .add 9 (.str y9) (.str [10, 117, 110, 99, 104, 97, 110, 103, 101, 100, 32]) = some (.str y10) := by rw [catStr (by (try simp only [List.length_cons, List.length_nil]); omega), hy10]
  obtain ⟨z, hz⟩ : ∃ x : Str, x = x6 ++ y10 := ⟨_, rfl⟩
  have nz : z.length = (x6 : Str).length + (y10 : Str).length := by rw [hz, List.length_append]
  try simp only [List.length_cons, List.length_nil] at nz
  have qz : binA Tryz.prog .add 9 (.str x6) (.str y10) = some (.str z) := by rw [catStr (by (try simp only [List.length_cons, List.length_nil]); omega), hz]
  obtain ⟨zy, hzy⟩ : ∃ x : Str, x = z ++ [121, 101, 115, 10] := ⟨_, rfl⟩
  have qzy : binA Tryz.prog .add 9 (.str z) (.str [121, 101, 115, 10]) = some (.str zy) := by rw [catStr (by (try simp only [List.length_cons, List.length_nil]); omega), hzy]
  obtain ⟨zn, hzn⟩ : ∃ x : Str, x = z ++ [110, 111, 10] := ⟨_, rfl⟩
  have qzn : binA Tryz.prog .add 9 (.str z) (.str [110, 111, 10]) = some (.str zn) := by rw [catStr (by (try simp only [List.length_cons, List.length_nil]); omega), hzn]
  have fy : p.unc = true → zy = lineP jPrefix p.pre ++ (r1 ++ (r2 ++ (r3 ++ r4))) ++ (lineP jBytes m1 ++ (lineP jNodes m2 ++ (lineP jDeep m3 ++ (lineP jAttrs m4 ++ (lineP jLookups m5 ++ lineP jUnchanged (yesNo p.unc)))))) := by
   intro hu
   rw [hu]
   simp [hzy, hz, hy10, hy9, hy8, hy7, hy6, hy5, hy4, hy3, hy2, hy1, hx6, hx5, hx4, hx3, hx2, hx1, lineP, jPrefix, jBytes, jNodes, jDeep, jAttrs, jLookups, jUnchanged, yesNo, jYes]
  have fn : p.unc = false → zn = lineP jPrefix p.pre ++ (r1 ++ (r2 ++ (r3 ++ r4))) ++ (lineP jBytes m1 ++ (lineP jNodes m2 ++ (lineP jDeep m3 ++ (lineP jAttrs m4 ++ (lineP jLookups m5 ++ lineP jUnchanged (yesNo p.unc)))))) := by
   intro hu
   rw [hu]
   simp [hzn, hz, hy10, hy9, hy8, hy7, hy6, hy5, hy4, hy3, hy2, hy1, hx6, hx5, hx4, hx3, hx2, hx1, lineP, jPrefix, jBytes, jNodes, jDeep, jAttrs, jLookups, jUnchanged, yesNo, jNo]
  generalize lineP jPrefix p.pre ++ (r1 ++ (r2 ++ (r3 ++ r4))) ++ (lineP jBytes m1 ++ (lineP jNodes m2 ++ (lineP jDeep m3 ++ (lineP jAttrs m4 ++ (lineP jLookups m5 ++ lineP jUnchanged (yesNo p.unc)))))) = res at *
  clear hh eh et e hx1 hx2 hx3 hx4 hx5 hx6 hy1 hy2 hy3 hy4 hy5 hy6 hy7 hy8 hy9 hy10 hz hzy hzn
  have hck : checkV p = .int .i64 0 := by unfold checkV; rw [if_pos hk]
  rw [hck] at kc
  generalize p.unc = u at *
  generalize p.pre = pre at *
  generalize polC p = C at *
  refine callAt_body (fn := Tryz.f10) (s0 := ⟨[0, 1, 2, 3], [.agg C, .undef, .undef, .undef], [], 60, ⟨0, [[]]⟩⟩) Tryz.func10 rfl rfl rfl ?_
  repeat apply wq
  refine wps_region callOK ?_
  simp [zS, hsg]
  repeat apply wq
  refine wps_region callOK ?_
  simp [zS, rd, kc]
  repeat apply wq
  refine wps_cf (by simp [opnd, St.get, zS]) ?_
  repeat apply wq
  refine wps_skip ?_
  simp
  repeat apply wq
  refine wps_drawK mixed callOK (by decide +kernel) (by decide +kernel) ?_
  simp [zS, evalK_c, evalK_nil, thenK_some, o0, o1, o2, o3, o4, l1, l2, l3, l4, qx1, qx2, qx3, qx4, qx5, qx6]
  repeat apply wq
  refine wps_drawK mixed callOK (by decide +kernel) (by decide +kernel) ?_
  simp [zS, evalK_c, evalK_nil, thenK_some, o5, o6, o7, o8, o9, d1, d2, d3, d4, d5, qy1, qy2, qy3, qy4, qy5, qy6, qy7, qy8, qy9, qy10, qz]
  repeat apply wq
  refine wps_region callOK ?_
  simp [zS, o10]
  cases u with
  | true =>
   repeat apply wq
   refine wps_ct rfl ?_
   repeat apply wq
   refine wps_region callOK ?_
   simp [zS, qzy]
   repeat apply wq
   refine wps_ret ?_
   simp [retVal, Tryz.f10, oneOr, thenQ, blockQ]
   exact ends_pure rfl (by rw [fy rfl])
  | false =>
   repeat apply wq
   refine wps_cf rfl ?_
   repeat apply wq
   refine wps_skip ?_
   simp
   repeat apply wq
   refine wps_region callOK ?_
   simp [zS, qzn]
   repeat apply wq
   refine wps_ret ?_
   simp [retVal, Tryz.f10, oneOr, thenQ, blockQ]
   exact ends_pure rfl (by rw [fn rfl])
 ·have e : printV p = [] := by unfold printV; rw [if_neg (by simp [hk])]
  rw [e]
  have hck : checkV p = .int .i64 2 := by unfold checkV; rw [if_neg (by simp [hk])]
  rw [hck] at kc
  simp only [polA] at kc rd ⊢
  generalize polC p = C at *
  refine callAt_body (fn := Tryz.f10) (s0 := ⟨[0, 1, 2, 3], [.agg C, .undef, .undef, .undef], [], 60, ⟨0, [[]]⟩⟩) Tryz.func10 rfl rfl rfl ?_
  repeat apply wq
  refine wps_region callOK ?_
  simp [zS, hsg]
  repeat apply wq
  refine wps_region callOK ?_
  simp [zS, rd, kc]
  repeat apply wq
  refine wps_ct (by simp [opnd, St.get, zS]) ?_
  repeat apply wq
  refine wps_region callOK ?_
  simp [zS]
  repeat apply wq
  refine wps_ret ?_
  simp [retVal, Tryz.f10, oneOr, thenQ, blockQ]
  exact ends_pure rfl (by rfl)
noncomputable def e10 : Entry Tryz.prog := mkE 10 [[]] (fun x : PolR => [polA x]) (fun x => PolOk x) (fun x => .str (printV x)) fun x h => c10 (T := [e13, e31, e32]) rfl rfl rfl x h
theorem k10 {T : List (Entry Tryz.prog)} (hT : findE 10 T = some e10.g) {p : PolR} (ok : PolOk p) (H : Heap) : callL (ctx T) (.fn 10) [polA p] H = some (.str (printV p), H) :=
 mkE_scalar hT inj_pol1 p ok rfl (by simp [thawA_pol])
structure RefS where
 l : Str
 w : Str
 b : Bool
 q : PolR
def refStep (num : Str → Int) (x : RefS) (c : UInt8) : RefS :=
 if c = 10 then ⟨[], [], false, takeV num x.q x.w x.l⟩ else if c = 32 ∧ x.b = false then ⟨[], x.l, true, x.q⟩ else ⟨x.l ++ [c], x.w, x.b, x.q⟩
def pol0 : PolR := ⟨[], [], [], [], [], 0, 0, 0, 0, 0, false⟩
def refS (num : Str → Int) (s : Str) (i : Nat) : RefS := (s.take i).foldl (refStep num) ⟨[], [], false, pol0⟩
theorem refS_step {num : Str → Int} {s : Str} {i : Nat} (h : i < s.length) : refS num s (i + 1) = refStep num (refS num s i) s[i] := by
 unfold refS
 rw [List.take_succ_eq_append_getElem h, List.foldl_append]
 rfl
structure Few (n : Nat) (q : PolR) : Prop where
 pre : q.pre.length ≤ n
 few : q.res.length ≤ n ∧ q.els.length ≤ n ∧ q.ats.length ≤ n ∧ q.sch.length ≤ n
 short : (∀ s, s ∈ q.res → s.length ≤ n) ∧ (∀ s, s ∈ q.els → s.length ≤ n) ∧ (∀ s, s ∈ q.ats → s.length ≤ n) ∧ (∀ s, s ∈ q.sch → s.length ≤ n)
theorem Few.mono {n m : Nat} {q : PolR} (h : Few n q) (hm : n ≤ m) : Few m q where
 pre := by have := h.pre; omega
 few := by have := h.few; omega
 short := ⟨fun s hs => by have := h.short.1 s hs; omega, fun s hs => by have := h.short.2.1 s hs; omega, fun s hs => by have := h.short.2.2.1 s hs; omega, fun s hs => by have := h.short.2.2.2 s hs; omega⟩
theorem takeV_cases {P : PolR → Prop} (num : Str → Int) (q : PolR) (w x : Str) (h0 : P { q with pre := x }) (h1 : P { q with res := q.res ++ [x] }) (h2 : P { q with els := q.els ++ [x] }) (h3 : P { q with ats := q.ats ++ [x] }) (h4 : P { q with sch := q.sch ++ [x] }) (h5 : P { q with byt := num x }) (h6 : P { q with nod := num x }) (h7 : P { q with dep := num x }) (h8 : P { q with per := num x }) (h9 : P { q with loo := num x }) (h10 : P { q with unc := decide (x = jYes) }) (h : P q) : P (takeV num q w x) := by
 unfold takeV
 by_cases c0 : w = jPrefix
 ·rw [if_pos c0]; exact h0
 rw [if_neg c0]
 by_cases c1 : w = jReserved
 ·rw [if_pos c1]; exact h1
 rw [if_neg c1]
 by_cases c2 : w = jElem
 ·rw [if_pos c2]; exact h2
 rw [if_neg c2]
 by_cases c3 : w = jAttr
 ·rw [if_pos c3]; exact h3
 rw [if_neg c3]
 by_cases c4 : w = jScheme
 ·rw [if_pos c4]; exact h4
 rw [if_neg c4]
 by_cases c5 : w = jBytes
 ·rw [if_pos c5]; exact h5
 rw [if_neg c5]
 by_cases c6 : w = jNodes
 ·rw [if_pos c6]; exact h6
 rw [if_neg c6]
 by_cases c7 : w = jDeep
 ·rw [if_pos c7]; exact h7
 rw [if_neg c7]
 by_cases c8 : w = jAttrs
 ·rw [if_pos c8]; exact h8
 rw [if_neg c8]
 by_cases c9 : w = jLookups
 ·rw [if_pos c9]; exact h9
 rw [if_neg c9]
 by_cases c10 : w = jUnchanged
 ·rw [if_pos c10]; exact h10
 rw [if_neg c10]
 exact h
theorem Few.take {n : Nat} {q : PolR} (h : Few n q) (num : Str → Int) (w x : Str) (hx : x.length ≤ n + 1) : Few (n + 1) (takeV num q w x) := by
 have h1 := h.mono (Nat.le_succ n)
 obtain ⟨f1, f2, f3, f4⟩ := h.few
 obtain ⟨g1, g2, g3, g4⟩ := h1.few
 obtain ⟨s1, s2, s3, s4⟩ := h1.short
 have app : ∀ {L : List Str}, (∀ s, s ∈ L → s.length ≤ n + 1) → ∀ s, s ∈ L ++ [x] → s.length ≤ n + 1 := fun {L} hL s hs => by
  rcases List.mem_append.1 hs with hs | hs
  ·exact hL s hs
  ·simp only [List.mem_singleton] at hs
   rw [hs]; exact hx
 exact takeV_cases num q w x ⟨hx, h1.few, h1.short⟩ ⟨h1.pre, ⟨by simp; omega, g2, g3, g4⟩, ⟨app s1, s2, s3, s4⟩⟩ ⟨h1.pre, ⟨g1, by simp; omega, g3, g4⟩, ⟨s1, app s2, s3, s4⟩⟩ ⟨h1.pre, ⟨g1, g2, by simp; omega, g4⟩, ⟨s1, s2, app s3, s4⟩⟩
  ⟨h1.pre, ⟨g1, g2, g3, by simp; omega⟩, ⟨s1, s2, s3, app s4⟩⟩ ⟨h1.pre, h1.few, h1.short⟩ ⟨h1.pre, h1.few, h1.short⟩ ⟨h1.pre, h1.few, h1.short⟩ ⟨h1.pre, h1.few, h1.short⟩ ⟨h1.pre, h1.few, h1.short⟩ ⟨h1.pre, h1.few, h1.short⟩ h1
theorem few0 : Few 0 pol0 := ⟨by simp [pol0], by simp [pol0], by simp [pol0]⟩
theorem refS_few (num : Str → Int) (s : Str) : ∀ i, Few i (refS num s i).q ∧ (refS num s i).l.length ≤ i ∧ (refS num s i).w.length ≤ i
 | 0 => by
  have : refS num s 0 = ⟨[], [], false, pol0⟩ := by simp [refS]
  rw [this]
  exact ⟨few0, by simp, by simp⟩
 | i + 1 => by
  obtain ⟨h1, h2, h3⟩ := refS_few num s i
  by_cases h : i < s.length
  ·rw [refS_step h]
   unfold refStep
   split
   ·exact ⟨h1.take num _ _ (by omega), by simp, by simp⟩
   ·split
    ·exact ⟨h1.mono (by omega), by simp, by simp only; omega⟩
    ·exact ⟨h1.mono (by omega), by simp; omega, by simp only; omega⟩
  ·have e : refS num s (i + 1) = refS num s i := by
    unfold refS
    rw [List.take_of_length_le (by omega), List.take_of_length_le (by omega)]
   rw [e]
   exact ⟨h1.mono (by omega), by omega, by omega⟩
theorem Few.ok {n : Nat} {q : PolR} (h : Few n q) (hn : n ≤ 200000) : PolOk q := ⟨(h.mono hn).pre, (h.mono hn).few, (h.mono hn).short⟩
def parsA (q : PolR) (s : Str) : AV := if s = [] ∨ printV q ≠ s then .tup [polA pol0, .int .i64 8] else .tup [polA q, .int .i64 0]
abbrev Z0 : List AV := [.str [], .nilS, .nilS, .nilS, .nilS, .int .i64 0, .int .i64 0, .int .i64 0, .int .i64 0, .int .i64 0, .bool false]
theorem fit_start : FitH 0 [(0, 0), (1, 1)] [] ⟨2, [[(1, .cells Z0), (0, .cells Z0)]]⟩ ⟨6, [[(0, .cells Z0)] ++ PF 1 pol0 ks0]⟩ := by
 refine ⟨by simp, by simp, by simp [Heap.ents, PF, polG, pol0, ownF], by simp, by simp, by simp, fun e he => ?_, fun x h => by cases h⟩
 have he : e = (0, .cells Z0) ∨ e = (1, .cells (polO pol0 ks0)) := by simpa [Heap.ents, PF, polG, pol0, ownF] using he
 rcases he with rfl | rfl
 ·exact ⟨0, .cells Z0, by simp, by simp [Heap.get, getFs, getF], fitL_pure rfl⟩
 ·exact ⟨1, .cells Z0, by simp, by simp [Heap.get, getFs, getF], by simp [fitB, polO, pol0, ownV, fitL, fitV, pureV]⟩
theorem c8 {T : List (Entry Tryz.prog)} (hA : findE 47 T = some e47.g) (hP : findE 10 T = some e10.g) (s : Str) (hs : s.length ≤ 200000) :
  CallAt (ctx T) 8 [.str s] ⟨0, []⟩ (parsA (refS numR s s.length).q s) ⟨0, []⟩ := by
 have tk := take22 (T := T) hA
 have o11 : subL 0 11 (polC (refS numR s s.length).q) = some (polC (refS numR s s.length).q) := rfl
 have hfew := refS_few numR s s.length
 have kp := fun H => k10 hP (hfew.1.ok hs) H
 have e0 : refS numR s 0 = ⟨[], [], false, pol0⟩ := by simp [refS]
 refine callAt_body (fn := Tryz.f8) (s0 := ⟨[0, 2, 3, 4, 5, 6, 7, 8], [.str s, .undef, .undef, .undef, .undef, .undef, .undef, .undef], [], 48, ⟨0, [[]]⟩⟩) Tryz.func8 rfl rfl rfl ?_
 repeat apply wq
 refine wps_region callOK ?_
 simp [zS]
 repeat apply wq
 refine wps_region callOK ?_
 simp [zS]
 repeat apply wq
 refine wps_region callOK ?_
 simp [zS]
 repeat apply wq
 refine wps_region callOK ?_
 simp [zS]
 repeat apply wq
 refine wps_block (wps_loop' (fun i : Nat => (⟨[0, 2, 3, 4, 5, 6, 7, 8], [.str s, .ptr 0 0, .int .i64 0, .ptr 1 0, .str (refS numR s i).l, .str (refS numR s i).w, .bool (refS numR s i).b, .int .i64 (i : Int)], [], 48, ⟨6, [[(0, .cells Z0)] ++ PF 1 (refS numR s i).q ks0]⟩⟩ : St))
  (fun i => i ≤ s.length) (fun i => s.length - i) [(0, 0), (1, 1)] [] 0 (Nat.zero_le _) ⟨rfl, rfl, rfl, by simp [fitL, fitV, lookN, pureV, e0], ?_⟩ ?_)
 ·rw [e0]
  exact fit_start
 ·rintro i hi B hB
  obtain ⟨f1, f2, f3⟩ := refS_few numR s i
  have hst := fun h => refS_step (num := numR) (s := s) (i := i) h
  by_cases h : i < s.length
  ·have hc : (i : Int) < (s.length : Int) := by omega
   have hst := hst h
   have nx : ∀ (ts : List (Nat × AV)) (H : Heap) (k : Nat) (ks' : Ks) (y : RefS), refS numR s (i + 1) = y → H = ⟨k, [[(0, .cells Z0)] ++ PF 1 y.q ks']⟩ → Pok k 1 ks' → 0 ∉ kids_ 1 ks' →
     B { (⟨[0, 2, 3, 4, 5, 6, 7, 8], [.str s, .ptr 0 0, .int .i64 0, .ptr 1 0, .str y.l, .str y.w, .bool y.b, .int .i64 ((i + 1 : Nat) : Int)], [], 48, H⟩ : St) with ts := ts } := fun ts H k ks' y hy hH hk hz => by
    subst hy
    subst hH
    exact hB _ (i + 1) (by omega) (by omega) ⟨renS ks', [], rfl, rfl, rfl, by simp [fitL, fitV, lookN, pureV, renS], fit_canon hk hz rfl⟩
   generalize hx : refS numR s i = R at *
   obtain ⟨l, w, b, q⟩ := R
   simp only at f1 f2 f3 hst
   repeat apply wq
   refine wps_region callOK ?_
   simp [zS, hc]
   repeat apply wq
   refine wps_ct (by simp [opnd, St.get, zS, h]) ?_
   repeat apply wq
   refine wps_skip ?_
   simp
   repeat apply wq
   refine wps_block ?_
   obtain ⟨c, hcc⟩ : ∃ c, c = s[i] := ⟨_, rfl⟩
   have ixc := ixStr h
   have slc := fun H => slStr1 (H := H) h
   rw [← hcc] at ixc hst
   simp only [← hcc] at slc
   have hn10 : ((c.toNat : Int) = 10) ↔ c = 10 := by rw [← UInt8.toNat_inj]; simp; omega
   have hn32 : ((c.toNat : Int) = 32) ↔ c = 32 := by rw [← UInt8.toNat_inj]; simp; omega
   by_cases c10 : c = 10
   ·obtain ⟨ks', k1, k2, k3⟩ := take_in tk pok0 (q := q) (by have := f1.few; omega) (A := [(0, .cells Z0)]) (by simp [kids_, ks0]) (by simp) w l (by omega)
    have e1 : refStep numR ⟨l, w, b, q⟩ c = ⟨[], [], false, takeV numR q w l⟩ := by simp [refStep, c10]
    rw [e1] at hst
    have q10 := hn10.2 c10
    repeat apply wq
    refine wps_region callOK ?_
    simp [zS, ixc, q10]
    repeat apply wq
    refine wps_ct (by simp [opnd, St.get, zS, q10]) ?_
    simp only [List.cons_append, List.nil_append] at k3
    repeat apply wq
    refine wps_region (callOKF [⟨22, _, _, _, _, k3⟩]) ?_
    simp [zS, callF]
    repeat apply wq
    refine wps_region callOK ?_
    simp [zS]
    repeat apply wq
    refine wps_region callOK ?_
    simp [zS, add_one (show i ≤ 1000000000 by omega)]
    exact nx _ _ 7 ks' _ hst rfl k1 (k2 (0, .cells Z0) (by simp)).2
   ·have q10 : ¬ (c.toNat : Int) = 10 := fun e => c10 (hn10.1 e)
    repeat apply wq
    refine wps_region callOK ?_
    simp [zS, ixc, q10]
    repeat apply wq
    refine wps_cf (by simp [opnd, St.get, zS, q10]) ?_
    have hz0 : 0 ∉ kids_ 1 ks0 := by simp [kids_, ks0]
    by_cases c32 : c = 32 ∧ b = false
    ·obtain ⟨c32, rfl⟩ := c32
     have q32 := hn32.2 c32
     have e1 : refStep numR ⟨l, w, false, q⟩ c = ⟨[], l, true, q⟩ := by simp [refStep, c10, c32]
     rw [e1] at hst
     repeat apply wq
     refine wps_region callOK ?_
     simp [zS, ixc, q32]
     repeat apply wq
     refine wps_ct (by simp [opnd, St.get, zS, q32]) ?_
     repeat apply wq
     refine wps_region callOK ?_
     simp [zS]
     repeat apply wq
     refine wps_region callOK ?_
     simp [zS, add_one (show i ≤ 1000000000 by omega)]
     exact nx _ _ 6 ks0 _ hst rfl pok0 hz0
    ·have e1 : refStep numR ⟨l, w, b, q⟩ c = ⟨l ++ [c], w, b, q⟩ := by simp [refStep, c10, c32]
     rw [e1] at hst
     have hcat : binA Tryz.prog .add 9 (.str l) (.str [c]) = some (.str (l ++ [c])) := catStr (by simp; omega)
     by_cases q32 : c = 32
     ·have qb : b = true := by
       cases b with
       | true => rfl
       | false => exact absurd ⟨q32, rfl⟩ c32
      subst qb
      have q32 := hn32.2 q32
      repeat apply wq
      refine wps_region callOK ?_
      simp [zS, ixc, q32]
      repeat apply wq
      refine wps_cf (by simp [opnd, St.get, zS, q32]) ?_
      repeat apply wq
      refine wps_region callOK ?_
      simp [zS, add_one (show i ≤ 1000000000 by omega), slc, hcat]
      repeat apply wq
      refine wps_region callOK ?_
      simp [zS, add_one (show i ≤ 1000000000 by omega)]
      exact nx _ _ 6 ks0 _ hst rfl pok0 hz0
     ·have q32 : ¬ (c.toNat : Int) = 32 := fun e => q32 (hn32.1 e)
      repeat apply wq
      refine wps_region callOK ?_
      simp [zS, ixc, q32]
      repeat apply wq
      refine wps_cf (by simp [opnd, St.get, zS, q32]) ?_
      repeat apply wq
      refine wps_region callOK ?_
      simp [zS, add_one (show i ≤ 1000000000 by omega), slc, hcat]
      repeat apply wq
      refine wps_region callOK ?_
      simp [zS, add_one (show i ≤ 1000000000 by omega)]
      exact nx _ _ 6 ks0 _ hst rfl pok0 hz0
  ·have hc : ¬ (i : Int) < (s.length : Int) := by omega
   repeat apply wq
   refine wps_region callOK ?_
   simp [zS, hc]
   repeat apply wq
   refine wps_cf (by simp [opnd, St.get, zS, h]) ?_
   repeat apply wq
   refine wps_exit ?_
   simp
   obtain rfl : i = s.length := by omega
   generalize (refS numR s s.length).q = q at *
   repeat apply wq
   refine .fit [(0, 0), (1, 1)] (frzP q ks0) (s' := (⟨[0, 2, 3, 4, 5, 6, 7, 8], [.str s, .ptr 0 0, .undef, .ptr 1 0, .undef, .undef, .undef, .undef], [], 48, ⟨2, [[(0, .cells Z0), (1, .cells (polC q))]]⟩⟩ : St)) ⟨rfl, rfl, rfl, by simp [fitL, fitV, lookN, pureV], fit_pol pok0 (by simp [kids_, ks0]) rfl⟩ ?_
   clear hfew tk f1 f2 f3 hst
   have pA : polA q = .agg (polC q) := rfl
   have hpC := pol_pureC q
   have hsub : subL 0 11 (polC q) = some (polC q) := rfl
   have hsg : allSingle (polC q) = true := by simp [polC, allSingle, AV.single]
   have hl11 : (polC q).length = 11 := rfl
   have hrf : (polC q).flatMap (refs 6) = [] := by simp [polC, refs]
   have hly : ∀ D : List AV, D.length = 11 → layL (polC q) 0 D = some (polC q) := fun D hD => by
    have := overL_app (b := D) (b' := polC q) (c := []) (by rw [hD]; rfl)
    simpa [layL] using this
   have hlz : layL (polC q) 0 Z0 = some (polC q) := hly Z0 rfl
   unfold parsA
   rw [pA] at kp ⊢
   generalize printV q = t at *
   generalize polC q = C at *
   have hz : buildA Tryz.prog 24 [] = some (.agg Z0) := rfl
   by_cases h0 : s = []
   ·rw [if_pos (.inl h0)]
    repeat apply wq
    refine wps_region callOK ?_
    simp [zS, h0, hsub]
    repeat apply wq
    refine wps_ct (by simp [opnd, St.get, zS]) ?_
    repeat apply wq
    refine wps_region callOK ?_
    simp [zS, hz, layL, overL, subL, takeL]
    repeat apply wq
    refine wps_ret ?_
    simp [retVal, Tryz.f8, oneOr, subL, takeL, readCells, Heap.get, getFs, getF]
    refine ⟨[], [], ?_, FitH.empty⟩
    simp [fitV, fitL, polA, polC, pol0, aStrs, pureV]
   ·by_cases hp : t = s
    ·rw [if_neg (by simp [h0, hp])]
     repeat apply wq
     refine wps_region callOK ?_
     simp [zS, h0, hsub, kp, hp]
     repeat apply wq
     refine wps_cf (by simp [opnd, St.get, zS]) ?_
     repeat apply wq
     refine wps_skip ?_
     simp
     repeat apply wq
     refine wps_region callOK ?_
     simp [zS, hsub, hsg, hl11, hlz, hrf]
     repeat apply wq
     refine wps_ret ?_
     simp [retVal, Tryz.f8, oneOr, hsub, readCells, Heap.get, getFs, getF]
     exact ⟨[], [], fitV_pure (by simp [pureV, pureL, hpC]), FitH.empty⟩
    ·rw [if_pos (.inr hp)]
     repeat apply wq
     refine wps_region callOK ?_
     simp [zS, h0, hsub, kp, hp]
     repeat apply wq
     refine wps_ct (by simp [opnd, St.get, zS]) ?_
     repeat apply wq
     refine wps_region callOK ?_
     simp [zS, hz, layL, overL, subL, takeL]
     repeat apply wq
     refine wps_ret ?_
     simp [retVal, Tryz.f8, oneOr, subL, takeL, readCells, Heap.get, getFs, getF]
     refine ⟨[], [], ?_, FitH.empty⟩
     simp [fitV, fitL, polA, polC, pol0, aStrs, pureV]
theorem idxB (s : Str) (c : UInt8) : (Lib.indexByte s c = -1 ∧ c ∉ s) ∨ ∃ k, k < s.length ∧ Lib.indexByte s c = (k : Int) ∧ s[k]? = some c ∧ c ∉ s.take k := by
 have h := Lib.indexByte_ge s c
 by_cases h1 : Lib.indexByte s c = -1
 ·refine .inl ⟨h1, fun hm => ?_⟩
  obtain ⟨k, hk⟩ := List.mem_iff_getElem?.1 hm
  exact Lib.indexByte_none h1 k hk
 ·obtain ⟨k, hk⟩ := Int.eq_ofNat_of_zero_le (show 0 ≤ Lib.indexByte s c by omega)
  obtain ⟨h2, h3⟩ := Lib.indexByte_some hk
  have hlt : k < s.length := (List.getElem?_eq_some_iff.1 h2).1
  refine .inr ⟨k, hlt, hk, h2, fun hm => ?_⟩
  obtain ⟨j, hj⟩ := List.mem_iff_getElem?.1 hm
  rw [List.getElem?_take] at hj
  split at hj
  ·rename_i hjk
   exact h3 j hjk hj
  ·cases hj
theorem idxB_at {s : Str} {c : UInt8} {a b : Str} (h : s = a ++ c :: b) (hn : c ∉ a) : Lib.indexByte s c = (a.length : Int) := by
 rcases idxB s c with ⟨h1, h2⟩ | ⟨k, h1, h2, h3, h4⟩
 ·exact absurd (by rw [h]; simp) h2
 ·rw [h2]
  congr 1
  rcases Nat.lt_trichotomy k a.length with hk | hk | hk
  ·rw [h, List.getElem?_append_left hk] at h3
   exact absurd (List.mem_of_getElem? h3) hn
  ·exact hk
  ·refine absurd ?_ h4
   rw [h, List.take_append, List.mem_append]
   refine .inr ?_
   obtain ⟨d, hd⟩ : ∃ d, k - a.length = d + 1 := ⟨k - a.length - 1, by omega⟩
   rw [hd]; simp
def cutW (l : Str) : Str × Str := if 0 ≤ Lib.indexByte l 32 then (l.take (Lib.indexByte l 32).toNat, l.drop ((Lib.indexByte l 32).toNat + 1)) else (l, [])
def sufB (s t : Str) : Bool := decide (t.length ≤ s.length) && decide (s.drop (s.length - t.length) = t)
def trimV (s t : Str) : Str := if sufB s t = true then s.take (s.length - t.length) else s
theorem c40 {T : List (Entry Tryz.prog)} (s t : Str) (hs : s.length ≤ 1000000000) : CallAt (ctx T) 40 [.str s, .str t] ⟨0, []⟩ (.bool (sufB s t)) ⟨0, []⟩ := by
 by_cases h : t.length ≤ s.length
 ·have hc : (t.length : Int) ≤ (s.length : Int) := by omega
  obtain ⟨d, hd⟩ : ∃ d, d = s.length - t.length := ⟨_, rfl⟩
  have hw : wr .i64 ((s.length : Int) - (t.length : Int)) = some (d : Int) := by
   have : (s.length : Int) - (t.length : Int) = (d : Int) := by omega
   rw [this]; exact wr_small (by omega) (by omega)
  have hsl := fun H => slStr (H := H) (s := s) (i := d) (by omega)
  have e : sufB s t = decide (s.drop d = t) := by unfold sufB; rw [decide_eq_true h, hd]; simp
  rw [e]
  refine callAt_body (fn := Tryz.f40) (s0 := ⟨[0, 1, 4], [.str s, .str t, .undef], [], 21, ⟨0, [[]]⟩⟩) Tryz.func40 rfl rfl rfl ?_
  repeat apply wq
  refine wps_region callOK ?_
  simp [zS]
  repeat apply wq
  refine wps_region callOK ?_
  simp [zS, hc, hw, hsl]
  repeat apply wq
  refine wps_ret ?_
  simp [retVal, Tryz.f40, oneOr, thenQ, blockQ]
  exact ends_pure rfl (by rfl)
 ·have hc : ¬ (t.length : Int) ≤ (s.length : Int) := by omega
  have e : sufB s t = false := by unfold sufB; rw [decide_eq_false h]; simp
  rw [e]
  refine callAt_body (fn := Tryz.f40) (s0 := ⟨[0, 1, 4], [.str s, .str t, .undef], [], 21, ⟨0, [[]]⟩⟩) Tryz.func40 rfl rfl rfl ?_
  repeat apply wq
  refine wps_region callOK ?_
  simp [zS]
  repeat apply wq
  refine wps_region callOK ?_
  simp [zS, hc]
  repeat apply wq
  refine wps_ret ?_
  simp [retVal, Tryz.f40, oneOr, thenQ, blockQ]
  exact ends_pure rfl (by rfl)
noncomputable def e40 : Entry Tryz.prog := mkE 40 [[], []] (fun x : Str × Str => [.str x.1, .str x.2]) (fun x => x.1.length ≤ 1000000000) (fun x => .bool (sufB x.1 x.2)) fun x h => c40 (T := []) x.1 x.2 h
theorem k40 {T : List (Entry Tryz.prog)} (hT : findE 40 T = some e40.g) (s t : Str) (hs : s.length ≤ 1000000000) (H : Heap) : callL (ctx T) (.fn 40) [.str s, .str t] H = some (.bool (sufB s t), H) :=
 mkE_scalar hT inj_str2 (s, t) hs rfl (by simp)
theorem c17 {T : List (Entry Tryz.prog)} (hI : findE 40 T = some e40.g) (s t : Str) (hs : s.length ≤ 1000000000) : CallAt (ctx T) 17 [.str s, .str t] ⟨0, []⟩ (.bool (sufB s t)) ⟨0, []⟩ := by
 have hk := fun H => k40 hI s t hs H
 generalize sufB s t = b at *
 refine callAt_body (fn := Tryz.f17) (s0 := ⟨[0, 1, 4], [.str s, .str t, .undef], [], 8, ⟨0, [[]]⟩⟩) Tryz.func17 rfl rfl rfl ?_
 (repeat (first
  | (refine wps_seq ?_)
  | (refine wps_block ?_)
  | (refine wps_label ?_; simp only [thenQ, blockQ])
  | ((refine wps_region callOK ?_); simp [zS, hk])
  | (refine wps_ct rfl ?_)
  | (refine wps_cf rfl ?_)
  | ((refine wps_skip ?_); simp only [thenQ, blockQ])
  | ((refine wps_exit ?_); simp [thenQ, blockQ])))
 repeat apply wq
 refine wps_ret ?_
 simp [retVal, Tryz.f17, oneOr, thenQ, blockQ]
 exact ends_pure rfl (by rfl)
noncomputable def e17 : Entry Tryz.prog := mkE 17 [[], []] (fun x : Str × Str => [.str x.1, .str x.2]) (fun x => x.1.length ≤ 1000000000) (fun x => .bool (sufB x.1 x.2)) fun x h => c17 (T := [e40]) rfl x.1 x.2 h
theorem k17 {T : List (Entry Tryz.prog)} (hT : findE 17 T = some e17.g) (s t : Str) (hs : s.length ≤ 1000000000) (H : Heap) : callL (ctx T) (.fn 17) [.str s, .str t] H = some (.bool (sufB s t), H) :=
 mkE_scalar hT inj_str2 (s, t) hs rfl (by simp)
theorem c44 {T : List (Entry Tryz.prog)} (hI : findE 40 T = some e40.g) (s t : Str) (hs : s.length ≤ 1000000000) : CallAt (ctx T) 44 [.str s, .str t] ⟨0, []⟩ (.str (trimV s t)) ⟨0, []⟩ := by
 have hk := fun H => k40 hI s t hs H
 rcases Bool.eq_false_or_eq_true (sufB s t) with hb | hb
 ·have hle : t.length ≤ s.length := by
   unfold sufB at hb
   simp at hb
   exact hb.1
  obtain ⟨d, hd⟩ : ∃ d, d = s.length - t.length := ⟨_, rfl⟩
  have hw : wr .i64 ((s.length : Int) - (t.length : Int)) = some (d : Int) := by
   have : (s.length : Int) - (t.length : Int) = (d : Int) := by omega
   rw [this]; exact wr_small (by omega) (by omega)
  have hsl := fun H => slStrTo (H := H) (s := s) (j := d) (by omega)
  have e : trimV s t = s.take d := by unfold trimV; rw [if_pos hb, hd]
  rw [e]
  rw [hb] at hk
  refine callAt_body (fn := Tryz.f44) (s0 := ⟨[0, 1, 4], [.str s, .str t, .undef], [], 16, ⟨0, [[]]⟩⟩) Tryz.func44 rfl rfl rfl ?_
  repeat apply wq
  refine wps_region callOK ?_
  simp [zS]
  repeat apply wq
  refine wps_region callOK ?_
  simp [zS, hk]
  repeat apply wq
  refine wps_ct rfl ?_
  repeat apply wq
  refine wps_region callOK ?_
  simp [zS, hw, hsl]
  repeat apply wq
  refine wps_ret ?_
  simp [retVal, Tryz.f44, oneOr, thenQ, blockQ]
  exact ends_pure rfl (by rfl)
 ·have e : trimV s t = s := by unfold trimV; rw [if_neg (by simp [hb])]
  rw [e]
  rw [hb] at hk
  refine callAt_body (fn := Tryz.f44) (s0 := ⟨[0, 1, 4], [.str s, .str t, .undef], [], 16, ⟨0, [[]]⟩⟩) Tryz.func44 rfl rfl rfl ?_
  repeat apply wq
  refine wps_region callOK ?_
  simp [zS]
  repeat apply wq
  refine wps_region callOK ?_
  simp [zS, hk]
  repeat apply wq
  refine wps_cf rfl ?_
  repeat apply wq
  refine wps_skip ?_
  simp
  repeat apply wq
  refine wps_region callOK ?_
  simp [zS]
  repeat apply wq
  refine wps_ret ?_
  simp [retVal, Tryz.f44, oneOr, thenQ, blockQ]
  exact ends_pure rfl (by rfl)
noncomputable def e44 : Entry Tryz.prog := mkE 44 [[], []] (fun x : Str × Str => [.str x.1, .str x.2]) (fun x => x.1.length ≤ 1000000000) (fun x => .str (trimV x.1 x.2)) fun x h => c44 (T := [e40]) rfl x.1 x.2 h
theorem k44 {T : List (Entry Tryz.prog)} (hT : findE 44 T = some e44.g) (s t : Str) (hs : s.length ≤ 1000000000) (H : Heap) : callL (ctx T) (.fn 44) [.str s, .str t] H = some (.str (trimV s t), H) :=
 mkE_scalar hT inj_str2 (s, t) hs rfl (by simp)
theorem c20 {T : List (Entry Tryz.prog)} (hI : findE 44 T = some e44.g) (s t : Str) (hs : s.length ≤ 1000000000) : CallAt (ctx T) 20 [.str s, .str t] ⟨0, []⟩ (.str (trimV s t)) ⟨0, []⟩ := by
 have hk := fun H => k44 hI s t hs H
 generalize trimV s t = b at *
 refine callAt_body (fn := Tryz.f20) (s0 := ⟨[0, 1, 4], [.str s, .str t, .undef], [], 8, ⟨0, [[]]⟩⟩) Tryz.func20 rfl rfl rfl ?_
 (repeat (first
  | (refine wps_seq ?_)
  | (refine wps_block ?_)
  | (refine wps_label ?_; simp only [thenQ, blockQ])
  | ((refine wps_region callOK ?_); simp [zS, hk])
  | (refine wps_ct rfl ?_)
  | (refine wps_cf rfl ?_)
  | ((refine wps_skip ?_); simp only [thenQ, blockQ])
  | ((refine wps_exit ?_); simp [thenQ, blockQ])))
 repeat apply wq
 refine wps_ret ?_
 simp [retVal, Tryz.f20, oneOr, thenQ, blockQ]
 exact ends_pure rfl (by rfl)
noncomputable def e20 : Entry Tryz.prog := mkE 20 [[], []] (fun x : Str × Str => [.str x.1, .str x.2]) (fun x => x.1.length ≤ 1000000000) (fun x => .str (trimV x.1 x.2)) fun x h => c20 (T := [e44]) rfl x.1 x.2 h
theorem k20 {T : List (Entry Tryz.prog)} (hT : findE 20 T = some e20.g) (s t : Str) (hs : s.length ≤ 1000000000) (H : Heap) : callL (ctx T) (.fn 20) [.str s, .str t] H = some (.str (trimV s t), H) :=
 mkE_scalar hT inj_str2 (s, t) hs rfl (by simp)
theorem c70b {T : List (Entry Tryz.prog)} (s : Str) : CallAt (ctx T) 70 [.str s, .str [32]] ⟨0, []⟩ (.int .i64 (Lib.indexByte s 32)) ⟨0, []⟩ := by
 have hk : CallAt (ctx T) 69 [.str s, .int .u8 32] ⟨0, [[]]⟩ (.int .i64 (Lib.indexByte s 32)) ⟨0, [[]]⟩ := (c69 (T := T) s 32).lift (by simp [pureL, pureV]) ⟨0, [[]]⟩
 have ix : indexA Tryz.prog 9 (.str [32]) (.int .i64 0) = some (.int .u8 32) := rfl
 by_cases hs : [32] = s
 ·have e : Lib.indexByte s 32 = 0 := by rw [← hs]; rfl
  rw [e]
  refine callAt_body (fn := Tryz.f70) (s0 := ⟨[0, 1, 4, 5, 6, 7, 8, 9, 10, 11, 12, 13], [.str s, .str [32], .undef, .undef, .undef, .undef, .undef, .undef, .undef, .undef, .undef, .undef], [], 143, ⟨0, [[]]⟩⟩) Tryz.func70 rfl rfl rfl ?_
  repeat apply wq
  refine wps_region callOK ?_
  simp [zS]
  repeat apply wq
  refine wps_region callOK ?_
  simp [zS]
  repeat apply wq
  refine wps_block ?_
  repeat apply wq
  refine wps_region callOK ?_
  simp [zS, hs]
  repeat apply wq
  refine wps_ct (by simp [opnd, St.get, zS, hs]) ?_
  repeat apply wq
  refine wps_region callOK ?_
  simp [zS]
  repeat apply wq
  refine wps_ret ?_
  simp [retVal, Tryz.f70, oneOr, thenQ, blockQ]
  exact ends_pure rfl (by rfl)
 generalize Lib.indexByte s 32 = v at *
 refine callAt_body (fn := Tryz.f70) (s0 := ⟨[0, 1, 4, 5, 6, 7, 8, 9, 10, 11, 12, 13], [.str s, .str [32], .undef, .undef, .undef, .undef, .undef, .undef, .undef, .undef, .undef, .undef], [], 143, ⟨0, [[]]⟩⟩) Tryz.func70 rfl rfl rfl ?_
 repeat apply wq
 refine wps_region callOK ?_
 simp [zS]
 repeat apply wq
 refine wps_region callOK ?_
 simp [zS]
 repeat apply wq
 refine wps_block ?_
 repeat apply wq
 refine wps_region callOK ?_
 simp [zS, hs]
 repeat apply wq
 refine wps_cf (by simp [opnd, St.get, zS, hs]) ?_
 repeat apply wq
 refine wps_region callOK ?_
 simp [zS]
 repeat apply wq
 refine wps_ct rfl ?_
 repeat apply wq
 refine wps_region (callOKF [⟨69, _, _, _, _, hk⟩]) ?_
 simp [zS, callF, ix]
 repeat apply wq
 refine wps_ret ?_
 simp [retVal, Tryz.f70, oneOr, thenQ, blockQ]
 exact ends_pure rfl (by rfl)
theorem c43b {T : List (Entry Tryz.prog)} (s : Str) (hs : s.length ≤ 1000000000) : CallAt (ctx T) 43 [.str s, .str [32]] ⟨0, []⟩ (.tup [.str (cutW s).1, .str (cutW s).2, .bool (decide (0 ≤ Lib.indexByte s 32))]) ⟨0, []⟩ := by
 have hk := (c70b (T := T) s).lift (by simp [pureL, pureV]) ⟨0, [[]]⟩
 rcases idxB s 32 with ⟨h1, _⟩ | ⟨k, hlt, h1, _⟩
 ·have e : cutW s = (s, []) := by unfold cutW; rw [h1]; rfl
  rw [e, h1]
  rw [h1] at hk
  refine callAt_body (fn := Tryz.f43) (s0 := ⟨[0, 1, 4, 5, 6, 7], [.str s, .str [32], .undef, .undef, .undef, .undef], [], 23, ⟨0, [[]]⟩⟩) Tryz.func43 rfl rfl rfl ?_
  repeat apply wq
  refine wps_region callOK ?_
  simp [zS]
  repeat apply wq
  refine wps_region (callOKF [⟨70, _, _, _, _, hk⟩]) ?_
  simp [zS, callF]
  repeat apply wq
  refine wps_region callOK ?_
  simp [zS]
  repeat apply wq
  refine wps_cf rfl ?_
  repeat apply wq
  refine wps_skip ?_
  simp
  repeat apply wq
  refine wps_region callOK ?_
  simp [zS]
  repeat apply wq
  refine wps_ret ?_
  simp [retVal, Tryz.f43, oneOr, thenQ, blockQ]
  exact ends_pure rfl (by simp)
 ·have c0 : (0 : Int) ≤ (k : Int) := by omega
  have e : cutW s = (s.take k, s.drop (k + 1)) := by unfold cutW; rw [h1, if_pos c0]; rfl
  have hw : wr .i64 ((k : Int) + 1) = some ((k + 1 : Nat) : Int) := add_one (by omega)
  have s1 := fun H => slStrTo (H := H) (s := s) (j := k) (by omega)
  have s2 := fun H => slStr (H := H) (s := s) (i := k + 1) (by omega)
  rw [e, h1]
  rw [h1] at hk
  generalize s.take k = a at *
  generalize s.drop (k + 1) = b at *
  simp only [Int.natCast_add, Int.natCast_one] at s2 hw
  refine callAt_body (fn := Tryz.f43) (s0 := ⟨[0, 1, 4, 5, 6, 7], [.str s, .str [32], .undef, .undef, .undef, .undef], [], 23, ⟨0, [[]]⟩⟩) Tryz.func43 rfl rfl rfl ?_
  repeat apply wq
  refine wps_region callOK ?_
  simp [zS]
  repeat apply wq
  refine wps_region (callOKF [⟨70, _, _, _, _, hk⟩]) ?_
  simp [zS, callF]
  repeat apply wq
  refine wps_region callOK ?_
  simp [zS, c0]
  repeat apply wq
  refine wps_ct (by simp [opnd, St.get, zS]) ?_
  repeat apply wq
  refine wps_drawK mixed callOK (by decide +kernel) (by decide +kernel) ?_
  simp [zS, evalK_c, evalK_nil, thenK_some, hw, s1, s2]
  repeat apply wq
  refine wps_ret ?_
  simp [retVal, Tryz.f43, oneOr, thenQ, blockQ]
  exact ends_pure rfl (by simp)
noncomputable def e43 : Entry Tryz.prog := mkE 43 [[], []] (fun x : Str => [.str x, .str [32]]) (fun x => x.length ≤ 1000000000) (fun x => .tup [.str (cutW x).1, .str (cutW x).2, .bool (decide (0 ≤ Lib.indexByte x 32))]) fun x h => c43b (T := []) x h
theorem inj_s32 (x y : Str) (h : [AV.str x, AV.str [32]] = [AV.str y, AV.str [32]]) : x = y := by simpa using h
theorem k43 {T : List (Entry Tryz.prog)} (hT : findE 43 T = some e43.g) (s : Str) (hs : s.length ≤ 1000000000) (H : Heap) : callL (ctx T) (.fn 43) [.str s, .str [32]] H = some (.tup [.str (cutW s).1, .str (cutW s).2, .bool (decide (0 ≤ Lib.indexByte s 32))], H) :=
 mkE_pure hT inj_s32 s hs rfl (by simp) H
theorem c19b {T : List (Entry Tryz.prog)} (hI : findE 43 T = some e43.g) (s : Str) (hs : s.length ≤ 1000000000) : CallAt (ctx T) 19 [.str s, .str [32]] ⟨0, []⟩ (.tup [.str (cutW s).1, .str (cutW s).2, .bool (decide (0 ≤ Lib.indexByte s 32))]) ⟨0, []⟩ := by
 have hk := fun H => k43 hI s hs H
 generalize decide (0 ≤ Lib.indexByte s 32) = v at *
 generalize cutW s = d at *
 obtain ⟨a, b⟩ := d
 refine callAt_body (fn := Tryz.f19) (s0 := ⟨[0, 1, 4, 5, 6], [.str s, .str [32], .undef, .undef, .undef], [], 13, ⟨0, [[]]⟩⟩) Tryz.func19 rfl rfl rfl ?_
 repeat apply wq
 refine wps_region callOK ?_
 simp [zS]
 repeat apply wq
 refine wps_region callOK ?_
 simp [zS, hk]
 repeat apply wq
 refine wps_ret ?_
 simp [retVal, Tryz.f19, oneOr, thenQ, blockQ]
 exact ends_pure rfl (by rfl)
noncomputable def e19 : Entry Tryz.prog := mkE 19 [[], []] (fun x : Str => [.str x, .str [32]]) (fun x => x.length ≤ 1000000000) (fun x => .tup [.str (cutW x).1, .str (cutW x).2, .bool (decide (0 ≤ Lib.indexByte x 32))]) fun x h => c19b (T := [e43]) rfl x h
theorem k19 {T : List (Entry Tryz.prog)} (hT : findE 19 T = some e19.g) (s : Str) (hs : s.length ≤ 1000000000) (H : Heap) : callL (ctx T) (.fn 19) [.str s, .str [32]] H = some (.tup [.str (cutW s).1, .str (cutW s).2, .bool (decide (0 ≤ Lib.indexByte s 32))], H) :=
 mkE_pure hT inj_s32 s hs rfl (by simp) H
theorem app_byte {m n t wb : Nat} {ty : TypeId} {a : AV} {b : Bs} {cs : List AV} {g : List (Nat × Blk)} (h : Wok m wb b cs g) (d : UInt8) (ht : m ≤ t) (hl : b.out.length + 1 ≤ 1000000000) :
  appendA Tryz.prog ⟨n, [[(t, .cells [.int .u8 d.toNat])], WF wb ty a b cs g]⟩ 5 (bV b) (.slc t 0 1 (.ex 1)) =
   some (.slc n 0 (b.out.length + 1) (.rest 1), ⟨n + 1, [[(n, .buf 5 (if b.out = [] then 0 else b.out.length) (bytesAV (b.out ++ [d]))), (t, .cells [.int .u8 d.toNat])], (wb, .obj ty (a :: bV b :: cs)) :: g]⟩) := by
 have hsz : sizeT Tryz.prog 5 = some 1 := szT5
 have hby : bytesT Tryz.prog 5 = some 1 := byT5
 have hz : zeroOf Tryz.prog 5 = some (.int .u8 0) := zeT5
 have hroom : ∀ n, n ≤ 1000000000 → roomOK n 1 = true := fun n hn => by simp [roomOK]; omega
 have c0 : (Nat.beq 1 0 || !(Nat.beq (AV.cells (.int .u8 0)).length 1 && Nat.blt 0 1)) = false := rfl
 have hrow : ∀ cs, rowA Tryz.prog 5 cs = .buf 5 0 cs := fun cs => rfl
 have hx1 : srcLen (.slc t 0 1 (.ex 1)) = some 1 := rfl
 have hx2 : srcCells ⟨n, [[(t, .cells [.int .u8 d.toNat])], WF wb ty a b cs g]⟩ 1 1 (.slc t 0 1 (.ex 1)) = some (bytesAV [d]) := by
  simp [srcCells, readCells, Heap.get, getFs, getF, subL, takeL, bytesAV]
 obtain ⟨k, out⟩ := b
 simp only at hl
 unfold appendA
 simp only [hsz, hby, hz, hx1, Option.bind_some, c0]
 cases out with
 | nil =>
  simp only [bV]
  have hr := hroom 1 (by omega)
  have hcb : Nat.beq (bytesAV [d]).length (1 * 1) = true := rfl
  simp only [hr, hx2, Option.bind_some, hcb, hrow]
  simp [Heap.new, pushF, WF, bV, bF]
 | cons c r =>
  have hkl := (h.hk (by simp)).2
  simp only at hkl
  have htk : Nat.beq t k = false := beqN_ne (by omega)
  have hg : Heap.get ⟨n, [[(t, .cells [.int .u8 d.toNat])], WF wb ty a ⟨k, c :: r⟩ cs g]⟩ k = some (.buf 5 (c :: r).length (bytesAV (c :: r))) := by
   have := WF_b (ty := ty) (a := a) h (by simp)
   simp only [Heap.get, getFs, getF, htk]
   rw [this]
  have hk : knownCells ⟨n, [[(t, .cells [.int .u8 d.toNat])], WF wb ty a ⟨k, c :: r⟩ cs g]⟩ k = some (c :: r).length := by
   unfold knownCells; simp only [hg, Option.bind_some, Blk.rd, bytes_len]
  have hr := hroom ((c :: r).length + 1) hl
  have h1 : Nat.beq 1 1 = true := rfl
  simp only [bV, hx2, Option.bind_some, hr, bytes_single, h1, hk]
  have h2 : Nat.ble (0 + ((c :: r).length + 1) * 1) (c :: r).length = false := by
   rw [← Bool.not_eq_true, Nat.ble_eq]; simp
  have h3 : Nat.beq (0 + (c :: r).length * 1) (c :: r).length = true := by simp
  have h4 : readCells ⟨n, [[(t, .cells [.int .u8 d.toNat])], WF wb ty a ⟨k, c :: r⟩ cs g]⟩ k 0 ((c :: r).length * 1) = some (bytesAV (c :: r)) := by
   unfold readCells
   simp only [hg, Option.bind_some, Blk.rd, subL, List.drop_zero, Nat.mul_one]
   rw [← bytes_len (c :: r)]
   exact takeL_all _
  have h5 : Nat.beq (bytesAV [d]).length (1 * 1) = true := rfl
  have h6 : goOn (.buf 5 (c :: r).length (bytesAV (c :: r))) 5 0 (bytesAV (c :: r) ++ bytesAV [d]) = some (.buf 5 (c :: r).length (bytesAV (c :: r) ++ bytesAV [d])) := rfl
  simp only [h2, h3, h4, h5, Option.bind_some, hg, h6]
  have hd : Heap.drop ⟨n, [[(t, .cells [.int .u8 d.toNat])], WF wb ty a ⟨k, c :: r⟩ cs g]⟩ k = ⟨n, [[(t, .cells [.int .u8 d.toNat])], (wb, .obj ty (a :: bV ⟨k, c :: r⟩ :: cs)) :: g]⟩ := by
   have hkw := (h.hk (by simp)).1
   simp only [List.mem_cons, not_or] at hkw
   have e1 : Nat.beq wb k = false := beqN_ne fun e => hkw.1 e.symm
   simp [Heap.drop, killFs, getF, WF, e1, bF, killF, htk]
  rw [hd, ← bytes_app]
  simp [Heap.new, pushF, bV]
theorem fit_newF {f : List (Nat × Blk)} {m n c wb fz : Nat} {ty : TypeId} {out : Str} {b0 : Bs} {cs : List AV} {g : List (Nat × Blk)} (h : Wok m wb b0 cs g) (hc : m ≤ c) (hne : out ≠ []) (hfz : fz ≤ out.length) (hf : ∀ i, i < m → getF i f = none) (hfc : getF c f = none) :
  FitH m ((c, m) :: idn m) [] ⟨n, [f, (c, .buf 5 fz (bytesAV out)) :: (wb, .obj ty (.ptr wb 0 :: .slc c 0 out.length (.rest 1) :: cs)) :: g]⟩ ⟨m + 1, [WF wb ty (.ptr wb 0) ⟨m, out⟩ cs g]⟩ := by
 have hw : Nat.beq c wb = false := beqN_ne (by have := h.lw; omega)
 have hbv : bV ⟨c, out⟩ = .slc c 0 out.length (.rest 1) := bV_ne (b := ⟨c, out⟩) hne
 have idl := idl_cons (m := m) (k := c) (k' := m) hc
 refine fitWr (kc := c) (k' := m) (fz := fz) (out := out) (O := .obj ty (.ptr wb 0 :: .slc c 0 out.length (.rest 1) :: cs)) (.inr ⟨rfl, rfl, hc⟩) (by omega) h.lw h.lg h.nd (fun _ hx => ?_) (by simp [Heap.get, getFs, getF, hw, hf wb h.lw]) ?_ (fun _ => by simp [Heap.get, getFs, getF, hfc]) hfz (fun e he => ⟨?_, h.sg e he⟩)
 ·rcases List.mem_cons.1 hx with hx | hx
  ·have := h.lw; omega
  ·obtain ⟨e, he, hx⟩ := List.mem_map.1 hx
   have := h.lg e he; omega
 ·rw [← hbv]
  exact fit_obj (idl _ h.lw) (fun _ => by simp [lookN]) (h.sc _ idl)
 ·have nd := h.nd
  rw [List.nodup_cons] at nd
  have e1 : Nat.beq wb e.1 = false := beqN_ne fun x => nd.1 (List.mem_map.2 ⟨e, he, x.symm⟩)
  have e2 : Nat.beq c e.1 = false := beqN_ne (by have := h.lg e he; omega)
  have := get_of_mem (fs := [g]) (b := e.1) (k := e.2) (by simpa using nd.2) (by simpa using he)
  simp only [getFs] at this
  simp only [Heap.get, getFs, getF, e1, e2, hf e.1 (h.lg e he)]
  exact this
theorem c26 {T : List (Entry Tryz.prog)} (hE : findE 82 T = some e82.g) {m wb : Nat} {ty : TypeId} {a : AV} {b : Bs} {cs : List AV} {g : List (Nat × Blk)} (h : Wok m wb b cs g) (ha : a = .nilP ∨ a = .ptr wb 0)
  (hl : liesAt Tryz.prog Tryz.prog.depth ty ((cs.length + 1 + 1) / Tryz.prog.cellsOf ty) 0 49 1 = true) (d : UInt8) (hs : b.out.length + 1 ≤ 1000000000) :
  CallAt (ctx T) 26 [.ptr wb 0, .int .u8 d.toNat] ⟨m, [WF wb ty a b cs g]⟩ .nilI ⟨m + 1, [WF wb ty (.ptr wb 0) (upd m b [d]) cs g]⟩ := by
 have hcc := (c58 (T := T) hE h ha hl).perm (H2 := ⟨m, [[], WF wb ty a b cs g]⟩) (H2' := ⟨m + 1, [[], WF wb ty (.ptr wb 0) b cs g]⟩) rfl rfl (by simp [Heap.ents]) (by simp [Heap.ents])
 have happ := app_byte (n := m + 2) (t := m + 1) (ty := ty) (a := .ptr wb 0) h d (by omega) hs
 have hO : ∀ n, Heap.get ⟨n, [[], WF wb ty (.ptr wb 0) b cs g]⟩ wb = some (.obj ty (.ptr wb 0 :: bV b :: cs)) := fun n => by simp [Heap.get, getFs, getF, WF_o]
 have hbw : Nat.beq (m + 2) wb = false := beqN_ne (by have := h.lw; omega)
 have hbw1 : Nat.beq (m + 1) wb = false := beqN_ne (by have := h.lw; omega)
 have pr := prom2 (wb := wb) (c := m + 2) (k := .buf 5 (if b.out = [] then 0 else b.out.length) (bytesAV (b.out ++ [d]))) (x := (m + 2, .buf 5 (if b.out = [] then 0 else b.out.length) (bytesAV (b.out ++ [d])))) (f1 := [(m + 1, .cells [.int .u8 d.toNat])]) (f2 := (wb, .obj ty (.ptr wb 0 :: bV b :: cs)) :: g) (kb := .obj ty (.ptr wb 0 :: bV b :: cs))
  (by simp [getF, hbw, hbw1]) (by simp [getF]) (by simp [getF]) (refs_bytes _ _ _)
 refine callAt_body (fn := Tryz.f26) (s0 := ⟨[0, 1, 4], [.ptr wb 0, .int .u8 d.toNat, .undef], [], 17, ⟨m, [] :: [WF wb ty a b cs g]⟩⟩) Tryz.func26 rfl rfl rfl ?_
 repeat apply wq
 refine wps_region callOK ?_
 simp [zS]
 repeat apply wq
 refine wps_region (callOKF [⟨58, _, _, _, _, hcc⟩]) ?_
 simp [zS, callF]
 repeat apply wq
 refine wps_region callOK ?_
 simp [zS, WF_o, happ, hbw, hbw1, pr, killF]
 repeat apply wq
 refine wps_region callOK ?_
 simp [zS]
 repeat apply wq
 refine wps_ret ?_
 simp [retVal, Tryz.f26, oneOr]
 refine ⟨(m + 2, m) :: idn m, [], by simp [fitV, pureV], ?_⟩
 have hne : b.out ++ [d] ≠ [] := by simp
 have q : Nat.beq (m + 1) (m + 2) = false := beqN_ne (by omega)
 have := fit_newF (f := [(m + 1, .cells [.int .u8 d.toNat])]) (n := m + 2 + 1) (ty := ty) (c := m + 2) (out := b.out ++ [d]) (fz := if b.out = [] then 0 else b.out.length) h (by omega) hne (by split <;> simp)
  (fun i hi => by have : Nat.beq (m + 1) i = false := beqN_ne (by omega); simp [getF, this]) (by simp [getF, q])
 have hl : (b.out ++ [d]).length = b.out.length + 1 := by simp
 rw [hl] at this
 simpa [upd] using this
theorem liesB : liesAt Tryz.prog Tryz.prog.depth 49 ((([] : List AV).length + 1 + 1) / Tryz.prog.cellsOf 49) 0 49 1 = true := by
 show liesAt Tryz.prog Tryz.prog.depth 49 (2 / Tryz.prog.cellsOf 49) 0 49 1 = true
 decide +kernel
abbrev WB (wb : Nat) (a : AV) (b : Bs) : List (Nat × Blk) := WF wb 49 a b [] []
theorem c24 {T : List (Entry Tryz.prog)} (hE : findE 82 T = some e82.g) {m wb : Nat} {a : AV} {b : Bs} (h : Wok m wb b [] []) (ha : a = .nilP ∨ a = .ptr wb 0) (w x : Str) (hs : b.out.length + w.length + x.length ≤ 900000000) :
  CallAt (ctx T) 24 [.str w, .str x, .ptr wb 0] ⟨m, [WB wb a b]⟩ (.tup []) ⟨m + 1, [WB wb (.ptr wb 0) ⟨m, b.out ++ lineP w x⟩]⟩ := by
 obtain ⟨b1, hb1⟩ : ∃ b1, b1 = upd m b w := ⟨_, rfl⟩
 obtain ⟨b2, hb2⟩ : ∃ b2, b2 = upd (m + 1) b1 [32] := ⟨_, rfl⟩
 obtain ⟨b3, hb3⟩ : ∃ b3, b3 = upd (m + 1 + 1) b2 x := ⟨_, rfl⟩
 obtain ⟨b4, hb4⟩ : ∃ b4, b4 = upd (m + 1 + 1 + 1) b3 [10] := ⟨_, rfl⟩
 have w1 : Wok (m + 1) wb b1 [] [] := hb1 ▸ h.upd w
 have w2 : Wok (m + 1 + 1) wb b2 [] [] := hb2 ▸ w1.upd [32]
 have w3 : Wok (m + 1 + 1 + 1) wb b3 [] [] := hb3 ▸ w2.upd x
 have w4 : Wok (m + 1 + 1 + 1 + 1) wb b4 [] [] := hb4 ▸ w3.upd [10]
 have o1 : b1.out = b.out ++ w := by rw [hb1, upd_out]
 have o2 : b2.out = b.out ++ w ++ [32] := by rw [hb2, upd_out, o1]
 have o3 : b3.out = b.out ++ w ++ [32] ++ x := by rw [hb3, upd_out, o2]
 have o4 : b4.out = b.out ++ lineP w x := by rw [hb4, upd_out, o3]; simp [lineP]
 have k4 : b4.k = m + 1 + 1 + 1 := by rw [hb4]; rfl
 have f1 := (c25 (T := T) (ty := 49) (a := a) hE h ha liesB w (by omega)).perm (H2 := ⟨m, [[], WB wb a b]⟩) (H2' := ⟨m + 1, [[], WB wb (.ptr wb 0) b1]⟩) rfl rfl (by simp [Heap.ents]) (by simp [Heap.ents, hb1])
 have f2 := (c26 (T := T) (ty := 49) (a := .ptr wb 0) hE w1 (.inr rfl) liesB 32 (by rw [o1]; simp; omega)).perm (H2 := ⟨m + 1, [[], WB wb (.ptr wb 0) b1]⟩) (H2' := ⟨m + 1 + 1, [[], WB wb (.ptr wb 0) b2]⟩) rfl rfl (by simp [Heap.ents]) (by simp [Heap.ents, hb2])
 have f3 := (c25 (T := T) (ty := 49) (a := .ptr wb 0) hE w2 (.inr rfl) liesB x (by rw [o2]; simp; omega)).perm (H2 := ⟨m + 1 + 1, [[], WB wb (.ptr wb 0) b2]⟩) (H2' := ⟨m + 1 + 1 + 1, [[], WB wb (.ptr wb 0) b3]⟩) rfl rfl (by simp [Heap.ents]) (by simp [Heap.ents, hb3])
 have f4 := (c26 (T := T) (ty := 49) (a := .ptr wb 0) hE w3 (.inr rfl) liesB 10 (by rw [o3]; simp; omega)).perm (H2 := ⟨m + 1 + 1 + 1, [[], WB wb (.ptr wb 0) b3]⟩) (H2' := ⟨m + 1 + 1 + 1 + 1, [[], WB wb (.ptr wb 0) b4]⟩) rfl rfl (by simp [Heap.ents]) (by simp [Heap.ents, hb4])
 have e32 : ((32 : UInt8).toNat : Int) = 32 := rfl
 have e10 : ((10 : UInt8).toNat : Int) = 10 := rfl
 rw [e32] at f2
 rw [e10] at f4
 refine callAt_body (fn := Tryz.f24) (s0 := ⟨[0, 1, 2], [.str w, .str x, .ptr wb 0], [], 11, ⟨m, [] :: [WB wb a b]⟩⟩) Tryz.func24 rfl rfl rfl ?_
 repeat apply wq
 repeat apply wq
 refine wps_region (callOKF [⟨25, _, _, _, _, f1⟩]) ?_
 simp [zS, callF]
 repeat apply wq
 refine wps_region (callOKF [⟨26, _, _, _, _, f2⟩]) ?_
 simp [zS, callF]
 repeat apply wq
 refine wps_region (callOKF [⟨25, _, _, _, _, f3⟩]) ?_
 simp [zS, callF]
 repeat apply wq
 refine wps_region (callOKF [⟨26, _, _, _, _, f4⟩]) ?_
 simp [zS, callF]
 simp [retVal, Tryz.f24, oneOr]
 have hd := fit_done (ty := 49) (n := m + 1 + 1 + 1 + 1) (f := []) h w4 (by rw [o4]; simp [lineP]) (by omega) (fun _ _ => rfl)
 rw [o4] at hd
 exact ⟨(b4.k, m) :: idn m, [], by simp [fitV, fitL, pureV, pureL], hd⟩
def lsW (p : PolR) : List (Str × List Str) := [(jReserved, p.res), (jElem, p.els), (jAttr, p.ats), (jScheme, p.sch)]
def nsW (p : PolR) : List (Str × Int) := [(jBytes, p.byt), (jNodes, p.nod), (jDeep, p.dep), (jAttrs, p.per), (jLookups, p.loo)]
def accL (p : PolR) (i : Nat) : Str := lineP jPrefix p.pre ++ ((lsW p).take i).flatMap fun x => linesP x.1 x.2
def accN (p : PolR) (i : Nat) : Str := headT p ++ ((nsW p).take i).flatMap fun x => lineP x.1 (Lib.itoa x.2)
theorem accL_end (p : PolR) : accL p 4 = headT p := by simp [accL, headT, lsW]
theorem accN_end (p : PolR) : accN p 5 ++ lineP jUnchanged (yesNo p.unc) = textP p := by simp [accN, textP, tailT, nsW]
theorem accL_step {p : PolR} {i : Nat} (h : i < 4) : accL p (i + 1) = accL p i ++ linesP ((lsW p)[i]'h).1 ((lsW p)[i]'h).2 := by
 unfold accL
 rw [List.take_add_one, List.getElem?_eq_getElem (show i < (lsW p).length from h), List.flatMap_append, List.append_assoc]
 simp
 rfl
theorem accN_step {p : PolR} {i : Nat} (h : i < 5) : accN p (i + 1) = accN p i ++ lineP ((nsW p)[i]'h).1 (Lib.itoa ((nsW p)[i]'h).2) := by
 unfold accN
 rw [List.take_add_one, List.getElem?_eq_getElem (show i < (nsW p).length from h), List.flatMap_append, List.append_assoc]
 simp
 rfl
theorem accL_len {p : PolR} {i : Nat} (h : i ≤ 4) : (accL p i).length ≤ (headT p).length := by
 rw [← accL_end]
 unfold accL
 simp only [List.length_append]
 have e : (lsW p).take 4 = (lsW p).take i ++ ((lsW p).take 4).drop i := by
  have := (List.take_append_drop i ((lsW p).take 4)).symm
  rwa [List.take_take, Nat.min_eq_left h] at this
 rw [e, List.flatMap_append, List.length_append]
 omega
theorem accN_len {p : PolR} {i : Nat} (h : i ≤ 5) : (accN p i).length ≤ (textP p).length := by
 rw [← accN_end]
 unfold accN
 simp only [List.length_append]
 have e : (nsW p).take 5 = (nsW p).take i ++ ((nsW p).take 5).drop i := by
  have := (List.take_append_drop i ((nsW p).take 5)).symm
  rwa [List.take_take, Nat.min_eq_left h] at this
 rw [e, List.flatMap_append, List.length_append]
 omega
theorem lines_part (w : Str) (L : List Str) (j : Nat) : (linesP w (L.take j)).length ≤ (linesP w L).length := by
 have : linesP w L = linesP w (L.take j) ++ linesP w (L.drop j) := by unfold linesP; rw [← List.flatMap_append, List.take_append_drop]
 rw [this, List.length_append]; omega
def HB (out : Str) : Heap := ⟨2, [WB 0 (.ptr 0 0) ⟨1, out⟩]⟩
theorem okB {m k : Nat} (hk : 0 < k) (hm : k < m) (out : Str) : Wok m 0 ⟨k, out⟩ [] [] := ⟨by omega, by simp, by simp, fun _ => ⟨by simp; omega, hm⟩, by simp, fun _ _ => by simp [fitL]⟩
theorem fitHB {n k : Nat} {out : Str} (hk : 0 < k) (hne : out ≠ []) : FitH 0 [(0, 0), (k, 1)] [] ⟨n, [WB 0 (.ptr 0 0) ⟨k, out⟩]⟩ (HB out) where
 nd1 := by simp; omega
 nd2 := by simp
 nd3 := by simp [HB, Heap.ents, WF, bF_ne (b := ⟨1, out⟩) hne]
 lt := fun x hx => by
  simp at hx
  rcases hx with rfl | rfl <;> simp [HB]
 idn := fun x hx h => absurd h (Nat.not_lt_zero _)
 num := Nat.zero_le _
 src := fun e he => by
  have he : e = (0, .obj 49 (.ptr 0 0 :: bV ⟨1, out⟩ :: [])) ∨ e = (1, .buf 5 out.length (bytesAV out)) := by
   simpa [HB, Heap.ents, WF, bF_ne (b := ⟨1, out⟩) hne] using he
  have w := okB (m := k + 1) hk (by omega) out
  rcases he with rfl | rfl
  ·refine ⟨0, .obj 49 (.ptr 0 0 :: bV ⟨k, out⟩ :: []), by simp, by simp [Heap.get, getFs, WF_o], ?_⟩
   refine fit_obj (by simp [lookN]) (fun _ => ?_) (by simp [fitL])
   have : ¬ (0 : Nat) = k := by omega
   simp [lookN, this]
  ·refine ⟨k, .buf 5 out.length (bytesAV out), by simp, ?_, rfl, Nat.le_refl _, by rw [bytes_len]; exact Nat.le_refl _, fitL_pure (bytes_pure _)⟩
   have := WF_b (ty := 49) (a := .ptr 0 0) w hne
   simp only [Heap.get, getFs]
   rw [this]
 frz := fun x h => by cases h
noncomputable def e29 : Entry Tryz.prog := mkE 29 [[]] (fun x : Int => [.int .i64 x]) (fun x => -9223372036854775808 ≤ x ∧ x ≤ 9223372036854775807) (fun x => .str (Lib.itoa x)) fun x h => c29 (T := []) x h.1 h.2
theorem inj_int1 (x y : Int) (h : [AV.int .i64 x] = [AV.int .i64 y]) : x = y := by simpa using h
theorem k29 {T : List (Entry Tryz.prog)} (hT : findE 29 T = some e29.g) {n : Int} (h : -9223372036854775808 ≤ n ∧ n ≤ 9223372036854775807) (H : Heap) : callL (ctx T) (.fn 29) [.int .i64 n] H = some (.str (Lib.itoa n), H) :=
 mkE_scalar hT inj_int1 n h rfl (by simp)
theorem c9 {T : List (Entry Tryz.prog)} (hE : findE 82 T = some e82.g) (hC : findE 23 T = some e23.g) (hI : findE 29 T = some e29.g) (p : PolR) (ok : PolOk p) :
  CallAt (ctx T) 9 [polA p] ⟨0, []⟩ (.str (printV p)) ⟨0, []⟩ := by
 have kc := fun H => k23 hC ok H
 have hsub : subL 0 11 (polC p) = some (polC p) := rfl
 have hsg : allSingle (polC p) = true := by simp [polC, allSingle, AV.single]
 have rd : ∀ n, readVar Tryz.prog ⟨n, [[(0, .cells (polC p))]]⟩ 24 (.ptr 0 0) = some (polA p) := fun n => by simp [readCells, Heap.get, getFs, getF, hsub, polA]
 rcases Bool.eq_false_or_eq_true (checkB p) with hk | hk
 ·have num := check_num hk
  have few := check_few hk
  have hh := head_len ok hk
  have ht := tail_len num
  have e : printV p = textP p := by unfold printV; rw [if_pos hk]
  have htx : (textP p).length ≤ 162000000 := by unfold textP; rw [List.length_append]; omega
  rw [e, ← accN_end]
  have hck : checkV p = .int .i64 0 := by unfold checkV; rw [if_pos hk]
  rw [hck] at kc
  simp only [polA] at kc rd ⊢
  have hpC := pol_pureC p
  have o0 : getL (polC p) 0 = some (.str p.pre) := rfl
  have o10 : getL (polC p) 10 = some (.bool p.unc) := rfl
  have oL : ∀ (i : Nat) (h : i < 4), getL (polC p) (i + 1) = some (aStrs ((lsW p)[i]'h).2) := fun i h => match i, h with
   | 0, _ => rfl
   | 1, _ => rfl
   | 2, _ => rfl
   | 3, _ => rfl
  have oN : ∀ (i : Nat) (h : i < 5), getL (polC p) (i + 5) = some (.int .i64 ((nsW p)[i]'h).2) := fun i h => match i, h with
   | 0, _ => rfl
   | 1, _ => rfl
   | 2, _ => rfl
   | 3, _ => rfl
   | 4, _ => rfl
  have aL : ∀ (i : Nat) (h : i < 4), indexAddrA Tryz.prog 56 (listsF (polC p)) (.int .i64 (i : Int)) = some (.fptr [.fptr (polC p) (i + 1)] 0) := fun i h => match i, h with
   | 0, _ => rfl
   | 1, _ => rfl
   | 2, _ => rfl
   | 3, _ => rfl
  have aN : ∀ (i : Nat) (h : i < 5), indexAddrA Tryz.prog 60 (numsF (polC p)) (.int .i64 (i : Int)) = some (.fptr [.fptr (polC p) (i + 5)] 0) := fun i h => match i, h with
   | 0, _ => rfl
   | 1, _ => rfl
   | 2, _ => rfl
   | 3, _ => rfl
   | 4, _ => rfl
  have hw : ∀ (i : Nat) (h : i < 4), headsL[i]'h = ((lsW p)[i]'h).1 := fun i h => match i, h with
   | 0, _ => rfl
   | 1, _ => rfl
   | 2, _ => rfl
   | 3, _ => rfl
  have nw : ∀ (i : Nat) (h : i < 5), namesL[i]'h = ((nsW p)[i]'h).1 := fun i h => match i, h with
   | 0, _ => rfl
   | 1, _ => rfl
   | 2, _ => rfl
   | 3, _ => rfl
   | 4, _ => rfl
  have lL : ∀ H, lenA Tryz.prog H 56 (listsF (polC p)) = some 4 := fun H => by simp [lenA, listsF]
  have lN : ∀ H, lenA Tryz.prog H 60 (numsF (polC p)) = some 5 := fun H => by simp [lenA, numsF]
  have f0 : CallAt (ctx T) 24 [.str [112, 114, 101, 102, 105, 120], .str p.pre, .ptr 0 0] ⟨1, [[(0, .obj 49 [.nilP, .nilS])]]⟩ (.tup []) (HB (accL p 0)) := by
   have e0 : accL p 0 = [] ++ lineP jPrefix p.pre := by simp [accL]
   rw [e0]
   exact c24 (T := T) hE (m := 1) (wb := 0) (a := .nilP) (b := ⟨0, []⟩) ⟨by omega, by simp, by simp, fun h => absurd rfl h, by simp, fun _ _ => by simp [fitL]⟩ (.inl rfl) jPrefix p.pre (by have := ok.pre; simp [jPrefix]; omega)
  have put : ∀ (n : Nat) (out w x : Str), 2 ≤ n → out.length + w.length + x.length ≤ 900000000 → CallAt (ctx T) 24 [.str w, .str x, .ptr 0 0] ⟨n, [WB 0 (.ptr 0 0) ⟨1, out⟩]⟩ (.tup []) ⟨n + 1, [WB 0 (.ptr 0 0) ⟨n, out ++ lineP w x⟩]⟩ :=
   fun n out w x hn hl => c24 (T := T) hE (okB (by omega) (by omega) out) (.inr rfl) w x hl
  have fl : ∀ H, CallAt (ctx T) 27 [.fptr (polC p) 0] H (.tup [listsF (polC p), aStrs headsL]) H := (c27 (T := T) (polC p)).lift (by simp [pureL, pureV, hpC])
  have fn : ∀ H, CallAt (ctx T) 28 [.fptr (polC p) 0] H (.tup [numsF (polC p), aStrs namesL]) H := (c28 (T := T) (polC p)).lift (by simp [pureL, pureV, hpC])
  have pL : pureV (listsF (polC p)) = true := by simp [listsF, pureV, pureL, hpC]
  have pN : pureV (numsF (polC p)) = true := by simp [numsF, pureV, pureL, hpC]
  generalize polC p = C at *
  generalize listsF C = LF at *
  generalize numsF C = NF at *
  refine callAt_body (fn := Tryz.f9) (s0 := ⟨[0, 1, 2, 3, 4, 5, 6, 7, 8, 10, 11, 12, 13, 14, 27, 28, 29, 36, 37, 38, 55, 56, 57], [.agg C, .undef, .undef, .undef, .undef, .undef, .undef, .undef, .undef, .undef, .undef, .undef, .undef, .undef, .undef, .undef, .undef, .undef, .undef, .undef, .undef, .undef, .undef], [], 80, ⟨0, [[]]⟩⟩) Tryz.func9 rfl rfl rfl ?_
  repeat apply wq
  refine wps_region callOK ?_
  simp [zS, hsg]
  repeat apply wq
  refine wps_region callOK ?_
  simp [zS, rd, kc]
  repeat apply wq
  refine wps_cf (by simp [opnd, St.get, zS]) ?_
  repeat apply wq
  refine wps_skip ?_
  simp
  repeat apply wq
  refine .fit [] [(0, C)] (s' := (⟨[0, 1, 2, 3, 4, 5, 6, 7, 8, 10, 11, 12, 13, 14, 27, 28, 29, 36, 37, 38, 55, 56, 57], [.undef, .fptr C 0, .str [], .undef, .undef, .undef, .undef, .undef, .undef, .undef, .undef, .undef, .undef, .undef, .undef, .undef, .undef, .undef, .undef, .undef, .undef, .undef, .undef], [], 80, ⟨0, [[]]⟩⟩ : St)) ⟨rfl, rfl, rfl, by simp [fitL, fitV, lookC, pureV], ⟨by simp, by simp, by simp [Heap.ents], by simp, by simp, Nat.zero_le _, by simp [Heap.ents], fun x hx => ?_⟩⟩ ?_
  ·simp at hx
   subst hx
   exact ⟨C, by simp [Heap.get, getFs, getF], fitL_pure hpC, hpC⟩
  repeat apply wq
  refine wps_region callOK ?_
  simp [zS]
  repeat apply wq
  refine wps_region callOK ?_
  simp [zS]
  repeat apply wq
  refine wps_region (callOKF [⟨24, _, _, _, _, f0⟩]) ?_
  simp [zS, callF, o0]
  have hne : ∀ i, accL p i ≠ [] := fun i => by simp [accL, lineP]
  have hneN : ∀ i, accN p i ≠ [] := fun i => by simp [accN, headT, lineP]
  have idB : ∀ out, out ≠ [] → FitH 0 [(0, 0), (1, 1)] [] (HB out) (HB out) := fun out ho => fitHB (n := 2) (k := 1) (by omega) ho
  have upB : ∀ (n : Nat) out, 0 < n → out ≠ [] → FitH 0 [(0, 0), (n, 1)] [] ⟨n + 1, [WB 0 (.ptr 0 0) ⟨n, out⟩]⟩ (HB out) := fun n out hn ho => fitHB hn ho
  have hpS : ∀ L : List Str, pureV (aStrs L) = true := fun L => by simp [pureV]
  repeat apply wq
  refine wps_region (callOKF [⟨27, _, _, _, _, fl (HB (accL p 0))⟩]) ?_
  simp [zS, callF]
  repeat apply wq
  refine wps_region callOK ?_
  simp [zS, lL]
  repeat apply wq
  refine wps_block (wps_loop' (fun i : Nat => (⟨[0, 1, 2, 3, 4, 5, 6, 7, 8, 10, 11, 12, 13, 14, 27, 28, 29, 36, 37, 38, 55, 56, 57], [.undef, .fptr C 0, .str [], .ptr 0 0, .func (.func 24) [] [.ptr 0 0], LF, aStrs headsL, .undef, .undef, .undef, .undef, .undef, .undef, .undef, LF, .int .i64 4, .int .i64 (i : Int), .undef, .undef, .undef, .undef, .undef, .undef], [], 80, HB (accL p i)⟩ : St))
   (fun i => i ≤ 4) (fun i => 4 - i) [(0, 0), (1, 1)] [] 0 (Nat.zero_le _) ⟨rfl, rfl, rfl, by simp [fitL, fitV, lookN, pureV, pureL, hpC, fitV_pure pL], idB _ (hne 0)⟩ ?_)
  ·rintro i hi B hB
   by_cases h : i < 4
   ·have hc : (i : Int) < 4 := by omega
    repeat apply wq
    refine wps_region callOK ?_
    simp [zS, hc]
    repeat apply wq
    refine wps_ct (by simp [opnd, St.get, zS, h]) ?_
    repeat apply wq
    refine wps_skip ?_
    simp
    repeat apply wq
    refine wps_block ?_
    repeat apply wq
    refine wps_region callOK ?_
    simp [zS, aL i h]
    have hl4 : ((lsW p)[i]'h).2.length ≤ 200 := match i, h with
     | 0, _ => few.1
     | 1, _ => few.2.1
     | 2, _ => few.2.2.1
     | 3, _ => few.2.2.2
    have hxs : ∀ x, x ∈ ((lsW p)[i]'h).2 → x.length ≤ 200000 := match i, h with
     | 0, _ => ok.short.1
     | 1, _ => ok.short.2.1
     | 2, _ => ok.short.2.2.1
     | 3, _ => ok.short.2.2.2
    have hwl : ((lsW p)[i]'h).1.length ≤ 8 := match i, h with
     | 0, _ => (by decide : jReserved.length ≤ 8)
     | 1, _ => (by decide : jElem.length ≤ 8)
     | 2, _ => (by decide : jAttr.length ≤ 8)
     | 3, _ => (by decide : jScheme.length ≤ 8)
    have hs := accL_step (p := p) h
    have hl5 := accL_len (p := p) (i := i + 1) h
    have oLi := oL i h
    have hwi := hw i h
    generalize ((lsW p)[i]'h).1 = wd at *
    generalize ((lsW p)[i]'h).2 = L at *
    repeat apply wq
    refine wps_region callOK ?_
    simp [zS, oLi, lenS]
    repeat apply wq
    refine wps_block (wps_loop' (fun j : Nat => (⟨[0, 1, 2, 3, 4, 5, 6, 7, 8, 10, 11, 12, 13, 14, 27, 28, 29, 36, 37, 38, 55, 56, 57], [.undef, .fptr C 0, .str [], .ptr 0 0, .func (.func 24) [] [.ptr 0 0], LF, aStrs headsL, .int .i64 (i : Int), .undef, .undef, .undef, .undef, .undef, .undef, LF, .int .i64 4, .int .i64 (i : Int), aStrs L, .int .i64 (L.length : Nat), .int .i64 (j : Int), .undef, .undef, .undef], [], 80, HB (accL p i ++ linesP wd (L.take j))⟩ : St))
     (fun j => j ≤ L.length) (fun j => L.length - j) [(0, 0), (1, 1)] [] 0 (Nat.zero_le _) ⟨rfl, rfl, rfl, by simp [fitL, fitV, lookN, pureV, pureL, hpC, fitV_pure pL], by simpa [linesP] using idB _ (hne i)⟩ ?_)
    ·rintro j hj B2 hB2
     by_cases g : j < L.length
     ·have gc : (j : Int) < (L.length : Int) := by omega
      repeat apply wq
      refine wps_region callOK ?_
      simp [zS, gc]
      repeat apply wq
      refine wps_ct (by simp [opnd, St.get, zS, g]) ?_
      repeat apply wq
      refine wps_skip ?_
      simp
      repeat apply wq
      refine wps_block ?_
      repeat apply wq
      refine wps_region callOK ?_
      simp [zS, atS g]
      have hx := hxs L[j] (List.getElem_mem g)
      have h1 := lines_part wd L j
      have lt := lines_take wd L g
      rw [hs, List.length_append] at hl5
      have fp := put 2 (accL p i ++ linesP wd (L.take j)) wd L[j] (Nat.le_refl _) (by rw [List.length_append]; omega)
      rw [List.append_assoc, ← lt] at fp
      have hix := atS (L := headsL) h
      rw [hwi] at hix
      obtain ⟨O, hO⟩ : ∃ O, O = accL p i ++ linesP wd (L.take (j + 1)) := ⟨_, rfl⟩
      rw [← hO] at fp
      repeat apply wq
      refine wps_region (callOKF [⟨24, _, _, _, _, fp⟩]) ?_
      simp [zS, callF, hix, HB]
      repeat apply wq
      refine wps_region callOK ?_
      simp [zS, add_one (show j ≤ 1000000000 by omega)]
      have up := upB 2 O (by omega) (by rw [hO]; simp [hne])
      exact hB2 _ (j + 1) (by omega) (by omega) ⟨[(0, 0), (2, 1)], [], rfl, rfl, rfl, by simp [fitL, fitV, lookN, pureV, pureL, hpC, fitV_pure pL], by rw [← hO]; exact up⟩
     ·have gc : ¬ (j : Int) < (L.length : Int) := by omega
      repeat apply wq
      refine wps_region callOK ?_
      simp [zS, gc]
      repeat apply wq
      refine wps_cf (by simp [opnd, St.get, zS, g]) ?_
      repeat apply wq
      refine wps_exit ?_
      simp
      have e : L.take j = L := List.take_of_length_le (by omega)
      rw [e, ← hs]
      repeat apply wq
      refine wps_region callOK ?_
      simp [zS, add_one (show i ≤ 1000000000 by omega)]
      exact hB _ (i + 1) (by omega) (by omega) ⟨[(0, 0), (1, 1)], [], rfl, rfl, rfl, by simp [fitL, fitV, lookN, pureV, pureL, hpC, fitV_pure pL], idB _ (hne (i + 1))⟩
   ·have hc : ¬ (i : Int) < 4 := by omega
    repeat apply wq
    refine wps_region callOK ?_
    simp [zS, hc]
    repeat apply wq
    refine wps_cf (by simp [opnd, St.get, zS, h]) ?_
    repeat apply wq
    refine wps_exit ?_
    simp
    obtain rfl : i = 4 := by omega
    have e0 : accL p 4 = accN p 0 := by rw [accL_end]; simp [accN]
    rw [e0]
    repeat apply wq
    refine wps_region (callOKF [⟨28, _, _, _, _, fn (HB (accN p 0))⟩]) ?_
    simp [zS, callF]
    repeat apply wq
    refine wps_region callOK ?_
    simp [zS, lN]
    repeat apply wq
    refine wps_block (wps_loop' (fun i : Nat => (⟨[0, 1, 2, 3, 4, 5, 6, 7, 8, 10, 11, 12, 13, 14, 27, 28, 29, 36, 37, 38, 55, 56, 57], [.undef, .fptr C 0, .str [], .ptr 0 0, .func (.func 24) [] [.ptr 0 0], .undef, .undef, .undef, .undef, .undef, .undef, aStrs namesL, .undef, .undef, .undef, .undef, .undef, .undef, .undef, .undef, NF, .int .i64 5, .int .i64 (i : Int)], [], 80, HB (accN p i)⟩ : St))
     (fun i => i ≤ 5) (fun i => 5 - i) [(0, 0), (1, 1)] [] 0 (Nat.zero_le _) ⟨rfl, rfl, rfl, by simp [fitL, fitV, lookN, pureV, pureL, hpC, fitV_pure pN], idB _ (hneN 0)⟩ ?_)
    ·rintro i hi B hB
     by_cases h : i < 5
     ·have hc : (i : Int) < 5 := by omega
      repeat apply wq
      refine wps_region callOK ?_
      simp [zS, hc]
      repeat apply wq
      refine wps_ct (by simp [opnd, St.get, zS, h]) ?_
      repeat apply wq
      refine wps_skip ?_
      simp
      repeat apply wq
      refine wps_block ?_
      repeat apply wq
      refine wps_region callOK ?_
      simp [zS, aN i h]
      have hnl : -9223372036854775808 ≤ ((nsW p)[i]'h).2 ∧ ((nsW p)[i]'h).2 ≤ 9223372036854775807 := match i, h with
       | 0, _ => by have h : 0 ≤ p.byt ∧ p.byt ≤ 1048576 := num.byt; show _ ≤ p.byt ∧ p.byt ≤ _; omega
       | 1, _ => by have h : 0 ≤ p.nod ∧ p.nod ≤ 1048576 := num.nod; show _ ≤ p.nod ∧ p.nod ≤ _; omega
       | 2, _ => by have h : 0 ≤ p.dep ∧ p.dep ≤ 1048576 := num.dep; show _ ≤ p.dep ∧ p.dep ≤ _; omega
       | 3, _ => by have h : 0 ≤ p.per ∧ p.per ≤ 1048576 := num.per; show _ ≤ p.per ∧ p.per ≤ _; omega
       | 4, _ => by have h : 0 ≤ p.loo ∧ p.loo ≤ 1048576 := num.loo; show _ ≤ p.loo ∧ p.loo ≤ _; omega
      have hs := accN_step (p := p) h
      have hl5 := accN_len (p := p) (i := i + 1) h
      have oNi := oN i h
      have hwi := nw i h
      have hix := atS (L := namesL) h
      rw [hwi] at hix
      have ki := fun H => k29 hI hnl H
      generalize ((nsW p)[i]'h).1 = wd at *
      generalize ((nsW p)[i]'h).2 = v at *
      generalize Lib.itoa v = x at *
      rw [hs, List.length_append, lineP_len] at hl5
      have fp := put 12 (accN p i) wd x (by omega) (by omega)
      rw [← hs] at fp
      repeat apply wq
      refine .fit [(0, 0), (1, 1)] [] (s' := (⟨[0, 1, 2, 3, 4, 5, 6, 7, 8, 10, 11, 12, 13, 14, 27, 28, 29, 36, 37, 38, 55, 56, 57], [.undef, .fptr C 0, .str [], .ptr 0 0, .func (.func 24) [] [.ptr 0 0], .undef, .undef, .undef, .undef, .undef, .undef, aStrs namesL, .int .i64 (i : Int), .fptr C (i + 5), .undef, .undef, .undef, .undef, .undef, .undef, NF, .int .i64 5, .int .i64 (i : Int)], [], 80, HB (accN p i)⟩ : St)) ⟨rfl, rfl, rfl, by simp [fitL, fitV, lookN, pureV, pureL, hpC, fitV_pure pN], idB _ (hneN i)⟩ ?_
      repeat apply wq
      refine wps_drawn mixed (callOKF [⟨24, _, _, _, _, fp⟩]) (by decide +kernel) fun B_ hB_ => ?_
      have d_4_8 : ahead B_ 4 8 = false := by rw [hB_]; decide +kernel
      have d_4_9 : ahead B_ 4 9 = true := by rw [hB_]; decide +kernel
      have d_7_8 : ahead B_ 7 8 = true := by rw [hB_]; decide +kernel
      have d_7_9 : ahead B_ 7 9 = true := by rw [hB_]; decide +kernel
      have d_8_4 : ahead B_ 8 4 = false := by rw [hB_]; decide +kernel
      have d_8_7 : ahead B_ 8 7 = false := by rw [hB_]; decide +kernel
      have d_9_4 : ahead B_ 9 4 = false := by rw [hB_]; decide +kernel
      have d_9_7 : ahead B_ 9 7 = false := by rw [hB_]; decide +kernel
      simp [zS, mkBlk, guardA, evalD, stepD, clsOf, reserve, freshenAll, sameRecs, sameAll, sameAt, allPend, Heap.lay, ontoF, wantedBy, unwantedBy, d_4_8, d_4_9, d_7_8, d_7_9, d_8_4, d_8_7, d_9_4, d_9_7, callF, hix, oNi, ki, HB]
      repeat apply wq
      refine wps_region callOK ?_
      simp [zS, add_one (show i ≤ 1000000000 by omega)]
      have up := upB 12 (accN p (i + 1)) (by omega) (hneN _)
      exact hB _ (i + 1) (by omega) (by omega) ⟨[(0, 0), (12, 1)], [], rfl, rfl, rfl, by simp [fitL, fitV, lookN, pureV, pureL, hpC, fitV_pure pN], up⟩
     ·have hc : ¬ (i : Int) < 5 := by omega
      repeat apply wq
      refine wps_region callOK ?_
      simp [zS, hc]
      repeat apply wq
      refine wps_cf (by simp [opnd, St.get, zS, h]) ?_
      repeat apply wq
      refine wps_exit ?_
      simp
      obtain rfl : i = 5 := by omega
      have hl5 : (accN p 5).length ≤ (textP p).length := accN_len (Nat.le_refl _)
      have fin : ∀ u : Bool, CallAt (ctx T) 24 [.str [117, 110, 99, 104, 97, 110, 103, 101, 100], .str (yesNo u), .ptr 0 0] (HB (accN p 5)) (.tup []) ⟨3, [WB 0 (.ptr 0 0) ⟨2, accN p 5 ++ lineP jUnchanged (yesNo u)⟩]⟩ := fun u =>
       put 2 (accN p 5) jUnchanged (yesNo u) (Nat.le_refl _) (by have := yesNo_len u; have : jUnchanged.length = 9 := rfl; omega)
      have str : ∀ u : Bool, CallAt (ctx T) 30 [.ptr 0 0] ⟨3, [WB 0 (.ptr 0 0) ⟨2, accN p 5 ++ lineP jUnchanged (yesNo u)⟩]⟩ (.str (accN p 5 ++ lineP jUnchanged (yesNo u))) ⟨3 + 1, [WB 0 (.ptr 0 0) ⟨2, accN p 5 ++ lineP jUnchanged (yesNo u)⟩]⟩ := fun u =>
       c30 (T := T) (okB (by omega) (by omega) _) (by have := yesNo_len u; have : jUnchanged.length = 9 := rfl; simp only [List.length_append, lineP_len]; omega)
      have ft := fin true
      have ff := fin false
      have st := str true
      have sf := str false
      have yt : yesNo true = [121, 101, 115] := rfl
      have yf : yesNo false = [110, 111] := rfl
      repeat apply wq
      refine wps_region callOK ?_
      simp [zS, o10]
      generalize p.unc = u at *
      cases u with
      | true =>
       repeat apply wq
       refine wps_ct rfl ?_
       rw [yt] at ft st ⊢
       generalize accN p 5 ++ lineP jUnchanged [121, 101, 115] = O at *
       repeat apply wq
       refine wps_region (callOKF [⟨24, _, _, _, _, ft⟩]) ?_
       simp [zS, callF]
       repeat apply wq
       refine wps_region (callOKF [⟨30, _, _, _, _, st⟩]) ?_
       simp [zS, callF]
       repeat apply wq
       refine wps_ret ?_
       simp [retVal, Tryz.f9, oneOr, thenQ, blockQ]
       exact ends_pure rfl (by rfl)
      | false =>
       repeat apply wq
       refine wps_cf rfl ?_
       rw [yf] at ff sf ⊢
       generalize accN p 5 ++ lineP jUnchanged [110, 111] = O at *
       repeat apply wq
       refine wps_region (callOKF [⟨24, _, _, _, _, ff⟩]) ?_
       simp [zS, callF]
       repeat apply wq
       refine wps_region (callOKF [⟨30, _, _, _, _, sf⟩]) ?_
       simp [zS, callF]
       repeat apply wq
       refine wps_ret ?_
       simp [retVal, Tryz.f9, oneOr, thenQ, blockQ]
       exact ends_pure rfl (by rfl)
 ·have e : printV p = [] := by unfold printV; rw [if_neg (by simp [hk])]
  rw [e]
  have hck : checkV p = .int .i64 2 := by unfold checkV; rw [if_neg (by simp [hk])]
  rw [hck] at kc
  simp only [polA] at kc rd ⊢
  generalize polC p = C at *
  refine callAt_body (fn := Tryz.f9) (s0 := ⟨[0, 1, 2, 3, 4, 5, 6, 7, 8, 10, 11, 12, 13, 14, 27, 28, 29, 36, 37, 38, 55, 56, 57], [.agg C, .undef, .undef, .undef, .undef, .undef, .undef, .undef, .undef, .undef, .undef, .undef, .undef, .undef, .undef, .undef, .undef, .undef, .undef, .undef, .undef, .undef, .undef], [], 80, ⟨0, [[]]⟩⟩) Tryz.func9 rfl rfl rfl ?_
  repeat apply wq
  refine wps_region callOK ?_
  simp [zS, hsg]
  repeat apply wq
  refine wps_region callOK ?_
  simp [zS, rd, kc]
  repeat apply wq
  refine wps_ct (by simp [opnd, St.get, zS]) ?_
  repeat apply wq
  refine wps_region callOK ?_
  simp [zS]
  repeat apply wq
  refine wps_ret ?_
  simp [retVal, Tryz.f9, oneOr, thenQ, blockQ]
  exact ends_pure rfl (by rfl)
noncomputable def e9 : Entry Tryz.prog := mkE 9 [[]] (fun x : PolR => [polA x]) (fun x => PolOk x) (fun x => .str (printV x)) fun x h => c9 (T := [e82, e23, e29]) rfl rfl rfl x h
theorem k9 {T : List (Entry Tryz.prog)} (hT : findE 9 T = some e9.g) {p : PolR} (ok : PolOk p) (H : Heap) : callL (ctx T) (.fn 9) [polA p] H = some (.str (printV p), H) :=
 mkE_scalar hT inj_pol1 p ok rfl (by simp [thawA_pol])
def takeLn (q : PolR) (l : Str) : PolR := takeV atoiN q (cutW (trimV l [10])).1 (cutW (trimV l [10])).2
def rgP : Code → Option (Code × Code)
 | .rangeFunc _ _ a b => some (a, b)
 | .seq a b => match rgP a with
  | some x => some x
  | none => rgP b
 | .block _ b => rgP b
 | _ => none
noncomputable def asP : Code := match Tryz.f7.body with
 | some c => match rgP c with
  | some x => x.1
  | none => .skip
 | none => .skip
noncomputable def bdP : Code := match Tryz.f7.body with
 | some c => match rgP c with
  | some x => x.2
  | none => .skip
 | none => .skip
noncomputable def LBp (st : LoopState) (s : Str) (v : AV) : Blk := .loop st none [0, 2, 3, 4, 5, 6, 7, 10, 11] [.str s, .ptr 0 0, .int .i64 0, .ptr 1 0, .undef, .undef, .undef, v, .undef] [] 32 [11] asP bdP
def rowsA (B : Blk) (r : Str) : List (Nat × Blk) := [(7, B), (0, .cells Z0), (2, .cells [.str r])]
theorem fit_id {n m : Nat} {H H' : Heap} (hR : ∀ e, e ∈ H'.ents → e.1 < m ∧ SelfB m e.2) (nd : (H'.ents.map (·.1)).Nodup) (get : ∀ e, e ∈ H'.ents → H.get e.1 = some e.2) (hm : m ≤ H'.n) (hn : n ≤ H'.n) : FitH n (idn m) [] H H' := by
 refine ⟨by simpa using idn_nd m, idn_nd2 m, nd, ?_, ?_, hn, ?_, fun x h => by cases h⟩
 ·intro x hx
  obtain ⟨i, hi, rfl⟩ := List.mem_map.1 hx
  have : i < m := by simpa using hi
  show i < H'.n; omega
 ·intro x hx hlt
  obtain ⟨i, hi, rfl⟩ := List.mem_map.1 hx
  rfl
 ·intro e he
  obtain ⟨l1, l2⟩ := hR e he
  exact ⟨e.1, e.2, idn_mem l1, get e he, l2 _ (idl_idn m)⟩
def okA (n : Nat) (ks : Ks) : Prop := Pok n 1 ks ∧ 0 ∉ kids_ 1 ks ∧ 2 ∉ kids_ 1 ks ∧ 7 ∉ kids_ 1 ks ∧ 8 ≤ n
theorem okA.rows {n : Nat} {ks : Ks} (h : okA n ks) (B : Blk) (r : Str) : ∀ e, e ∈ rowsA B r → e.1 < n ∧ e.1 ∉ kids_ 1 ks := fun e he => by
 obtain ⟨h1, h2, h3, h4, h5⟩ := h
 simp only [rowsA, List.mem_cons, List.not_mem_nil, or_false] at he
 rcases he with rfl | rfl | rfl
 ·exact ⟨by show 7 < n; omega, h4⟩
 ·exact ⟨by show 0 < n; omega, h2⟩
 ·exact ⟨by show 2 < n; omega, h3⟩
theorem okA.nd {n : Nat} {ks : Ks} {q : PolR} (h : okA n ks) (B : Blk) (r : Str) : ((rowsA B r ++ PF 1 q ks).map (·.1)).Nodup := nodup_in h.1.nd (h.rows B r) (by simp [rowsA])
theorem okA.self {n : Nat} {ks : Ks} {q : PolR} (h : okA n ks) {st : LoopState} {s r : Str} : ∀ e, e ∈ rowsA (LBp st s .undef) r ++ PF 1 q ks → e.1 < n ∧ SelfB n e.2 := fun e he => by
 rcases List.mem_append.1 he with he | he
 ·refine ⟨(h.rows _ _ e he).1, fun σ hs => ?_⟩
  have s0 := hs 0 (by have := h.2.2.2.2; omega)
  have s1 := hs 1 (by have := h.2.2.2.2; omega)
  simp only [rowsA, List.mem_cons, List.not_mem_nil, or_false] at he
  rcases he with rfl | rfl | rfl
  ·simp [LBp, fitB, fitL, fitV, s0, s1, pureV]
  ·exact fitL_pure rfl
  ·exact fitL_pure (by simp [pureL, pureV])
 ·rcases List.mem_cons.1 he with rfl | he
  ·exact ⟨h.1.lt.1, h.1.cells⟩
  ·exact h.1.mem he
theorem round {T : List (Entry Tryz.prog)} (tk : TakeC (ctx T) 21 atoiN) (hT : findE 20 T = some e20.g) (hC : findE 19 T = some e19.g) {n : Nat} {ks : Ks} {q : PolR} (h : okA n ks)
  (hl : q.res.length < 1000000 ∧ q.els.length < 1000000 ∧ q.ats.length < 1000000 ∧ q.sch.length < 1000000) (s r l : Str) (hll : l.length ≤ 1000000) :
  ∃ ks', okA (n + 1) ks' ∧ YieldAt (ctx T) 7 [.str l] ⟨n, [[], rowsA (LBp .ready s .undef) r ++ PF 1 q ks]⟩ (.bool true) ⟨n + 1, [[], rowsA (LBp .ready s .undef) r ++ PF 1 (takeLn q l) ks']⟩ := by
 have htr : (trimV l [10]).length ≤ l.length := by unfold trimV; split <;> simp
 have hcw : (cutW (trimV l [10])).2.length ≤ (trimV l [10]).length := by unfold cutW; split <;> simp
 have kt := fun H => k20 hT l [10] (by omega) H
 have kc := fun H => k19 hC (trimV l [10]) (by omega) H
 obtain ⟨ks', k1, k2, k3⟩ := take_in tk h.1 hl (h.rows (LBp .busy s .undef) r) (by simp [rowsA]) (cutW (trimV l [10])).1 (cutW (trimV l [10])).2 (by omega)
 have hok : okA (n + 1) ks' := ⟨k1, (k2 (0, .cells Z0) (by simp [rowsA])).2, (k2 (2, .cells [.str r]) (by simp [rowsA])).2, (k2 (7, LBp .busy s .undef) (by simp [rowsA])).2, by have := h.2.2.2.2; omega⟩
 refine ⟨ks', hok, ?_⟩
 have hres : takeLn q l = takeV atoiN q (cutW (trimV l [10])).1 (cutW (trimV l [10])).2 := rfl
 rw [hres]
 have k4 := k3.perm (H2 := ⟨n, [[], [], rowsA (LBp .busy s .undef) r ++ PF 1 q ks]⟩) (H2' := ⟨n + 1, [[], [], rowsA (LBp .busy s .undef) r ++ PF 1 (takeV atoiN q (cutW (trimV l [10])).1 (cutW (trimV l [10])).2) ks']⟩) rfl rfl (by simp [Heap.ents]) (by simp [Heap.ents])
 generalize trimV l [10] = tl at *
 generalize cutW tl = d at *
 obtain ⟨w, x⟩ := d
 simp only at kc k4 ⊢
 generalize takeV atoiN q w x = q' at *
 generalize decide (0 ≤ Lib.indexByte tl 32) = fnd at *
 refine yieldAt_body (b := 7) (pend := none) (ks := [0, 2, 3, 4, 5, 6, 7, 10, 11]) (vs := [.str s, .ptr 0 0, .int .i64 0, .ptr 1 0, .undef, .undef, .undef, .undef, .undef]) (ts := []) (sz := 32) (ps := [11]) (assign := asP) (body := bdP)
  (s1 := ⟨[0, 2, 3, 4, 5, 6, 7, 10, 11], [.str s, .ptr 0 0, .int .i64 0, .ptr 1 0, .undef, .undef, .undef, .undef, .str l], [], 32, ⟨n, [] :: (⟨n, [[], rowsA (LBp .ready s .undef) r ++ PF 1 q ks]⟩ : Heap).fs⟩⟩) rfl rfl fun lx => ?_
 simp only [asP, rgP, Tryz.f7]
 repeat apply wq
 refine wps_region callOK ?_
 simp [zS]
 refine ⟨_, _, _, _, _, _, _, _, rfl, ?_⟩
 refine ⟨⟨n, [[], [], rowsA (LBp .busy s .undef) r ++ PF 1 q ks]⟩, rfl, ?_⟩
 simp only [bdP, rgP, Tryz.f7]
 repeat apply wq
 refine wps_block ?_
 repeat apply wq
 refine wps_region callOK ?_
 simp [zS, kt, kc]
 repeat apply wq
 refine wps_region (callOKF [⟨21, _, _, _, _, k4⟩]) ?_
 simp [zS, callF]
 have hid := fit_id (n := n) (m := n + 1) (H := ⟨n + 1, [[], [], rowsA (LBp .ready s .undef) r ++ PF 1 q' ks']⟩) (H' := ⟨n + 1, [[], rowsA (LBp .ready s .undef) r ++ PF 1 q' ks']⟩)
  (fun e he => hok.self e (by simpa [Heap.ents] using he)) (by simpa [Heap.ents] using hok.nd (LBp .ready s .undef) r)
  (fun e he => get_of_mem (fs := [[], [], rowsA (LBp .ready s .undef) r ++ PF 1 q' ks']) (b := e.1) (k := e.2) (by simpa using hok.nd (LBp .ready s .undef) r) (by simpa [Heap.ents] using he)) (Nat.le_refl _) (by simp)
 exact ⟨_, _, _, _, _, _, _, _, _, rfl, ⟨n + 1, [[], [], rowsA (LBp .ready s .undef) r ++ PF 1 q' ks']⟩, rfl, rfl, _, _, hid⟩
structure FactY (C : Ctx) where
 b : Nat
 args : List AV
 H : Heap
 v : AV
 H' : Heap
 ok : YieldAt C b args H v H'
open Classical in
noncomputable def callY {C : Ctx} : List (FactY C) → CallE → CallE
 | [], call, c, args, H => call c args H
 | x :: r, call, c, args, H => if c = .yl x.b ∧ args = x.args ∧ H = x.H then some (x.v, x.H') else callY r call c args H
theorem callY_ok {C : Ctx} {call : CallE} (hc : CallOK C call) : ∀ (l : List (FactY C)), CallOK C (callY l call)
 | [] => hc
 | x :: r => {
  fn := fun f args H v H' h => by
   unfold callY at h
   split at h
   ·rename_i hx
    cases hx.1
   ·exact (callY_ok hc r).fn f args H v H' h
  yl := fun b args H v H' h => by
   unfold callY at h
   split at h
   ·rename_i hx
    obtain ⟨hf, rfl, rfl⟩ := hx
    simp only [Option.some.injEq, Prod.mk.injEq] at h
    obtain ⟨rfl, rfl⟩ := h
    cases hf
    exact x.ok
   ·exact (callY_ok hc r).yl b args H v H' h }
theorem callOKY {T : List (Entry Tryz.prog)} (l : List (FactY (ctx T))) : CallOK (ctx T) (callY l (callL (ctx T))) := callY_ok callOK l
theorem callY_hit {C : Ctx} {b : Nat} {args : List AV} {H H' : Heap} {v : AV} {ok : YieldAt C b args H v H'} {r : List (FactY C)} {call : CallE} : callY (⟨b, args, H, v, H', ok⟩ :: r) call (.yl b) args H = some (v, H') := by simp [callY]
def ksC : Ks := ⟨8, 9, 10, 11⟩
def renA (ks : Ks) : List (Nat × Nat) := [(0, 0), (1, 1), (2, 2), (7, 7), (ks.a, 8), (ks.b, 9), (ks.c, 10), (ks.d, 11)]
theorem okC {n : Nat} (h : 12 ≤ n) : okA n ksC := ⟨⟨by simp [ksC]; omega, by simp [ksC]⟩, by simp [kids_, ksC], by simp [kids_, ksC], by simp [kids_, ksC], by omega⟩
theorem fit_can8 {k : Nat} {q : PolR} {ks : Ks} {H : Heap} {s r : Str} (h : okA k ks) (get : ∀ e, e ∈ rowsA (LBp .ready s .undef) r ++ PF 1 q ks → H.get e.1 = some e.2) : FitH 8 (renA ks) [] H ⟨12, [[], rowsA (LBp .ready s .undef) r ++ PF 1 q ksC]⟩ := by
 obtain ⟨hp, h0, h2, h7, h8⟩ := h
 have nd : (kids_ 1 ks).Nodup := hp.nd
 have ndS : ((renA ks).map (·.1)).Nodup := by
  simp only [kids_, List.mem_cons, List.not_mem_nil, or_false, not_or] at h0 h2 h7
  unfold kids_ at nd
  simp only [renA, List.map_cons, List.map_nil, List.nodup_cons, List.mem_cons, List.not_mem_nil, or_false, not_or, not_false_eq_true, List.nodup_nil, and_true] at nd ⊢
  omega
 have look : ∀ x, x ∈ renA ks → lookN x.1 (renA ks) = some x.2 := fun x hx => lookN_of ndS hx
 have own : ∀ {k k' : Nat} {L : List Str}, lookN k (renA ks) = some k' → fitV (renA ks) [] (ownV k 1 (strA L)) (ownV k' 1 (strA L)) := fun {k k' L} hl => by
  cases L with
  | nil => simp [ownV, fitV]
  | cons x r => rw [ownV_ne (by simp), ownV_ne (by simp)]; simp [fitV, hl]
 have l0 := look (0, 0) (by simp [renA])
 have l1 := look (1, 1) (by simp [renA])
 simp only at l0 l1
 refine ⟨by simpa using ndS, by simp [renA], by simpa [Heap.ents] using (okC (Nat.le_refl 12)).nd (LBp .ready s .undef) r, fun x hx => ?_, fun x hx hlt => ?_, by simp, fun e he => ?_, fun x h => by cases h⟩
 ·simp only [renA, List.mem_cons, List.not_mem_nil, or_false] at hx
  rcases hx with rfl | rfl | rfl | rfl | rfl | rfl | rfl | rfl <;> simp
 ·simp only [renA, List.mem_cons, List.not_mem_nil, or_false] at hx
  rcases hx with rfl | rfl | rfl | rfl | rfl | rfl | rfl | rfl <;> simp at hlt ⊢
 ·have rowK : ∀ {k k' : Nat} {L : List Str} {e : Nat × Blk}, e ∈ ownF k' (strA L) → (k, k') ∈ renA ks → (∀ e, e ∈ ownF k (strA L) → e ∈ PF 1 q ks) → ∃ b kk, (b, e.1) ∈ renA ks ∧ Heap.get H b = some kk ∧ fitB (renA ks) [] kk e.2 := fun {k k' L e} he hm hs => by
   obtain ⟨e1, e2⟩ := ownF_mem he
   have hne : L ≠ [] := fun h0 => by subst h0; simp [ownF] at he
   refine ⟨k, .cells (strA L), by rw [e1]; exact hm, get (k, .cells (strA L)) (List.mem_append_right _ (hs _ (by rw [ownF_ne (by simpa using hne), flatS]; simp))), ?_⟩
   rw [e2]
   exact fitL_pure (pure_strA L)
  have he : e ∈ rowsA (LBp .ready s .undef) r ++ PF 1 q ksC := by simpa [Heap.ents] using he
  rcases List.mem_append.1 he with he | he
  ·simp only [rowsA, List.mem_cons, List.not_mem_nil, or_false] at he
   rcases he with rfl | rfl | rfl
   ·exact ⟨7, LBp .ready s .undef, by simp [renA], get (7, LBp .ready s .undef) (by simp [rowsA]), by simp [LBp, fitB, fitL, fitV, l0, l1, pureV]⟩
   ·exact ⟨0, .cells Z0, by simp [renA], get (0, .cells Z0) (by simp [rowsA]), fitL_pure rfl⟩
   ·exact ⟨2, .cells [.str r], by simp [renA], get (2, .cells [.str r]) (by simp [rowsA]), fitL_pure (by simp [pureL, pureV])⟩
  ·rcases List.mem_cons.1 he with rfl | he
   ·refine ⟨1, .cells (polO q ks), by simp [renA], get (1, .cells (polO q ks)) (by simp [PF]), ?_⟩
    show fitL _ _ (polO q ks) (polO q ksC)
    have f1 := own (L := q.res) (look (ks.a, 8) (by simp [renA]))
    have f2 := own (L := q.els) (look (ks.b, 9) (by simp [renA]))
    have f3 := own (L := q.ats) (look (ks.c, 10) (by simp [renA]))
    have f4 := own (L := q.sch) (look (ks.d, 11) (by simp [renA]))
    simp only [polO, ksC, fitL, f1, f2, f3, f4, true_and, and_true]
    simp [fitV, pureV]
   ·simp only [polG, List.mem_append] at he
    rcases he with he | he | he | he
    ·exact rowK (k := ks.a) he (by simp [renA, ksC]) fun e he => by simp [PF, polG, he]
    ·exact rowK (k := ks.b) he (by simp [renA, ksC]) fun e he => by simp [PF, polG, he]
    ·exact rowK (k := ks.c) he (by simp [renA, ksC]) fun e he => by simp [PF, polG, he]
    ·exact rowK (k := ks.d) he (by simp [renA, ksC]) fun e he => by simp [PF, polG, he]
def lineOf (r : Str) : Str × Str := if 0 ≤ Lib.indexByte r 10 then (r.take ((Lib.indexByte r 10).toNat + 1), r.drop ((Lib.indexByte r 10).toNat + 1)) else (r, [])
def progGo : Nat → Str → PolR → PolR
 | 0, _, q => q
 | n + 1, r, q => match r with
  | [] => q
  | c :: r => progGo n (lineOf (c :: r)).2 (takeLn q (lineOf (c :: r)).1)
theorem lineOf_less {r : Str} (h : r ≠ []) : (lineOf r).2.length < r.length := by
 have hp := List.length_pos_iff.2 h
 unfold lineOf
 split
 ·simp; omega
 ·simpa using hp
theorem lineOf_le (r : Str) : (lineOf r).1.length ≤ r.length := by unfold lineOf; split <;> simp <;> omega
theorem progGo_any : ∀ (n m : Nat) (r : Str) (q : PolR), r.length ≤ n → r.length ≤ m → progGo n r q = progGo m r q
 | 0, m, [], q, _, _ => by cases m <;> rfl
 | 0, m, _ :: _, _, h, _ => by simp at h
 | n + 1, m, [], q, _, _ => by cases m <;> rfl
 | n + 1, 0, _ :: _, _, _, h => by simp at h
 | n + 1, m + 1, c :: r, q, h, h' => by
  have h1 := lineOf_less (r := c :: r) (by simp)
  simp only [List.length_cons] at h h' h1
  exact progGo_any n m (lineOf (c :: r)).2 _ (by omega) (by omega)
theorem progGo_fuel (n : Nat) (r : Str) (q : PolR) (h : r.length ≤ n) : progGo n r q = progGo r.length r q := progGo_any n r.length r q h (Nat.le_refl _)
theorem takeLn_few {n : Nat} {q : PolR} (h : Few n q) {l : Str} (hl : l.length ≤ n + 1) : Few (n + 1) (takeLn q l) := by
 have htr : (trimV l [10]).length ≤ l.length := by unfold trimV; split <;> simp
 have hcw : (cutW (trimV l [10])).2.length ≤ (trimV l [10]).length := by unfold cutW; split <;> simp
 exact h.take _ _ _ (by omega)
theorem c41 {T : List (Entry Tryz.prog)} (tk : TakeC (ctx T) 21 atoiN) (hT : findE 20 T = some e20.g) (hC : findE 19 T = some e19.g) (hI : findE 42 T = some e42.g) (s : Str) (hs : s.length ≤ 200000) :
  CallAt (ctx T) 41 [.yld 7, .ptr 2 0] ⟨8, [rowsA (LBp .ready s .undef) s ++ PF 1 pol0 ⟨3, 4, 5, 6⟩]⟩ (.tup []) ⟨12, [rowsA (LBp .ready s .undef) [] ++ PF 1 (progGo s.length s pol0) ksC]⟩ := by
 have ok1 : okA 8 ⟨3, 4, 5, 6⟩ := ⟨⟨by simp, by simp⟩, by simp [kids_], by simp [kids_], by simp [kids_], by omega⟩
 refine callAt_body (fn := Tryz.f41) (s0 := ⟨[0, 1, 3, 4], [.yld 7, .ptr 2 0, .undef, .undef], [], 25, ⟨8, [] :: [rowsA (LBp .ready s .undef) s ++ PF 1 pol0 ⟨3, 4, 5, 6⟩]⟩⟩) Tryz.func41 rfl rfl rfl ?_
 repeat apply wq
 refine wps_block (wps_loop' (fun x : Str × PolR => (⟨[0, 1, 3, 4], [.yld 7, .ptr 2 0, .undef, .undef], [], 25, ⟨12, [[], rowsA (LBp .ready s .undef) x.1 ++ PF 1 x.2 ksC]⟩⟩ : St))
  (fun x => x.1.length ≤ s.length ∧ Few (200001 + s.length - x.1.length) x.2 ∧ progGo x.1.length x.1 x.2 = progGo s.length s pol0) (fun x => x.1.length) (renA ⟨3, 4, 5, 6⟩) [] (s, pol0) ⟨Nat.le_refl _, few0.mono (by omega), rfl⟩ ⟨rfl, rfl, rfl, by simp [fitL, fitV, lookN, renA], fit_can8 ok1 fun e he => ?_⟩ ?_)
 ·exact get_of_mem (fs := [[], rowsA (LBp .ready s .undef) s ++ PF 1 pol0 ⟨3, 4, 5, 6⟩]) (b := e.1) (k := e.2) (by simpa using ok1.nd (q := pol0) (LBp .ready s .undef) s) (by simpa using he)
 ·rintro ⟨r, q⟩ ⟨hr, hf, hg⟩ B hB
  simp only at hr hf hg
  have g2 : ∀ r, getF 2 (rowsA (LBp .ready s .undef) r ++ PF 1 q ksC) = some (.cells [.str r]) := fun r => rfl
  have s2 : ∀ r r', setF 2 (.cells [.str r']) (rowsA (LBp .ready s .undef) r ++ PF 1 q ksC) = some (rowsA (LBp .ready s .undef) r' ++ PF 1 q ksC) := fun r r' => rfl
  cases r with
  | nil =>
   have hq : q = progGo s.length s pol0 := by rw [← hg]; rfl
   subst hq
   repeat apply wq
   refine wps_region callOK ?_
   simp [zS, g2]
   repeat apply wq
   refine wps_cf (by simp [opnd, St.get, zS]) ?_
   repeat apply wq
   refine wps_exit ?_
   simp
   have ok := okC (Nat.le_refl 12)
   have hid := fit_id (n := 8) (m := 12) (H := ⟨12, [[], rowsA (LBp .ready s .undef) [] ++ PF 1 (progGo s.length s pol0) ksC]⟩) (H' := ⟨12, [rowsA (LBp .ready s .undef) [] ++ PF 1 (progGo s.length s pol0) ksC]⟩)
    (fun e he => ok.self e (by simpa [Heap.ents] using he)) (by simpa [Heap.ents] using ok.nd (LBp .ready s .undef) [])
    (fun e he => get_of_mem (fs := [[], rowsA (LBp .ready s .undef) [] ++ PF 1 (progGo s.length s pol0) ksC]) (b := e.1) (k := e.2) (by simpa using ok.nd (LBp .ready s .undef) []) (by simpa [Heap.ents] using he)) (Nat.le_refl _) (by simp)
   exact ⟨[], rfl, _, [], by simp [oneOr, fitV, fitL], hid⟩
  | cons c0 r0 =>
   have hg2 : progGo (c0 :: r0).length (c0 :: r0) q = progGo r0.length (lineOf (c0 :: r0)).2 (takeLn q (lineOf (c0 :: r0)).1) := rfl
   have hless := lineOf_less (r := c0 :: r0) (by simp)
   have hle := lineOf_le (c0 :: r0)
   obtain ⟨r, hrr⟩ : ∃ r, r = c0 :: r0 := ⟨_, rfl⟩
   have hpos : (0 : Int) < (r.length : Int) := by rw [hrr]; simp
   rw [← hrr] at hg2 hless hle hr hf hg ⊢
   have ki := fun H => k42 hI r 10 H
   have e10 : ((10 : UInt8).toNat : Int) = 10 := rfl
   simp only [e10] at ki
   have rq : progGo r.length r q = progGo (lineOf r).2.length (lineOf r).2 (takeLn q (lineOf r).1) := by
    have h0 : r.length = r0.length + 1 := by rw [hrr]; rfl
    rw [hg2, progGo_fuel r0.length _ _ (by omega)]
   rw [rq] at hg
   have hf2 := takeLn_few hf (l := (lineOf r).1) (by omega)
   have bnd : q.res.length < 1000000 ∧ q.els.length < 1000000 ∧ q.ats.length < 1000000 ∧ q.sch.length < 1000000 := by have := hf.few; omega
   repeat apply wq
   refine wps_region callOK ?_
   simp [zS, g2, hpos]
   repeat apply wq
   refine wps_cond (t := true) (by simp [opnd, St.get, zS]; omega) (fun _ => ?_) fun h => by cases h
   repeat apply wq
   refine wps_skip ?_
   simp
   repeat apply wq
   refine wps_block ?_
   repeat apply wq
   refine wps_region callOK ?_
   simp [zS]
   repeat apply wq
   refine wps_region callOK ?_
   simp [zS, g2, ki]
   rcases idxB r 10 with ⟨h1, _⟩ | ⟨k, hk, h1, _⟩
   ·have hln : lineOf r = (r, []) := by unfold lineOf; rw [h1]; rfl
    rw [hln] at hf2 hg
    simp only at hf2 hg
    obtain ⟨ks', ok', hy⟩ := round tk hT hC (okC (Nat.le_refl 12)) bnd s [] r (by omega)
    repeat apply wq
    refine wps_region callOK ?_
    simp [zS, h1]
    repeat apply wq
    refine wps_cf (by simp [opnd, St.get, zS, h1]) ?_
    repeat apply wq
    refine wps_region callOK ?_
    simp [zS, g2, s2, layL, overL]
    repeat apply wq
    refine wps_region (callOKY [⟨7, _, _, _, _, hy⟩]) ?_
    simp [zS, callY_hit]
    repeat apply wq
    refine wps_cf (by simp [opnd, St.get, zS]) ?_
    repeat apply wq
    refine wps_skip ?_
    simp
    exact hB _ ([], takeLn q r) (by simp only [List.length_nil]; rw [← hrr]; omega) ⟨by simp, hf2.mono (by simp only [List.length_nil]; omega), hg⟩ ⟨renA ks', [], rfl, rfl, rfl, by simp [fitL, fitV, lookN, renA], fit_can8 ok' fun e he => get_of_mem (fs := [[], rowsA (LBp .ready s .undef) [] ++ PF 1 (takeLn q r) ks']) (b := e.1) (k := e.2) (by simpa using ok'.nd (q := takeLn q r) (LBp .ready s .undef) []) (by simpa using he)⟩
   ·have c1 : (0 : Int) ≤ (k : Int) := by omega
    have hln : lineOf r = (r.take (k + 1), r.drop (k + 1)) := by unfold lineOf; rw [h1, if_pos c1]; rfl
    rw [hln] at hf2 hg hless
    simp only at hf2 hg hless
    have hw : wr .i64 ((k : Int) + 1) = some ((k + 1 : Nat) : Int) := add_one (by omega)
    have sl1 := fun H => slStrTo (H := H) (s := r) (j := k + 1) (by omega)
    have sl2 := fun H => slStr (H := H) (s := r) (i := k + 1) (by omega)
    simp only [Int.natCast_add, Int.natCast_one] at sl1 sl2 hw
    obtain ⟨ks', ok', hy⟩ := round tk hT hC (okC (n := 22) (by omega)) bnd s (r.drop (k + 1)) (r.take (k + 1)) (by simp; omega)
    repeat apply wq
    refine wps_region callOK ?_
    simp [zS, h1, c1]
    repeat apply wq
    refine wps_ct (by simp [opnd, St.get, zS, h1]) ?_
    generalize hr1 : r.take (k + 1) = l1 at *
    generalize hr2 : r.drop (k + 1) = l2 at *
    repeat apply wq
    refine wps_drawn mixed callOK (by decide +kernel) fun B_ hB_ => ?_
    have d_0_9 : ahead B_ 0 9 = true := by rw [hB_]; decide +kernel
    have d_3_9 : ahead B_ 3 9 = true := by rw [hB_]; decide +kernel
    have d_4_9 : ahead B_ 4 9 = true := by rw [hB_]; decide +kernel
    have d_7_9 : ahead B_ 7 9 = true := by rw [hB_]; decide +kernel
    have d_9_0 : ahead B_ 9 0 = false := by rw [hB_]; decide +kernel
    have d_9_3 : ahead B_ 9 3 = false := by rw [hB_]; decide +kernel
    have d_9_4 : ahead B_ 9 4 = false := by rw [hB_]; decide +kernel
    have d_9_7 : ahead B_ 9 7 = false := by rw [hB_]; decide +kernel
    simp [zS, mkBlk, guardA, evalD, stepD, clsOf, reserve, freshenAll, sameRecs, sameAll, sameAt, allPend, Heap.lay, ontoF, wantedBy, unwantedBy, d_0_9, d_3_9, d_4_9, d_7_9, d_9_0, d_9_3, d_9_4, d_9_7, g2, s2, layL, overL, hw, sl1, sl2]
    repeat apply wq
    refine wps_region (callOKY [⟨7, _, _, _, _, hy⟩]) ?_
    simp [zS, callY_hit]
    repeat apply wq
    refine wps_cf (by simp [opnd, St.get, zS]) ?_
    repeat apply wq
    refine wps_skip ?_
    simp
    exact hB _ (l2, takeLn q l1) (by simp only; rw [← hrr]; exact hless) ⟨by simp only; omega, hf2.mono (by simp only; omega), hg⟩ ⟨renA ks', [], rfl, rfl, rfl, by simp [fitL, fitV, lookN, renA], fit_can8 ok' fun e he => get_of_mem (fs := [[], rowsA (LBp .ready s .undef) l2 ++ PF 1 (takeLn q l1) ks']) (b := e.1) (k := e.2) (by simpa using ok'.nd (q := takeLn q l1) (LBp .ready s .undef) l2) (by simpa using he)⟩
theorem progGo_few : ∀ (n : Nat) (r : Str) (q : PolR) (k : Nat), Few k q → r.length ≤ k → Few (k + n) (progGo n r q)
 | 0, _, _, _, h, _ => h
 | n + 1, [], _, _, h, _ => h.mono (by omega)
 | n + 1, c :: r, q, k, h, hr => by
  have h1 := lineOf_less (r := c :: r) (by simp)
  have h2 := lineOf_le (c :: r)
  have := progGo_few n (lineOf (c :: r)).2 (takeLn q (lineOf (c :: r)).1) (k + 1) (takeLn_few h (by omega)) (by omega)
  exact this.mono (by omega)
def CLv : AV := .func (.func 41) [] [.ptr 2 0]
theorem c18p {T : List (Entry Tryz.prog)} (s : Str) : CallAt (ctx T) 18 [.str s] ⟨2, [[(1, .cells Z0), (0, .cells Z0)]]⟩ CLv ⟨3, [[(2, .cells [.str s]), (1, .cells Z0), (0, .cells Z0)]]⟩ := by
 refine callAt_body (fn := Tryz.f18) (s0 := ⟨[0, 1, 2], [.str s, .undef, .undef], [], 4, ⟨2, [] :: [[(1, .cells Z0), (0, .cells Z0)]]⟩⟩) Tryz.func18 rfl rfl rfl ?_
 repeat apply wq
 refine wps_region callOK ?_
 simp [zS]
 repeat apply wq
 refine wps_region callOK ?_
 simp [zS]
 repeat apply wq
 refine wps_ret ?_
 simp [retVal, Tryz.f18, oneOr]
 refine ⟨[(0, 0), (1, 1), (2, 2)], [], by simp [CLv, fitV, fitL, lookN], ⟨by simp, by simp, by simp [Heap.ents], by simp, by simp, by simp, fun e he => ?_, fun x h => by cases h⟩⟩
 simp [Heap.ents] at he
 rcases he with rfl | rfl | rfl
 ·exact ⟨2, .cells [.str s], by simp, rfl, fitL_pure (by simp [pureL, pureV])⟩
 ·exact ⟨1, .cells Z0, by simp, rfl, fitL_pure rfl⟩
 ·exact ⟨0, .cells Z0, by simp, rfl, fitL_pure rfl⟩
theorem call_Lines {T : List (Entry Tryz.prog)} (tk : TakeC (ctx T) 21 atoiN) (hT : findE 20 T = some e20.g) (hC : findE 19 T = some e19.g) (hI : findE 42 T = some e42.g) (s : Str) (hs : s.length ≤ 100000) :
  CallAt (ctx T) 41 [.yld 7, .ptr 2 0] ⟨8, [rowsA (LBp .ready s CLv) s ++ PF 1 pol0 ⟨3, 4, 5, 6⟩]⟩ (.tup []) ⟨12, [rowsA (LBp .ready s .undef) [] ++ PF 1 (progGo s.length s pol0) ksC]⟩ := by
 have ok1 : okA 8 ⟨3, 4, 5, 6⟩ := ⟨⟨by simp, by simp⟩, by simp [kids_], by simp [kids_], by simp [kids_], by omega⟩
 have nd1 := ok1.nd (q := pol0) (LBp .ready s CLv) s
 refine (c41 tk hT hC hI s (by omega)).drop (σ := idn 8) (Φ := []) (fun _ => ?_) ?_
 ·refine ⟨by simpa using idn_nd 8, idn_nd2 8, by simpa [Heap.ents] using ok1.nd (q := pol0) (LBp .ready s .undef) s, ?_, ?_, Nat.le_refl _, ?_, fun x h => by cases h⟩
  ·intro x hx
   obtain ⟨i, hi, rfl⟩ := List.mem_map.1 hx
   simpa using hi
  ·intro x hx hlt
   obtain ⟨i, hi, rfl⟩ := List.mem_map.1 hx
   rfl
  ·intro e he
   have he : e ∈ rowsA (LBp .ready s .undef) s ++ PF 1 pol0 ⟨3, 4, 5, 6⟩ := by simpa [Heap.ents] using he
   obtain ⟨l1, l2⟩ := ok1.self e he
   have get : ∀ e, e ∈ rowsA (LBp .ready s CLv) s ++ PF 1 pol0 ⟨3, 4, 5, 6⟩ → Heap.get ⟨8, [rowsA (LBp .ready s CLv) s ++ PF 1 pol0 ⟨3, 4, 5, 6⟩]⟩ e.1 = some e.2 := fun e he =>
    get_of_mem (fs := [rowsA (LBp .ready s CLv) s ++ PF 1 pol0 ⟨3, 4, 5, 6⟩]) (b := e.1) (k := e.2) (by simpa using nd1) (by simpa using he)
   rcases List.mem_append.1 he with hA | hP
   ·simp only [rowsA, List.mem_cons, List.not_mem_nil, or_false] at hA
    rcases hA with rfl | rfl | rfl
    ·refine ⟨7, LBp .ready s CLv, idn_mem (by omega), get (7, LBp .ready s CLv) (by simp [rowsA]), ?_⟩
     have i0 := lookN_idn (m := 8) (i := 0) (by omega)
     have i1 := lookN_idn (m := 8) (i := 1) (by omega)
     simp [LBp, fitB, fitL, fitV, i0, i1, pureV, CLv]
    ·exact ⟨0, _, idn_mem (by omega), get (0, .cells Z0) (by simp [rowsA]), l2 _ (idl_idn 8)⟩
    ·exact ⟨2, _, idn_mem (by omega), get (2, .cells [.str s]) (by simp [rowsA]), l2 _ (idl_idn 8)⟩
   ·exact ⟨e.1, e.2, idn_mem l1, get e (List.mem_append_right _ hP), l2 _ (idl_idn 8)⟩
 ·have i2 := lookN_idn (m := 8) (i := 2) (by omega)
  have i7 := lookN_idn (m := 8) (i := 7) (by omega)
  simp [fitL, fitV, i2, i7]
def stP (s : Str) (H : Heap) : St := (⟨[0, 2, 3, 4, 5, 6, 7, 10, 11], [.str s, .ptr 0 0, .int .i64 0, .ptr 1 0, .undef, .undef, .undef, CLv, .undef], [], 32, H⟩ : St)
def hP0 (s : Str) : Heap := ⟨7, [[(0, .cells Z0), (2, .cells [.str s])] ++ PF 1 pol0 ⟨3, 4, 5, 6⟩]⟩
def hP1 (s : Str) : Heap := ⟨12, [[(0, .cells Z0), (2, .cells [.str []])] ++ PF 1 (progGo s.length s pol0) ksC]⟩
theorem fit_P0 (s : Str) : FitH 0 [(0, 0), (1, 1), (2, 2)] [] ⟨3, [[(2, .cells [.str s]), (1, .cells Z0), (0, .cells Z0)]]⟩ (hP0 s) := by
 refine ⟨by simp, by simp, by simp [hP0, Heap.ents, PF, polG, pol0, ownF], by simp [hP0], by simp, by simp [hP0], fun e he => ?_, fun x h => by cases h⟩
 have he : e = (0, .cells Z0) ∨ e = (2, .cells [.str s]) ∨ e = (1, .cells (polO pol0 ⟨3, 4, 5, 6⟩)) := by simpa [hP0, Heap.ents, PF, polG, pol0, ownF] using he
 rcases he with rfl | rfl | rfl
 ·exact ⟨0, .cells Z0, by simp, by simp [Heap.get, getFs, getF], fitL_pure rfl⟩
 ·exact ⟨2, .cells [.str s], by simp, by simp [Heap.get, getFs, getF], fitL_pure (by simp [pureL, pureV])⟩
 ·exact ⟨1, .cells Z0, by simp, by simp [Heap.get, getFs, getF], by simp [fitB, polO, pol0, ownV, fitL, fitV, pureV]⟩
theorem range_Parse {T : List (Entry Tryz.prog)} (s : Str) {call : CallE} (hc : call (.fn 41) [.yld 7, .ptr 2 0] ⟨8, [rowsA (LBp .ready s CLv) s ++ PF 1 pol0 ⟨3, 4, 5, 6⟩]⟩ = some (.tup [], ⟨12, [rowsA (LBp .ready s .undef) [] ++ PF 1 (progGo s.length s pol0) ksC]⟩)) :
  evalRange (ctx T) call (.tmp 10) #[11] asP bdP (stP s (hP0 s)) = some (.normal, stP s (hP1 s)) := by
 have hent : entersF (ctx T) 41 = true := by kernel_rfl
 have ho : opnd (stP s (hP0 s)) (.tmp 10) = some CLv := rfl
 unfold evalRange
 rw [ho]
 simp only [Option.bind_some, CLv, hent]
 have e : call (.fn 41) ([] ++ [.yld (stP s (hP0 s)).H.n] ++ [.ptr 2 0]) ((stP s (hP0 s)).H.new (.loop .ready none (stP s (hP0 s)).ks (stP s (hP0 s)).vs (stP s (hP0 s)).ts (stP s (hP0 s)).sz (#[11] : Array Nat).toList asP bdP)) = some (.tup [], ⟨12, [rowsA (LBp .ready s .undef) [] ++ PF 1 (progGo s.length s pol0) ksC]⟩) := hc
 rw [e]
 rfl
theorem c7 {T : List (Entry Tryz.prog)} (tk : TakeC (ctx T) 21 atoiN) (hT : findE 20 T = some e20.g) (hC : findE 19 T = some e19.g) (hI : findE 42 T = some e42.g)
  (hP : findE 9 T = some e9.g) (s : Str) (hs : s.length ≤ 100000) : CallAt (ctx T) 7 [.str s] ⟨0, []⟩ (parsA (progGo s.length s pol0) s) ⟨0, []⟩ := by
 have hcall := call_Lines tk hT hC hI s hs
 have hfew := progGo_few s.length s pol0 s.length (few0.mono (by omega)) (Nat.le_refl _)
 have kp := fun H => k9 hP (hfew.ok (by omega)) H
 refine callAt_body (fn := Tryz.f7) (s0 := ⟨[0, 2, 3, 4, 5, 6, 7, 10, 11], [.str s, .undef, .undef, .undef, .undef, .undef, .undef, .undef, .undef], [], 32, ⟨0, [[]]⟩⟩) Tryz.func7 rfl rfl rfl ?_
 repeat apply wq
 refine wps_region callOK ?_
 simp [zS]
 repeat apply wq
 refine wps_region callOK ?_
 simp [zS]
 repeat apply wq
 refine wps_region (callOKF [⟨18, _, _, _, _, c18p s⟩]) ?_
 simp [zS, callF]
 repeat apply wq
 refine .fit [(0, 0), (1, 1), (2, 2)] [] (s' := stP s (hP0 s)) ⟨rfl, rfl, rfl, by simp [stP, CLv, fitL, fitV, lookN, pureV], ?_⟩ ?_
 ·exact fit_P0 s
 repeat apply wq
 refine wps_block ?_
 refine wps_range (callOKF [⟨41, _, _, _, _, hcall⟩]) ⟨.normal, stP s (hP1 s), range_Parse (T := T) s (by simp [callF]), ?_⟩
 have okA12 := okC (Nat.le_refl 12)
 have hrows : ∀ e, e ∈ [((0, .cells Z0) : Nat × Blk), (2, .cells [.str []])] → e.1 < 12 ∧ e.1 ∉ kids_ 1 ksC := fun e he => by
  simp at he
  rcases he with rfl | rfl <;> simp [kids_, ksC]
 have ndH := nodup_in (q := progGo s.length s pol0) okA12.1.nd hrows (by simp)
 have hfit := fit_polH (H := hP1 s) (q := progGo s.length s pol0) (Z := Z0) okA12.1 okA12.2.1 rfl fun e he => get_of_mem (fs := [[((0, .cells Z0) : Nat × Blk), (2, .cells [.str []])] ++ PF 1 (progGo s.length s pol0) ksC]) (b := e.1) (k := e.2) (by simpa using ndH) (by
  simp only [List.cons_append, List.nil_append, List.mem_cons] at he
  simp only [List.flatten_cons, List.flatten_nil, List.append_nil, List.cons_append, List.nil_append, List.mem_cons]
  rcases he with h | h
  ·exact .inl h
  ·exact .inr (.inr h))
 simp only [blockQ]
 show thenQ _ _ _ _
 simp only [thenQ]
 repeat apply wq
 refine .fit [(0, 0), (1, 1)] (frzP (progGo s.length s pol0) ksC) (s' := (⟨[0, 2, 3, 4, 5, 6, 7, 10, 11], [.str s, .ptr 0 0, .undef, .ptr 1 0, .undef, .undef, .undef, .undef, .undef], [], 32, ⟨2, [[(0, .cells Z0), (1, .cells (polC (progGo s.length s pol0)))]]⟩⟩ : St)) ⟨rfl, rfl, rfl, by simp [stP, CLv, fitL, fitV, lookN, pureV], hfit⟩ ?_
 clear hfit ndH hcall hfew tk
 generalize progGo s.length s pol0 = q at *
 have pA : polA q = .agg (polC q) := rfl
 have hpC := pol_pureC q
 have hsub : subL 0 11 (polC q) = some (polC q) := rfl
 have hsg : allSingle (polC q) = true := by simp [polC, allSingle, AV.single]
 have hl11 : (polC q).length = 11 := rfl
 have hrf : (polC q).flatMap (refs 6) = [] := by simp [polC, refs]
 have hly : ∀ D : List AV, D.length = 11 → layL (polC q) 0 D = some (polC q) := fun D hD => by
  have := overL_app (b := D) (b' := polC q) (c := []) (by rw [hD]; rfl)
  simpa [layL] using this
 have hlz : layL (polC q) 0 Z0 = some (polC q) := hly Z0 rfl
 unfold parsA
 rw [pA] at kp ⊢
 generalize printV q = t at *
 generalize polC q = C at *
 have hz : buildA Tryz.prog 24 [] = some (.agg Z0) := rfl
 by_cases h0 : s = []
 ·rw [if_pos (.inl h0)]
  repeat apply wq
  refine wps_region callOK ?_
  simp [zS, h0, hsub]
  repeat apply wq
  refine wps_ct (by simp [opnd, St.get, zS]) ?_
  repeat apply wq
  refine wps_region callOK ?_
  simp [zS, hz, layL, overL, subL, takeL]
  repeat apply wq
  refine wps_ret ?_
  simp [retVal, Tryz.f7, oneOr, subL, takeL, readCells, Heap.get, getFs, getF]
  refine ⟨[], [], ?_, FitH.empty⟩
  simp [fitV, fitL, polA, polC, pol0, aStrs, pureV]
 ·by_cases hp : t = s
  ·rw [if_neg (by simp [h0, hp])]
   repeat apply wq
   refine wps_region callOK ?_
   simp [zS, h0, hsub, kp, hp]
   repeat apply wq
   refine wps_cf (by simp [opnd, St.get, zS]) ?_
   repeat apply wq
   refine wps_skip ?_
   simp
   repeat apply wq
   refine wps_region callOK ?_
   simp [zS, hsub, hsg, hl11, hlz, hrf]
   repeat apply wq
   refine wps_ret ?_
   simp [retVal, Tryz.f7, oneOr, hsub, readCells, Heap.get, getFs, getF]
   exact ⟨[], [], fitV_pure (by simp [pureV, pureL, hpC]), FitH.empty⟩
  ·rw [if_pos (.inr hp)]
   repeat apply wq
   refine wps_region callOK ?_
   simp [zS, h0, hsub, kp, hp]
   repeat apply wq
   refine wps_ct (by simp [opnd, St.get, zS]) ?_
   repeat apply wq
   refine wps_region callOK ?_
   simp [zS, hz, layL, overL, subL, takeL]
   repeat apply wq
   refine wps_ret ?_
   simp [retVal, Tryz.f7, oneOr, subL, takeL, readCells, Heap.get, getFs, getF]
   refine ⟨[], [], ?_, FitH.empty⟩
   simp [fitV, fitL, polA, polC, pol0, aStrs, pureV]
end Go.Proofs.YtfncefamflainaaGreatDoor