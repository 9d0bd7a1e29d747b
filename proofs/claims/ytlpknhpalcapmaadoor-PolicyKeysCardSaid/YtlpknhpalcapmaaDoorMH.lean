/- words.Split of any text of single bytes. No condition. -/
import Derived.Test.YtlpknhpalcapmaaDoorMG
import Derived.Test.YtlpknhpalcapmaaDoorMF
namespace Go.Proofs.YtlpknhpalcapmaaDoor
set_option linter.unusedSimpArgs false
set_option linter.unusedVariables false
open Go Go.RowKit
set_option maxRecDepth 100000

/-! ### Splitting, of texts that are written down -/
def strsB : List AV → List Str → Bool
  | [], l => match l with
    | [] => true
    | _ :: _ => false
  | v :: r, l => match v, l with
    | .str s, t :: q => match eqB s t with
      | true => strsB r q
      | false => false
    | _, _ => false
theorem strsB_eq : ∀ {cs : List AV} {L : List Str}, strsB cs L = true → cs = L.map AV.str
  | [], [], _ => rfl
  | [], _ :: _, h => by simp [strsB] at h
  | v :: r, L, h => by
    cases v <;> cases L <;> simp only [strsB] at h <;> first | (cases h; done) | skip
    rename_i s t q
    split at h
    · rename_i he
      rw [eqB_eq] at he
      simp only [decide_eq_true_eq] at he
      rw [he, strsB_eq h]; rfl
    · cases h
def splitOK (L : List Str) : Option (AV × Heap) → Bool
  | some (.slc b 0 len _, H) => match H.get b with
    | some (.cells cs) => match strsB cs L with
      | true => Nat.beq len L.length
      | false => false
    | _ => false
  | _ => false
theorem closedSplit {T : List (Entry Tryd.prog)} {f : FuncId} {args : List AV} {L : List Str} (h : splitOK L (callN (ctx T) 100000 (.fn f) args ⟨0, []⟩) = true) : CallAt (ctx T) f args ⟨0, []⟩ (aStrs L) ⟨0, []⟩ := by
  revert h
  cases hr : callN (ctx T) 100000 (.fn f) args ⟨0, []⟩ with
  | none => intro h; cases h
  | some r =>
    obtain ⟨v, H'⟩ := r
    intro h
    cases v <;> simp only [splitOK] at h <;> first | (cases h; done) | skip
    rename_i b o len cap
    cases o with
    | succ o => simp [splitOK] at h
    | zero =>
      simp only [splitOK] at h
      split at h
      · rename_i cs hg
        split at h
        · rename_i hs
          have hcs := strsB_eq hs
          have hlen := Nat.eq_of_beq_eq_true h
          refine ((call_ok mixed (mkC_ok _ _ _) 100000).fn f args ⟨0, []⟩ _ _ hr).freeze (Φ := [(b, cs)]) ?_ (.froze (by simp) fun x hx => ?_)
          · simp only [aStrs, fitV]
            refine .inl ⟨cs, by simp [lookC], ?_, by simp [hlen], (el_str L).size⟩
            have h1 := sub_pre (el_str L) (k := L.length) (by simp)
            rw [List.take_of_length_le (by simp)] at h1
            have h2 : flatAV (L.map AV.str) = cs := by
              rw [hcs]
              clear h1 hcs hs h hlen
              induction L with
              | nil => rfl
              | cons x r ih => simp only [List.map_cons, flatAV, ih]; rfl
            rw [h2] at h1 ⊢
            rw [hlen]; exact h1
          · simp only [List.mem_singleton] at hx
            subst hx
            have hp : pureL cs = true := by
              rw [hcs]
              clear hcs hs h hlen
              induction L with
              | nil => rfl
              | cons x r ih => simpa [pureL, pureV] using ih
            exact ⟨cs, hg, fitL_pure hp, hp⟩
        · cases h
      · cases h
theorem occ_iff {s x : Str} {i : Nat} : Lib.occAt s x i = true ↔ (s.drop i).take x.length = x := by
  unfold Lib.occAt
  rw [List.isPrefixOf_iff_prefix, List.prefix_iff_eq_take]
  exact eq_comm
theorem c25 {T : List (Entry Tryd.prog)} (hI : findE 41 T = some e41.g) (hS : findE 31 T = some e31.g) (W x : Str) (hl : W.length ≤ 100000) (hx1 : x.length ≤ 1000000000)
    (hsp : CallAt (ctx T) 14 [.str W] ⟨0, []⟩ (aStrs (wsplit W)) ⟨0, []⟩) (hco : CallAt (ctx T) 42 [aStrs (wsplit W), .str x] ⟨0, []⟩ (.bool (decide (x ∈ wsplit W))) ⟨0, []⟩) :
    CallAt (ctx T) 25 [.str W, .str x] ⟨0, []⟩ (.bool (inW W x)) ⟨0, []⟩ := by
  have h1 := hsp.lift (by simp [pureL, pureV]) ⟨0, [[]]⟩
  have h2 := hco.lift (by simp [aStrs, pureL, pureV]) ⟨0, [[]]⟩
  refine callAt_body (fn := Tryd.f25) (s0 := ⟨[0, 1, 4, 5, 6, 7, 8], [.str W, .str x, .undef, .undef, .undef, .undef, .undef], [], 52, ⟨0, [[]]⟩⟩) Tryd.func25 rfl rfl rfl ?_
  repeat refine wps_seq ?_
  refine wps_region callOK ?_
  simp [zS]
  by_cases hx : x = []
  · repeat refine wps_seq ?_
    refine wps_region callOK ?_
    simp [zS, hx]
    repeat refine wps_seq ?_
    refine wps_cond (t := true) rfl (fun _ => ?_) fun h => by cases h
    repeat refine wps_seq ?_
    refine wps_region callOK ?_
    simp [zS]
    repeat refine wps_seq ?_
    refine wps_ret ?_
    simp [retVal, Tryd.f25, oneOr, thenQ, blockQ]
    exact ends_pure rfl (by simp only [inW]; symm; simp; intro h; exact word_ne h rfl)
  repeat refine wps_seq ?_
  refine wps_region callOK ?_
  simp [zS, hx]
  repeat refine wps_seq ?_
  refine wps_cond (t := false) rfl (fun h => by cases h) fun _ => ?_
  repeat refine wps_seq ?_
  refine wps_skip ?_
  simp
  have hx0 : 0 < x.length := List.length_pos_iff.2 hx
  repeat refine wps_seq ?_
  refine wps_region callOK ?_
  simp [zS]
  repeat refine wps_seq ?_
  refine wps_block (wps_loop' (fun i : Nat => (⟨[0, 1, 4, 5, 6, 7, 8], [.str W, .str x, .undef, .int .i64 i, .undef, .undef, .undef], [], 52, ⟨0, [[]]⟩⟩ : St))
    (fun i => i ≤ W.length ∧ (x ∈ wsplit W → ∃ p, i ≤ p ∧ WordAt W x p)) (fun i => W.length + 1 - i) [] [] 0 ⟨Nat.zero_le _, fun h => let ⟨p, hp⟩ := word_at h; ⟨p, Nat.zero_le _, hp⟩⟩ ⟨rfl, rfl, rfl, by simp [fitL, fitV, pureV, pureL], FitH.nothing⟩ ?_)
  rintro i ⟨hi, hw⟩ B hB
  have hd : (W.drop i).length ≤ 1000000 := by simp; omega
  repeat refine wps_seq ?_
  refine wps_block ?_
  rcases Lib.index_spec (W.drop i) x with ⟨h0, hn⟩ | ⟨k, h0, hk, ho, hno⟩
  · have hnot : ¬ x ∈ wsplit W := fun h => by
      obtain ⟨p, hp, hwa⟩ := hw h
      have hr := hwa.room
      have := hn (p - i) (by simp; omega)
      have h3 : Lib.occAt (W.drop i) x (p - i) = true := occ_iff.2 (by rw [List.drop_drop, show i + (p - i) = p by omega]; exact hwa.occ)
      rw [h3] at this
      cases this
    repeat refine wps_seq ?_
    refine wps_region callOK ?_
    simp [zS, slStr hi, k41 hI hd, h0]
    repeat refine wps_seq ?_
    refine wps_region callOK ?_
    simp [zS]
    repeat refine wps_seq ?_
    refine wps_cond (t := true) rfl (fun _ => ?_) fun h => by cases h
    repeat refine wps_seq ?_
    refine wps_region callOK ?_
    simp [zS]
    repeat refine wps_seq ?_
    refine wps_ret ?_
    simp [retVal, Tryd.f25, oneOr, thenQ, blockQ]
    exact ends_pure rfl (by simp [inW, hnot])
  · have hk0 : ¬ (k : Int) < 0 := by omega
    obtain ⟨j, hj⟩ : ∃ j, j = i + k := ⟨_, rfl⟩
    have ho' := occ_iff.1 ho
    rw [List.drop_drop, ← hj] at ho'
    have hroom : j + x.length ≤ W.length := by
      have := congrArg List.length ho'
      simp at this
      simp at hk
      omega
    have a1 : wr .i64 ((i : Int) + (k : Int)) = some (j : Int) := by rw [wr_small (by omega) (by omega), hj]; simp
    obtain ⟨q, hq⟩ : ∃ q, q = j + x.length := ⟨_, rfl⟩
    have a2 : wr .i64 ((j : Int) + (x.length : Int)) = some (q : Int) := by rw [wr_small (by omega) (by omega), hq]; simp
    have nxt : ∀ s', ¬ WordAt W x j → (∃ σ Φ, Fit 0 σ Φ s' (⟨[0, 1, 4, 5, 6, 7, 8], [.str W, .str x, .undef, .int .i64 ((j + 1 : Nat) : Int), .undef, .undef, .undef], [], 52, ⟨0, [[]]⟩⟩ : St)) → B s' := fun s' hno2 hf =>
      hB s' (j + 1) (by omega) ⟨by omega, fun h => by
        obtain ⟨p, hp, hwa⟩ := hw h
        refine ⟨p, ?_, hwa⟩
        have hr := hwa.room
        apply Decidable.byContradiction
        intro hlt
        rcases Nat.lt_or_ge p j with hpj | hpj
        · have h3 := hno (p - i) (by omega)
          have h4 : Lib.occAt (W.drop i) x (p - i) = true := occ_iff.2 (by rw [List.drop_drop, show i + (p - i) = p by omega]; exact hwa.occ)
          rw [h4] at h3
          cases h3
        · have : p = j := by omega
          subst this
          exact hno2 hwa⟩ hf
    repeat refine wps_seq ?_
    refine wps_region callOK ?_
    simp [zS, slStr hi, k41 hI hd, h0]
    repeat refine wps_seq ?_
    refine wps_region callOK ?_
    simp [zS, hk0]
    repeat refine wps_seq ?_
    refine wps_cond (t := false) rfl (fun h => by cases h) fun _ => ?_
    repeat refine wps_seq ?_
    refine wps_skip ?_
    simp
    repeat refine wps_seq ?_
    refine wps_region callOK ?_
    simp [zS, a1]
    repeat refine wps_seq ?_
    refine wps_region callOK ?_
    simp [zS, a2]
    have kS := fun c H => k31 hS c H
    by_cases c0 : j = 0
    · have a4 : wr .i64 1 = some ((j + 1 : Nat) : Int) := by rw [c0]; rfl
      by_cases d0 : q = W.length
      · repeat refine wps_seq ?_
        refine wps_region callOK ?_
        simp [zS, c0, d0]
        repeat refine wps_seq ?_
        refine wps_cond (t := true) rfl (fun _ => ?_) fun h => by cases h
        repeat refine wps_seq ?_
        refine wps_region (callOKF [⟨14, _, _, _, _, h1⟩, ⟨42, _, _, _, _, h2⟩]) ?_
        simp [zS, callF, aStrs]
        repeat refine wps_seq ?_
        refine wps_ret ?_
        simp [retVal, Tryd.f25, oneOr, thenQ, blockQ]
        exact ends_pure rfl (by simp [inW])
      · have hql : q < W.length := by omega
        have d0i : ¬ (q : Int) = (W.length : Int) := by omega
        rcases Bool.eq_false_or_eq_true (sp W[q]) with d1 | d1
        · repeat refine wps_seq ?_
          refine wps_region callOK ?_
          simp [zS, c0, d0i, ixStr hql, kS, d1]
          repeat refine wps_seq ?_
          refine wps_cond (t := true) rfl (fun _ => ?_) fun h => by cases h
          repeat refine wps_seq ?_
          refine wps_region (callOKF [⟨14, _, _, _, _, h1⟩, ⟨42, _, _, _, _, h2⟩]) ?_
          simp [zS, callF, aStrs]
          repeat refine wps_seq ?_
          refine wps_ret ?_
          simp [retVal, Tryd.f25, oneOr, thenQ, blockQ]
          exact ends_pure rfl (by simp [inW])
        · repeat refine wps_seq ?_
          refine wps_region callOK ?_
          simp [zS, c0, d0i, ixStr hql, kS, d1]
          repeat refine wps_seq ?_
          refine wps_cond (t := false) rfl (fun h => by cases h) fun _ => ?_
          repeat refine wps_seq ?_
          refine wps_skip ?_
          simp
          repeat refine wps_seq ?_
          refine wps_region callOK ?_
          simp [zS, a4]
          exact nxt _ (fun hwa => by have := hwa.post _ (by rw [← hq]; exact List.getElem?_eq_getElem hql); rw [d1] at this; cases this) ⟨[], [], ⟨rfl, rfl, rfl, by simp [fitL, fitV, pureV, pureL], FitH.nothing⟩⟩
    · obtain ⟨q1, hq1⟩ : ∃ q1, q1 + 1 = j := ⟨j - 1, by omega⟩
      have hq1l : q1 < W.length := by omega
      have a3 : wr .i64 ((j : Int) - 1) = some (q1 : Int) := by rw [wr_small (by omega) (by omega)]; congr 1; omega
      rcases Bool.eq_false_or_eq_true (sp W[q1]) with c1 | c1
      · skip
        by_cases d0 : q = W.length
        · repeat refine wps_seq ?_
          refine wps_region callOK ?_
          simp [zS, c0, a3, ixStr hq1l, kS, c1, d0]
          repeat refine wps_seq ?_
          refine wps_cond (t := true) rfl (fun _ => ?_) fun h => by cases h
          repeat refine wps_seq ?_
          refine wps_region (callOKF [⟨14, _, _, _, _, h1⟩, ⟨42, _, _, _, _, h2⟩]) ?_
          simp [zS, callF, aStrs]
          repeat refine wps_seq ?_
          refine wps_ret ?_
          simp [retVal, Tryd.f25, oneOr, thenQ, blockQ]
          exact ends_pure rfl (by simp [inW])
        · have hql : q < W.length := by omega
          have d0i : ¬ (q : Int) = (W.length : Int) := by omega
          rcases Bool.eq_false_or_eq_true (sp W[q]) with d1 | d1
          · repeat refine wps_seq ?_
            refine wps_region callOK ?_
            simp [zS, c0, a3, ixStr hq1l, kS, c1, d0i, ixStr hql, kS, d1]
            repeat refine wps_seq ?_
            refine wps_cond (t := true) rfl (fun _ => ?_) fun h => by cases h
            repeat refine wps_seq ?_
            refine wps_region (callOKF [⟨14, _, _, _, _, h1⟩, ⟨42, _, _, _, _, h2⟩]) ?_
            simp [zS, callF, aStrs]
            repeat refine wps_seq ?_
            refine wps_ret ?_
            simp [retVal, Tryd.f25, oneOr, thenQ, blockQ]
            exact ends_pure rfl (by simp [inW])
          · repeat refine wps_seq ?_
            refine wps_region callOK ?_
            simp [zS, c0, a3, ixStr hq1l, kS, c1, d0i, ixStr hql, kS, d1]
            repeat refine wps_seq ?_
            refine wps_cond (t := false) rfl (fun h => by cases h) fun _ => ?_
            repeat refine wps_seq ?_
            refine wps_skip ?_
            simp
            repeat refine wps_seq ?_
            refine wps_region callOK ?_
            simp [zS, add_one (show j ≤ 1000000000 by omega)]
            exact nxt _ (fun hwa => by have := hwa.post _ (by rw [← hq]; exact List.getElem?_eq_getElem hql); rw [d1] at this; cases this) ⟨[], [], ⟨rfl, rfl, rfl, by simp [fitL, fitV, pureV, pureL], FitH.nothing⟩⟩
      · repeat refine wps_seq ?_
        refine wps_region callOK ?_
        simp [zS, c0, a3, ixStr hq1l, kS, c1]
        repeat refine wps_seq ?_
        refine wps_cond (t := false) rfl (fun h => by cases h) fun _ => ?_
        repeat refine wps_seq ?_
        refine wps_skip ?_
        simp
        repeat refine wps_seq ?_
        refine wps_region callOK ?_
        simp [zS, add_one (show j ≤ 1000000000 by omega)]
        exact nxt _ (fun hwa => by have := hwa.pre _ (by omega) (by rw [← hq1, Nat.add_sub_cancel]; exact List.getElem?_eq_getElem hq1l); rw [c1] at this; cases this) ⟨[], [], ⟨rfl, rfl, rfl, by simp [fitL, fitV, pureV, pureL], FitH.nothing⟩⟩
end Go.Proofs.YtlpknhpalcapmaaDoor
namespace Go.Proofs.YtlpknhpalcapmaaDoor
set_option linter.unusedSimpArgs false
set_option linter.unusedVariables false
open Go Go.RowKit
set_option maxRecDepth 100000

def idxFrom {α : Type} (p : α → Bool) : List α → Nat → Int
  | [], _ => -1
  | a :: r, k => if p a = true then k else idxFrom p r (k + 1)
theorem idxFrom_at {α : Type} {p : α → Bool} {L : List α} {i : Nat} (h : i < L.length) : idxFrom p (L.drop i) i = if p L[i] = true then (i : Int) else idxFrom p (L.drop (i + 1)) (i + 1) := by
  rw [List.drop_eq_getElem_cons h]; rfl
theorem c49 {T : List (Entry Tryd.prog)} (L : List Str) (x : Str) (hl : L.length ≤ 1000000) : CallAt (ctx T) 49 [aStrs L, .str x] ⟨0, []⟩ (.int .i64 (idxFrom (fun y => decide (x = y)) L 0)) ⟨0, []⟩ := by
  refine callAt_body (fn := Tryd.f49) (s0 := ⟨[0, 1, 4, 5, 7, 8], [aStrs L, .str x, .undef, .undef, .undef, .undef], [], 19, ⟨0, [[]]⟩⟩) Tryd.func49 rfl rfl rfl ?_
  repeat refine wps_seq ?_
  refine wps_region callOK ?_
  simp [zS]
  repeat refine wps_seq ?_
  refine wps_region callOK ?_
  simp [zS, lenS]
  repeat refine wps_seq ?_
  refine wps_block (wps_loop' (fun i : Nat => (⟨[0, 1, 4, 5, 7, 8], [aStrs L, .str x, .undef, .undef, .int .i64 (L.length : Nat), .int .i64 i], [], 19, ⟨0, [[]]⟩⟩ : St))
    (fun i => i ≤ L.length ∧ idxFrom (fun y => decide (x = y)) L 0 = idxFrom (fun y => decide (x = y)) (L.drop i) i) (fun i => L.length - i) [] [] 0 ⟨Nat.zero_le _, rfl⟩ ⟨rfl, rfl, rfl, by simp [fitL, fitV, pureV, pureL, aStrs], FitH.nothing⟩ ?_)
  rintro i ⟨hi, hx⟩ B hB
  repeat refine wps_seq ?_
  refine wps_region callOK ?_
  simp [zS]
  repeat refine wps_seq ?_
  refine wps_cond rfl (fun h => ?_) fun h => ?_
  · simp at h
    rw [idxFrom_at h] at hx
    repeat refine wps_seq ?_
    refine wps_skip ?_
    simp
    repeat refine wps_seq ?_
    refine wps_block ?_
    repeat refine wps_seq ?_
    refine wps_region callOK ?_
    simp [zS]
    by_cases h2 : L[i] = x
    · repeat refine wps_seq ?_
      refine wps_region callOK ?_
      simp [zS, atS h, h2]
      repeat refine wps_seq ?_
      refine wps_cond (t := true) rfl (fun _ => ?_) fun h => by cases h
      repeat refine wps_seq ?_
      refine wps_region callOK ?_
      simp [zS]
      repeat refine wps_seq ?_
      refine wps_ret ?_
      simp [retVal, Tryd.f49, oneOr, thenQ, blockQ]
      exact ends_pure rfl (by rw [hx, if_pos (by simp [h2])])
    · have h2' : ¬ x = L[i] := fun e => h2 e.symm
      repeat refine wps_seq ?_
      refine wps_region callOK ?_
      simp [zS, atS h, h2']
      repeat refine wps_seq ?_
      refine wps_cond (t := false) rfl (fun h => by cases h) fun _ => ?_
      repeat refine wps_seq ?_
      refine wps_skip ?_
      simp
      repeat refine wps_seq ?_
      refine wps_region callOK ?_
      simp [zS, add_one (show i ≤ 1000000000 by omega)]
      exact hB _ (i + 1) (by omega) ⟨by omega, by rw [hx, if_neg (by simp [h2'])]⟩ ⟨[], [], ⟨rfl, rfl, rfl, by simp [fitL, fitV, pureV, pureL, aStrs], FitH.nothing⟩⟩
  · simp at h
    repeat refine wps_seq ?_
    refine wps_exit ?_
    simp
    repeat refine wps_seq ?_
    refine wps_region callOK ?_
    simp [zS]
    repeat refine wps_seq ?_
    refine wps_ret ?_
    simp [retVal, Tryd.f49, oneOr, thenQ, blockQ]
    exact ends_pure rfl (by rw [hx, List.drop_eq_nil_of_le h]; rfl)
noncomputable def e49 : Entry Tryd.prog := mkE 49 [[1], []] (fun x : List Str × Str => [aStrs x.1, .str x.2]) (fun x => x.1.length ≤ 1000000) (fun x => .int .i64 (idxFrom (fun y => decide (x.2 = y)) x.1 0)) fun x hx => c49 (T := []) x.1 x.2 hx
theorem injSS (x y : List Str × Str) (h : [aStrs x.1, .str x.2] = [aStrs y.1, .str y.2]) : x = y := by
  simp at h; exact Prod.ext (inj_strs (by simpa [aStrs] using h.1)) h.2
theorem k49 {T : List (Entry Tryd.prog)} (hT : findE 49 T = some e49.g) {L : List Str} (x : Str) (hl : L.length ≤ 1000000) (H : Heap) : callL (ctx T) (.fn 49) [aStrs L, .str x] H = some (.int .i64 (idxFrom (fun y => decide (x = y)) L 0), H) :=
  mkE_scalar hT injSS (L, x) hl rfl (by simp [aStrs])
theorem idx_mem {x : Str} : ∀ (L : List Str) (k : Nat), (0 ≤ idxFrom (fun y => decide (x = y)) L k) ↔ x ∈ L
  | [], k => by simp [idxFrom]
  | y :: r, k => by
    unfold idxFrom
    by_cases h : x = y
    · simp [h]
    · simp only [h, decide_false, Bool.false_eq_true, if_false, List.mem_cons, false_or]
      exact idx_mem r (k + 1)
theorem c42 {T : List (Entry Tryd.prog)} (hI : findE 49 T = some e49.g) (L : List Str) (x : Str) (hl : L.length ≤ 1000000) : CallAt (ctx T) 42 [aStrs L, .str x] ⟨0, []⟩ (.bool (decide (x ∈ L))) ⟨0, []⟩ := by
  have hk := fun H => k49 hI x hl H
  have hm := idx_mem (x := x) L 0
  generalize idxFrom (fun y => decide (x = y)) L 0 = v at *
  simp only [aStrs] at hk
  refine callAt_body (fn := Tryd.f42) (s0 := ⟨[0, 1, 4], [aStrs L, .str x, .undef], [], 9, ⟨0, [[]]⟩⟩) Tryd.func42 rfl rfl rfl ?_
  (repeat (first
    | (refine wps_seq ?_)
    | (refine wps_block ?_)
    | (refine wps_label ?_; simp only [thenQ, blockQ])
    | ((refine wps_region callOK ?_); simp [zS, aStrs, hk])
    | (refine wps_cond (t := true) rfl (fun _ => ?_) (fun h => by cases h))
    | (refine wps_cond (t := false) rfl (fun h => by cases h) (fun _ => ?_))
    | ((refine wps_skip ?_); simp only [thenQ, blockQ])
    | ((refine wps_exit ?_); simp [thenQ, blockQ])))
  repeat refine wps_seq ?_
  refine wps_ret ?_
  simp [retVal, Tryd.f42, oneOr, thenQ, blockQ]
  exact ends_pure rfl (by simp [hm])
end Go.Proofs.YtlpknhpalcapmaaDoor
namespace Go.Proofs.YtlpknhpalcapmaaDoor
set_option linter.unusedSimpArgs false
set_option linter.unusedVariables false
open Go Go.RowKit
set_option maxRecDepth 100000

@[simp] theorem szT3 : sizeT Tryd.prog 3 = some 1 := rfl
@[simp] theorem agT3 : aggT Tryd.prog 3 = some false := rfl
@[simp] theorem byT3 : bytesT Tryd.prog 3 = some 8 := rfl
@[simp] theorem alT3 (H : Heap) : alV Tryd.prog H 3 = some (.ptr H.n 0, H.new (.cells [.int .i64 0])) := rfl
@[simp] theorem zeT3 : zeroOf Tryd.prog 3 = some (.int .i64 0) := rfl
attribute [simp] Tryd.underlying3
@[simp 500] theorem rvF3 (H : Heap) (cs : List AV) (o : Nat) : readVar Tryd.prog H 3 (.fptr cs o) = getL cs o := rfl
@[simp 500] theorem rvP3 (H : Heap) (b o : Nat) : readVar Tryd.prog H 3 (.ptr b o) = (H.get b).bind fun k => k.rd.bind fun cs => getL cs o := rfl
@[simp] theorem szT21 : sizeT Tryd.prog 21 = some 1 := rfl
@[simp] theorem agT21 : aggT Tryd.prog 21 = some false := rfl
@[simp] theorem byT21 : bytesT Tryd.prog 21 = some 4 := rfl
@[simp] theorem alT21 (H : Heap) : alV Tryd.prog H 21 = some (.ptr H.n 0, H.new (.cells [.int .i32 0])) := rfl
@[simp] theorem zeT21 : zeroOf Tryd.prog 21 = some (.int .i32 0) := rfl
attribute [simp] Tryd.underlying21
@[simp 500] theorem rvF21 (H : Heap) (cs : List AV) (o : Nat) : readVar Tryd.prog H 21 (.fptr cs o) = getL cs o := rfl
@[simp 500] theorem rvP21 (H : Heap) (b o : Nat) : readVar Tryd.prog H 21 (.ptr b o) = (H.get b).bind fun k => k.rd.bind fun cs => getL cs o := rfl
@[simp] theorem szT51 : sizeT Tryd.prog 51 = some 1 := rfl
@[simp] theorem agT51 : aggT Tryd.prog 51 = some false := rfl
@[simp] theorem byT51 : bytesT Tryd.prog 51 = some 24 := rfl
@[simp] theorem alT51 (H : Heap) : alV Tryd.prog H 51 = some (.ptr H.n 0, H.new (.cells [.nilS])) := rfl
@[simp] theorem zeT51 : zeroOf Tryd.prog 51 = some (.nilS) := rfl
attribute [simp] Tryd.underlying51
@[simp 500] theorem rvF51 (H : Heap) (cs : List AV) (o : Nat) : readVar Tryd.prog H 51 (.fptr cs o) = getL cs o := rfl
@[simp 500] theorem rvP51 (H : Heap) (b o : Nat) : readVar Tryd.prog H 51 (.ptr b o) = (H.get b).bind fun k => k.rd.bind fun cs => getL cs o := rfl
@[simp] theorem slz51 (sz : Nat) (e : AV) (r : List AV) : binA Tryd.prog .eql 51 (.fslc sz (e :: r)) .nilS = some (.bool false) := rfl
@[simp] theorem sln51 (sz : Nat) (e : AV) (r : List AV) : binA Tryd.prog .neq 51 (.fslc sz (e :: r)) .nilS = some (.bool true) := rfl
@[simp] theorem slze51 : binA Tryd.prog .eql 51 .eslc .nilS = some (.bool false) := rfl
@[simp] theorem slzz51 : binA Tryd.prog .eql 51 .nilS .nilS = some (.bool true) := rfl
@[simp] theorem szT53 : sizeT Tryd.prog 53 = some 2 := rfl
@[simp] theorem agT53 : aggT Tryd.prog 53 = some true := rfl
@[simp] theorem byT53 : bytesT Tryd.prog 53 = some 16 := rfl
@[simp] theorem alT53 (H : Heap) : alV Tryd.prog H 53 = some (.ptr H.n 0, H.new (.cells [.int .i64 0, .int .i64 0])) := rfl
@[simp] theorem zeT53 : zeroOf Tryd.prog 53 = some (.agg [.int .i64 0, .int .i64 0]) := rfl
attribute [simp] Tryd.underlying53
@[simp 500] theorem rvF53 (H : Heap) (cs : List AV) (o : Nat) : readVar Tryd.prog H 53 (.fptr cs o) = (subL o 2 cs).bind fun cs => some (.agg cs) := rfl
@[simp 500] theorem rvP53 (H : Heap) (b o : Nat) : readVar Tryd.prog H 53 (.ptr b o) = (readCells H b o 2).bind fun cs => some (.agg cs) := rfl
@[simp] theorem fa53_0 (x : AV) : fieldAddrA Tryd.prog 53 x 0 = (match x with | .ptr b o => some (.ptr b (o + 0)) | .fptr cs o => some (.fptr cs (o + 0)) | _ => none) := rfl
@[simp] theorem fd53_0 (cs : List AV) : fieldA Tryd.prog 53 (.agg cs) 0 = getL cs 0 := rfl
@[simp] theorem fa53_1 (x : AV) : fieldAddrA Tryd.prog 53 x 1 = (match x with | .ptr b o => some (.ptr b (o + 1)) | .fptr cs o => some (.fptr cs (o + 1)) | _ => none) := rfl
@[simp] theorem fd53_1 (cs : List AV) : fieldA Tryd.prog 53 (.agg cs) 1 = getL cs 1 := rfl
theorem c30 {T : List (Entry Tryd.prog)} (hS : findE 31 T = some e31.g) (c : UInt8) (hc : c.toNat < 128) : CallAt (ctx T) 30 [.int .i32 (c.toNat : Int)] ⟨0, []⟩ (.bool (sp c)) ⟨0, []⟩ := by
  have ks := fun H => k31 hS c H
  have h1 : (c.toNat : Int) < 128 := by omega
  have hw : IntKind.u8.wrap (c.toNat : Int) = (c.toNat : Int) := by
    simp [IntKind.wrap, IntKind.signed, IntKind.bits]
    omega
  have hcv : ∀ H, convA Tryd.prog H 21 5 (.int .i32 (c.toNat : Int)) = some (.int .u8 (c.toNat : Int), H) := fun H => by simp [convA, hw]
  refine callAt_body (fn := Tryd.f30) (s0 := ⟨[0, 2], [.int .i32 (c.toNat : Int), .undef], [], 10, ⟨0, [[]]⟩⟩) Tryd.func30 rfl rfl rfl ?_
  repeat refine wps_seq ?_
  refine wps_region callOK ?_
  simp [zS]
  repeat refine wps_seq ?_
  refine wps_region callOK ?_
  simp [zS, h1, hcv, ks]
  repeat refine wps_seq ?_
  refine wps_ret ?_
  simp [retVal, Tryd.f30, oneOr, thenQ, blockQ]
  exact ends_pure rfl (by rfl)
end Go.Proofs.YtlpknhpalcapmaaDoor
namespace Go.Proofs.YtlpknhpalcapmaaDoor
noncomputable section
set_option linter.unusedSimpArgs false
set_option linter.unusedVariables false
open Go Go.RowKit

def shrB (k k' : Blk) : Prop := k = k' ∨ ∃ cs G, k = .cells (cs ++ G) ∧ k' = .cells cs
def shrL : List (Nat × Blk) → List (Nat × Blk) → Prop
  | [], [] => True
  | e :: r, e' :: r' => e.1 = e'.1 ∧ shrB e.2 e'.2 ∧ shrL r r'
  | _, _ => False
theorem shrB_refl (k : Blk) : shrB k k := .inl rfl
theorem shrL_refl : ∀ (l : List (Nat × Blk)), shrL l l
  | [] => trivial
  | e :: r => ⟨rfl, .inl rfl, shrL_refl r⟩
theorem shrL_ids : ∀ {l l' : List (Nat × Blk)}, shrL l l' → l'.map (·.1) = l.map (·.1)
  | [], [], _ => rfl
  | e :: r, e' :: r', h => by simp [h.1, shrL_ids h.2.2]
  | [], _ :: _, h => h.elim
  | _ :: _, [], h => h.elim
theorem shrL_mem : ∀ {l l' : List (Nat × Blk)} {e' : Nat × Blk}, shrL l l' → e' ∈ l' → ∃ e, e ∈ l ∧ e.1 = e'.1 ∧ shrB e.2 e'.2
  | e :: r, e1 :: r', e', h, he => by
    rcases List.mem_cons.1 he with rfl | he
    · exact ⟨e, by simp, h.1, h.2.1⟩
    · obtain ⟨x, h1, h2⟩ := shrL_mem h.2.2 he
      exact ⟨x, by simp [h1], h2⟩
  | [], [], _, _, he => by cases he
  | [], _ :: _, _, h, _ => h.elim
  | _ :: _, [], _, h, _ => h.elim
structure Shr (H H' : Heap) : Prop where
  n : H'.n = H.n
  l : shrL H.ents H'.ents
theorem BlkR.shr {ρ : Place} {w : World} {l : Loc} {k k' : Blk} (r : BlkR ρ w l k) (h : shrB k k') : BlkR ρ w l k' := by
  rcases h with rfl | ⟨cs, G, rfl, rfl⟩
  · exact r
  · refine ⟨by have := r.1; simp at this; omega, r.2.1, fun i hi => ?_⟩
    have h2 := r.2.2 i (by simp; omega)
    rwa [List.getElem_append_left hi] at h2
theorem Sim.shr {ρ : Place} {H H' : Heap} {w : World} (s : Sim ρ H w) (h : Shr H H') : Sim ρ H' w where
  base := s.base
  below := s.below
  os := s.os
  tape := s.tape
  output := s.output
  dom := fun b hb => s.dom b (by rw [← h.n]; exact hb)
  nodup := by rw [shrL_ids h.l]; exact s.nodup
  live := fun e' he' => by
    obtain ⟨e, he, h1, h2⟩ := shrL_mem h.l he'
    obtain ⟨l, hl, hb, hlt, hr⟩ := s.live e he
    exact ⟨l, by rw [← h1]; exact hl, hb, hlt, hr.shr h2⟩
  inj := fun e1 e2 h1 h2 l1 l2 k1 k2 hcb => by
    obtain ⟨a1, ha1, b1, _⟩ := shrL_mem h.l h1
    obtain ⟨a2, ha2, b2, _⟩ := shrL_mem h.l h2
    rw [← b1, ← b2]
    exact s.inj a1 a2 ha1 ha2 l1 l2 (by rw [b1]; exact k1) (by rw [b2]; exact k2) hcb
theorem Step.shr {ρ : Place} {H H' : Heap} {w : World} (s : Sim ρ H w) (h : Shr H H') : Step ρ H w ρ H' w where
  le := Place.le_refl ρ
  size := Nat.le_refl _
  keeps := fun _ _ _ => rfl
  rows := fun e' he' l' hl' => by
    obtain ⟨e, he, h1, _⟩ := shrL_mem h.l he'
    exact .inl ⟨e, he, l', by rw [h1]; exact hl', rfl⟩
  num := Nat.le_of_eq h.n.symm
  low := fun _ _ => rfl
  cold := fun _ h => .inl h
theorem At.shr {b : Base} {s : St} {a : Act} {w : World} {H' : Heap} (h : At b s a w) (k : Shr s.H H') : At b (s.wH H') a w := by
  obtain ⟨ρ, h1, h2, h3, h4⟩ := h
  obtain ⟨ks, vs, ts, sz, H⟩ := s
  exact ⟨ρ, h1.step (Step.shr h2 k), h2.shr k, ⟨h3.1, h3.2⟩, h4.step (Step.shr h2 k)⟩
theorem WpSr.shr {C : Ctx} {n : Nat} {r : Option Nat} {c : Code} {s : St} {Q : Out → St → Prop} {H' : Heap} (k : Shr s.H H') (h : WpSr C n r c (s.wH H') Q) : WpSr C n r c s Q :=
  fun b a w hb ha K hK => h b a w hb (ha.shr k) K hK
/-- a fit that forgets what stands behind fronts -/
def FitS (n : Nat) (σ : List (Nat × Nat)) (Φ : List (Nat × List AV)) (s s' : St) : Prop := ∃ H', Shr s.H H' ∧ Fit n σ Φ (s.wH H') s'
theorem At.fitS {b : Base} {s s' : St} {a : Act} {w : World} {σ : List (Nat × Nat)} {Φ : List (Nat × List AV)} (h : At b s a w) (f : FitS b.n σ Φ s s') : At b s' a w := by
  obtain ⟨H', h1, h2⟩ := f
  exact (h.shr h1).fit h2
theorem Fit.s {n : Nat} {σ : List (Nat × Nat)} {Φ : List (Nat × List AV)} {s s' : St} (h : Fit n σ Φ s s') : FitS n σ Φ s s' := by
  obtain ⟨ks, vs, ts, sz, H⟩ := s
  exact ⟨H, ⟨rfl, shrL_refl _⟩, h⟩
theorem WpSr.fitS {C : Ctx} {n : Nat} {r : Option Nat} {c : Code} {s s' : St} {Q : Out → St → Prop} (σ : List (Nat × Nat)) (Φ : List (Nat × List AV)) (f : FitS n σ Φ s s') (h : WpSr C n r c s' Q) : WpSr C n r c s Q :=
  fun b a w hb ha K hK => h b a w hb (ha.fitS (hb ▸ f)) K hK
/-- one state behind a statement of many ways -/
theorem wps_joinS {C : Ctx} {n : Nat} {r : Option Nat} {c d : Code} {s : St} {Q : Out → St → Prop} (φ : Prop) (s0 : St) (h1 : φ → WpSr C n r d s0 Q) (h2 : (∀ s', φ → (∃ σ Φ, FitS n σ Φ s' s0) → WpSr C n r d s' Q) → WpSr C n r c s (thenQ (fun s => WpSr C n r d s Q) Q)) : WpSr C n r (.seq c d) s Q :=
  wps_seq (h2 fun _ hφ ⟨σ, Φ, f⟩ => (h1 hφ).fitS σ Φ f)
theorem wps_loopS {C : Ctx} {n : Nat} {r : Option Nat} {s : St} {Q : Out → St → Prop} {ι : Type} (inv : ι → St) (φ : ι → Prop) (m : ι → Nat) (σ : List (Nat × Nat)) (Φ : List (Nat × List AV)) (x : ι) (hx : φ x) {c : Code} (hf : Fit n σ Φ s (inv x))
    (step : ∀ x, φ x → ∀ B : St → Prop, (∀ s' y, m y < m x → φ y → (∃ σ Φ, FitS n σ Φ s' (inv y)) → B s') → WpSr C n r c (inv x) (thenQ B Q)) : WpSr C n r (.loop c) s Q := by
  refine .fit σ Φ hf ?_
  have key : ∀ k x, m x = k → φ x → WpSr C n r (.loop c) (inv x) Q := by
    intro k
    induction k using Nat.strongRecOn with
    | _ k ih =>
      intro x hm hx b a w hb ha K hK
      refine LoopGoes.round (step x hx (fun s' => ∃ y, m y < m x ∧ φ y ∧ ∃ σ Φ, FitS n σ Φ s' (inv y)) (fun s' y h1 h2 h3 => ⟨y, h1, h2, h3⟩) b a w hb ha _ fun o s' a' w' hq ha' => ?_).wp
      cases o with
      | normal =>
        obtain ⟨y, hy, hφ, σ, Φ, hf⟩ := hq
        exact ih (m y) (by omega) y rfl hφ b a' w' hb (ha'.fitS (hb ▸ hf)) K fun x s2 a2 w2 q1 q2 => hK x s2 a2 w2 q1 q2
      | exit k => exact hK _ s' a' w' hq ha'
      | goto k => exact hK _ s' a' w' hq ha'
      | ret => exact hK _ s' a' w' hq ha'
  exact key _ x rfl hx
end
end Go.Proofs.YtlpknhpalcapmaaDoor
namespace Go.Proofs.YtlpknhpalcapmaaDoor
noncomputable section
set_option linter.unusedSimpArgs false
set_option linter.unusedVariables false
open Go Go.RowKit

section
variable {σ : List (Nat × Nat)} {Φ : List (Nat × List AV)} {ρ : Place} {H H1 : Heap} {w : World}
theorem FitH.step (f : FitH H.n σ Φ H H1) (sm : Sim ρ H w) : Step ρ H w (newPlace H.n σ Φ ρ w sm.below) H1 w where
  le := ⟨fun b l hb => by
    have hlt : b < H.n := by
      rcases Nat.lt_or_ge b H.n with h | h
      · exact h
      · rw [sm.dom b h] at hb; cases hb
    show (if b < H.n then ρ b else _) = _
    rw [if_pos hlt]; exact hb, fun k hk => ⟨.inl hk, sm.below k hk⟩, sm.os, sm.tape, sm.output⟩
  size := Nat.le_refl _
  keeps := fun _ _ _ => rfl
  rows := fun e he l hl => by
    obtain ⟨c, k, h1, h2, _⟩ := f.src e he
    rw [newPlace_at f h1] at hl
    exact .inl ⟨_, Heap.get_mem h2, l, hl, rfl⟩
  num := f.num
  low := fun b hb => by
    show (if b < H.n then ρ b else _) = _
    rw [if_pos hb]
  cold := fun k hk => by
    rcases hk with hk | ⟨c, cs, l, h1, h2, rfl⟩
    · exact .inl hk
    · obtain ⟨cs0, g1, _⟩ := f.frz _ h1
      exact .inr (.inl ⟨_, Heap.get_mem g1, l, h2, rfl⟩)
/-- what is handed in may be frozen ahead of a call -/
theorem CallAt.drop {C : Ctx} {f : FuncId} {args args' : List AV} {v : AV} {H' : Heap} (h : CallAt C f args' H1 v H') (fh : (H.ents.map (·.1)).Nodup → FitH H.n σ Φ H H1) (hf : fitL σ Φ args args') : CallAt C f args H v H' := by
  intro ρ w xs sm hx
  have f := fh sm.nodup
  have hx' : VRs (newPlace H.n σ Φ ρ w sm.below) args' xs := by
    obtain ⟨k1, k2⟩ := fitL_spec hf
    refine ⟨by rw [hx.1, k1], fun i h1 h2 => ?_⟩
    exact Fits.run (f.fits sm) sm _ (Nat.le_refl _) (hx.2 i (by omega) h2) (k2 i (by omega) h1)
  have st := f.step sm
  rcases h _ w xs (f.sim sm (Nat.le_refl _)) hx' with ⟨x, ρ', w', h0, h1, h2, h3⟩ | ⟨g, ys, h0, h1⟩
  · exact .inl ⟨x, ρ', w', h0, h1, h2, st.trans h3⟩
  · refine .inr ⟨g, ys, h0, h1.mono ?_⟩
    rintro e w' ⟨x, ρ', rfl, m1, m2, m3⟩
    exact ⟨x, ρ', rfl, m1, m2, st.trans m3⟩
end
end
end Go.Proofs.YtlpknhpalcapmaaDoor
namespace Go.Proofs.YtlpknhpalcapmaaDoor
noncomputable section
set_option linter.unusedSimpArgs false
set_option linter.unusedVariables false
open Go Go.RowKit

/-- where all is known of a region but its heaps: the ahead-table, the first number of its blocks, the heap behind each call -/
structure RgA where
  C : Ctx
  call : CallE
  ops : Array Oper
  bef : Array Nat
  base : Nat
  H0 : Heap
open Classical in
def evalA (A : RgA) : Nat → List Oper → St → List Pend → Option (St × List Pend)
  | _, [], s, ps => some (s, ps)
  | i, o :: r, s, ps => match guardA A.ops s o with
    | none => none
    | some false => (match clsOf o.op, wantedBy A.bef i ps with
        | .acts, _ :: _ => none
        | _, _ => match s.put o.dst (.tup []) with
          | none => none
          | some s' => evalA A (i + 1) r s' ps)
    | some true => match clsOf o.op with
      | .allocs => (match mkBlk A.C o s with
        | none => none
        | some k => match s.put o.dst (k.1 (A.base + i)) with
          | none => none
          | some s' => evalA A (i + 1) r s' (⟨i, A.base + i, k.2⟩ :: ps))
      | .acts => (match evalVal A.C A.call o (s.wH (s.H.lay (wantedBy A.bef i ps))) with
        | none => none
        | some v => if v.2 = A.H0 then (match s.put o.dst v.1 with
          | none => none
          | some s' => evalA A (i + 1) r s' (unwantedBy A.bef i ps)) else none)
      | _ => (match evalVal A.C A.call o s with
        | none => none
        | some v => match s.put o.dst v.1 with
          | none => none
          | some s' => evalA A (i + 1) r s' ps)
/-! ### Its equations, without binders -/
section
variable {A : RgA} {i : Nat} {o : Oper} {r : List Oper} {s s' : St} {ps : List Pend} {v : AV} {H : Heap}
def putA (A : RgA) (i : Nat) (r : List Oper) (ps : List Pend) : Option St → Option (St × List Pend)
  | none => none
  | some s' => evalA A (i + 1) r s' ps
def valA (A : RgA) (i : Nat) (o : Oper) (r : List Oper) (s : St) (ps : List Pend) : Option (AV × Heap) → Option (St × List Pend)
  | none => none
  | some v => putA A i r ps (s.put o.dst v.1)
open Classical in
def actA (A : RgA) (i : Nat) (o : Oper) (r : List Oper) (s : St) (ps : List Pend) : Option (AV × Heap) → Option (St × List Pend)
  | none => none
  | some v => if v.2 = A.H0 then putA A i r (unwantedBy A.bef i ps) (s.put o.dst v.1) else none
def layA (A : RgA) (i : Nat) (o : Oper) (r : List Oper) (s : St) (ps : List Pend) : Option ((Nat → AV) × Blk) → Option (St × List Pend)
  | none => none
  | some k => putA A i r (⟨i, A.base + i, k.2⟩ :: ps) (s.put o.dst (k.1 (A.base + i)))
def clsA (A : RgA) (i : Nat) (o : Oper) (r : List Oper) (s : St) (ps : List Pend) : Cls → Option (St × List Pend)
  | .allocs => layA A i o r s ps (mkBlk A.C o s)
  | .acts => actA A i o r s ps (evalVal A.C A.call o (s.wH (s.H.lay (wantedBy A.bef i ps))))
  | _ => valA A i o r s ps (evalVal A.C A.call o s)
def offA (A : RgA) (i : Nat) (o : Oper) (r : List Oper) (s : St) (ps : List Pend) : Cls → List (Nat × Blk) → Option (St × List Pend)
  | .acts, _ :: _ => none
  | _, _ => putA A i r ps (s.put o.dst (.tup []))
def gateA (A : RgA) (i : Nat) (o : Oper) (r : List Oper) (s : St) (ps : List Pend) : Option Bool → Option (St × List Pend)
  | none => none
  | some false => offA A i o r s ps (clsOf o.op) (wantedBy A.bef i ps)
  | some true => clsA A i o r s ps (clsOf o.op)
theorem evalA_n : evalA A i [] s ps = some (s, ps) := rfl
theorem evalA_c : evalA A i (o :: r) s ps = gateA A i o r s ps (guardA A.ops s o) := by
  rw [evalA.eq_def]
  simp only
  cases guardA A.ops s o with
  | none => rfl
  | some g =>
    cases g with
    | false =>
      simp only [gateA, offA]
      cases clsOf o.op <;> cases wantedBy A.bef i ps <;> rfl
    | true =>
      simp only [gateA, clsA]
      cases clsOf o.op with
      | allocs => simp only [layA]; cases mkBlk A.C o s <;> rfl
      | acts => simp only [actA]; cases evalVal A.C A.call o (s.wH (s.H.lay (wantedBy A.bef i ps))) <;> rfl
      | pure => simp only [valA]; cases evalVal A.C A.call o s <;> rfl
      | reads => simp only [valA]; cases evalVal A.C A.call o s <;> rfl
theorem putA_s : putA A i r ps (some s') = evalA A (i + 1) r s' ps := rfl
theorem valA_s : valA A i o r s ps (some (v, H)) = putA A i r ps (s.put o.dst v) := rfl
theorem actA_s (h : H = A.H0) : actA A i o r s ps (some (v, H)) = putA A i r (unwantedBy A.bef i ps) (s.put o.dst v) := by
  simp only [actA, h, if_true]
theorem layA_s {k : (Nat → AV) × Blk} : layA A i o r s ps (some k) = putA A i r (⟨i, A.base + i, k.2⟩ :: ps) (s.put o.dst (k.1 (A.base + i))) := rfl
theorem gateA_t : gateA A i o r s ps (some true) = clsA A i o r s ps (clsOf o.op) := rfl
theorem gateA_f : gateA A i o r s ps (some false) = offA A i o r s ps (clsOf o.op) (wantedBy A.bef i ps) := rfl
theorem clsA_l : clsA A i o r s ps .allocs = layA A i o r s ps (mkBlk A.C o s) := rfl
theorem clsA_a : clsA A i o r s ps .acts = actA A i o r s ps (evalVal A.C A.call o (s.wH (s.H.lay (wantedBy A.bef i ps)))) := rfl
theorem clsA_p : clsA A i o r s ps .pure = valA A i o r s ps (evalVal A.C A.call o s) := rfl
theorem clsA_r : clsA A i o r s ps .reads = valA A i o r s ps (evalVal A.C A.call o s) := rfl
theorem offA_a : offA A i o r s ps .acts [] = putA A i r ps (s.put o.dst (.tup [])) := rfl
theorem offA_l {w : List (Nat × Blk)} : offA A i o r s ps .allocs w = putA A i r ps (s.put o.dst (.tup [])) := rfl
theorem offA_p {w : List (Nat × Blk)} : offA A i o r s ps .pure w = putA A i r ps (s.put o.dst (.tup [])) := rfl
theorem offA_r {w : List (Nat × Blk)} : offA A i o r s ps .reads w = putA A i r ps (s.put o.dst (.tup [])) := rfl
end
/-! ### It is the region's -/
structure InvA (A : RgA) (d : DrawSt) (s : St) (ps : List Pend) : Prop where
  s_ : d.s = s
  H_ : s.H = A.H0
  ps : d.ps = ps
  hs : ∀ h, h ∈ d.hs → h.2 = A.H0
  rs : ∀ x, x ∈ d.rs → ∃ y, evalVal A.C A.call x.o { x.s with H := A.H0 } = some y ∧ y.1 = x.v
theorem unwanted_nil {bef : Array Nat} {i : Nat} : ∀ {ps : List Pend}, wantedBy bef i ps = [] → unwantedBy bef i ps = ps
  | [], _ => rfl
  | p :: r, h => by
    unfold wantedBy at h
    unfold unwantedBy
    cases ha : ahead bef p.i i with
    | true => rw [ha] at h; cases h
    | false => rw [ha] at h; simp only at h ⊢; rw [unwanted_nil h]
theorem evalA_D {A : RgA} : ∀ {l : List Oper} {i : Nat} {s s' : St} {ps ps' : List Pend} {d : DrawSt}, evalA A i l s ps = some (s', ps') → InvA A d s ps → ∃ d', evalD A.C A.call A.ops A.bef A.base i l d = some d' ∧ InvA A d' s' ps'
  | [], i, s, s', ps, ps', d, h, k => by
    rw [evalA_n, Option.some.injEq, Prod.mk.injEq] at h
    obtain ⟨rfl, rfl⟩ := h
    exact ⟨d, rfl, k⟩
  | o :: r, i, s, s', ps, ps', d, h, k => by
    have next : ∀ {s1 : St} {ps1 : List Pend} {d1 : DrawSt}, stepD A.C A.call A.ops A.bef A.base i o d = some d1 → InvA A d1 s1 ps1 → evalA A (i + 1) r s1 ps1 = some (s', ps') → ∃ d', evalD A.C A.call A.ops A.bef A.base i (o :: r) d = some d' ∧ InvA A d' s' ps' := fun h1 h2 h3 => by
      obtain ⟨d2, r1, r2⟩ := evalA_D h3 h2
      exact ⟨d2, by simp only [evalD, h1, Option.bind_some]; exact r1, r2⟩
    obtain ⟨ds, dps, hs, rs⟩ := d
    obtain ⟨rfl, k2, rfl, k4, k5⟩ := k
    simp only at k2 k4 k5 next
    rw [evalA_c] at h
    have putH : ∀ {dst : Option Tmp} {v : AV} {s1 : St}, ds.put dst v = some s1 → s1.H = A.H0 := fun {dst v s1} hp => by rw [← k2]; exact St.put_heap hp
    cases hg : guardA A.ops ds o with
    | none => rw [hg] at h; cases h
    | some g =>
    rw [hg] at h
    cases g with
    | false =>
      rw [gateA_f] at h
      cases hc : clsOf o.op with
      | acts =>
        rw [hc] at h
        cases hw : wantedBy A.bef i dps with
        | cons a b => rw [hw] at h; cases h
        | nil =>
          rw [hw, offA_a] at h
          cases hp : ds.put o.dst (.tup []) with
          | none => rw [hp] at h; cases h
          | some s1 =>
            rw [hp, putA_s] at h
            refine next (s1 := s1) (ps1 := dps) (d1 := ⟨s1.wH s1.H, dps, (i, s1.H) :: hs, rs⟩) ?_ ⟨rfl, putH hp, rfl, fun x hx => ?_, k5⟩ h
            · unfold stepD
              simp only [hg, Option.bind_some, hp, hc, hw, unwanted_nil hw, Heap.lay]
            · rcases List.mem_cons.1 hx with rfl | hx
              · exact putH hp
              · exact k4 x hx
      | allocs =>
        rw [hc, offA_l] at h
        cases hp : ds.put o.dst (.tup []) with
        | none => rw [hp] at h; cases h
        | some s1 =>
          rw [hp, putA_s] at h
          refine next (s1 := s1) (ps1 := dps) (d1 := ⟨s1, dps, hs, rs⟩) ?_ ⟨rfl, putH hp, rfl, k4, k5⟩ h
          unfold stepD
          simp only [hg, Option.bind_some, hp, hc]
      | pure =>
        rw [hc, offA_p] at h
        cases hp : ds.put o.dst (.tup []) with
        | none => rw [hp] at h; cases h
        | some s1 =>
          rw [hp, putA_s] at h
          refine next (s1 := s1) (ps1 := dps) (d1 := ⟨s1, dps, hs, rs⟩) ?_ ⟨rfl, putH hp, rfl, k4, k5⟩ h
          unfold stepD
          simp only [hg, Option.bind_some, hp, hc]
      | reads =>
        rw [hc, offA_r] at h
        cases hp : ds.put o.dst (.tup []) with
        | none => rw [hp] at h; cases h
        | some s1 =>
          rw [hp, putA_s] at h
          refine next (s1 := s1) (ps1 := dps) (d1 := ⟨s1, dps, hs, rs⟩) ?_ ⟨rfl, putH hp, rfl, k4, k5⟩ h
          unfold stepD
          simp only [hg, Option.bind_some, hp, hc]
    | true =>
      rw [gateA_t] at h
      cases hc : clsOf o.op with
      | acts =>
        rw [hc, clsA_a] at h
        cases hv : evalVal A.C A.call o (ds.wH (ds.H.lay (wantedBy A.bef i dps))) with
        | none => rw [hv] at h; cases h
        | some v =>
          rw [hv] at h
          simp only [actA] at h
          split at h
          · rename_i hH
            cases hp : ds.put o.dst v.1 with
            | none => rw [hp] at h; cases h
            | some s1 =>
              rw [hp, putA_s] at h
              have hd : ds.wH v.2 = ds := by rw [hH, ← k2]; rfl
              refine next (s1 := s1) (ps1 := unwantedBy A.bef i dps) (d1 := ⟨s1, unwantedBy A.bef i dps, (i, s1.H) :: hs, rs⟩) ?_ ⟨rfl, putH hp, rfl, fun x hx => ?_, k5⟩ h
              · unfold stepD
                simp only [hg, Option.bind_some, hc, hv, hd, hp]
              · rcases List.mem_cons.1 hx with rfl | hx
                · exact putH hp
                · exact k4 x hx
          · cases h
      | allocs =>
        rw [hc, clsA_l] at h
        cases hv : mkBlk A.C o ds with
        | none => rw [hv] at h; cases h
        | some k =>
          rw [hv, layA_s] at h
          cases hp : ds.put o.dst (k.1 (A.base + i)) with
          | none => rw [hp] at h; cases h
          | some s1 =>
            rw [hp, putA_s] at h
            refine next (s1 := s1) (d1 := ⟨s1, ⟨i, A.base + i, k.2⟩ :: dps, hs, rs⟩) ?_ ⟨rfl, putH hp, rfl, k4, k5⟩ h
            unfold stepD
            simp only [hg, Option.bind_some, hc, hv, hp]
      | pure =>
        rw [hc, clsA_p] at h
        cases hv : evalVal A.C A.call o ds with
        | none => rw [hv] at h; cases h
        | some v =>
          obtain ⟨v, Hv⟩ := v
          rw [hv, valA_s] at h
          cases hp : ds.put o.dst v with
          | none => rw [hp] at h; cases h
          | some s1 =>
            rw [hp, putA_s] at h
            refine next (s1 := s1) (ps1 := dps) (d1 := ⟨s1, dps, hs, rs⟩) ?_ ⟨rfl, putH hp, rfl, k4, k5⟩ h
            unfold stepD
            simp only [hg, Option.bind_some, hc, hv, hp]
      | reads =>
        rw [hc, clsA_r] at h
        cases hv : evalVal A.C A.call o ds with
        | none => rw [hv] at h; cases h
        | some v =>
          obtain ⟨v, Hv⟩ := v
          rw [hv, valA_s] at h
          cases hp : ds.put o.dst v with
          | none => rw [hp] at h; cases h
          | some s1 =>
            rw [hp, putA_s] at h
            refine next (s1 := s1) (ps1 := dps) (d1 := ⟨s1, dps, hs, ⟨i, o, ds, v⟩ :: rs⟩) ?_ ⟨rfl, putH hp, rfl, k4, fun x hx => ?_⟩ h
            · unfold stepD
              simp only [hg, Option.bind_some, hc, hv, hp]
            · rcases List.mem_cons.1 hx with rfl | hx
              · simp only
                rw [← k2]
                exact ⟨_, hv, rfl⟩
              · exact k5 x hx
theorem wps_drawA {C : Ctx} {call : CallE} {ops : Array Oper} {n : Nat} {s : St} {Q : Out → St → Prop} {id : Nat} (hm : C.P.follows .mixedOrders = true) (hC : CallOK C call) (hd : drawOK ops = true)
    (hf : freshenAll ops.toList { s with ts := [] } = { s with ts := [] })
    (h : ∀ B : Array Nat, B = Region.before ops → ∃ s' ps, evalA ⟨C, call, ops, B, s.H.n, ⟨s.H.n + ops.size, s.H.fs⟩⟩ 0 ops.toList { s with ts := [], H := ⟨s.H.n + ops.size, s.H.fs⟩ } [] = some (s', ps) ∧ Q .normal { s' with H := s'.H.lay (allPend ps) }) : WpS C n (.region id ops true) s Q := by
  refine wps_drawn hm hC hd fun B hB => ?_
  obtain ⟨s', ps, h1, h2⟩ := h B hB
  have hr : reserve (freshenAll ops.toList { s with ts := [] }) ops.size = { s with ts := [], H := ⟨s.H.n + ops.size, s.H.fs⟩ } := by rw [hf]; rfl
  rw [hr]
  obtain ⟨d, q1, q2⟩ := evalA_D (d := ⟨{ s with ts := [], H := ⟨s.H.n + ops.size, s.H.fs⟩ }, [], [], []⟩) h1 ⟨rfl, rfl, rfl, fun h hh => (by cases hh), fun x hx => (by cases hx)⟩
  refine ⟨d, q1, sames_K q2.hs q2.rs, ?_⟩
  rw [q2.ps, q2.s_]
  exact h2
end
end Go.Proofs.YtlpknhpalcapmaaDoor
namespace Go.Proofs.YtlpknhpalcapmaaDoor
set_option linter.unusedSimpArgs false
set_option linter.unusedVariables false
open Go Go.RowKit
set_option maxRecDepth 100000

def asciiB (s : Str) : Prop := ∀ c, c ∈ s → c.toNat < 128
theorem dec_ascii {s : Str} {i : Nat} (h : i < s.length) (hc : s[i].toNat < 128) : Utf8.decode ⟨s.toArray⟩ i = (s[i].toNat, 1) := by
  have h0 : (ByteArray.get! ⟨s.toArray⟩ (i + 0)).toNat = s[i].toNat := by
    show (s.toArray[i + 0]!).toNat = _
    simp [h]
  unfold Utf8.decode
  simp only [h0, hc, if_true]
def spnC (L : List (Nat × Nat)) : List AV := L.flatMap fun p => [.int .i64 (p.1 : Int), .int .i64 (p.2 : Int)]
def spn (p : Nat × Nat) : AV := .agg [.int .i64 (p.1 : Int), .int .i64 (p.2 : Int)]
def zeros (n : Nat) : List AV := List.replicate n (.int .i64 0)
def spV (n : Nat) : AV := if n ≤ 32 then .slc 0 0 n (.ex 32) else .slc 0 0 n (.rest 2)
def spB (L : List (Nat × Nat)) : List AV := if L.length ≤ 32 then spnC L ++ zeros (64 - 2 * L.length) else spnC L
theorem spnC_len (L : List (Nat × Nat)) : (spnC L).length = 2 * L.length := by
  induction L with
  | nil => rfl
  | cons a r ih => simp only [spnC, List.flatMap_cons, List.length_append, List.length_cons, List.length_nil] at ih ⊢; omega
theorem spnC_app (L : List (Nat × Nat)) (p : Nat × Nat) : spnC (L ++ [p]) = spnC L ++ [.int .i64 (p.1 : Int), .int .i64 (p.2 : Int)] := by simp [spnC]
theorem spnC_pure (L : List (Nat × Nat)) : pureL (spnC L) = true := by
  induction L with
  | nil => rfl
  | cons a r ih =>
    have : spnC (a :: r) = [.int .i64 (a.1 : Int), .int .i64 (a.2 : Int)] ++ spnC r := rfl
    rw [this, pureL_append, ih]; rfl
theorem zeros_pure (n : Nat) : pureL (zeros n) = true := by
  induction n with
  | zero => rfl
  | succ n ih => simp only [zeros, List.replicate_succ] at ih ⊢; simp [pureL, pureV, ih]
theorem spB_pure (L : List (Nat × Nat)) : pureL (spB L) = true := by
  unfold spB
  split
  · rw [pureL_append, spnC_pure, zeros_pure]; rfl
  · exact spnC_pure L
theorem flat_spn (L : List (Nat × Nat)) : flatAV (L.map spn) = spnC L := by
  induction L with
  | nil => rfl
  | cons a r ih => simp only [List.map_cons, flatAV, ih]; rfl
theorem el_spn (L : List (Nat × Nat)) : Elems 2 (L.map spn) := .map (sz := 2) (f := spn) (by decide) (fun x => ⟨rfl, rfl, fun h => absurd h (by decide), fun _ => ⟨_, rfl⟩⟩) L
theorem sub_spB (L : List (Nat × Nat)) : subL 0 (L.length * 2) (spB L) = some (spnC L) := by
  have h : (spnC L).length = L.length * 2 := by rw [spnC_len]; omega
  unfold spB
  split
  · rw [subL_front (by simp; omega), List.drop_zero, List.take_append_of_le_length (by omega), List.take_of_length_le (by omega)]
  · rw [subL_front (by omega), List.drop_zero, List.take_of_length_le (by omega)]
/-- one span more -/
theorem app_sp {L : List (Nat × Nat)} {p : Nat × Nat} {I : Blk} (hl : L.length ≤ 1000000) :
    ∃ b m f, b ≠ 1 ∧ appendA Tryd.prog ⟨3, [[(2, .cells [.int .i64 (p.1 : Int), .int .i64 (p.2 : Int)]), (1, I), (0, .cells (spB L))]]⟩ 53 (spV L.length) (.slc 2 0 1 (.ex 1)) =
      some ((if L.length + 1 ≤ 32 then .slc b 0 (L.length + 1) (.ex 32) else .slc b 0 (L.length + 1) (.rest 2)), ⟨m, f⟩) ∧ Heap.get ⟨m, f⟩ 1 = some I ∧ Heap.get ⟨m, f⟩ b = some (.cells (spB (L ++ [p]))) := by
  have hcs : ∀ H : Heap, Heap.get H 2 = some (.cells [.int .i64 (p.1 : Int), .int .i64 (p.2 : Int)]) → srcCells H 2 1 (.slc 2 0 1 (.ex 1)) = some [.int .i64 (p.1 : Int), .int .i64 (p.2 : Int)] := fun H h => by
    simp [srcCells, readCells, h]
  have g0 : Heap.get ⟨3, [[(2, .cells [.int .i64 (p.1 : Int), .int .i64 (p.2 : Int)]), (1, I), (0, .cells (spB L))]]⟩ 0 = some (.cells (spB L)) := by simp [Heap.get, getFs, getF]
  have hsrc := hcs ⟨3, [[(2, .cells [.int .i64 (p.1 : Int), .int .i64 (p.2 : Int)]), (1, I), (0, .cells (spB L))]]⟩ (by simp [Heap.get, getFs, getF])
  have hroom : roomOK (L.length + 1) 16 = true := by unfold roomOK; rw [Nat.ble_eq]; omega
  have hrow : ∀ cs, rowA Tryd.prog 53 cs = .cells cs := fun cs => rfl
  have h64 : (spnC L).length = 2 * L.length := spnC_len L
  have hlen1 : (L ++ [p]).length = L.length + 1 := by simp
  by_cases h1 : L.length + 1 ≤ 32
  · have hv : spV L.length = .slc 0 0 L.length (.ex 32) := by unfold spV; rw [if_pos (by omega)]
    have hb : Nat.ble (L.length + 1) 32 = true := by rw [Nat.ble_eq]; exact h1
    have hB : spB L = spnC L ++ zeros 2 ++ zeros (62 - 2 * L.length) := by
      unfold spB
      rw [if_pos (by omega), List.append_assoc]
      congr 1
      simp only [zeros]; rw [List.replicate_append_replicate]; congr 1; omega
    have hB2 : spB (L ++ [p]) = spnC L ++ [.int .i64 (p.1 : Int), .int .i64 (p.2 : Int)] ++ zeros (62 - 2 * L.length) := by
      unfold spB
      rw [hlen1, if_pos h1, spnC_app]
      congr 2
      omega
    have hlay : layL [.int .i64 (p.1 : Int), .int .i64 (p.2 : Int)] (0 + L.length * 2) (spB L) = some (spB (L ++ [p])) := by
      have := layL_app (a := spnC L) (b := zeros 2) (b' := [.int .i64 (p.1 : Int), .int .i64 (p.2 : Int)]) (c := zeros (62 - 2 * L.length)) rfl
      rw [h64] at this
      rw [hB, hB2, show 0 + L.length * 2 = 2 * L.length by omega, this]
    refine ⟨0, 3, [[(2, .cells [.int .i64 (p.1 : Int), .int .i64 (p.2 : Int)]), (1, I), (0, .cells (spB (L ++ [p])))]], by omega, ?_, by simp [Heap.get, getFs, getF], by simp [Heap.get, getFs, getF]⟩
    rw [if_pos h1, hv]
    unfold appendA
    simp only [szT53, byT53, zeT53, Option.bind_some, srcLen, hsrc, hroom, hb]
    simp only [writeCells, g0, Option.bind_some, Blk.wt, hlay, Blk.re]
    simp [Heap.ready, refs, Heap.set, setFs, setF, allSingle, AV.single]
    rfl
  · have hB2 : spB (L ++ [p]) = spnC L ++ [.int .i64 (p.1 : Int), .int .i64 (p.2 : Int)] := by
      unfold spB
      rw [hlen1, if_neg h1, spnC_app]
    have hread : readCells ⟨3, [[(2, .cells [.int .i64 (p.1 : Int), .int .i64 (p.2 : Int)]), (1, I), (0, .cells (spB L))]]⟩ 0 0 (L.length * 2) = some (spnC L) := by
      unfold readCells
      simp only [g0, Option.bind_some, rd_cells]
      exact sub_spB L
    by_cases h2 : L.length = 32
    · have hv : spV L.length = .slc 0 0 L.length (.ex 32) := by unfold spV; rw [if_pos (by omega)]
      have hb : Nat.ble (L.length + 1) 32 = false := by rw [← Bool.not_eq_true, Nat.ble_eq]; exact h1
      refine ⟨3, 4, [[(3, .cells (spB (L ++ [p]))), (2, .cells [.int .i64 (p.1 : Int), .int .i64 (p.2 : Int)]), (1, I), (0, .cells (spB L))]], by omega, ?_, by simp [Heap.get, getFs, getF], by simp [Heap.get, getFs, getF]⟩
      rw [if_neg h1, hv, hB2]
      unfold appendA
      simp only [szT53, byT53, zeT53, Option.bind_some, srcLen, hsrc, hroom, hb, hread, hrow]
      simp [Heap.new, pushF, allSingle, AV.single]
      rfl
    · have hv : spV L.length = .slc 0 0 L.length (.rest 2) := by unfold spV; rw [if_neg (by omega)]
      have hB : spB L = spnC L := by unfold spB; rw [if_neg (by omega)]
      have hk : knownCells ⟨3, [[(2, .cells [.int .i64 (p.1 : Int), .int .i64 (p.2 : Int)]), (1, I), (0, .cells (spB L))]]⟩ 0 = some (2 * L.length) := by
        rw [knownCells, g0, hB]; simp [h64]
      have hb1 : Nat.ble (0 + (L.length + 1) * 2) (2 * L.length) = false := by rw [← Bool.not_eq_true, Nat.ble_eq]; omega
      have hb2 : Nat.beq (0 + L.length * 2) (2 * L.length) = true := by rw [show 0 + L.length * 2 = 2 * L.length by omega]; exact Nat.beq_refl _
      refine ⟨3, 4, [[(3, .cells (spB (L ++ [p]))), (2, .cells [.int .i64 (p.1 : Int), .int .i64 (p.2 : Int)]), (1, I)]], by omega, ?_, by simp [Heap.get, getFs, getF], by simp [Heap.get, getFs, getF]⟩
      rw [if_neg h1, hv, hB2]
      unfold appendA
      simp only [szT53, byT53, zeT53, Option.bind_some, srcLen, hsrc, hroom, hk, hb1, hb2, hread, g0, goOn_cells]
      simp [Heap.new, pushF, allSingle, AV.single, Heap.drop, killFs, getF, killF]
      rfl
end Go.Proofs.YtlpknhpalcapmaaDoor
namespace Go.Proofs.YtlpknhpalcapmaaDoor
set_option linter.unusedSimpArgs false
set_option linter.unusedVariables false
open Go Go.RowKit
set_option maxRecDepth 100000

def wordAt (s : Str) (p : Nat × Nat) : Str := (s.drop p.1).take (p.2 - p.1)
/-- the spans so far, and where the word began that is being read -/
structure SpOk (s : Str) (i : Nat) (L : List (Nat × Nat)) (st : Int) : Prop where
  le : i ≤ s.length
  few : L.length ≤ i
  done : L.map (wordAt s) = (wst (s.take i)).1
  rng : ∀ p, p ∈ L → p.1 ≤ p.2 ∧ p.2 ≤ s.length
  lo : -1000001 ≤ st
  cur : (st < 0 ∧ (wst (s.take i)).2 = []) ∨ ∃ a : Nat, st = a ∧ a < i ∧ (wst (s.take i)).2 = wordAt s (a, i)
theorem fit_sp {H : Heap} {b j : Nat} {s : Str} {cs : List AV} (hb : b ≠ 1) (h1 : H.get 1 = some (.iter s j)) (h2 : H.get b = some (.cells cs)) (hp : pureL cs = true) : FitH 0 [(1, 1), (b, 0)] [] H ⟨2, [[(1, .iter s j), (0, .cells cs)]]⟩ where
  nd1 := by simp; omega
  nd2 := by simp
  nd3 := by simp [Heap.ents]
  lt := fun x hx => by simp at hx; rcases hx with rfl | rfl <;> simp
  idn := fun x hx h => by rcases h with h | h <;> exact absurd h (Nat.not_lt_zero _)
  num := Nat.zero_le _
  src := fun e he => by
    simp [Heap.ents] at he
    rcases he with rfl | rfl
    · exact ⟨1, _, by simp, h1, by simp [fitB]⟩
    · exact ⟨b, _, by simp, h2, fitL_pure hp⟩
  frz := fun x hx => by cases hx
theorem word_one {s : Str} {i : Nat} (h : i < s.length) : wordAt s (i, i + 1) = [s[i]] := by
  unfold wordAt
  simp only
  rw [List.drop_eq_getElem_cons h, show i + 1 - i = 1 by omega]
  rfl
theorem word_more {s : Str} {a i : Nat} (h : i < s.length) (ha : a ≤ i) : wordAt s (a, i + 1) = wordAt s (a, i) ++ [s[i]] := by
  unfold wordAt
  simp only
  rw [show i + 1 - a = (i - a) + 1 by omega, List.take_succ_eq_append_getElem (by simp; omega)]
  congr 2
  rw [List.getElem_drop]
  congr 1
  omega
theorem sp_space0 {s : Str} {i : Nat} {L : List (Nat × Nat)} {st : Int} (h : i < s.length) (k : SpOk s i L st) (hs : sp s[i] = true) (h0 : st < 0) : SpOk s (i + 1) L st := by
  have he : (wst (s.take i)).2 = [] := by
    rcases k.cur with ⟨_, h⟩ | ⟨a, ha, _⟩
    · exact h
    · omega
  refine ⟨by omega, by have := k.few; omega, ?_, k.rng, k.lo, .inl ⟨h0, ?_⟩⟩
  · rw [wst_at h]; simp only [wstep, hs, if_true, he, k.done]
  · rw [wst_at h]; simp only [wstep, hs, if_true]
theorem sp_space1 {s : Str} {i a : Nat} {L : List (Nat × Nat)} (h : i < s.length) (k : SpOk s i L (a : Int)) (hs : sp s[i] = true) (hl : s.length ≤ 1000000) : SpOk s (i + 1) (L ++ [(a, i)]) (-(a : Int) - 1) := by
  obtain ⟨hai, hc⟩ : a < i ∧ (wst (s.take i)).2 = wordAt s (a, i) := by
    rcases k.cur with ⟨h, _⟩ | ⟨b, hb, h1, h2⟩
    · omega
    · have : a = b := by omega
      subst this; exact ⟨h1, h2⟩
  have hne : ¬ wordAt s (a, i) = [] := by
    intro e
    have := congrArg List.length e
    simp [wordAt] at this
    omega
  refine ⟨by omega, by have := k.few; simp; omega, ?_, fun p hp => ?_, by omega, .inl ⟨by omega, ?_⟩⟩
  · rw [wst_at h]; simp only [wstep, hs, if_true, hc, hne, if_false, List.map_append, k.done]; rfl
  · rcases List.mem_append.1 hp with hp | hp
    · exact k.rng p hp
    · simp at hp; subst hp; exact ⟨by simp only; omega, by simp only; omega⟩
  · rw [wst_at h]; simp only [wstep, hs, if_true]
theorem sp_char0 {s : Str} {i : Nat} {L : List (Nat × Nat)} {st : Int} (h : i < s.length) (k : SpOk s i L st) (hs : sp s[i] = false) (h0 : st < 0) : SpOk s (i + 1) L (i : Int) := by
  have he : (wst (s.take i)).2 = [] := by
    rcases k.cur with ⟨_, h⟩ | ⟨a, ha, _⟩
    · exact h
    · omega
  refine ⟨by omega, by have := k.few; omega, ?_, k.rng, by omega, .inr ⟨i, rfl, by omega, ?_⟩⟩
  · rw [wst_at h]; simp [wstep, hs, k.done]
  · rw [wst_at h, word_one h]; simp [wstep, hs, he]
theorem sp_char1 {s : Str} {i a : Nat} {L : List (Nat × Nat)} (h : i < s.length) (k : SpOk s i L (a : Int)) (hs : sp s[i] = false) : SpOk s (i + 1) L (a : Int) := by
  obtain ⟨hai, hc⟩ : a < i ∧ (wst (s.take i)).2 = wordAt s (a, i) := by
    rcases k.cur with ⟨h, _⟩ | ⟨b, hb, h1, h2⟩
    · omega
    · have : a = b := by omega
      subst this; exact ⟨h1, h2⟩
  refine ⟨by omega, by have := k.few; omega, ?_, k.rng, by omega, .inr ⟨a, rfl, by omega, ?_⟩⟩
  · rw [wst_at h]; simp [wstep, hs, k.done]
  · rw [wst_at h, word_more h (by omega)]; simp [wstep, hs, hc]
theorem sp_begin (s : Str) : SpOk s 0 [] (-1) := ⟨Nat.zero_le _, by simp, by simp [wst], by simp, by omega, .inl ⟨by omega, by simp [wst]⟩⟩
theorem sp_end0 {s : Str} {L : List (Nat × Nat)} {st : Int} (k : SpOk s s.length L st) (h0 : st < 0) : L.map (wordAt s) = wsplit s := by
  have he : (wst (s.take s.length)).2 = [] := by
    rcases k.cur with ⟨_, h⟩ | ⟨a, ha, _⟩
    · exact h
    · omega
  have hd := k.done
  rw [List.take_of_length_le (Nat.le_refl _)] at hd he
  rw [hd, wsplit, wfin, if_pos he]
theorem sp_end1 {s : Str} {a : Nat} {L : List (Nat × Nat)} (k : SpOk s s.length L (a : Int)) : (L ++ [(a, s.length)]).map (wordAt s) = wsplit s ∧ a < s.length := by
  obtain ⟨hai, hc⟩ : a < s.length ∧ (wst (s.take s.length)).2 = wordAt s (a, s.length) := by
    rcases k.cur with ⟨h, _⟩ | ⟨b, hb, h1, h2⟩
    · omega
    · have : a = b := by omega
      subst this; exact ⟨h1, h2⟩
  have hne : ¬ wordAt s (a, s.length) = [] := by
    intro e
    have := congrArg List.length e
    simp [wordAt] at this
    omega
  have hd := k.done
  rw [List.take_of_length_le (Nat.le_refl _)] at hd hc
  refine ⟨?_, hai⟩
  rw [List.map_append, hd, wsplit, wfin, hc, if_neg hne]
  rfl
end Go.Proofs.YtlpknhpalcapmaaDoor
namespace Go.Proofs.YtlpknhpalcapmaaDoor
set_option linter.unusedSimpArgs false
set_option linter.unusedVariables false
open Go Go.RowKit
set_option maxRecDepth 100000

theorem xor_not {a : Nat} (h : a ≤ 1000000) : unA .xor (.int .i64 (a : Int)) = some (.int .i64 (-(a : Int) - 1)) := by
  have h1 : (BitVec.ofInt 64 (-1) ^^^ BitVec.ofInt 64 (a : Int)).toNat = 18446744073709551615 - a := by
    have e1 : BitVec.ofInt 64 (-1) = BitVec.allOnes 64 := by decide
    have e2 : BitVec.ofInt 64 (a : Int) = BitVec.ofNat 64 a := by simp
    rw [e1, e2, BitVec.allOnes_xor, BitVec.toNat_not, BitVec.toNat_ofNat]
    omega
  show some (AV.int .i64 (IntKind.i64.wrap ((BitVec.ofInt 64 (-1) ^^^ BitVec.ofInt 64 (a : Int)).toNat : Int))) = _
  rw [h1]
  have h2 : IntKind.i64.wrap ((18446744073709551615 - a : Nat) : Int) = -(a : Int) - 1 := by
    have h3 : ((18446744073709551615 - a : Nat) : Int) = 18446744073709551615 - (a : Int) := by omega
    rw [h3]
    simp [IntKind.wrap, IntKind.signed, IntKind.bits]
    omega
  rw [h2]
@[simp] theorem fr_range {d : Option Tmp} {t : TypeId} {l : Operand} {ty : TypeId} {pos : String} {af : Array Edge} {g : Option (Nat × Bool)} {s : St} : freshen s ⟨d, .range t l, ty, pos, af, g⟩ = s := rfl
@[simp] theorem fr_next {d : Option Tmp} {b : Bool} {l : Operand} {ty : TypeId} {pos : String} {af : Array Edge} {g : Option (Nat × Bool)} {s : St} : freshen s ⟨d, .next l b, ty, pos, af, g⟩ = s := rfl
def bls (n : Nat) : List AV := List.replicate n (.str [])
def sts (L : List Str) : List AV := L.map .str
theorem bls_pure (n : Nat) : pureL (bls n) = true := by
  induction n with
  | zero => rfl
  | succ n ih => simp only [bls, List.replicate_succ] at ih ⊢; simp [pureL, pureV, ih]
theorem sts_pure (L : List Str) : pureL (sts L) = true := by
  induction L with
  | nil => rfl
  | cons a r ih => simp only [sts, List.map_cons] at ih ⊢; simp [pureL, pureV, ih]
theorem sts_set {X : List Str} {k : Nat} {w : Str} : (sts X ++ bls (k + 1)).set X.length (.str w) = sts (X ++ [w]) ++ bls k := by
  rw [List.set_append_right _ _ (by simp [sts])]
  simp [sts, bls, List.replicate_succ]
theorem mkStrs {H : Heap} {n : Nat} (h : n ≤ 1000000) : makeSliceA Tryd.prog H 27 (.int .i64 (n : Int)) (.int .i64 (n : Int)) = some (.slc H.n 0 n (.ex n), H.new (.cells (bls n))) := by
  have hr : ∀ n, replL [AV.str []] n = bls n := fun n => by
    induction n with
    | zero => rfl
    | succ n ih => simp [replL, ih, bls, List.replicate_succ]
  have h1 : idx (n : Int) 17592186044416 = some n := idx_nat (by omega)
  have h2 : idx (n : Int) (Nat.succ n) = some n := idx_nat (by omega)
  have h3 : roomOK n 16 = true := by unfold roomOK; rw [Nat.ble_eq]; omega
  unfold makeSliceA msB
  simp [h1, h2, h3, hr]
theorem mkSp {H : Heap} : makeSliceA Tryd.prog H 51 (.int .i64 0) (.int .i64 32) = some (.slc H.n 0 0 (.ex 32), H.new (.cells (zeros 64))) := rfl
theorem ixS {b n i : Nat} {c : Cap} (h : i < n) : indexAddrA Tryd.prog 27 (.slc b 0 n c) (.int .i64 (i : Int)) = some (.ptr b i) := by
  simp [indexAddrA, idx_nat h]
theorem layS {v : AV} : ∀ {cs : List AV} {i : Nat}, i < cs.length → layL [v] i cs = some (cs.set i v)
  | [], _, h => absurd h (Nat.not_lt_zero _)
  | x :: r, 0, _ => by simp [layL, overL]
  | x :: r, i + 1, h => by
    simp only [layL, layS (cs := r) (i := i) (by simpa using h)]
    rfl
def aSp (L : List (Nat × Nat)) : AV := .fslc 2 (L.map spn)
theorem atSp {L : List (Nat × Nat)} {i : Nat} (h : i < L.length) : indexAddrA Tryd.prog 51 (aSp L) (.int .i64 (i : Int)) = some (.fptr [.int .i64 ((L[i]).1 : Int), .int .i64 ((L[i]).2 : Int)] 0) := by
  simp [indexAddrA, aSp, idx_nat h, getL_map h]
  simp [spn]
theorem lenSp {H : Heap} {L : List (Nat × Nat)} : lenA Tryd.prog H 51 (aSp L) = some L.length := by simp [lenA, aSp]
theorem slW {H : Heap} {s : Str} {a b : Nat} (h1 : a ≤ b) (h2 : b ≤ s.length) : sliceA Tryd.prog H 9 (.str s) (some (.int .i64 (a : Int))) (some (.int .i64 (b : Int))) none = some (.str (wordAt s (a, b))) := by
  have i1 : idx (b : Int) (Nat.succ s.length) = some b := idx_nat (by omega)
  have i2 : idx (a : Int) (Nat.succ b) = some a := idx_nat (by omega)
  simp [sliceA, hiOK, bound, i1, i2, wordAt, List.drop_take]
theorem nx_yes {m i : Nat} {s : Str} {B : Blk} (h : i < s.length) (hc : s[i].toNat < 128) : nextA ⟨m, [[(1, .iter s i), (0, B)]]⟩ 1 = some (.tup [.bool true, .int .i64 i, .int .i32 (s[i].toNat : Int)], ⟨m, [[(1, .iter s (i + 1)), (0, B)]]⟩) := by
  have hb : Nat.blt i s.length = true := by simpa using h
  simp [nextA, Heap.get, getFs, getF, hb, dec_ascii h hc, Heap.set, setFs, setF]
theorem nx_no {m i : Nat} {s : Str} {B : Blk} (h : ¬ i < s.length) : nextA ⟨m, [[(1, .iter s i), (0, B)]]⟩ 1 = some (.tup [.bool false], ⟨m, [[(1, .iter s i), (0, B)]]⟩) := by
  have hb : Nat.blt i s.length = false := by
    cases hq : Nat.blt i s.length with
    | false => rfl
    | true => exact absurd (by simpa using hq) h
  simp [nextA, Heap.get, getFs, getF, hb]
theorem spV_yes (n : Nat) (b : Nat) : ∃ c, (if n ≤ 32 then AV.slc b 0 n (.ex 32) else AV.slc b 0 n (.rest 2)) = .slc b 0 n c ∧ spV n = .slc 0 0 n c := by
  unfold spV
  split
  · exact ⟨_, rfl, rfl⟩
  · exact ⟨_, rfl, rfl⟩
theorem fit_spV {L : List (Nat × Nat)} {σ : List (Nat × Nat)} {Φ : List (Nat × List AV)} (h : lookC 0 Φ = some (spB L)) : fitV σ Φ (spV L.length) (aSp L) := by
  obtain ⟨c, _, hc⟩ := spV_yes L.length 0
  rw [hc]
  simp only [aSp, fitV]
  refine .inl ⟨_, h, ?_, by simp, (el_spn L).size⟩
  rw [flat_spn, sub_spB]
theorem fit_all {H : Heap} {b : Nat} {cs : List AV} (h : H.get b = some (.cells cs)) (hp : pureL cs = true) : FitH 0 [] [(b, cs)] H ⟨0, [[]]⟩ := by
  refine ⟨by simp, by simp, by simp [Heap.ents], fun x h => (by cases h), fun x h => (by cases h), Nat.le_refl _, fun e h => (by simp [Heap.ents] at h), fun x hx => ?_⟩
  rw [List.mem_singleton] at hx
  subst hx
  exact ⟨_, h, fitL_pure hp, hp⟩
theorem fit_spVV {n : Nat} : fitV [(1, 1), (0, 0)] [] (spV n) (spV n) := by
  obtain ⟨c, _, hc⟩ := spV_yes n 0
  rw [hc]
  simp [fitV, lookN]
def sbC : List Nat → Code → Code
  | [], c => c
  | d :: r, c => match c with
    | .seq a b => match d with
      | 0 => sbC r a
      | _ => sbC r b
    | c => c
def bdO (f : Func) : Code := match f.body with
  | some c => c
  | none => .skip
theorem flat_sts : ∀ (L : List Str), flatAV (L.map AV.str) = sts L
  | [] => rfl
  | a :: r => by simp only [List.map_cons, flatAV, flat_sts r]; rfl
noncomputable def cdFF : Code := sbC [1, 1, 1, 1, 1] (bdO Tryd.f29)
/-- the words out of the spans -/
theorem ff_rest {T : List (Entry Tryd.prog)} (s : Str) (L : List (Nat × Nat)) (hL : L.length ≤ 1000000) (hr : ∀ p, p ∈ L → p.1 ≤ p.2 ∧ p.2 ≤ s.length) (W : List Str) (hW : L.map (wordAt s) = W) :
    WpSr (ctx T) 0 none cdFF ((⟨[0, 1, 4, 5, 6, 7, 8, 9, 10, 11, 14, 15, 47, 48, 49], [.str s, .undef, .nilS, aSp L, .undef, .undef, .undef, .undef, .undef, .undef, .undef, .undef, .undef, .undef, .undef], [], 65, ⟨0, [[]]⟩⟩ : St)) (fun x s => (x = .normal ∨ x = .ret) ∧ ∃ vs, retVal (ctx T) s [.tmp 4] = some vs ∧ ∃ σ Φ, fitV σ Φ (oneOr vs) (aStrs W) ∧ FitH 0 σ Φ s.H ⟨0, []⟩) := by
  simp only [cdFF, sbC, bdO, Tryd.f29]
  have hm := fun H => mkStrs (H := H) (n := L.length) hL
  repeat refine wps_seq ?_
  refine wps_region callOK ?_
  simp [zS, lenSp, hm]
  repeat refine wps_seq ?_
  refine wps_region callOK ?_
  simp [zS, lenSp]
  obtain ⟨F, hF⟩ : ∃ F : Nat → List Str, F = fun i => (L.take i).map (wordAt s) := ⟨_, rfl⟩
  have hF0 : F 0 = [] := by rw [hF]; simp
  have hFl : ∀ i, i ≤ L.length → (F i).length = i := fun i hi => by rw [hF]; simp; omega
  have hFs : ∀ (i : Nat) (h : i < L.length), F (i + 1) = F i ++ [wordAt s L[i]] := fun i h => by
    rw [hF]
    show (L.take (i + 1)).map (wordAt s) = _
    rw [List.take_succ_eq_append_getElem h, List.map_append]; rfl
  have hFn : F L.length = W := by rw [hF, ← hW]; simp
  repeat refine wps_seq ?_
  refine wps_block (wps_loop' (fun i : Nat => (⟨[0, 1, 4, 5, 6, 7, 8, 9, 10, 11, 14, 15, 47, 48, 49], [.str s, .undef, .nilS, .undef, .undef, .undef, .undef, .slc 0 0 L.length (.ex L.length), .undef, .undef, .undef, .undef, aSp L, .int .i64 (L.length : Nat), .int .i64 i], [], 65, ⟨1, [[(0, .cells (sts (F i) ++ bls (L.length - i)))]]⟩⟩ : St))
    (fun i => i ≤ L.length) (fun i => L.length - i) [(0, 0)] [] 0 (Nat.zero_le _)
    ⟨rfl, rfl, rfl, by simp [fitL, fitV, lookN, pureV, aSp], .keep1 (b := 0) (by rw [hF0]; simp [Heap.get, getFs, getF, sts]) (by rw [pureL_append, sts_pure, bls_pure]; rfl) rfl⟩ ?_)
  rintro i hi B hB
  repeat refine wps_seq ?_
  refine wps_region callOK ?_
  simp [zS]
  repeat refine wps_seq ?_
  refine wps_cond rfl (fun h => ?_) fun h => ?_
  · simp at h
    repeat refine wps_seq ?_
    refine wps_skip ?_
    simp
    repeat refine wps_seq ?_
    refine wps_block ?_
    obtain ⟨r1, r2⟩ := hr L[i] (List.getElem_mem _)
    have hw := fun H => slW (H := H) r1 r2
    have hlen : i < (sts (F i) ++ bls (L.length - i)).length := by simp [sts, bls, hFl i hi]; omega
    have hset : (sts (F i) ++ bls (L.length - i)).set i (.str (wordAt s ((L[i]).1, (L[i]).2))) = sts (F (i + 1)) ++ bls (L.length - (i + 1)) := by
      have := sts_set (X := F i) (k := L.length - (i + 1)) (w := wordAt s L[i])
      rw [hFl i hi, ← hFs i h] at this
      rw [show L.length - i = L.length - (i + 1) + 1 by omega]
      exact this
    have hla := layS (v := .str (wordAt s ((L[i]).1, (L[i]).2))) hlen
    rw [hset] at hla
    generalize sts (F i) ++ bls (L.length - i) = C0 at *
    generalize hC1 : sts (F (i + 1)) ++ bls (L.length - (i + 1)) = C1 at *
    repeat refine wps_seq ?_
    refine wps_region callOK ?_
    simp [zS, atSp h]
    repeat refine wps_seq ?_
    refine wps_region callOK ?_
    simp [zS, hw, ixS h, hla]
    repeat refine wps_seq ?_
    refine wps_region callOK ?_
    simp [zS, add_one (show i ≤ 1000000000 by omega)]
    refine hB _ (i + 1) (by omega) (by omega) ⟨[(0, 0)], [], rfl, rfl, rfl, by simp [fitL, fitV, lookN, pureV, aSp], ?_⟩
    rw [hC1]
    exact .keep1 (b := 0) (by simp [Heap.get, getFs, getF]) (by rw [← hC1, pureL_append, sts_pure, bls_pure]; rfl) rfl
  · simp at h
    have hie : i = L.length := by omega
    subst hie
    have hz : sts (F L.length) ++ bls (L.length - L.length) = sts W := by rw [Nat.sub_self, hFn]; simp [bls]
    have hlW : W.length = L.length := by rw [← hW]; simp
    rw [hz, ← hlW]
    repeat refine wps_seq ?_
    refine wps_exit ?_
    simp
    repeat refine wps_seq ?_
    refine wps_region callOK ?_
    simp [zS]
    repeat refine wps_seq ?_
    refine wps_ret ?_
    simp [retVal, oneOr]
    refine ⟨[], [(0, sts W)], ?_, .froze (by simp) fun y hy => ?_⟩
    · have hf := flat_sts W
      simp only [fitV]
      refine .inl ⟨sts W, by simp [lookC], ?_, by simp, (el_str W).size⟩
      rw [hf, subL_front (by simp [sts]), List.drop_zero, List.take_of_length_le (by simp [sts])]
    · rw [List.mem_singleton] at hy
      subst hy
      exact ⟨_, by simp [Heap.get, getFs, getF], fitL_pure (sts_pure W), sts_pure W⟩
theorem c29 {T : List (Entry Tryd.prog)} (s : Str) (hs : asciiB s) (hl : s.length ≤ 900000) (clo : FuncId) (hp : ∀ c : UInt8, c.toNat < 128 → CallAt (ctx T) clo [.int .i32 (c.toNat : Int)] ⟨0, []⟩ (.bool (sp c)) ⟨0, []⟩) :
    CallAt (ctx T) 29 [.str s, .func (.func clo) [] []] ⟨0, []⟩ (aStrs (wsplit s)) ⟨0, []⟩ := by
  have hm1 : wr .i64 (0 - 1) = some (-1) := rfl
  refine callAt_body (fn := Tryd.f29) (s0 := ⟨[0, 1, 4, 5, 6, 7, 8, 9, 10, 11, 14, 15, 47, 48, 49], [.str s, .func (.func clo) [] [], .undef, .undef, .undef, .undef, .undef, .undef, .undef, .undef, .undef, .undef, .undef, .undef, .undef], [], 65, ⟨0, [[]]⟩⟩) Tryd.func29 rfl rfl rfl ?_
  repeat refine wps_seq ?_
  refine wps_region callOK ?_
  simp [zS]
  repeat refine wps_seq ?_
  refine wps_region callOK ?_
  simp [zS, mkSp]
  repeat refine wps_seq ?_
  refine wps_region callOK ?_
  simp [zS]
  repeat refine wps_seq ?_
  refine wps_region callOK ?_
  simp [zS, rgV]
  repeat refine wps_seq ?_
  refine wps_block (wps_loop' (fun x : Nat × List (Nat × Nat) × Int => (⟨[0, 1, 4, 5, 6, 7, 8, 9, 10, 11, 14, 15, 47, 48, 49], [.str s, .func (.func clo) [] [], .nilS, spV x.2.1.length, .int .i64 x.2.2, .undef, .undef, .undef, .undef, .undef, .ptr 1 0, .undef, .undef, .undef, .undef], [], 65, ⟨2, [[(1, .iter s x.1), (0, .cells (spB x.2.1))]]⟩⟩ : St))
    (fun x => SpOk s x.1 x.2.1 x.2.2) (fun x => s.length - x.1) [(1, 1), (0, 0)] [] (0, [], -1) (sp_begin s)
    ⟨rfl, rfl, rfl, by simp [fitL, fitV, lookN, pureV, pureL, spV], fit_sp (by omega) (by simp [Heap.get, getFs, getF]) (by simp [Heap.get, getFs, getF, spB, spnC]) (spB_pure _)⟩ ?_)
  rintro ⟨i, L, st⟩ hk B hB
  have hi := hk.le
  have hfew := hk.few
  have hlo := hk.lo
  simp only at hi hfew hlo hk
  by_cases h : i < s.length
  · have hc : s[i].toNat < 128 := hs _ (List.getElem_mem _)
    have hbu : ∀ a : Nat, buildA Tryd.prog 53 [(0, .int .i64 (a : Int)), (1, .int .i64 (i : Int))] = some (.agg [.int .i64 (a : Int), .int .i64 (i : Int)]) := fun a => rfl
    have hcall := (hp s[i] hc).lift (by simp [pureL, pureV]) ⟨2, [[(1, .iter s (i + 1)), (0, .cells (spB L))]]⟩
    have stay : ∀ (st' : Int) (σ0 : Unit), SpOk s (i + 1) L st' → ∀ s' : St, Fit 0 [(1, 1), (0, 0)] [] s' ((⟨[0, 1, 4, 5, 6, 7, 8, 9, 10, 11, 14, 15, 47, 48, 49], [.str s, .func (.func clo) [] [], .nilS, spV L.length, .int .i64 st', .undef, .undef, .undef, .undef, .undef, .ptr 1 0, .undef, .undef, .undef, .undef], [], 65, ⟨2, [[(1, .iter s (i + 1)), (0, .cells (spB L))]]⟩⟩ : St)) → B s' := fun st' _ hok s' hf => hB s' (i + 1, L, st') (by simp only; omega) hok ⟨_, _, hf⟩
    repeat refine wps_seq ?_
    refine wps_region callOK ?_
    simp [zS, nxV, nx_yes h hc]
    repeat refine wps_seq ?_
    refine wps_cond (t := true) rfl (fun _ => ?_) fun h => by cases h
    repeat refine wps_seq ?_
    refine wps_skip ?_
    simp
    repeat refine wps_seq ?_
    refine wps_block ?_
    rcases Bool.eq_false_or_eq_true (sp s[i]) with hsp | hsp
    · rw [hsp] at hcall
      repeat refine wps_seq ?_
      refine wps_region callOK ?_
      simp [zS]
      repeat refine wps_seq ?_
      refine wps_region (callOKF [⟨clo, _, _, _, _, hcall⟩]) ?_
      simp [zS, callF]
      repeat refine wps_seq ?_
      refine wps_cond (t := true) rfl (fun _ => ?_) fun h => by cases h
      rcases hk.cur with ⟨h0, _⟩ | ⟨a, ha, hai, _⟩
      · have hge : ¬ (0 : Int) ≤ st := by omega
        repeat refine wps_seq ?_
        refine wps_region callOK ?_
        simp [zS, hge]
        repeat refine wps_seq ?_
        refine wps_cond (t := false) rfl (fun h => by cases h) fun _ => ?_
        repeat refine wps_seq ?_
        refine wps_skip ?_
        simp
        exact stay st () (sp_space0 h hk hsp h0) _ ⟨rfl, rfl, rfl, by simp [fitL, fitV, lookN, pureV, pureL, fit_spVV], fit_sp (by omega) (by simp [Heap.get, getFs, getF]) (by simp [Heap.get, getFs, getF]) (spB_pure _)⟩
      · subst ha
        have hge : (0 : Int) ≤ (a : Int) := by omega
        obtain ⟨b, m, f, hb1, happ, hg1, hg2⟩ := app_sp (L := L) (p := (a, i)) (I := .iter s (i + 1)) (by omega)
        have hxo := xor_not (a := a) (by omega)
        obtain ⟨c, e1, e2⟩ := spV_yes (L.length + 1) b
        simp only [e1] at happ
        repeat refine wps_seq ?_
        refine wps_region callOK ?_
        simp [zS, hge]
        repeat refine wps_seq ?_
        refine wps_cond (t := true) (by simp [opnd, St.get]) (fun _ => ?_) fun h => by cases h
        repeat refine wps_seq ?_
        refine wps_region callOK ?_
        simp [zS, hbu, happ]
        repeat refine wps_seq ?_
        refine wps_region callOK ?_
        simp [zS, hxo]
        refine hB _ (i + 1, L ++ [(a, i)], -(a : Int) - 1) (by simp only; omega) (sp_space1 h hk hsp (by omega)) ⟨[(1, 1), (b, 0)], [], rfl, rfl, rfl, ?_, fit_sp hb1 hg1 hg2 (spB_pure _)⟩
        simp only [List.length_append, List.length_cons, List.length_nil, Nat.zero_add, e2]
        simp [fitL, fitV, lookN, pureV, pureL]
        omega
    · rw [hsp] at hcall
      repeat refine wps_seq ?_
      refine wps_region callOK ?_
      simp [zS]
      repeat refine wps_seq ?_
      refine wps_region (callOKF [⟨clo, _, _, _, _, hcall⟩]) ?_
      simp [zS, callF]
      repeat refine wps_seq ?_
      refine wps_cond (t := false) rfl (fun h => by cases h) fun _ => ?_
      rcases hk.cur with ⟨h0, _⟩ | ⟨a, ha, hai, _⟩
      · repeat refine wps_seq ?_
        refine wps_region callOK ?_
        simp [zS, h0]
        repeat refine wps_seq ?_
        refine wps_cond (t := true) rfl (fun _ => ?_) fun h => by cases h
        repeat refine wps_seq ?_
        refine wps_region callOK ?_
        simp [zS]
        exact stay i () (sp_char0 h hk hsp h0) _ ⟨rfl, rfl, rfl, by simp [fitL, fitV, lookN, pureV, pureL, fit_spVV], fit_sp (by omega) (by simp [Heap.get, getFs, getF]) (by simp [Heap.get, getFs, getF]) (spB_pure _)⟩
      · subst ha
        have hge : ¬ (a : Int) < 0 := by omega
        repeat refine wps_seq ?_
        refine wps_region callOK ?_
        simp [zS, hge]
        repeat refine wps_seq ?_
        refine wps_cond (t := false) (by simp [opnd, St.get, hge]) (fun h => by cases h) fun _ => ?_
        repeat refine wps_seq ?_
        refine wps_skip ?_
        simp
        exact stay a () (sp_char1 h hk hsp) _ ⟨rfl, rfl, rfl, by simp [fitL, fitV, lookN, pureV, pureL, fit_spVV], fit_sp (by omega) (by simp [Heap.get, getFs, getF]) (by simp [Heap.get, getFs, getF]) (spB_pure _)⟩
  · have hie : i = s.length := by omega
    subst hie
    have hbu : ∀ a : Nat, buildA Tryd.prog 53 [(0, .int .i64 (a : Int)), (1, .int .i64 (s.length : Int))] = some (.agg [.int .i64 (a : Int), .int .i64 (s.length : Int)]) := fun a => rfl
    repeat refine wps_seq ?_
    refine wps_region callOK ?_
    simp [zS, nxV, nx_no h]
    repeat refine wps_seq ?_
    refine wps_cond (t := false) rfl (fun h => by cases h) fun _ => ?_
    repeat refine wps_seq ?_
    refine wps_exit ?_
    simp
    rcases hk.cur with ⟨h0, _⟩ | ⟨a, ha, hai, _⟩
    · have hge : ¬ (0 : Int) ≤ st := by omega
      repeat refine wps_seq ?_
      refine wps_region callOK ?_
      simp [zS, hge]
      repeat refine wps_seq ?_
      refine wps_cond (t := false) (by simp [opnd, St.get, hge]) (fun h => by cases h) fun _ => ?_
      repeat refine wps_seq ?_
      refine wps_skip ?_
      simp only [thenQ]
      refine WpSr.fit [] [(0, spB L)] (s' := (⟨[0, 1, 4, 5, 6, 7, 8, 9, 10, 11, 14, 15, 47, 48, 49], [.str s, .undef, .nilS, aSp L, .undef, .undef, .undef, .undef, .undef, .undef, .undef, .undef, .undef, .undef, .undef], [], 65, ⟨0, [[]]⟩⟩ : St)) ⟨rfl, rfl, rfl, by simp [fitL, fitV, pureV]; exact fit_spV (by simp [lookC]), ?_⟩ (ff_rest s L (by omega) hk.rng _ (sp_end0 hk h0))
      exact fit_all (by simp [Heap.get, getFs, getF]) (spB_pure _)
    · subst ha
      obtain ⟨hw, hal⟩ := sp_end1 hk
      have hge : (0 : Int) ≤ (a : Int) := by omega
      obtain ⟨b, m, f, hb1, happ, hg1, hg2⟩ := app_sp (L := L) (p := (a, s.length)) (I := .iter s s.length) (by omega)
      obtain ⟨c, e1, e2⟩ := spV_yes (L.length + 1) b
      simp only [e1] at happ
      repeat refine wps_seq ?_
      refine wps_region callOK ?_
      simp [zS, hge]
      repeat refine wps_seq ?_
      refine wps_cond (t := true) (by simp [opnd, St.get]) (fun _ => ?_) fun h => by cases h
      repeat refine wps_seq ?_
      refine wps_region callOK ?_
      simp [zS, hbu, happ]
      have hfv : fitV [] [(b, spB (L ++ [(a, s.length)]))] (.slc b 0 (L.length + 1) c) (aSp (L ++ [(a, s.length)])) := by
        simp only [aSp, fitV]
        refine .inl ⟨_, by simp [lookC]; rfl, ?_, by simp, (el_spn _).size⟩
        have := sub_spB (L ++ [(a, s.length)])
        rw [flat_spn]
        simpa using this
      refine WpSr.fit [] [(b, spB (L ++ [(a, s.length)]))] (s' := (⟨[0, 1, 4, 5, 6, 7, 8, 9, 10, 11, 14, 15, 47, 48, 49], [.str s, .undef, .nilS, aSp (L ++ [(a, s.length)]), .undef, .undef, .undef, .undef, .undef, .undef, .undef, .undef, .undef, .undef, .undef], [], 65, ⟨0, [[]]⟩⟩ : St)) ⟨rfl, rfl, rfl, by simp [fitL, fitV, pureV] at hfv ⊢; exact hfv, ?_⟩ (ff_rest s (L ++ [(a, s.length)]) (by simp; omega) (fun p hp => ?_) _ hw)
      · exact fit_all hg2 (spB_pure _)
      · rcases List.mem_append.1 hp with hp | hp
        · exact hk.rng p hp
        · simp at hp; subst hp; exact ⟨by simp only; omega, by simp only; omega⟩
theorem c14 {T : List (Entry Tryd.prog)} (s : Str) (hs : asciiB s) (hl : s.length ≤ 900000) : CallAt (ctx T) 14 [.str s] ⟨0, []⟩ (aStrs (wsplit s)) ⟨0, []⟩ := by
  have hc := (c29 (T := T) s hs hl 30 fun c h => c30 (T := [e31]) rfl c h).lift (by simp [pureL, pureV]) ⟨0, [[]]⟩
  generalize wsplit s = W at *
  refine callAt_body (fn := Tryd.f14) (s0 := ⟨[0, 2], [.str s, .undef], [], 5, ⟨0, [[]]⟩⟩) Tryd.func14 rfl rfl rfl ?_
  repeat refine wps_seq ?_
  refine wps_region callOK ?_
  simp [zS]
  repeat refine wps_seq ?_
  refine wps_region (callOKF [⟨29, _, _, _, _, hc⟩]) ?_
  simp [zS, callF]
  repeat refine wps_seq ?_
  refine wps_ret ?_
  simp [retVal, Tryd.f14, oneOr, thenQ, blockQ]
  first | exact ⟨[], [], FitH.empty⟩ | exact ends_pure rfl (by rfl)
end Go.Proofs.YtlpknhpalcapmaaDoor
