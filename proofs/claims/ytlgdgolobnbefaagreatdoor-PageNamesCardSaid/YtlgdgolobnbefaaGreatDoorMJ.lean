/- How large what is handed in may be: plain.Attrs, plain.Node, plain.Tree. No condition. -/
import Derived.Test.YtlgdgolobnbefaaGreatDoorMG
import Derived.Test.YtlgdgolobnbefaaGreatDoorMF
namespace Go.Proofs.YtlgdgolobnbefaaGreatDoor
set_option linter.unusedSimpArgs false
set_option linter.unusedVariables false
open Go Go.RowKit
set_option maxRecDepth 100000
def strsB : List AV → List Str → Bool
  | [], l => match l with
    | [] => true
    | _ :: _ => false
  | v :: r, l => match v, l with
    | .str s, t :: q => match eqB s t with
      | true => strsB r q
      | false => false
    | _, _ => false
theorem strsB_eq : ∀ {cs : List AV} {L : List Str}, strsB cs L = true → cs = L.map AV.str
  | [], [], _ => rfl
  | [], _ :: _, h => by simp [strsB] at h
  | v :: r, L, h => by
    cases v <;> cases L <;> simp only [strsB] at h <;> first | (cases h; done) | skip
    rename_i s t q
    split at h
    · rename_i he
      rw [eqB_eq] at he
      simp only [decide_eq_true_eq] at he
      rw [he, strsB_eq h]; rfl
    · cases h
def splitOK (L : List Str) : Option (AV × Heap) → Bool
  | some (.slc b 0 len _, H) => match H.get b with
    | some (.cells cs) => match strsB cs L with
      | true => Nat.beq len L.length
      | false => false
    | _ => false
  | _ => false
theorem closedSplit {T : List (Entry Tryz.prog)} {f : FuncId} {args : List AV} {L : List Str} (h : splitOK L (callN (ctx T) 100000 (.fn f) args ⟨0, []⟩) = true) : CallAt (ctx T) f args ⟨0, []⟩ (aStrs L) ⟨0, []⟩ := by
  revert h
  cases hr : callN (ctx T) 100000 (.fn f) args ⟨0, []⟩ with
  | none => intro h; cases h
  | some r =>
    obtain ⟨v, H'⟩ := r
    intro h
    cases v <;> simp only [splitOK] at h <;> first | (cases h; done) | skip
    rename_i b o len cap
    cases o with
    | succ o => simp [splitOK] at h
    | zero =>
      simp only [splitOK] at h
      split at h
      · rename_i cs hg
        split at h
        · rename_i hs
          have hcs := strsB_eq hs
          have hlen := Nat.eq_of_beq_eq_true h
          refine ((call_ok mixed (mkC_ok _ _ _) 100000).fn f args ⟨0, []⟩ _ _ hr).freeze (Φ := [(b, cs)]) ?_ (.froze (by simp) fun x hx => ?_)
          · simp only [aStrs, fitV]
            refine .inl ⟨cs, by simp [lookC], ?_, by simp [hlen], (el_str L).size⟩
            have h1 := sub_pre (el_str L) (k := L.length) (by simp)
            rw [List.take_of_length_le (by simp)] at h1
            have h2 : flatAV (L.map AV.str) = cs := by
              rw [hcs]
              clear h1 hcs hs h hlen
              induction L with
              | nil => rfl
              | cons x r ih => simp only [List.map_cons, flatAV, ih]; rfl
            rw [h2] at h1 ⊢
            rw [hlen]; exact h1
          · simp only [List.mem_singleton] at hx
            subst hx
            have hp : pureL cs = true := by
              rw [hcs]
              clear hcs hs h hlen
              induction L with
              | nil => rfl
              | cons x r ih => simpa [pureL, pureV] using ih
            exact ⟨cs, hg, fitL_pure hp, hp⟩
        · cases h
      · cases h
theorem occ_iff {s x : Str} {i : Nat} : Lib.occAt s x i = true ↔ (s.drop i).take x.length = x := by
  unfold Lib.occAt
  rw [List.isPrefixOf_iff_prefix, List.prefix_iff_eq_take]
  exact eq_comm
theorem c16 {T : List (Entry Tryz.prog)} (hI : findE 35 T = some e35.g) (hS : findE 36 T = some e36.g) (W x : Str) (hl : W.length ≤ 100000) (hx1 : x.length ≤ 1000000000)
    (hsp : CallAt (ctx T) 38 [.str W] ⟨0, []⟩ (aStrs (wsplit W)) ⟨0, []⟩) (hco : CallAt (ctx T) 37 [aStrs (wsplit W), .str x] ⟨0, []⟩ (.bool (decide (x ∈ wsplit W))) ⟨0, []⟩) :
    CallAt (ctx T) 16 [.str W, .str x] ⟨0, []⟩ (.bool (inW W x)) ⟨0, []⟩ := by
  have h1 := hsp.lift (by simp [pureL, pureV]) ⟨0, [[]]⟩
  have h2 := hco.lift (by simp [aStrs, pureL, pureV]) ⟨0, [[]]⟩
  refine callAt_body (fn := Tryz.f16) (s0 := ⟨[0, 1, 4, 5, 6, 7, 8], [.str W, .str x, .undef, .undef, .undef, .undef, .undef], [], 52, ⟨0, [[]]⟩⟩) Tryz.func16 rfl rfl rfl ?_
  repeat refine wps_seq ?_
  refine wps_region callOK ?_
  simp [zS]
  by_cases hx : x = []
  · repeat refine wps_seq ?_
    refine wps_region callOK ?_
    simp [zS, hx]
    repeat refine wps_seq ?_
    refine wps_cond (t := true) rfl (fun _ => ?_) fun h => by cases h
    repeat refine wps_seq ?_
    refine wps_region callOK ?_
    simp [zS]
    repeat refine wps_seq ?_
    refine wps_ret ?_
    simp [retVal, Tryz.f16, oneOr, thenQ, blockQ]
    exact ends_pure rfl (by simp only [inW]; symm; simp; intro h; exact word_ne h rfl)
  repeat refine wps_seq ?_
  refine wps_region callOK ?_
  simp [zS, hx]
  repeat refine wps_seq ?_
  refine wps_cond (t := false) rfl (fun h => by cases h) fun _ => ?_
  repeat refine wps_seq ?_
  refine wps_skip ?_
  simp
  have hx0 : 0 < x.length := List.length_pos_iff.2 hx
  repeat refine wps_seq ?_
  refine wps_region callOK ?_
  simp [zS]
  repeat refine wps_seq ?_
  refine wps_block (wps_loop' (fun i : Nat => (⟨[0, 1, 4, 5, 6, 7, 8], [.str W, .str x, .undef, .int .i64 i, .undef, .undef, .undef], [], 52, ⟨0, [[]]⟩⟩ : St))
    (fun i => i ≤ W.length ∧ (x ∈ wsplit W → ∃ p, i ≤ p ∧ WordAt W x p)) (fun i => W.length + 1 - i) [] [] 0 ⟨Nat.zero_le _, fun h => let ⟨p, hp⟩ := word_at h; ⟨p, Nat.zero_le _, hp⟩⟩ ⟨rfl, rfl, rfl, by simp [fitL, fitV, pureV, pureL], FitH.nothing⟩ ?_)
  rintro i ⟨hi, hw⟩ B hB
  have hd : (W.drop i).length ≤ 1000000 := by simp; omega
  repeat refine wps_seq ?_
  refine wps_block ?_
  rcases Lib.index_spec (W.drop i) x with ⟨h0, hn⟩ | ⟨k, h0, hk, ho, hno⟩
  · have hnot : ¬ x ∈ wsplit W := fun h => by
      obtain ⟨p, hp, hwa⟩ := hw h
      have hr := hwa.room
      have := hn (p - i) (by simp; omega)
      have h3 : Lib.occAt (W.drop i) x (p - i) = true := occ_iff.2 (by rw [List.drop_drop, show i + (p - i) = p by omega]; exact hwa.occ)
      rw [h3] at this
      cases this
    repeat refine wps_seq ?_
    refine wps_region callOK ?_
    simp [zS, slStr hi, k35 hI hd, h0]
    repeat refine wps_seq ?_
    refine wps_region callOK ?_
    simp [zS]
    repeat refine wps_seq ?_
    refine wps_cond (t := true) rfl (fun _ => ?_) fun h => by cases h
    repeat refine wps_seq ?_
    refine wps_region callOK ?_
    simp [zS]
    repeat refine wps_seq ?_
    refine wps_ret ?_
    simp [retVal, Tryz.f16, oneOr, thenQ, blockQ]
    exact ends_pure rfl (by simp [inW, hnot])
  · have hk0 : ¬ (k : Int) < 0 := by omega
    obtain ⟨j, hj⟩ : ∃ j, j = i + k := ⟨_, rfl⟩
    have ho' := occ_iff.1 ho
    rw [List.drop_drop, ← hj] at ho'
    have hroom : j + x.length ≤ W.length := by
      have := congrArg List.length ho'
      simp at this
      simp at hk
      omega
    have a1 : wr .i64 ((i : Int) + (k : Int)) = some (j : Int) := by rw [wr_small (by omega) (by omega), hj]; simp
    obtain ⟨q, hq⟩ : ∃ q, q = j + x.length := ⟨_, rfl⟩
    have a2 : wr .i64 ((j : Int) + (x.length : Int)) = some (q : Int) := by rw [wr_small (by omega) (by omega), hq]; simp
    have nxt : ∀ s', ¬ WordAt W x j → (∃ σ Φ, Fit 0 σ Φ s' (⟨[0, 1, 4, 5, 6, 7, 8], [.str W, .str x, .undef, .int .i64 ((j + 1 : Nat) : Int), .undef, .undef, .undef], [], 52, ⟨0, [[]]⟩⟩ : St)) → B s' := fun s' hno2 hf =>
      hB s' (j + 1) (by omega) ⟨by omega, fun h => by
        obtain ⟨p, hp, hwa⟩ := hw h
        refine ⟨p, ?_, hwa⟩
        have hr := hwa.room
        apply Decidable.byContradiction
        intro hlt
        rcases Nat.lt_or_ge p j with hpj | hpj
        · have h3 := hno (p - i) (by omega)
          have h4 : Lib.occAt (W.drop i) x (p - i) = true := occ_iff.2 (by rw [List.drop_drop, show i + (p - i) = p by omega]; exact hwa.occ)
          rw [h4] at h3
          cases h3
        · have : p = j := by omega
          subst this
          exact hno2 hwa⟩ hf
    repeat refine wps_seq ?_
    refine wps_region callOK ?_
    simp [zS, slStr hi, k35 hI hd, h0]
    repeat refine wps_seq ?_
    refine wps_region callOK ?_
    simp [zS, hk0]
    repeat refine wps_seq ?_
    refine wps_cond (t := false) rfl (fun h => by cases h) fun _ => ?_
    repeat refine wps_seq ?_
    refine wps_skip ?_
    simp
    repeat refine wps_seq ?_
    refine wps_region callOK ?_
    simp [zS, a1]
    repeat refine wps_seq ?_
    refine wps_region callOK ?_
    simp [zS, a2]
    have kS := fun c H => k36 hS c H
    by_cases c0 : j = 0
    · have a4 : wr .i64 1 = some ((j + 1 : Nat) : Int) := by rw [c0]; rfl
      by_cases d0 : q = W.length
      · repeat refine wps_seq ?_
        refine wps_region callOK ?_
        simp [zS, c0, d0]
        repeat refine wps_seq ?_
        refine wps_cond (t := true) rfl (fun _ => ?_) fun h => by cases h
        repeat refine wps_seq ?_
        refine wps_region (callOKF [⟨38, _, _, _, _, h1⟩, ⟨37, _, _, _, _, h2⟩]) ?_
        simp [zS, callF, aStrs]
        repeat refine wps_seq ?_
        refine wps_ret ?_
        simp [retVal, Tryz.f16, oneOr, thenQ, blockQ]
        exact ends_pure rfl (by simp [inW])
      · have hql : q < W.length := by omega
        have d0i : ¬ (q : Int) = (W.length : Int) := by omega
        rcases Bool.eq_false_or_eq_true (sp W[q]) with d1 | d1
        · repeat refine wps_seq ?_
          refine wps_region callOK ?_
          simp [zS, c0, d0i, ixStr hql, kS, d1]
          repeat refine wps_seq ?_
          refine wps_cond (t := true) rfl (fun _ => ?_) fun h => by cases h
          repeat refine wps_seq ?_
          refine wps_region (callOKF [⟨38, _, _, _, _, h1⟩, ⟨37, _, _, _, _, h2⟩]) ?_
          simp [zS, callF, aStrs]
          repeat refine wps_seq ?_
          refine wps_ret ?_
          simp [retVal, Tryz.f16, oneOr, thenQ, blockQ]
          exact ends_pure rfl (by simp [inW])
        · repeat refine wps_seq ?_
          refine wps_region callOK ?_
          simp [zS, c0, d0i, ixStr hql, kS, d1]
          repeat refine wps_seq ?_
          refine wps_cond (t := false) rfl (fun h => by cases h) fun _ => ?_
          repeat refine wps_seq ?_
          refine wps_skip ?_
          simp
          repeat refine wps_seq ?_
          refine wps_region callOK ?_
          simp [zS, a4]
          exact nxt _ (fun hwa => by have := hwa.post _ (by rw [← hq]; exact List.getElem?_eq_getElem hql); rw [d1] at this; cases this) ⟨[], [], ⟨rfl, rfl, rfl, by simp [fitL, fitV, pureV, pureL], FitH.nothing⟩⟩
    · obtain ⟨q1, hq1⟩ : ∃ q1, q1 + 1 = j := ⟨j - 1, by omega⟩
      have hq1l : q1 < W.length := by omega
      have a3 : wr .i64 ((j : Int) - 1) = some (q1 : Int) := by rw [wr_small (by omega) (by omega)]; congr 1; omega
      rcases Bool.eq_false_or_eq_true (sp W[q1]) with c1 | c1
      · skip
        by_cases d0 : q = W.length
        · repeat refine wps_seq ?_
          refine wps_region callOK ?_
          simp [zS, c0, a3, ixStr hq1l, kS, c1, d0]
          repeat refine wps_seq ?_
          refine wps_cond (t := true) rfl (fun _ => ?_) fun h => by cases h
          repeat refine wps_seq ?_
          refine wps_region (callOKF [⟨38, _, _, _, _, h1⟩, ⟨37, _, _, _, _, h2⟩]) ?_
          simp [zS, callF, aStrs]
          repeat refine wps_seq ?_
          refine wps_ret ?_
          simp [retVal, Tryz.f16, oneOr, thenQ, blockQ]
          exact ends_pure rfl (by simp [inW])
        · have hql : q < W.length := by omega
          have d0i : ¬ (q : Int) = (W.length : Int) := by omega
          rcases Bool.eq_false_or_eq_true (sp W[q]) with d1 | d1
          · repeat refine wps_seq ?_
            refine wps_region callOK ?_
            simp [zS, c0, a3, ixStr hq1l, kS, c1, d0i, ixStr hql, kS, d1]
            repeat refine wps_seq ?_
            refine wps_cond (t := true) rfl (fun _ => ?_) fun h => by cases h
            repeat refine wps_seq ?_
            refine wps_region (callOKF [⟨38, _, _, _, _, h1⟩, ⟨37, _, _, _, _, h2⟩]) ?_
            simp [zS, callF, aStrs]
            repeat refine wps_seq ?_
            refine wps_ret ?_
            simp [retVal, Tryz.f16, oneOr, thenQ, blockQ]
            exact ends_pure rfl (by simp [inW])
          · repeat refine wps_seq ?_
            refine wps_region callOK ?_
            simp [zS, c0, a3, ixStr hq1l, kS, c1, d0i, ixStr hql, kS, d1]
            repeat refine wps_seq ?_
            refine wps_cond (t := false) rfl (fun h => by cases h) fun _ => ?_
            repeat refine wps_seq ?_
            refine wps_skip ?_
            simp
            repeat refine wps_seq ?_
            refine wps_region callOK ?_
            simp [zS, add_one (show j ≤ 1000000000 by omega)]
            exact nxt _ (fun hwa => by have := hwa.post _ (by rw [← hq]; exact List.getElem?_eq_getElem hql); rw [d1] at this; cases this) ⟨[], [], ⟨rfl, rfl, rfl, by simp [fitL, fitV, pureV, pureL], FitH.nothing⟩⟩
      · repeat refine wps_seq ?_
        refine wps_region callOK ?_
        simp [zS, c0, a3, ixStr hq1l, kS, c1]
        repeat refine wps_seq ?_
        refine wps_cond (t := false) rfl (fun h => by cases h) fun _ => ?_
        repeat refine wps_seq ?_
        refine wps_skip ?_
        simp
        repeat refine wps_seq ?_
        refine wps_region callOK ?_
        simp [zS, add_one (show j ≤ 1000000000 by omega)]
        exact nxt _ (fun hwa => by have := hwa.pre _ (by omega) (by rw [← hq1, Nat.add_sub_cancel]; exact List.getElem?_eq_getElem hq1l); rw [c1] at this; cases this) ⟨[], [], ⟨rfl, rfl, rfl, by simp [fitL, fitV, pureV, pureL], FitH.nothing⟩⟩
abbrev At1 := Str × Str
def aAttr (a : At1) : AV := .agg [.str a.1, .str a.2]
def aAttrs (L : List At1) : AV := .fslc 2 (L.map aAttr)
@[simp] theorem cells_aAttr (a : At1) : (aAttr a).cells = [.str a.1, .str a.2] := rfl
@[simp] theorem pure_aAttr (a : At1) : pureV (aAttr a) = true := by simp [aAttr, pureV, pureL]
@[simp] theorem pure_aAttrs (L : List At1) : pureV (aAttrs L) = true := by simp [aAttrs, pureV]
@[simp] theorem ok_aAttr (a : At1) : okV (aAttr a) = true := by simp [aAttr, okV, pureV, pureL]
@[simp] theorem ok_aAttrs (L : List At1) : okV (aAttrs L) = true := by simp [aAttrs, okV, pureV]
theorem th_aAttrs (H : Heap) (L : List At1) : thawA H [2] (aAttrs L) = some (aAttrs L) := thawA_ok (by simp)
theorem inj_aAttr {a b : At1} (h : aAttr a = aAttr b) : a = b := by
  simp [aAttr] at h; exact Prod.ext h.1 h.2
theorem inj_aAttrs {L M : List At1} (h : aAttrs L = aAttrs M) : L = M := by
  simp only [aAttrs, AV.fslc.injEq, true_and] at h
  exact List.map_inj_right (fun _ _ => inj_aAttr) |>.1 h
def idxFrom {α : Type} (p : α → Bool) : List α → Nat → Int
  | [], _ => -1
  | a :: r, k => if p a = true then k else idxFrom p r (k + 1)
theorem idxFrom_at {α : Type} {p : α → Bool} {L : List α} {i : Nat} (h : i < L.length) : idxFrom p (L.drop i) i = if p L[i] = true then (i : Int) else idxFrom p (L.drop (i + 1)) (i + 1) := by
  rw [List.drop_eq_getElem_cons h]; rfl
theorem atA {L : List At1} {i : Nat} (h : i < L.length) : indexAddrA Tryz.prog 48 (aAttrs L) (.int .i64 (i : Int)) = some (.fptr [.str L[i].1, .str L[i].2] 0) := by
  simp [indexAddrA, aAttrs, idx_nat h, getL_map h, aAttr, AV.cells]
theorem lenA1 {H : Heap} {L : List At1} : lenA Tryz.prog H 48 (aAttrs L) = some L.length := by simp [lenA, aAttrs]
theorem rdA1 {H : Heap} (a : At1) : readVar Tryz.prog H 98 (.fptr [.str a.1, .str a.2] 0) = some (aAttr a) := by simp [readVar, subL, takeL, aAttr]
theorem c78 {T : List (Entry Tryz.prog)} (L : List At1) (hl : L.length ≤ 1000) (clo : FuncId) (cap : List AV) (hc : pureL cap = true) (p : At1 → Bool) (hp : ∀ a, CallAt (ctx T) clo (aAttr a :: cap) ⟨0, []⟩ (.bool (p a)) ⟨0, []⟩) :
    CallAt (ctx T) 78 [aAttrs L, .func (.func clo) [] cap] ⟨0, []⟩ (.int .i64 (idxFrom p L 0)) ⟨0, []⟩ := by
  refine callAt_body (fn := Tryz.f78) (s0 := ⟨[0, 1, 4, 5, 7, 8], [aAttrs L, .func (.func clo) [] cap, .undef, .undef, .undef, .undef], [], 19, ⟨0, [[]]⟩⟩) Tryz.func78 rfl rfl rfl ?_
  repeat refine wps_seq ?_
  refine wps_region callOK ?_
  simp [zS]
  repeat refine wps_seq ?_
  refine wps_region callOK ?_
  simp [zS, lenA1]
  repeat refine wps_seq ?_
  refine wps_block (wps_loop' (fun i : Nat => (⟨[0, 1, 4, 5, 7, 8], [aAttrs L, .func (.func clo) [] cap, .undef, .undef, .int .i64 L.length, .int .i64 i], [], 19, ⟨0, [[]]⟩⟩ : St))
    (fun i => i ≤ L.length ∧ idxFrom p L 0 = idxFrom p (L.drop i) i) (fun i => L.length - i) [] [] 0 ⟨Nat.zero_le _, rfl⟩ ⟨rfl, rfl, rfl, by simp [fitL, fitV, pureV, pureL, hc], FitH.nothing⟩ ?_)
  rintro i ⟨hi, hx⟩ B hB
  repeat refine wps_seq ?_
  refine wps_region callOK ?_
  simp [zS]
  repeat refine wps_seq ?_
  refine wps_cond rfl (fun h => ?_) fun h => ?_
  · simp at h
    repeat refine wps_seq ?_
    refine wps_skip ?_
    simp
    repeat refine wps_seq ?_
    refine wps_block ?_
    repeat refine wps_seq ?_
    refine wps_region callOK ?_
    simp [zS]
    repeat refine wps_seq ?_
    refine wps_region (callF_ok callOK [⟨clo, [aAttr L[i]] ++ cap, ⟨0, [[]]⟩, .bool (p L[i]), ⟨0, [[]]⟩, (hp L[i]).lift (by simp [pureL, hc]) _⟩]) ?_
    simp [zS, atA h, callF, rdA1]
    repeat refine wps_seq ?_
    refine wps_cond rfl (fun h2 => ?_) fun h2 => ?_
    · repeat refine wps_seq ?_
      refine wps_region callOK ?_
      simp [zS]
      repeat refine wps_seq ?_
      refine wps_ret ?_
      simp [retVal, Tryz.f78, oneOr]
      refine ⟨[], [], ?_, FitH.empty⟩
      rw [hx, idxFrom_at h, if_pos h2]
      exact fitV_pure rfl
    · repeat refine wps_seq ?_
      refine wps_skip ?_
      simp
      repeat refine wps_seq ?_
      refine wps_region callOK ?_
      simp [zS, add_one (show i ≤ 1000000000 by omega)]
      refine hB _ (i + 1) (by omega) ⟨by omega, ?_⟩ ⟨[], [], ⟨rfl, rfl, rfl, by simp [fitL, fitV, pureV, pureL, hc], FitH.nothing⟩⟩
      rw [hx, idxFrom_at h, h2]
      simp
  · simp at h
    repeat refine wps_seq ?_
    refine wps_exit ?_
    simp
    repeat refine wps_seq ?_
    refine wps_region callOK ?_
    simp [zS]
    repeat refine wps_seq ?_
    refine wps_ret ?_
    simp [retVal, Tryz.f78, oneOr]
    refine ⟨[], [], ?_, FitH.empty⟩
    rw [hx, List.drop_eq_nil_of_le (by omega)]
    exact fitV_pure rfl
def getAt (nm : Str) : List At1 → Option Str
  | [] => none
  | a :: r => if a.1 = nm then some a.2 else getAt nm r
def gotA (x : Option Str) : AV := .tup [.str (x.getD []), .bool x.isSome]
theorem injS (x y : List At1 × Str) (h : [aAttrs x.1, .str x.2] = [aAttrs y.1, .str y.2]) : x = y := by
  simp at h; exact Prod.ext (inj_aAttrs h.1) h.2
theorem getAt_at {nm : Str} {L : List At1} {i : Nat} (h : i < L.length) : getAt nm (L.drop i) = if L[i].1 = nm then some L[i].2 else getAt nm (L.drop (i + 1)) := by
  rw [List.drop_eq_getElem_cons h]; rfl
theorem c50 {T : List (Entry Tryz.prog)} (L : List At1) (nm : Str) (hl : L.length ≤ 1000) : CallAt (ctx T) 50 [aAttrs L, .str nm] ⟨0, []⟩ (gotA (getAt nm L)) ⟨0, []⟩ := by
  refine callAt_body (fn := Tryz.f50) (s0 := ⟨[0, 1, 4, 5, 6], [aAttrs L, .str nm, .undef, .undef, .undef], [], 25, ⟨0, [[]]⟩⟩) Tryz.func50 rfl rfl rfl ?_
  repeat refine wps_seq ?_
  refine wps_region callOK ?_
  simp [zS]
  repeat refine wps_seq ?_
  refine wps_region callOK ?_
  simp [zS]
  repeat refine wps_seq ?_
  refine wps_block (wps_loop' (fun i : Nat => (⟨[0, 1, 4, 5, 6], [aAttrs L, .str nm, .str [], .bool false, .int .i64 i], [], 25, ⟨0, [[]]⟩⟩ : St))
    (fun i => i ≤ L.length ∧ getAt nm L = getAt nm (L.drop i)) (fun i => L.length - i) [] [] 0 ⟨Nat.zero_le _, rfl⟩ ⟨rfl, rfl, rfl, by simp [fitL, fitV, pureV, pureL], FitH.nothing⟩ ?_)
  rintro i ⟨hi, hx⟩ B hB
  repeat refine wps_seq ?_
  refine wps_region callOK ?_
  simp [zS, lenA1]
  repeat refine wps_seq ?_
  refine wps_cond rfl (fun h => ?_) fun h => ?_
  · simp at h
    repeat refine wps_seq ?_
    refine wps_skip ?_
    simp
    repeat refine wps_seq ?_
    refine wps_block ?_
    repeat refine wps_seq ?_
    refine wps_region callOK ?_
    simp [zS, atA h]
    repeat refine wps_seq ?_
    refine wps_cond rfl (fun h2 => ?_) fun h2 => ?_
    · repeat refine wps_seq ?_
      refine wps_region callOK ?_
      simp [zS, atA h]
      repeat refine wps_seq ?_
      refine wps_ret ?_
      simp [retVal, Tryz.f50, oneOr]
      simp at h2
      exact ends_pure rfl (by simp [gotA, hx, getAt_at h, h2])
    · repeat refine wps_seq ?_
      refine wps_skip ?_
      simp
      repeat refine wps_seq ?_
      refine wps_region callOK ?_
      simp [zS, add_one (show i ≤ 1000000000 by omega)]
      simp at h2
      exact hB _ (i + 1) (by omega) ⟨by omega, by rw [hx, getAt_at h]; simp [h2]⟩ ⟨[], [], ⟨rfl, rfl, rfl, by simp [fitL, fitV, pureV, pureL], FitH.nothing⟩⟩
  · simp at h
    repeat refine wps_seq ?_
    refine wps_exit ?_
    simp
    repeat refine wps_seq ?_
    refine wps_region callOK ?_
    simp [zS]
    repeat refine wps_seq ?_
    refine wps_ret ?_
    simp [retVal, Tryz.f50, oneOr]
    exact ends_pure rfl (by simp [gotA, hx, List.drop_eq_nil_of_le h, getAt])
noncomputable def e50 : Entry Tryz.prog := mkE 50 [[2], []] (fun x : List At1 × Str => [aAttrs x.1, .str x.2]) (fun x => x.1.length ≤ 1000) (fun x => gotA (getAt x.2 x.1)) fun x hx => c50 (T := []) x.1 x.2 hx
theorem k50 {T : List (Entry Tryz.prog)} (hT : findE 50 T = some e50.g) {L : List At1} (nm : Str) (hl : L.length ≤ 1000) {H : Heap} {l : AV} (h : thawA H [2] l = some (aAttrs L)) : callL (ctx T) (.fn 50) [l, .str nm] H = some (gotA (getAt nm L), H) :=
  mkE_scalar hT injS (L, nm) hl rfl (by simp [h])
structure Nd where
  kind : Int
  space : Int
  name : Str
  attrs : List At1
  data : Str
  up : Int
  kids : List Int
def aInt (i : Int) : AV := .int .i64 i
abbrev aInts (L : List Int) : AV := .fslc 1 (L.map aInt)
def Nd.cs (n : Nd) : List AV := [aInt n.kind, aInt n.space, .str n.name, aAttrs n.attrs, .str n.data, aInt n.up, aInts n.kids]
def aNode (n : Nd) : AV := .agg n.cs
abbrev Tr := List Nd
abbrev aNodes (t : Tr) : AV := .fslc 7 (t.map aNode)
def aTree (t : Tr) : AV := .agg [aNodes t]
@[simp] theorem pure_aInts (L : List Int) : pureV (aInts L) = true := by simp [aInts, pureV]
@[simp] theorem pure_aNode (n : Nd) : pureV (aNode n) = true := by simp [aNode, Nd.cs, aInt, pureV, pureL]
@[simp] theorem pure_aNodes (t : Tr) : pureV (aNodes t) = true := by simp [aNodes, pureV]
@[simp] theorem pure_aTree (t : Tr) : pureV (aTree t) = true := by simp [aTree, pureV, pureL]
@[simp] theorem cells_aNode (n : Nd) : (aNode n).cells = n.cs := rfl
@[simp] theorem cells_aTree (t : Tr) : (aTree t).cells = [aNodes t] := rfl
@[simp] theorem cells_aInt (i : Int) : (aInt i).cells = [aInt i] := rfl
@[simp] theorem ok_aNode (n : Nd) : okV (aNode n) = true := by simp [aNode, Nd.cs, aInt, aAttrs, aInts, okV, pureV, pureL]
theorem inj_aInts {L M : List Int} (h : aInts L = aInts M) : L = M := by
  simp only [aInts, AV.fslc.injEq, true_and] at h
  exact List.map_inj_right (fun x y e => by simp [aInt] at e; exact e) |>.1 h
theorem inj_aNode {a b : Nd} (h : aNode a = aNode b) : a = b := by
  obtain ⟨k, s, n, at_, d, u, ks⟩ := a
  obtain ⟨k', s', n', at', d', u', ks'⟩ := b
  simp [aNode, Nd.cs, aInt] at h
  obtain ⟨h1, h2, h3, h4, h5, h6, h7⟩ := h
  have h7' : aInts ks = aInts ks' := by show AV.fslc 1 _ = AV.fslc 1 _; rw [h7]
  simp [h1, h2, h3, inj_aAttrs h4, h5, h6, inj_aInts h7']
theorem inj_aTree {a b : Tr} (h : aTree a = aTree b) : a = b := by
  simp [aTree, aNodes] at h
  exact List.map_inj_right (fun x y e => inj_aNode e) |>.1 h
abbrev wId : Str := [105, 100]
abbrev wName : Str := [110, 97, 109, 101]
abbrev wForm : Str := [102, 111, 114, 109]
def valOf (n : Nd) (nm : Str) : Str := (getAt nm n.attrs).getD []
end Go.Proofs.YtlgdgolobnbefaaGreatDoor
namespace Go.Proofs.YtlgdgolobnbefaaGreatDoor
set_option linter.unusedSimpArgs false
set_option linter.unusedVariables false
structure Wk where
  l : List Int
  inn : List Int
  out : List Int
  c : Int
def negs (I : List Int) : Nat := I.countP fun x => decide (x < 0)
def kl (n : Nat) (g : Nat → Wk → Wk) : List Int → Wk → Wk
  | [], w => w
  | k :: r, w => if 0 ≤ k ∧ k < (n : Int) ∧ w.inn.getD k.toNat 0 < 0 then kl n g r (g k.toNat w) else kl n g r w
def into (i : Nat) (w : Wk) : Wk := ⟨w.l ++ [(i : Int)], w.inn.set i w.c, w.out, w.c + 1⟩
def outof (i : Nat) (w : Wk) : Wk := ⟨w.l, w.inn, w.out.set i w.c, w.c + 1⟩
def vis (n : Nat) (ks : Nat → List Int) : Nat → Nat → Wk → Wk
  | 0, _, w => w
  | f + 1, i, w => outof i (kl n (vis n ks f) (ks i) (into i w))
structure WOK (n K : Nat) (w : Wk) : Prop where
  li : w.inn.length = n
  lo : w.out.length = n
  c0 : 0 ≤ w.c
  cb : w.c + 2 * (negs w.inn : Int) ≤ 2 * K
  lb : w.l.length + negs w.inn ≤ K
theorem negs_set {I : List Int} {i : Nat} {c : Int} (h : i < I.length) (hi : I.getD i 0 < 0) (hc : 0 ≤ c) : negs (I.set i c) + 1 = negs I := by
  induction I generalizing i with
  | nil => simp at h
  | cons x r ih =>
    cases i with
    | zero =>
      have hx : x < 0 := by simpa using hi
      have hc' : ¬ c < 0 := by omega
      simp [negs, List.countP_cons, hx, hc']
    | succ j =>
      have := ih (i := j) (by simpa using h) (by simpa using hi)
      simp only [negs, List.set_cons_succ, List.countP_cons] at this ⊢
      omega
theorem WOK.into {n K i : Nat} {w : Wk} (h : WOK n K w) (hi : i < n) (hn : w.inn.getD i 0 < 0) : WOK n K (into i w) ∧ negs (into i w).inn + 1 = negs w.inn ∧ (into i w).c + 2 * (negs (into i w).inn : Int) + 1 ≤ 2 * K := by
  have e := negs_set (I := w.inn) (by rw [h.li]; exact hi) hn h.c0
  have h1 := h.cb
  have h2 := h.lb
  have h3 := h.c0
  refine ⟨⟨by simp [Go.Proofs.YtlgdgolobnbefaaGreatDoor.into, h.li], h.lo, ?_, ?_, ?_⟩, e, ?_⟩ <;> simp only [Go.Proofs.YtlgdgolobnbefaaGreatDoor.into, List.length_append, List.length_singleton] <;> omega
def Low (n K : Nat) (b : Int) (w : Wk) : Prop := WOK n K w ∧ w.c + 2 * (negs w.inn : Int) + b ≤ 2 * K
theorem kl_ok {n K f : Nat} {g : Nat → Wk → Wk} (hg : ∀ b i w, 0 ≤ b → Low n K b w → i < n → w.inn.getD i 0 < 0 → negs w.inn ≤ f → Low n K b (g i w) ∧ negs (g i w).inn ≤ negs w.inn) (b : Int) (hb : 0 ≤ b) :
    ∀ (ks : List Int) (w : Wk), Low n K b w → negs w.inn ≤ f → Low n K b (kl n g ks w) ∧ negs (kl n g ks w).inn ≤ negs w.inn
  | [], w, h, _ => ⟨h, Nat.le_refl _⟩
  | k :: r, w, h, hf => by
    unfold kl
    split
    · rename_i hk
      obtain ⟨h1, h2⟩ := hg b k.toNat w hb h (by omega) hk.2.2 hf
      obtain ⟨h3, h4⟩ := kl_ok hg b hb r _ h1 (by omega)
      exact ⟨h3, by omega⟩
    · exact kl_ok hg b hb r w h hf
theorem vis_ok {n K : Nat} {ks : Nat → List Int} : ∀ (f : Nat) (b : Int) (i : Nat) (w : Wk), 0 ≤ b → Low n K b w → i < n → w.inn.getD i 0 < 0 → negs w.inn ≤ f → Low n K b (vis n ks f i w) ∧ negs (vis n ks f i w).inn < negs w.inn
  | 0, b, i, w, hb, h, hi, hn, hf => by
    have e := negs_set (I := w.inn) (by rw [h.1.li]; exact hi) hn h.1.c0
    omega
  | f + 1, b, i, w, hb, h, hi, hn, hf => by
    obtain ⟨h1, h2, h3⟩ := h.1.into hi hn
    have hl : Low n K (b + 1) (into i w) := ⟨h1, by have := h.2; simp only [into] at h2 ⊢; omega⟩
    obtain ⟨h4, h5⟩ := kl_ok (n := n) (K := K) (f := f) (g := vis n ks f) (fun b' i' w' hb' h' hi' hn' hf' => let ⟨x, y⟩ := vis_ok f b' i' w' hb' h' hi' hn' hf'; ⟨x, Nat.le_of_lt y⟩) (b + 1) (by omega) (ks i) (into i w) hl (by omega)
    unfold vis
    refine ⟨⟨⟨h4.1.li, by simp [outof, h4.1.lo], ?_, ?_, ?_⟩, ?_⟩, ?_⟩
    · have := h4.1.c0; simp only [outof]; omega
    · have := h4.2; simp only [outof]; omega
    · exact h4.1.lb
    · have := h4.2; simp only [outof]; omega
    · simp only [outof]; omega
abbrev Cfg := List (Nat × Nat) × List Bool × List Int
def stp (n : Nat) (ks : Nat → List Int) : Cfg → Option Cfg
  | ([], _, _) => none
  | ((i, j) :: p, s, a) => match (ks i)[j]? with
    | none => some (p, s, a)
    | some k => if 0 ≤ k ∧ k < (n : Int) ∧ s.getD k.toNat true = false then some ((k.toNat, 0) :: (i, j + 1) :: p, s.set k.toNat true, a ++ [k]) else some ((i, j + 1) :: p, s, a)
inductive Reach (n : Nat) (ks : Nat → List Int) : Cfg → Cfg → Prop where
  | refl (c : Cfg) : Reach n ks c c
  | step {c d e : Cfg} (h : stp n ks c = some d) (r : Reach n ks d e) : Reach n ks c e
theorem Reach.trans {n : Nat} {ks : Nat → List Int} {c d e : Cfg} (h : Reach n ks c d) (r : Reach n ks d e) : Reach n ks c e := by
  induction h with
  | refl => exact r
  | step h _ ih => exact .step h (ih r)
theorem Reach.one {n : Nat} {ks : Nat → List Int} {c d e : Cfg} (r : Reach n ks c d) (h : stp n ks d = some e) : Reach n ks c e := r.trans (.step h (.refl _))
def w0 (n : Nat) : Wk := ⟨[], List.replicate n (-1), List.replicate n (-1), 0⟩
def orderOf (n : Nat) (ks : Nat → List Int) : List Int := if n = 0 then [] else (vis n ks n 0 (w0 n)).l
theorem negs_rep (n : Nat) : negs (List.replicate n (-1)) = n := by simp [negs, List.countP_replicate]
theorem w0_ok (n : Nat) : Low n n 0 (w0 n) := by
  refine ⟨⟨by simp [w0], by simp [w0], by simp [w0], ?_, ?_⟩, ?_⟩ <;> simp [w0, negs_rep]
end Go.Proofs.YtlgdgolobnbefaaGreatDoor
namespace Go.Proofs.YtlgdgolobnbefaaGreatDoor
set_option linter.unusedSimpArgs false
set_option linter.unusedVariables false
open Go Go.RowKit
set_option maxRecDepth 100000
def ints (L : List Int) : List AV := L.map aInt
@[simp] theorem ints_nil : ints [] = [] := rfl
theorem ints_ne {L : List Int} (h : L ≠ []) : ints L ≠ [] := by simpa [ints] using h
theorem ne_ints {L : List Int} (h : ints L ≠ []) : L ≠ [] := by simpa [ints] using h
@[simp] theorem len_ints (L : List Int) : (ints L).length = L.length := by simp [ints]
theorem el_int (L : List Int) : Elems 1 (ints L) := .map (sz := 1) (f := aInt) (by decide) (fun x => ⟨rfl, rfl, fun _ => rfl, fun h => absurd rfl h⟩) L
@[simp] theorem flat_ints (L : List Int) : flatAV (ints L) = ints L := by
  unfold ints
  induction L with
  | nil => rfl
  | cons x r ih => simp only [List.map_cons, flatAV, ih]; rfl
@[simp] theorem pure_ints (L : List Int) : pureL (ints L) = true := by have := (el_int L).pure; rwa [flat_ints] at this
theorem lay1 {L : List Int} {i : Nat} {v : Int} (h : i < L.length) : layL [.int .i64 v] i (ints L) = some (ints (L.set i v)) := by
  have := lay_at (el_int L) (i := i) (by simpa using h) (e := aInt v) rfl
  have e : (ints L).set i (aInt v) = ints (L.set i v) := by simp [ints, List.map_set]
  rw [flat_ints, e, flat_ints] at this
  simpa [aInt, AV.cells] using this
theorem atI {L : List Int} {i : Nat} (h : i < L.length) : indexAddrA Tryz.prog 46 (aInts L) (.int .i64 (i : Int)) = some (.fptr [.int .i64 L[i]] 0) := by
  simp [indexAddrA, aInts, idx_nat h, getL_map h, aInt, AV.cells]
theorem atN {t : Tr} {i : Nat} (h : i < t.length) : indexAddrA Tryz.prog 30 (aNodes t) (.int .i64 (i : Int)) = some (.fptr (t[i]).cs 0) := by
  simp [indexAddrA, aNodes, idx_nat h, getL_map h]
theorem lenI {H : Heap} {L : List Int} : lenA Tryz.prog H 46 (aInts L) = some L.length := by simp [lenA, aInts]
theorem lenN {H : Heap} {t : Tr} : lenA Tryz.prog H 30 (aNodes t) = some t.length := by simp [lenA, aNodes]
def kidsOf (t : Tr) (i : Nat) : List Int := (t[i]?.map Nd.kids).getD []
theorem kidsOf_at {t : Tr} {i : Nat} (h : i < t.length) : t[i].kids = kidsOf t i := by simp [kidsOf, h]
def lA (b : Nat) (L : List Int) : AV := ownV b 1 (ints L)
def lF (b : Nat) (L : List Int) : List (Nat × Blk) := ownF b (ints L)
theorem lA_ne {b : Nat} {L : List Int} (h : L ≠ []) : lA b L = .slc b 0 L.length (.rest 1) := by rw [lA, ownV_ne (ints_ne h)]; simp
theorem lF_ne {b : Nat} {L : List Int} (h : L ≠ []) : lF b L = [(b, .cells (ints L))] := by rw [lF, ownF_ne (ints_ne h), flat_ints]
theorem app_l {m t b : Nat} {L : List Int} {v : Int} {g1 g : List (Nat × Blk)} (hr : L.length ≤ 1000000000) (h1 : ∀ e, e ∈ (t, Blk.cells [AV.int .i64 v]) :: g1 → e.1 ≠ b) (h2 : ∀ e, e ∈ g → e.1 ≠ b) :
    appendA Tryz.prog ⟨m, [(t, .cells [.int .i64 v]) :: g1, lF b L ++ g]⟩ 3 (lA b L) (.slc t 0 1 (.ex 1)) = some (.slc m 0 (L.length + 1) (.rest 1), ⟨m + 1, [(m, .cells (ints (L ++ [v]))) :: (t, .cells [.int .i64 v]) :: g1, g]⟩) := by
  have miss : ∀ (l : List (Nat × Blk)), (∀ e, e ∈ l → e.1 ≠ b) → getF b l = none := by
    intro l
    induction l with
    | nil => intro _; rfl
    | cons x r ih =>
      intro h
      unfold getF
      rw [beqN_ne (h x (by simp))]
      exact ih fun e he => h e (by simp [he])
  have hm1 := miss _ h1
  have hg := miss _ h2
  have hdrop : Heap.drop ⟨m, [(t, .cells [.int .i64 v]) :: g1, lF b L ++ g]⟩ b = ⟨m, [(t, .cells [.int .i64 v]) :: g1, g]⟩ := by
    simp only [Heap.drop, killFs, hm1]
    cases L with
    | nil => simp [lF, ownF, hg]
    | cons x r => simp [lF, ownF, ints, getF, killF]
  have h := own_append (P := Tryz.prog) (H := ⟨m, [(t, .cells [.int .i64 v]) :: g1, lF b L ++ g]⟩) (elem := 3) (b := b) (n := 0) (es := ints L) (cs := [.int .i64 v]) (x := .slc t 0 1 (.ex 1)) szT3 byT3 zeT3 rfl (by omega) (by omega) rfl
    (by simp [srcCells, readCells, Heap.get, getFs, getF, Blk.rd, subL, takeL]) rfl rfl (el_int L) (by simp; omega) (fun hne => by
      have hL : L ≠ [] := ne_ints hne
      simp only [Heap.get, getFs, hm1, lF_ne hL, flat_ints]
      simp [getF]) (fun he => by
      have hL : L = [] := by simpa [ints] using he
      subst hL
      rw [hdrop]; rfl) (by intro cs; rfl)
  have e : ints L ++ [.int .i64 v] = ints (L ++ [v]) := by simp [ints, aInt]
  rw [hdrop, flat_ints, e] at h
  simpa [lA, Heap.new, pushF] using h
theorem FitH.rows {n : Nat} {σ : List (Nat × Nat)} {H H' : Heap} (nd1 : (σ.map (·.1)).Nodup) (nd2 : (σ.map (·.2)).Nodup) (nd3 : (H'.ents.map (·.1)).Nodup) (lt : ∀ x, x ∈ σ → x.2 < H'.n) (idn : ∀ x, x ∈ σ → x.1 < n ∨ x.2 < n → x.1 = x.2) (num : n ≤ H'.n)
    (src : ∀ e, e ∈ H'.ents → ∃ b cs, (b, e.1) ∈ σ ∧ H.get b = some (.cells cs) ∧ e.2 = .cells cs ∧ pureL cs = true) : FitH n σ [] H H' where
  nd1 := by simpa using nd1
  nd2 := nd2
  nd3 := nd3
  lt := lt
  idn := fun x hx h => idn x hx (.inr h)
  num := num
  src := fun e he => by
    obtain ⟨b, cs, h1, h2, h3, h4⟩ := src e he
    exact ⟨b, _, h1, h2, by rw [h3]; exact fitL_pure h4⟩
  frz := fun x h => by cases h
def hW (L I O : List Int) : Heap := ⟨3, [lF 2 L ++ [(0, .cells (ints I)), (1, .cells (ints O))]]⟩
def hW' (L I O : List Int) : Heap := ⟨4, [lF 3 L ++ [(0, .cells (ints I)), (1, .cells (ints O))]]⟩
def hL (t : Tr) (L I O : List Int) : Heap := ⟨5, [[(4, .cells (ints L)), (3, .cells [aNodes t])], [(0, .cells (ints I)), (1, .cells (ints O))]]⟩
theorem fit_in {t : Tr} {L I O : List Int} {m a : Nat} {f : List (Nat × Blk)} (ha : getF a f = some (.cells (ints L))) (h3 : getF 3 f = some (.cells [aNodes t])) (h0 : getF 0 f = none) (h1 : getF 1 f = none) (ha4 : 3 < a) :
    FitH 3 [(a, 4), (3, 3), (0, 0), (1, 1)] [] ⟨m, [f, [(0, .cells (ints I)), (1, .cells (ints O))]]⟩ (hL t L I O) := by
  refine .rows (by simp; omega) (by simp) (by simp [hL, Heap.ents]) (by simp [hL]) (by simp; omega) (by simp [hL]) ?_
  intro e he
  simp [hL, Heap.ents] at he
  rcases he with rfl | rfl | rfl | rfl
  · exact ⟨a, _, by simp, by simp [Heap.get, getFs, ha], rfl, pure_ints _⟩
  · exact ⟨3, _, by simp, by simp [Heap.get, getFs, h3], rfl, by simp [pureL]⟩
  · exact ⟨0, _, by simp, by simp [Heap.get, getFs, h0, getF], rfl, pure_ints _⟩
  · exact ⟨1, _, by simp, by simp [Heap.get, getFs, h1, getF], rfl, pure_ints _⟩
theorem fit_out {t : Tr} {L I O : List Int} (hne : L ≠ []) : FitH 3 [(4, 3), (0, 0), (1, 1)] [] (hL t L I O) (hW' L I O) := by
  refine .rows (by simp) (by simp) (by simp [hW', lF_ne hne, Heap.ents]) (by simp [hW']) (by simp) (by simp [hW']) ?_
  intro e he
  simp [hW', lF_ne hne, Heap.ents] at he
  rcases he with rfl | rfl | rfl
  · exact ⟨4, _, by simp, by simp [hL, Heap.get, getFs, getF], rfl, pure_ints _⟩
  · exact ⟨0, _, by simp, by simp [hL, Heap.get, getFs, getF], rfl, pure_ints _⟩
  · exact ⟨1, _, by simp, by simp [hL, Heap.get, getFs, getF], rfl, pure_ints _⟩
theorem call_in {t : Tr} {f : FuncId} {C : Ctx} {n i : Nat} {L I O L' I' O' : List Int} {c c' : Int} (hne : L ≠ []) (hne' : L' ≠ [])
    (h : CallAt C f [aTree t, .int .i64 i, lA 2 L, .slc 0 0 n (.ex n), .slc 1 0 n (.ex n), .int .i64 c] (hW L I O) (.tup [lA 3 L', .int .i64 c']) (hW' L' I' O')) :
    CallAt C f [aTree t, .int .i64 i, .slc 4 0 L.length (.rest 1), .slc 0 0 n (.ex n), .slc 1 0 n (.ex n), .int .i64 c] (hL t L I O) (.tup [.slc 5 0 L'.length (.rest 1), .int .i64 c'])
      ⟨6, [[(5, .cells (ints L')), (3, .cells [aNodes t])], [(0, .cells (ints I')), (1, .cells (ints O'))]]⟩ := by
  have hf : FitH 0 [(4, 2), (0, 0), (1, 1)] [] (hL t L I O) (hW L I O) := by
    refine .rows (by simp) (by simp) (by simp [hW, lF_ne hne, Heap.ents]) (by simp [hW]) (by simp) (by simp [hW]) ?_
    intro e he
    simp [hW, lF_ne hne, Heap.ents] at he
    rcases he with rfl | rfl | rfl
    · exact ⟨4, _, by simp, by simp [hL, Heap.get, getFs, getF], rfl, pure_ints _⟩
    · exact ⟨0, _, by simp, by simp [hL, Heap.get, getFs, getF], rfl, pure_ints _⟩
    · exact ⟨1, _, by simp, by simp [hL, Heap.get, getFs, getF], rfl, pure_ints _⟩
  have := h.framed (H := hL t L I O) (H' := ⟨6, [[(5, .cells (ints L')), (3, .cells [aNodes t])], [(0, .cells (ints I')), (1, .cells (ints O'))]]⟩) (σ := [(4, 2), (0, 0), (1, 1)])
    (args := [aTree t, .int .i64 i, .slc 4 0 L.length (.rest 1), .slc 0 0 n (.ex n), .slc 1 0 n (.ex n), .int .i64 c]) hf ?_ ?_ (by simp [hW, hW'])
  · simpa [lA_ne hne', renV, renL, outN, lookR, hL, hW] using this
  · rw [lA_ne hne]
    simp [fitL, fitV, lookN, fitV_pure, pureV]
  · refine ⟨by simp [hL, hW, hW'], by simp [Heap.ents], ?_⟩
    intro e he
    have hI : renL (outN [(4, 2), (0, 0), (1, 1)] 5 3) (ints I') = ints I' := renL_pure _ (pure_ints _)
    have hO : renL (outN [(4, 2), (0, 0), (1, 1)] 5 3) (ints O') = ints O' := renL_pure _ (pure_ints _)
    have hL' : renL (outN [(4, 2), (0, 0), (1, 1)] 5 3) (ints L') = ints L' := renL_pure _ (pure_ints _)
    simp [Heap.ents] at he
    rcases he with rfl | rfl | rfl | rfl
    · exact .inl ⟨(3, .cells (ints L')), by simp [hW', lF_ne hne', Heap.ents], by simp [hL, hW, renB, hL']; simp [outN, lookR]⟩
    · exact .inr ⟨by simp [hL, Heap.ents], by simp⟩
    · exact .inl ⟨(0, .cells (ints I')), by simp [hW', lF_ne hne', Heap.ents], by simp [hL, hW, renB, hI]; simp [outN, lookR]⟩
    · exact .inl ⟨(1, .cells (ints O')), by simp [hW', lF_ne hne', Heap.ents], by simp [hL, hW, renB, hO]; simp [outN, lookR]⟩
theorem get1 {L : List Int} {i : Nat} (h : i < L.length) : getL (ints L) i = some (.int .i64 L[i]) := by simp [ints, getL_map h, aInt]
theorem ixI {b n i : Nat} {cap : Cap} (h : i < n) : indexAddrA Tryz.prog 46 (.slc b 0 n cap) (.int .i64 (i : Int)) = some (.ptr b i) := by
  simp [indexAddrA, idx_nat h]
theorem vis_ne {n : Nat} {ks : Nat → List Int} : ∀ (f i : Nat) (w : Wk), w.l ≠ [] → (vis n ks f i w).l ≠ []
  | 0, _, w, h => h
  | f + 1, i, w, h => by
    have hk : ∀ (r : List Int) (w : Wk), w.l ≠ [] → (kl n (vis n ks f) r w).l ≠ [] := by
      intro r
      induction r with
      | nil => intro w h; exact h
      | cons k r ih =>
        intro w h
        unfold kl
        split
        · exact ih _ (vis_ne f _ _ h)
        · exact ih _ h
    exact hk (ks i) (into i w) (by simp [into])
theorem c71 {T : List (Entry Tryz.prog)} (t : Tr) {K : Nat} (hK : K ≤ 1000) (hkd : ∀ x, x ∈ t → x.kids.length ≤ 1000) : ∀ (f i : Nat) (w : Wk), Low t.length K 0 w → i < t.length → w.inn.getD i 0 < 0 → negs w.inn ≤ f →
    CallAt (ctx T) 71 [aTree t, .int .i64 i, lA 2 w.l, .slc 0 0 t.length (.ex t.length), .slc 1 0 t.length (.ex t.length), .int .i64 w.c] (hW w.l w.inn w.out)
      (.tup [lA 3 (vis t.length (kidsOf t) f i w).l, .int .i64 (vis t.length (kidsOf t) f i w).c]) (hW' (vis t.length (kidsOf t) f i w).l (vis t.length (kidsOf t) f i w).inn (vis t.length (kidsOf t) f i w).out)
  | 0, i, w, h, hi, hn, hf => by
    have e := negs_set (I := w.inn) (by rw [h.1.li]; exact hi) hn h.1.c0
    omega
  | f + 1, i, w, h, hi, hn, hf => by
    obtain ⟨g1, g2, g3⟩ := h.1.into hi hn
    have hlow : Low t.length K 0 (into i w) := ⟨g1, by omega⟩
    have hc := h.1.c0
    have hcb := h.1.cb
    have hlb := h.1.lb
    have hli := h.1.li
    have hlo := h.1.lo
    have hkl : (kidsOf t i).length ≤ 1000 := by rw [← kidsOf_at hi]; exact hkd _ (List.getElem_mem hi)
    have happ := app_l (m := 5) (t := 4) (b := 2) (L := w.l) (v := (i : Int)) (g1 := [(3, .cells [aNodes t])]) (g := [(0, .cells (ints w.inn)), (1, .cells (ints w.out))]) (by omega) (by simp) (by simp)
    unfold hW
    refine callAt_body (fn := Tryz.f71) (s0 := ⟨[0, 1, 2, 3, 4, 5, 6, 12, 13, 14, 15], [aTree t, .int .i64 i, lA 2 w.l, .slc 0 0 t.length (.ex t.length), .slc 1 0 t.length (.ex t.length), .int .i64 w.c, .undef, .undef, .undef, .undef, .undef], [], 79, ⟨3, [] :: [lF 2 w.l ++ [(0, .cells (ints w.inn)), (1, .cells (ints w.out))]]⟩⟩) Tryz.func71 rfl rfl rfl ?_
    repeat refine wps_seq ?_
    refine wps_region callOK ?_
    simp [zS, aTree]
    repeat refine wps_seq ?_
    refine wps_region callOK ?_
    simp [zS, happ]
    have hst := lay1 (L := w.inn) (i := i) (v := w.c) (by omega)
    repeat refine wps_seq ?_
    refine wps_region callOK ?_
    simp [zS, ixI hi, hst]
    repeat refine wps_seq ?_
    refine wps_region callOK ?_
    simp [zS, wr_small (show -1000000000000 ≤ w.c + 1 by omega) (show w.c + 1 ≤ 1000000000000 by omega)]
    repeat refine wps_seq ?_
    refine wps_region callOK ?_
    simp [zS]
    obtain ⟨w2, hw2⟩ : ∃ w2, w2 = kl t.length (vis t.length (kidsOf t) f) (kidsOf t i) (into i w) := ⟨_, rfl⟩
    have hvis : vis t.length (kidsOf t) (f + 1) i w = outof i w2 := by rw [hw2]; rfl
    rw [hvis]
    have hb0 : 0 ≤ (0 : Int) := Int.le_refl 0
    repeat refine wps_seq ?_
    refine wps_block (wps_loop' (fun x : Nat × Wk => (⟨[0, 1, 2, 3, 4, 5, 6, 12, 13, 14, 15], [aTree t, .int .i64 i, .slc 4 0 x.2.l.length (.rest 1), .slc 0 0 t.length (.ex t.length), .slc 1 0 t.length (.ex t.length), .int .i64 x.2.c, .ptr 3 0, .undef, .undef, .int .i64 x.1, .undef], [], 79, hL t x.2.l x.2.inn x.2.out⟩ : St))
      (fun x => x.1 ≤ (kidsOf t i).length ∧ x.2.l ≠ [] ∧ Low t.length K 1 x.2 ∧ negs x.2.inn ≤ f ∧ kl t.length (vis t.length (kidsOf t) f) ((kidsOf t i).drop x.1) x.2 = w2) (fun x => (kidsOf t i).length - x.1) [(5, 4), (3, 3), (0, 0), (1, 1)] [] (0, into i w)
      ⟨Nat.zero_le _, by simp [into], ⟨g1, g3⟩, by show negs (into i w).inn ≤ f; omega, hw2.symm⟩
      ⟨rfl, rfl, rfl, by simp [fitL, fitV, lookN, pureV, into, aTree, pureL], fit_in (t := t) (L := w.l ++ [(i : Int)]) (I := w.inn.set i w.c) (O := w.out) (m := 6) (a := 5) (f := [(5, .cells (ints (w.l ++ [(i : Int)]))), (4, .cells [.int .i64 i]), (3, .cells [aNodes t])]) rfl rfl rfl rfl (by omega)⟩ ?_)
    rintro ⟨j, x⟩ ⟨hj, hne, hx, hfx, hk⟩ B hB
    simp only at hj hne hx hfx hk
    have xli := hx.1.li
    have xlo := hx.1.lo
    have xc0 := hx.1.c0
    have xcb := hx.2
    have hget : ∀ m, (hm : m < t.length) → x.inn[m]'(by omega) = x.inn.getD m 0 := fun m hm => by rw [List.getD_eq_getElem?_getD, List.getElem?_eq_getElem (by omega), Option.getD_some]
    repeat refine wps_seq ?_
    refine wps_region callOK ?_
    simp [zS, hL, atN hi, lenI, kidsOf_at hi, Nd.cs]
    repeat refine wps_seq ?_
    refine wps_cond rfl (fun h => ?_) fun h => ?_
    · simp at h
      repeat refine wps_seq ?_
      refine wps_skip ?_
      simp
      repeat refine wps_seq ?_
      refine wps_block ?_
      obtain ⟨k, hkj⟩ : ∃ k, k = (kidsOf t i)[j] := ⟨_, rfl⟩
      have hdrop : (kidsOf t i).drop j = k :: (kidsOf t i).drop (j + 1) := by rw [List.drop_eq_getElem_cons h, hkj]
      rw [hdrop] at hk
      unfold kl at hk
      repeat refine wps_seq ?_
      refine wps_region callOK ?_
      simp [zS, hL, atN hi, kidsOf_at hi, Nd.cs, atI h, ← hkj]
      by_cases h0 : 0 ≤ k
      · obtain ⟨m, rfl⟩ := Int.eq_ofNat_of_zero_le h0
        by_cases h1 : m < t.length
        · have hgm := hget m h1
          by_cases h2 : x.inn.getD m 0 < 0
          · rw [if_pos ⟨h0, by omega, h2⟩] at hk
            have h2' : x.inn[m]'(by omega) < 0 := by rw [hgm]; exact h2
            repeat refine wps_seq ?_
            refine wps_region callOK ?_
            simp [zS, hL, h1, lenN, ixI h1, get1 (show m < x.inn.length by omega), h2']
            repeat refine wps_seq ?_
            refine wps_cond (t := true) rfl (fun _ => ?_) fun h => by cases h
            have hx0 : Low t.length K 0 x := ⟨hx.1, by have := hx.2; omega⟩
            have ih := c71 (T := T) t hK hkd f m x hx0 h1 h2 hfx
            obtain ⟨q1, q2⟩ := vis_ok (ks := kidsOf t) f 1 m x (by omega) hx h1 h2 hfx
            have hkm : (Int.toNat (m : Int)) = m := by simp
            rw [hkm] at hk
            have hny := vis_ne (n := t.length) (ks := kidsOf t) f m x hne
            obtain ⟨y, hy⟩ : ∃ y, y = vis t.length (kidsOf t) f m x := ⟨_, rfl⟩
            rw [← hy] at ih q1 q2 hk hny
            have hcall := call_in hne hny ih
            repeat refine wps_seq ?_
            refine wps_region (callOKF [⟨71, _, _, _, _, hcall⟩]) ?_
            simp [zS, callF, hL, aTree]
            repeat refine wps_seq ?_
            refine wps_region callOK ?_
            simp [zS, add_one (show j ≤ 1000000000 by omega)]
            exact hB _ (j + 1, y) (by simp; omega) ⟨by simp; omega, hny, q1, by simp only; omega, hk⟩ ⟨[(5, 4), (3, 3), (0, 0), (1, 1)], [], rfl, rfl, rfl, by simp [fitL, fitV, lookN, pureV, aTree, pureL], fit_in (t := t) (L := y.l) (I := y.inn) (O := y.out) (m := 6) (a := 5) (f := [(5, .cells (ints y.l)), (3, .cells [aNodes t])]) rfl rfl rfl rfl (by omega)⟩
          · rw [if_neg (fun hx => h2 hx.2.2)] at hk
            have h2' : ¬ x.inn[m]'(by omega) < 0 := by rw [hgm]; exact h2
            repeat refine wps_seq ?_
            refine wps_region callOK ?_
            simp [zS, hL, h1, lenN, ixI h1, get1 (show m < x.inn.length by omega), h2']
            repeat refine wps_seq ?_
            refine wps_cond (t := false) rfl (fun h => by cases h) fun _ => ?_
            repeat refine wps_seq ?_
            refine wps_skip ?_
            simp
            repeat refine wps_seq ?_
            refine wps_region callOK ?_
            simp [zS, add_one (show j ≤ 1000000000 by omega)]
            exact hB _ (j + 1, x) (by simp; omega) ⟨by simp; omega, hne, hx, hfx, hk⟩ ⟨[(4, 4), (3, 3), (0, 0), (1, 1)], [], rfl, rfl, rfl, by simp [fitL, fitV, lookN, pureV, aTree, pureL], fit_in (t := t) (L := x.l) (I := x.inn) (O := x.out) (m := 5) (a := 4) (f := [(4, .cells (ints x.l)), (3, .cells [aNodes t])]) rfl rfl rfl rfl (by omega)⟩
        · rw [if_neg (fun hx => h1 (by omega))] at hk
          repeat refine wps_seq ?_
          refine wps_region callOK ?_
          simp [zS, hL, h1, lenN]
          repeat refine wps_seq ?_
          refine wps_cond (t := false) rfl (fun h => by cases h) fun _ => ?_
          repeat refine wps_seq ?_
          refine wps_skip ?_
          simp
          repeat refine wps_seq ?_
          refine wps_region callOK ?_
          simp [zS, add_one (show j ≤ 1000000000 by omega)]
          exact hB _ (j + 1, x) (by simp; omega) ⟨by simp; omega, hne, hx, hfx, hk⟩ ⟨[(4, 4), (3, 3), (0, 0), (1, 1)], [], rfl, rfl, rfl, by simp [fitL, fitV, lookN, pureV, aTree, pureL], fit_in (t := t) (L := x.l) (I := x.inn) (O := x.out) (m := 5) (a := 4) (f := [(4, .cells (ints x.l)), (3, .cells [aNodes t])]) rfl rfl rfl rfl (by omega)⟩
      · rw [if_neg (fun hx => h0 hx.1)] at hk
        repeat refine wps_seq ?_
        refine wps_region callOK ?_
        simp [zS, hL, h0]
        repeat refine wps_seq ?_
        refine wps_cond (t := false) rfl (fun h => by cases h) fun _ => ?_
        repeat refine wps_seq ?_
        refine wps_skip ?_
        simp
        repeat refine wps_seq ?_
        refine wps_region callOK ?_
        simp [zS, add_one (show j ≤ 1000000000 by omega)]
        exact hB _ (j + 1, x) (by simp; omega) ⟨by simp; omega, hne, hx, hfx, hk⟩ ⟨[(4, 4), (3, 3), (0, 0), (1, 1)], [], rfl, rfl, rfl, by simp [fitL, fitV, lookN, pureV, aTree, pureL], fit_in (t := t) (L := x.l) (I := x.inn) (O := x.out) (m := 5) (a := 4) (f := [(4, .cells (ints x.l)), (3, .cells [aNodes t])]) rfl rfl rfl rfl (by omega)⟩
    · simp at h
      repeat refine wps_seq ?_
      refine wps_exit ?_
      simp
      have hjl : j = (kidsOf t i).length := by omega
      rw [hjl, List.drop_length] at hk
      have hk2 : x = w2 := hk
      subst hk2
      have hst := lay1 (L := x.out) (i := i) (v := x.c) (by omega)
      repeat refine wps_seq ?_
      refine wps_region callOK ?_
      simp [zS, hL, ixI hi, hst]
      repeat refine wps_seq ?_
      refine wps_region callOK ?_
      simp [zS, wr_small (show -1000000000000 ≤ x.c + 1 by omega) (show x.c + 1 ≤ 1000000000000 by omega)]
      repeat refine wps_seq ?_
      refine wps_ret ?_
      simp [retVal, Tryz.f71, oneOr]
      refine ⟨[(4, 3), (0, 0), (1, 1)], [], ?_, fit_out (t := t) (L := x.l) (I := x.inn) (O := x.out.set i x.c) hne⟩
      simp [outof, lA_ne hne, fitV, fitL, lookN, pureV]
theorem repl_ints : ∀ (n : Nat), replL [.int .i64 0] n = ints (List.replicate n 0)
  | 0 => rfl
  | n + 1 => by simp only [replL, repl_ints n, List.replicate_succ, ints, List.map_cons]; rfl
theorem msInt {n : Nat} (h : n ≤ 1000000) : msB Tryz.prog 46 (.int .i64 (n : Int)) (.int .i64 (n : Int)) = some (fun b => .slc b 0 n (.ex n), .cells (ints (List.replicate n 0))) := by
  have h1 : idx (n : Int) 17592186044416 = some n := idx_nat (by omega)
  have h2 : idx (n : Int) (Nat.succ n) = some n := idx_nat (by omega)
  have h3 : roomOK n 8 = true := by simp [roomOK]; omega
  have hz : zeroOf Tryz.prog 3 = some (.int .i64 0) := zeT3
  have hs : sizeT Tryz.prog 3 = some 1 := szT3
  have hb : bytesT Tryz.prog 3 = some 8 := byT3
  simp only [msB, Tryz.underlying46, Option.bind_some, hs, hb, h1, h2, h3, hz]
  simp [AV.cells, repl_ints]
theorem fit_ints {σ : List (Nat × Nat)} {Φ : List (Nat × List AV)} {b n : Nat} {cap : Cap} {L : List Int} (h : lookC b Φ = some (ints L)) (hn : n = L.length) : fitV σ Φ (.slc b 0 n cap) (aInts L) := by
  subst hn
  simp only [aInts, fitV]
  refine .inl ⟨ints L, h, ?_, by simp, (el_int L).size⟩
  have := sub_pre (el_int L) (k := L.length) (by simp)
  rw [flat_ints, List.take_of_length_le (by simp)] at this
  exact this
theorem vis_ne1 {n : Nat} {ks : Nat → List Int} (f i : Nat) (w : Wk) : (vis n ks (f + 1) i w).l ≠ [] := by
  have hk : ∀ (r : List Int) (w : Wk), w.l ≠ [] → (kl n (vis n ks f) r w).l ≠ [] := by
    intro r
    induction r with
    | nil => intro w h; exact h
    | cons k r ih =>
      intro w h
      unfold kl
      split
      · exact ih _ (vis_ne f _ _ h)
      · exact ih _ h
  exact hk (ks i) (into i w) (by simp [into])
def hA (t : Tr) (I O : List Int) : Heap := ⟨3, [[(2, .cells (ints O)), (1, .cells (ints I)), (0, .cells [aNodes t])]]⟩
theorem fit_A {t : Tr} {I O : List Int} {m a b : Nat} {f : List (Nat × Blk)} (ha : getF a f = some (.cells (ints O))) (hb : getF b f = some (.cells (ints I))) (h0 : getF 0 f = some (.cells [aNodes t])) (hab : a ≠ b) (ha0 : a ≠ 0) (hb0 : b ≠ 0) :
    FitH 0 [(a, 2), (b, 1), (0, 0)] [] ⟨m, [f]⟩ (hA t I O) := by
  refine .rows (by simp [hab, ha0, hb0]) (by simp) (by simp [hA, Heap.ents]) (by simp [hA]) (by simp) (by simp [hA]) ?_
  intro e he
  simp [hA, Heap.ents] at he
  rcases he with rfl | rfl | rfl
  · exact ⟨a, _, by simp, by simp [Heap.get, getFs, ha], rfl, pure_ints _⟩
  · exact ⟨b, _, by simp, by simp [Heap.get, getFs, hb], rfl, pure_ints _⟩
  · exact ⟨0, _, by simp, by simp [Heap.get, getFs, h0], rfl, by simp [pureL]⟩
theorem call_all {t : Tr} {f : FuncId} {C : Ctx} {n : Nat} {I O L' I' O' : List Int} {c c' : Int} (hne' : L' ≠ [])
    (h : CallAt C f [aTree t, .int .i64 0, lA 2 [], .slc 0 0 n (.ex n), .slc 1 0 n (.ex n), .int .i64 c] (hW [] I O) (.tup [lA 3 L', .int .i64 c']) (hW' L' I' O')) :
    CallAt C f [aTree t, .int .i64 0, .nilS, .slc 1 0 n (.ex n), .slc 2 0 n (.ex n), .int .i64 c] (hA t I O) (.tup [.slc 3 0 L'.length (.rest 1), .int .i64 c'])
      ⟨4, [[(3, .cells (ints L')), (2, .cells (ints O')), (1, .cells (ints I')), (0, .cells [aNodes t])]]⟩ := by
  have hf : FitH 0 [(1, 0), (2, 1)] [] (hA t I O) (hW [] I O) := by
    refine .rows (by simp) (by simp) (by simp [hW, lF, ownF, Heap.ents]) (by simp [hW]) (by simp) (by simp [hW]) ?_
    intro e he
    simp [hW, lF, ownF, Heap.ents] at he
    rcases he with rfl | rfl
    · exact ⟨1, _, by simp, by simp [hA, Heap.get, getFs, getF], rfl, pure_ints _⟩
    · exact ⟨2, _, by simp, by simp [hA, Heap.get, getFs, getF], rfl, pure_ints _⟩
  have := h.framed (H := hA t I O) (H' := ⟨4, [[(3, .cells (ints L')), (2, .cells (ints O')), (1, .cells (ints I')), (0, .cells [aNodes t])]]⟩) (σ := [(1, 0), (2, 1)])
    (args := [aTree t, .int .i64 0, .nilS, .slc 1 0 n (.ex n), .slc 2 0 n (.ex n), .int .i64 c]) hf ?_ ?_ (by simp [hW, hW'])
  · simpa [lA_ne hne', renV, renL, outN, lookR, hA, hW] using this
  · simp [lA, ownV, fitL, fitV, lookN, fitV_pure, pureV]
  · refine ⟨by simp [hA, hW, hW'], by simp [Heap.ents], ?_⟩
    intro e he
    have hI : renL (outN [(1, 0), (2, 1)] 3 3) (ints I') = ints I' := renL_pure _ (pure_ints _)
    have hO : renL (outN [(1, 0), (2, 1)] 3 3) (ints O') = ints O' := renL_pure _ (pure_ints _)
    have hL' : renL (outN [(1, 0), (2, 1)] 3 3) (ints L') = ints L' := renL_pure _ (pure_ints _)
    simp [Heap.ents] at he
    rcases he with rfl | rfl | rfl | rfl
    · exact .inl ⟨(3, .cells (ints L')), by simp [hW', lF_ne hne', Heap.ents], by simp [hA, hW, renB, hL']; simp [outN, lookR]⟩
    · exact .inl ⟨(1, .cells (ints O')), by simp [hW', lF_ne hne', Heap.ents], by simp [hA, hW, renB, hO]; simp [outN, lookR]⟩
    · exact .inl ⟨(0, .cells (ints I')), by simp [hW', lF_ne hne', Heap.ents], by simp [hA, hW, renB, hI]; simp [outN, lookR]⟩
    · exact .inr ⟨by simp [hA, Heap.ents], by simp⟩
def finW (n : Nat) (ks : Nat → List Int) : Wk := if n = 0 then w0 0 else vis n ks n 0 (w0 n)
theorem c49 {T : List (Entry Tryz.prog)} (t : Tr) (hn : t.length ≤ 1000) (hkd : ∀ x, x ∈ t → x.kids.length ≤ 1000) :
    CallAt (ctx T) 49 [aTree t] ⟨0, []⟩ (.tup [aInts (orderOf t.length (kidsOf t)), aInts (finW t.length (kidsOf t)).inn, aInts (finW t.length (kidsOf t)).out]) ⟨0, []⟩ := by
  refine callAt_body (fn := Tryz.f49) (s0 := ⟨[0, 1, 2, 3, 4, 5, 6, 7, 8], [aTree t, .undef, .undef, .undef, .undef, .undef, .undef, .undef, .undef], [], 42, ⟨0, [[]]⟩⟩) Tryz.func49 rfl rfl rfl ?_
  repeat refine wps_seq ?_
  refine wps_region callOK ?_
  simp [zS, aTree]
  repeat refine wps_seq ?_
  refine wps_drawn mixed callOK (by decide +kernel) fun B_ hB_ => ?_
  simp [zS, mkBlk, guardA, evalD, stepD, clsOf, reserve, freshenAll, sameRecs, sameAll, sameAt, allPend, Heap.lay, ontoF, wantedBy, unwantedBy, lenN, msInt (show t.length ≤ 1000000 by omega)]
  repeat refine wps_seq ?_
  refine wps_region callOK ?_
  simp [zS]
  repeat refine wps_seq ?_
  refine wps_block (wps_loop' (fun x : Nat × List Int × List Int => (⟨[0, 1, 2, 3, 4, 5, 6, 7, 8], [aTree t, .ptr 0 0, .undef, .undef, .undef, .slc 1 0 t.length (.ex t.length), .slc 2 0 t.length (.ex t.length), .int .i64 x.1, .undef], [], 42, hA t x.2.1 x.2.2⟩ : St))
    (fun x => x.1 ≤ t.length ∧ x.2.1.length = t.length ∧ x.2.2.length = t.length ∧ x.2.1.take x.1 = List.replicate x.1 (-1) ∧ x.2.2.take x.1 = List.replicate x.1 (-1)) (fun x => t.length - x.1) [(8, 2), (4, 1), (0, 0)] [] (0, List.replicate t.length 0, List.replicate t.length 0)
    ⟨Nat.zero_le _, by simp, by simp, by simp, by simp⟩
    ⟨rfl, rfl, rfl, by simp [fitL, fitV, lookN, pureV, aTree, pureL], fit_A (by simp [getF]) (by simp [getF]) (by simp [getF]) (by omega) (by omega) (by omega)⟩ ?_)
  rintro ⟨i, I, O⟩ ⟨hi, hI, hO, hti, hto⟩ B hB
  simp only at hi hI hO hti hto
  repeat refine wps_seq ?_
  refine wps_region callOK ?_
  simp [zS, hA, lenA]
  repeat refine wps_seq ?_
  refine wps_cond rfl (fun h => ?_) fun h => ?_
  · simp at h
    repeat refine wps_seq ?_
    refine wps_skip ?_
    simp
    repeat refine wps_seq ?_
    refine wps_block ?_
    have l1 := lay1 (L := I) (i := i) (v := -1) (by omega)
    have l2 := lay1 (L := O) (i := i) (v := -1) (by omega)
    repeat refine wps_seq ?_
    refine wps_region callOK ?_
    simp [zS, ixI h, l1, l2]
    repeat refine wps_seq ?_
    refine wps_region callOK ?_
    simp [zS, add_one (show i ≤ 1000000000 by omega)]
    refine hB _ (i + 1, I.set i (-1), O.set i (-1)) (by simp; omega) ⟨by simp; omega, by simp [hI], by simp [hO], ?_, ?_⟩ ⟨[(2, 2), (1, 1), (0, 0)], [], rfl, rfl, rfl, by simp [fitL, fitV, lookN, pureV, aTree, pureL], fit_A (by simp [getF]) (by simp [getF]) (by simp [getF]) (by omega) (by omega) (by omega)⟩
    · simp only
      rw [List.take_succ_eq_append_getElem (by simp; omega), List.take_set_of_le (Nat.le_refl _), hti, List.replicate_succ']; simp
    · simp only
      rw [List.take_succ_eq_append_getElem (by simp; omega), List.take_set_of_le (Nat.le_refl _), hto, List.replicate_succ']; simp
  · simp at h
    have hin : i = t.length := by omega
    subst hin
    rw [List.take_of_length_le (by omega)] at hti hto
    subst hti hto
    repeat refine wps_seq ?_
    refine wps_exit ?_
    simp
    repeat refine wps_seq ?_
    refine wps_region callOK ?_
    simp [zS]
    by_cases hz : t.length = 0
    · have ht : t = [] := List.length_eq_zero_iff.1 hz
      subst ht
      repeat refine wps_seq ?_
      refine wps_region callOK ?_
      simp [zS, lenA]
      repeat refine wps_seq ?_
      refine wps_cond (t := false) rfl (fun h => by cases h) fun _ => ?_
      repeat refine wps_seq ?_
      refine wps_skip ?_
      simp
      repeat refine wps_seq ?_
      refine wps_region callOK ?_
      simp [zS]
      repeat refine wps_seq ?_
      refine wps_ret ?_
      simp [retVal, Tryz.f49, oneOr]
      exact ⟨[], [], by simp [fitV, fitL, aInts, orderOf, finW, w0], FitH.empty⟩
    · have hpos : 0 < t.length := by omega
      have hr : negs (w0 t.length).inn ≤ t.length := by simp [w0, negs_rep]
      have hw := c71 (T := T) t hn hkd t.length 0 (w0 t.length) (w0_ok _) (by omega) (by simp [w0, List.getD_eq_getElem?_getD, Nat.pos_of_ne_zero hz]) hr
      obtain ⟨m, hm⟩ : ∃ m, t.length = m + 1 := ⟨t.length - 1, by omega⟩
      have hny : (vis t.length (kidsOf t) t.length 0 (w0 t.length)).l ≠ [] := by
        have := vis_ne1 (n := t.length) (ks := kidsOf t) m 0 (w0 t.length)
        rw [← hm] at this; exact this
      have hvo : orderOf t.length (kidsOf t) = (vis t.length (kidsOf t) t.length 0 (w0 t.length)).l := by simp [orderOf, hz]
      have hfo : finW t.length (kidsOf t) = vis t.length (kidsOf t) t.length 0 (w0 t.length) := by simp [finW, hz]
      obtain ⟨y1, y2⟩ := vis_ok (ks := kidsOf t) t.length 0 0 (w0 t.length) (by omega) (w0_ok _) (by omega) (by simp [w0, List.getD_eq_getElem?_getD, Nat.pos_of_ne_zero hz]) hr
      rw [hvo, hfo]
      obtain ⟨y, hy⟩ : ∃ y, y = vis t.length (kidsOf t) t.length 0 (w0 t.length) := ⟨_, rfl⟩
      rw [← hy] at hw hny y1 ⊢
      have hcall := call_all (t := t) hny hw
      simp only [w0] at hcall
      repeat refine wps_seq ?_
      refine wps_region callOK ?_
      simp [zS, lenA, hpos]
      repeat refine wps_seq ?_
      refine wps_cond (t := true) rfl (fun _ => ?_) fun h => by cases h
      repeat refine wps_seq ?_
      refine wps_region (callOKF [⟨71, _, _, _, _, hcall⟩]) ?_
      simp [zS, callF, hA, aTree]
      repeat refine wps_seq ?_
      refine wps_region callOK ?_
      simp [zS]
      repeat refine wps_seq ?_
      refine wps_ret ?_
      simp [retVal, Tryz.f49, oneOr]
      refine ⟨[], [(3, ints y.l), (1, ints y.inn), (2, ints y.out)], ?_, .froze (by simp) fun x hx => ?_⟩
      · simp only [fitV, fitL]
        exact .inl ⟨fit_ints (σ := []) (cap := .rest 1) (by simp [lookC]) rfl, fit_ints (σ := []) (cap := .ex t.length) (by simp [lookC]) y1.1.li.symm, fit_ints (σ := []) (cap := .ex t.length) (by simp [lookC]) y1.1.lo.symm, trivial⟩
      · simp at hx
        rcases hx with rfl | rfl | rfl
        · exact ⟨_, by simp [Heap.get, getFs, getF], fitL_pure (pure_ints _), pure_ints _⟩
        · exact ⟨_, by simp [Heap.get, getFs, getF], fitL_pure (pure_ints _), pure_ints _⟩
        · exact ⟨_, by simp [Heap.get, getFs, getF], fitL_pure (pure_ints _), pure_ints _⟩
def okTr (t : Tr) : Prop := t.length ≤ 1000 ∧ ∀ x, x ∈ t → x.kids.length ≤ 1000 ∧ x.attrs.length ≤ 1000
noncomputable def e49 : Entry Tryz.prog := mkE 49 [[]] (fun t : Tr => [aTree t]) okTr (fun t => .tup [aInts (orderOf t.length (kidsOf t)), aInts (finW t.length (kidsOf t)).inn, aInts (finW t.length (kidsOf t)).out]) fun t ht => c49 (T := []) t ht.1 fun x hx => (ht.2 x hx).1
@[simp] theorem ok_aTree (t : Tr) : okV (aTree t) = true := by simp [aTree, aNodes, okV, pureV, pureL]
theorem th_aTree (H : Heap) (t : Tr) : thawA H [] (aTree t) = some (aTree t) := thawA_ok (by simp)
theorem injT (x y : Tr) (h : [aTree x] = [aTree y]) : x = y := by simp at h; exact inj_aTree h
theorem k49 {T : List (Entry Tryz.prog)} (hT : findE 49 T = some e49.g) {t : Tr} (ht : okTr t) (H : Heap) : callL (ctx T) (.fn 49) [aTree t] H = some (.tup [aInts (orderOf t.length (kidsOf t)), aInts (finW t.length (kidsOf t)).inn, aInts (finW t.length (kidsOf t)).out], H) :=
  mkE_pure hT injT t ht (by simp [pureL]) (by simp [thawL, th_aTree]) H
theorem c21 {T : List (Entry Tryz.prog)} (hA : findE 49 T = some e49.g) (t : Tr) (ht : okTr t) : CallAt (ctx T) 21 [aTree t] ⟨0, []⟩ (aInts (orderOf t.length (kidsOf t))) ⟨0, []⟩ := by
  have hk := fun H => k49 hA ht H
  simp only [aTree] at hk
  refine callAt_body (fn := Tryz.f21) (s0 := ⟨[0, 1, 2, 3], [aTree t, .undef, .undef, .undef], [], 13, ⟨0, [[]]⟩⟩) Tryz.func21 rfl rfl rfl ?_
  (repeat (first
    | (refine wps_seq ?_)
    | (refine wps_block ?_)
    | (refine wps_label ?_; simp only [thenQ, blockQ])
    | ((refine wps_region callOK ?_); simp [zS, aTree, hk])
    | (refine wps_cond (t := true) rfl (fun _ => ?_) (fun h => by cases h))
    | (refine wps_cond (t := false) rfl (fun h => by cases h) (fun _ => ?_))
    | ((refine wps_skip ?_); simp only [thenQ, blockQ])
    | ((refine wps_exit ?_); simp [thenQ, blockQ])))
  repeat refine wps_seq ?_
  refine wps_ret ?_
  simp [retVal, Tryz.f21, oneOr, thenQ, blockQ]
  exact ⟨[], [], FitH.empty⟩
noncomputable def e21 : Entry Tryz.prog := mkE 21 [[]] (fun t : Tr => [aTree t]) okTr (fun t => aInts (orderOf t.length (kidsOf t))) fun t ht => c21 (T := [e49]) rfl t ht
theorem k21 {T : List (Entry Tryz.prog)} (hT : findE 21 T = some e21.g) {t : Tr} (ht : okTr t) (H : Heap) : callL (ctx T) (.fn 21) [aTree t] H = some (aInts (orderOf t.length (kidsOf t)), H) :=
  mkE_pure hT injT t ht (by simp [pureL]) (by simp [thawL, th_aTree]) H
structure FactY (C : Ctx) where
  b : Nat
  args : List AV
  H : Heap
  v : AV
  H' : Heap
  ok : YieldAt C b args H v H'
open Classical in
def frs : List (Nat × Nat) → List AV
  | [] => []
  | p :: r => .int .i64 (p.1 : Int) :: .int .i64 (p.2 : Int) :: frs r
theorem pure_frs : ∀ (l : List (Nat × Nat)), pureL (frs l) = true
  | [] => rfl
  | p :: r => by simp only [frs, pureL, pureV, pure_frs r]; rfl
def bls (s : List Bool) : List AV := s.map AV.bool
theorem pure_bls (s : List Bool) : pureL (bls s) = true := by
  unfold bls
  induction s with
  | nil => rfl
  | cons x r ih => simp only [List.map_cons, pureL, pureV, ih]; rfl
def stepV (node up : Int) (c : Nat) (left : Bool) : AV := .agg [.int .i64 node, .int .i64 up, .float .f64 c, .bool left]
def hR (t : Tr) (LB : Blk) (m k : Nat) (f : List (Nat × Blk)) (L : List Int) : Heap := ⟨m, [f, [(k, .cells (ints L)), (2, LB), (1, .cells [.slc k 0 L.length (.rest 1)]), (0, .cells [aNodes t])]]⟩
def h0R (t : Tr) (LB : Blk) : Heap := ⟨3, [[], [(2, LB), (1, .cells [.nilS]), (0, .cells [aNodes t])]]⟩
def fR (P : List (Nat × Nat)) (s : List Bool) : List (Nat × Blk) := [(6, .cells (frs P)), (5, .cells (bls s))]
structure Rounds (T : List (Entry Tryz.prog)) (t : Tr) (LB : Blk) : Prop where
  fit : ∀ σ, lookN 0 σ = some 0 → lookN 1 σ = some 1 → fitB σ [] LB LB
  first : YieldAt (ctx T) 2 [stepV 0 (-1) 0 false] (h0R t LB) (.bool true) ⟨4, [[], [(3, .cells (ints [0])), (2, LB), (1, .cells [.slc 3 0 1 (.rest 1)]), (0, .cells [aNodes t])]]⟩
  leave : ∀ (m : Nat) (_ : m = 17) (P : List (Nat × Nat)) (s : List Bool) (L : List Int) (node up : Int) (c : Nat), L.length ≤ 1000000 → YieldAt (ctx T) 2 [stepV node up c true] (hR t LB m 4 (fR P s) L) (.bool true) (hR t LB m 4 (fR P s) L)
  enter : ∀ (m : Nat) (_ : m = 30) (P : List (Nat × Nat)) (s : List Bool) (L : List Int) (node up : Int) (c : Nat), L.length ≤ 1000000 → L ≠ [] → YieldAt (ctx T) 2 [stepV node up c false] (hR t LB m 4 (fR P s) L) (.bool true) (hR t LB (m + 1) m (fR P s) (L ++ [node]))
structure Ls where
  P : List (Nat × Nat)
  G : List (Nat × Nat)
  cap : Cap
  s : List Bool
  a : List Int
  c : Nat
def unseen (s : List Bool) : Nat := s.countP fun x => !x
def sm : List (Nat × Nat) → Nat
  | [] => 0
  | p :: r => (1001 - p.2) + sm r
def cap1 (x : Ls) : Prop := x.cap = .rest 2 ∨ (x.cap = .ex 1 ∧ x.P.length + x.G.length = 1)
structure Lok (t : Tr) (x : Ls) : Prop where
  cap : cap1 x
  s : x.s.length = t.length
  a : x.a ≠ []
  r : Reach t.length (kidsOf t) ([(0, 0)], (List.replicate t.length false).set 0 true, [0]) (x.P.reverse, x.s, x.a)
  p : ∀ e, e ∈ x.P → e.1 < t.length ∧ e.2 ≤ 1000
  pu : x.P.length + unseen x.s ≤ t.length
  au : x.a.length + unseen x.s ≤ t.length
  cu : x.c + 2 * unseen x.s + x.P.length ≤ 2 * t.length
def hP (n : Nat) (f0 : List (Nat × Blk)) (m : Int) (s : List Bool) (R : List AV) (top : List (Nat × Blk)) : Heap := ⟨n, [top ++ ((31, .cells [.int .i64 m, .int .i64 0]) :: ((6, .cells R) :: [(5, .cells (bls s))])), f0]⟩
theorem FitH.eqL {n : Nat} {σ : List (Nat × Nat)} {Φ : List (Nat × List AV)} {H1 H2 H' : Heap} (h : H1 = H2) (f : FitH n σ Φ H2 H') : FitH n σ Φ H1 H' := h ▸ f
theorem sub_one {q : Nat} (h : q ≤ 1000000000) : wr .i64 (((q + 1 : Nat) : Int) - 1) = some (q : Int) := by
  rw [wr_small (by omega) (by omega)]; simp
def fW (t : Tr) : AV := .func (.func 93) [] [.fptr [aNodes t] 0]
theorem pure_fW (t : Tr) : pureV (fW t) = true := by simp [fW, pureV, pureL]
def rgOf : Code → Option (Code × Code)
  | .rangeFunc _ _ a b => some (a, b)
  | .seq a b => match rgOf a with
    | some x => some x
    | none => rgOf b
  | .block _ b => rgOf b
  | _ => none
noncomputable def asL : Code := match Tryz.f58.body with
  | some c => match rgOf c with
    | some x => x.1
    | none => .skip
  | none => .skip
noncomputable def bdL : Code := match Tryz.f58.body with
  | some c => match rgOf c with
    | some x => x.2
    | none => .skip
  | none => .skip
noncomputable def LBs (st : LoopState) (t : Tr) : Blk := .loop st none [0, 1, 2, 3, 4, 6, 7] [aTree t, .ptr 0 0, .nilS, .ptr 1 0, .undef, fW t, .undef] [] 17 [7] asL bdL
theorem LB_fit (t : Tr) : ∀ σ, lookN 0 σ = some 0 → lookN 1 σ = some 1 → fitB σ [] (LBs .ready t) (LBs .ready t) := by
  intro σ h0 h1
  simp [LBs, fitB, fitL, fitV, h0, h1, fitV_pure, pure_fW]
@[simp] theorem alStep (H : Heap) : alV Tryz.prog H 128 = some (.ptr H.n 0, H.new (.cells [.int .i64 0, .int .i64 0, .float .f64 0, .bool false])) := rfl
theorem app_nil {v : Int} {cs : List AV} {r : List (List (Nat × Blk))} : appendA Tryz.prog ⟨5, [(4, .cells [.int .i64 v]), (3, .cells cs)] :: r⟩ 3 .nilS (.slc 4 0 1 (.ex 1)) = some (.slc 5 0 1 (.rest 1), ⟨6, [(5, .cells [.int .i64 v]), (4, .cells [.int .i64 v]), (3, .cells cs)] :: r⟩) := rfl
theorem app_in {L : List Int} {v : Int} {cs : List AV} {LB : Blk} {P : List (Nat × Nat)} {s : List Bool} {r : List (Nat × Blk)} (hne : L ≠ []) (hl : L.length ≤ 1000000) :
    appendA Tryz.prog ⟨32, [[(31, .cells [.int .i64 v]), (30, .cells cs)], [(6, .cells (frs P)), (5, .cells (bls s))], (4, .cells (ints L)) :: (2, LB) :: r]⟩ 3 (.slc 4 0 L.length (.rest 1)) (.slc 31 0 1 (.ex 1)) =
      some (.slc 32 0 (L.length + 1) (.rest 1), ⟨33, [[(32, .cells (ints (L ++ [v]))), (31, .cells [.int .i64 v]), (30, .cells cs)], [(6, .cells (frs P)), (5, .cells (bls s))], (2, LB) :: r]⟩) := by
  have h := own_append (P := Tryz.prog) (H := ⟨32, [[(31, .cells [.int .i64 v]), (30, .cells cs)], [(6, .cells (frs P)), (5, .cells (bls s))], (4, .cells (ints L)) :: (2, LB) :: r]⟩) (elem := 3) (b := 4) (n := 0) (es := ints L) (cs := [.int .i64 v]) (x := .slc 31 0 1 (.ex 1)) szT3 byT3 zeT3 rfl (by omega) (by omega) rfl
    (by simp [srcCells, readCells, Heap.get, getFs, getF, Blk.rd, subL, takeL]) rfl rfl (el_int L) (by simp; omega) (fun _ => by simp [Heap.get, getFs, getF]) (fun he => absurd he (ints_ne hne)) (by intro cs; rfl)
  have hd : Heap.drop ⟨32, [[(31, .cells [.int .i64 v]), (30, .cells cs)], [(6, .cells (frs P)), (5, .cells (bls s))], (4, .cells (ints L)) :: (2, LB) :: r]⟩ 4 = ⟨32, [[(31, .cells [.int .i64 v]), (30, .cells cs)], [(6, .cells (frs P)), (5, .cells (bls s))], (2, LB) :: r]⟩ := by simp [Heap.drop, killFs, getF, killF]
  have e : ints L ++ [.int .i64 v] = ints (L ++ [v]) := by simp [ints, aInt]
  rw [hd, flat_ints, e, ownV_ne (ints_ne hne)] at h
  simpa [Heap.new, pushF] using h
theorem refs_ints (L : List Int) : refsB (.cells (ints L)) = [] := by
  show (L.map aInt).flatMap (refs 4) = []
  induction L with
  | nil => rfl
  | cons x r ih => rw [List.map_cons, List.flatMap_cons, ih]; rfl
theorem fit_round {n k m : Nat} {t : Tr} {top f : List (Nat × Blk)} {L : List Int} {P : List (Nat × Nat)} {s : List Bool} (hk : n ≤ k) (hn : 7 ≤ n) (ht : ∀ b, b < 7 → getF b top = none) (htk : getF k top = none) :
    FitH n [(k, n), (6, 6), (5, 5), (2, 2), (1, 1), (0, 0)] [] ⟨m, [top, [(6, .cells (frs P)), (5, .cells (bls s))], [(k, .cells (ints L)), (2, LBs .ready t), (1, .cells [.slc k 0 L.length (.rest 1)]), (0, .cells [aNodes t])]]⟩ (hR t (LBs .ready t) (n + 1) n (fR P s) L) where
  nd1 := by simp; omega
  nd2 := by simp; omega
  nd3 := by simp [hR, fR, Heap.ents]; omega
  lt := by simp [hR]; omega
  idn := by simp <;> omega
  num := by simp [hR]
  src := by
    have e6 : Nat.beq k 6 = false := beqN_ne (by omega)
    have e5 : Nat.beq k 5 = false := beqN_ne (by omega)
    have e2 : Nat.beq k 2 = false := beqN_ne (by omega)
    have e1 : Nat.beq k 1 = false := beqN_ne (by omega)
    have e0 : Nat.beq k 0 = false := beqN_ne (by omega)
    have f6 : Nat.beq 6 k = false := beqN_ne (by omega)
    have f5 : Nat.beq 5 k = false := beqN_ne (by omega)
    have g0 : ¬ k = 0 := by omega
    have g1 : ¬ k = 1 := by omega
    intro e he
    simp [hR, fR, Heap.ents] at he
    rcases he with rfl | rfl | rfl | rfl | rfl | rfl
    · exact ⟨6, .cells (frs P), by simp, by simp [Heap.get, getFs, ht, getF], fitL_pure (pure_frs _)⟩
    · exact ⟨5, .cells (bls s), by simp, by simp [Heap.get, getFs, ht, getF], fitL_pure (pure_bls _)⟩
    · exact ⟨k, .cells (ints L), by simp, by simp [Heap.get, getFs, htk, getF, f6, f5], fitL_pure (pure_ints _)⟩
    · exact ⟨2, LBs .ready t, by simp, by simp [Heap.get, getFs, ht, getF, e2], LB_fit t _ (by simp [lookN, g0]) (by simp [lookN, g1])⟩
    · exact ⟨1, .cells [.slc k 0 L.length (.rest 1)], by simp, by simp [Heap.get, getFs, ht, getF, e1], by simp [fitB, fitL, fitV, lookN]⟩
    · exact ⟨0, .cells [aNodes t], by simp, by simp [Heap.get, getFs, ht, getF, e0], fitL_pure (by simp [pureL])⟩
  frz := fun x h => by cases h
theorem fit_first {t : Tr} {cs : List AV} : FitH 3 [(5, 3), (2, 2), (1, 1), (0, 0)] [] ⟨6, [[(4, .cells [.int .i64 0]), (3, .cells cs)], [], [(5, .cells (ints [0])), (2, LBs .ready t), (1, .cells [.slc 5 0 1 (.rest 1)]), (0, .cells [aNodes t])]]⟩
    ⟨4, [[], [(3, .cells (ints [0])), (2, LBs .ready t), (1, .cells [.slc 3 0 1 (.rest 1)]), (0, .cells [aNodes t])]]⟩ where
  nd1 := by simp
  nd2 := by simp
  nd3 := by simp [Heap.ents]
  lt := by simp
  idn := by simp
  num := by simp
  src := by
    intro e he
    simp only [Heap.ents, List.flatten_cons, List.flatten_nil, List.nil_append, List.append_nil, List.mem_cons, List.not_mem_nil, or_false] at he
    rcases he with rfl | rfl | rfl | rfl
    · exact ⟨5, .cells (ints [0]), by simp, rfl, fitL_pure (pure_ints _)⟩
    · exact ⟨2, LBs .ready t, by simp, rfl, LB_fit t _ (by simp [lookN]) (by simp [lookN])⟩
    · exact ⟨1, .cells [.slc 5 0 1 (.rest 1)], by simp, rfl, by simp [fitB, fitL, fitV, lookN]⟩
    · exact ⟨0, .cells [aNodes t], by simp, rfl, fitL_pure (by simp [pureL])⟩
  frz := fun x h => by cases h
theorem r_first {T : List (Entry Tryz.prog)} (t : Tr) : YieldAt (ctx T) 2 [stepV 0 (-1) 0 false] (h0R t (LBs .ready t)) (.bool true) ⟨4, [[], [(3, .cells (ints [0])), (2, LBs .ready t), (1, .cells [.slc 3 0 1 (.rest 1)]), (0, .cells [aNodes t])]]⟩ := by
  generalize hH' : (⟨4, [[], [(3, .cells (ints [0])), (2, LBs .ready t), (1, .cells [.slc 3 0 1 (.rest 1)]), (0, .cells [aNodes t])]]⟩ : Heap) = H'
  refine yieldAt_body (b := 2) (pend := none) (ks := [0, 1, 2, 3, 4, 6, 7]) (vs := [aTree t, .ptr 0 0, .nilS, .ptr 1 0, .undef, fW t, .undef]) (ts := []) (sz := 17) (ps := [7]) (assign := asL) (body := bdL) (s1 := ⟨[0, 1, 2, 3, 4, 6, 7], [aTree t, .ptr 0 0, .nilS, .ptr 1 0, .undef, fW t, stepV 0 (-1) 0 false], [], 17, ⟨3, [] :: (h0R t (LBs .ready t)).fs⟩⟩) rfl rfl fun l => ?_
  simp only [asL, rgOf, Tryz.f58, h0R, stepV]
  repeat refine wps_seq ?_
  refine wps_region callOK ?_
  simp [zS, LBs]
  refine ⟨_, _, _, _, _, _, _, _, ⟨rfl, rfl, rfl, rfl, rfl, rfl, rfl, rfl⟩, ?_⟩
  obtain ⟨LBb, hLBb⟩ : ∃ LBb, LBb = LBs .busy t := ⟨_, rfl⟩
  have hLBb' := hLBb
  unfold LBs at hLBb'
  rw [← hLBb']
  simp only [bdL, rgOf, Tryz.f58]
  repeat refine wps_seq ?_
  refine wps_block ?_
  repeat refine wps_seq ?_
  refine wps_region callOK ?_
  simp [zS]
  repeat refine wps_seq ?_
  refine wps_cond (t := true) rfl (fun _ => ?_) fun h => by cases h
  repeat refine wps_seq ?_
  refine wps_region callOK ?_
  simp [zS, app_nil, promote, reach, getF, refsB, refs, killF, ontoF, refsF]
  subst hH'
  exact ⟨_, _, _, _, _, _, _, _, _, hLBb', rfl, _, [], fit_first⟩
theorem fit_leave {t : Tr} {top : List (Nat × Blk)} {L : List Int} {P : List (Nat × Nat)} {s : List Bool} (ht : ∀ b, b < 7 → getF b top = none) :
    FitH 17 [(6, 6), (5, 5), (4, 4), (2, 2), (1, 1), (0, 0)] [] ⟨18, [top, [(6, .cells (frs P)), (5, .cells (bls s))], [(4, .cells (ints L)), (2, LBs .ready t), (1, .cells [.slc 4 0 L.length (.rest 1)]), (0, .cells [aNodes t])]]⟩ (hR t (LBs .ready t) 17 4 (fR P s) L) where
  nd1 := by simp
  nd2 := by simp
  nd3 := by simp [hR, fR, Heap.ents]
  lt := by simp [hR]
  idn := by simp
  num := by simp [hR]
  src := by
    intro e he
    simp [hR, fR, Heap.ents] at he
    rcases he with rfl | rfl | rfl | rfl | rfl | rfl
    · exact ⟨6, .cells (frs P), by simp, by simp [Heap.get, getFs, ht, getF], fitL_pure (pure_frs _)⟩
    · exact ⟨5, .cells (bls s), by simp, by simp [Heap.get, getFs, ht, getF], fitL_pure (pure_bls _)⟩
    · exact ⟨4, .cells (ints L), by simp, by simp [Heap.get, getFs, ht, getF], fitL_pure (pure_ints _)⟩
    · exact ⟨2, LBs .ready t, by simp, by simp [Heap.get, getFs, ht, getF], LB_fit t _ (by simp [lookN]) (by simp [lookN])⟩
    · exact ⟨1, .cells [.slc 4 0 L.length (.rest 1)], by simp, by simp [Heap.get, getFs, ht, getF], by simp [fitB, fitL, fitV, lookN]⟩
    · exact ⟨0, .cells [aNodes t], by simp, by simp [Heap.get, getFs, ht, getF], fitL_pure (by simp [pureL])⟩
  frz := fun x h => by cases h
theorem getF_one {b k : Nat} {x : Blk} (h : k ≠ b) : getF b [(k, x)] = none := by unfold getF; rw [beqN_ne h]; rfl
theorem r_leave {T : List (Entry Tryz.prog)} (t : Tr) (P : List (Nat × Nat)) (s : List Bool) (L : List Int) (node up : Int) (c : Nat) : YieldAt (ctx T) 2 [stepV node up c true] (hR t (LBs .ready t) 17 4 (fR P s) L) (.bool true) (hR t (LBs .ready t) 17 4 (fR P s) L) := by
  generalize hH' : (hR t (LBs .ready t) 17 4 (fR P s) L) = H'
  have hH := hH'
  simp only [hR, fR] at hH'
  rw [← hH']
  refine yieldAt_body (b := 2) (pend := none) (ks := [0, 1, 2, 3, 4, 6, 7]) (vs := [aTree t, .ptr 0 0, .nilS, .ptr 1 0, .undef, fW t, .undef]) (ts := []) (sz := 17) (ps := [7]) (assign := asL) (body := bdL) (s1 := ⟨[0, 1, 2, 3, 4, 6, 7], [aTree t, .ptr 0 0, .nilS, .ptr 1 0, .undef, fW t, stepV node up c true], [], 17, ⟨17, [] :: (hR t (LBs .ready t) 17 4 (fR P s) L).fs⟩⟩) rfl rfl fun l => ?_
  rw [hH']
  simp only [asL, rgOf, Tryz.f58, hR, fR, stepV]
  repeat refine wps_seq ?_
  refine wps_region callOK ?_
  simp [zS, LBs]
  refine ⟨_, _, _, _, _, _, _, _, ⟨rfl, rfl, rfl, rfl, rfl, rfl, rfl, rfl⟩, ?_⟩
  obtain ⟨LBb, hLBb⟩ : ∃ LBb, LBb = LBs .busy t := ⟨_, rfl⟩
  have hLBb' := hLBb
  unfold LBs at hLBb'
  rw [← hLBb']
  simp only [bdL, rgOf, Tryz.f58]
  repeat refine wps_seq ?_
  refine wps_block ?_
  repeat refine wps_seq ?_
  refine wps_region callOK ?_
  simp [zS]
  repeat refine wps_seq ?_
  refine wps_cond (t := false) rfl (fun h => by cases h) fun _ => ?_
  repeat refine wps_seq ?_
  refine wps_skip ?_
  simp [Heap.get, Heap.set, getFs, getF, setFs, setF]
  refine ⟨_, _, _, _, _, _, _, _, _, hLBb', rfl, ?_⟩
  subst hH
  exact ⟨_, [], fit_leave (t := t) (L := L) (P := P) (s := s) (top := [(17, .cells [.int .i64 node, .int .i64 up, .float .f64 c, .bool true])]) fun b hb => getF_one (by omega)⟩
theorem reach_one {n b : Nat} {k : Blk} {x : Nat × Blk} {f acc : List (Nat × Blk)} (h : getF b (x :: f) = some k) (hk : refsB k = []) : reach (Nat.succ (Nat.succ n)) [b] (x :: f) acc = ((b, k) :: acc, killF b (x :: f)) := by
  unfold reach
  simp only [h, hk, List.nil_append]
  unfold reach
  rfl
theorem reach_no {n b : Nat} {x : Nat × Blk} {f acc : List (Nat × Blk)} (h : getF b (x :: f) = none) : reach (Nat.succ (Nat.succ n)) [b] (x :: f) acc = (acc, x :: f) := by
  unfold reach
  simp only [h]
  unfold reach
  rfl
theorem prom_gen {b c : Nat} {k : Blk} {x y : Nat × Blk} {f1 f2 f3 : List (Nat × Blk)} {kb : Blk} (n1 : getF b (x :: f1) = none) (n2 : getF b (y :: f2) = none) (n3 : getF b f3 = some kb) (h1 : getF c (x :: f1) = some k) (hk : refsB k = []) (h2 : getF c (y :: f2) = none) :
    promote b [c] [] [x :: f1, y :: f2, f3] = [killF c (x :: f1), y :: f2, (c, k) :: f3] := by
  have r1 : reach 100000 [c] (x :: f1) [] = ([(c, k)], killF c (x :: f1)) := reach_one (n := 99998) h1 hk
  have r2 : reach 100000 [c] (y :: f2) [] = ([], y :: f2) := reach_no (n := 99998) h2
  have e1 : refsF [(c, k)] ++ [c] = [c] := by simp [refsF, hk]
  have e2 : refsF [] ++ [c] = [c] := rfl
  unfold promote
  rw [n1]
  simp only [r1, e1]
  unfold promote
  rw [n2]
  simp only [r2, e2]
  unfold promote
  rw [n3]
  rfl
theorem prom {A B C D X LB : Blk} {L : List Int} {r : List (Nat × Blk)} : promote 1 [32] [] [[(32, .cells (ints L)), (31, A), (30, B)], [(6, C), (5, D)], (2, LB) :: (1, X) :: r] = [[(31, A), (30, B)], [(6, C), (5, D)], (32, .cells (ints L)) :: (2, LB) :: (1, X) :: r] :=
  prom_gen (b := 1) (c := 32) (k := .cells (ints L)) (kb := X) rfl rfl rfl rfl (refs_ints L) rfl
theorem r_enter {T : List (Entry Tryz.prog)} (t : Tr) (P : List (Nat × Nat)) (s : List Bool) (L : List Int) (node up : Int) (c : Nat) (hl : L.length ≤ 1000000) (hne : L ≠ []) : YieldAt (ctx T) 2 [stepV node up c false] (hR t (LBs .ready t) 30 4 (fR P s) L) (.bool true) (hR t (LBs .ready t) 31 30 (fR P s) (L ++ [node])) := by
  generalize hH' : (hR t (LBs .ready t) 31 30 (fR P s) (L ++ [node])) = H'
  refine yieldAt_body (b := 2) (pend := none) (ks := [0, 1, 2, 3, 4, 6, 7]) (vs := [aTree t, .ptr 0 0, .nilS, .ptr 1 0, .undef, fW t, .undef]) (ts := []) (sz := 17) (ps := [7]) (assign := asL) (body := bdL) (s1 := ⟨[0, 1, 2, 3, 4, 6, 7], [aTree t, .ptr 0 0, .nilS, .ptr 1 0, .undef, fW t, stepV node up c false], [], 17, ⟨30, [] :: (hR t (LBs .ready t) 30 4 (fR P s) L).fs⟩⟩) rfl rfl fun l => ?_
  simp only [asL, rgOf, Tryz.f58, hR, fR, stepV]
  repeat refine wps_seq ?_
  refine wps_region callOK ?_
  simp [zS, LBs]
  refine ⟨_, _, _, _, _, _, _, _, ⟨rfl, rfl, rfl, rfl, rfl, rfl, rfl, rfl⟩, ?_⟩
  obtain ⟨LBb, hLBb⟩ : ∃ LBb, LBb = LBs .busy t := ⟨_, rfl⟩
  have hLBb' := hLBb
  unfold LBs at hLBb'
  rw [← hLBb']
  simp only [bdL, rgOf, Tryz.f58]
  repeat refine wps_seq ?_
  refine wps_block ?_
  repeat refine wps_seq ?_
  refine wps_region callOK ?_
  simp [zS]
  repeat refine wps_seq ?_
  refine wps_cond (t := true) rfl (fun _ => ?_) fun h => by cases h
  repeat refine wps_seq ?_
  refine wps_region callOK ?_
  simp [zS, app_in hne hl, prom, getF, refs]
  subst hH'
  refine ⟨_, _, _, _, _, _, _, _, _, hLBb', rfl, _, [], FitH.eqL (by simp [LBs, leaveA]) (fit_round (f := []) (n := 30) (k := 32) (m := 33) (t := t) (L := L ++ [node]) (P := P) (s := s) (top := [(31, .cells [.int .i64 node]), (30, .cells [.int .i64 node, .int .i64 up, .float .f64 c, .bool false])]) (by omega) (by omega) ?_ ?_)⟩
  · intro b hb; unfold getF; rw [beqN_ne (by omega)]; exact getF_one (by omega)
  · rfl
theorem rounds {T : List (Entry Tryz.prog)} (t : Tr) : Rounds T t (LBs .ready t) where
  fit := LB_fit t
  first := r_first t
  leave := fun m hm P s L node up c _ => by subst hm; exact r_leave t P s L node up c
  enter := fun m hm P s L node up c hl hne => by subst hm; exact r_enter t P s L node up c hl hne
theorem kl_inv {n : Nat} {g : Nat → Wk → Wk} {P : Wk → Prop} (hg : ∀ i w, i < n → w.inn.getD i 0 < 0 → P w → P (g i w)) : ∀ (ks : List Int) (w : Wk), P w → P (kl n g ks w)
  | [], w, h => h
  | k :: r, w, h => by
    unfold kl
    split
    · rename_i hk
      exact kl_inv hg r _ (hg k.toNat w (by omega) hk.2.2 h)
    · exact kl_inv hg r w h
theorem vis_inv {n : Nat} {ks : Nat → List Int} {P : Wk → Prop} (hin : ∀ i w, i < n → w.inn.getD i 0 < 0 → P w → P (into i w)) (hout : ∀ i w, P w → P (outof i w)) : ∀ (f i : Nat) (w : Wk), i < n → w.inn.getD i 0 < 0 → P w → P (vis n ks f i w)
  | 0, i, w, _, _, h => h
  | f + 1, i, w, hi, hn, h => by
    unfold vis
    exact hout _ _ (kl_inv (fun i w hi hn h => vis_inv hin hout f i w hi hn h) _ _ (hin i w hi hn h))
structure LOK (n : Nat) (w : Wk) : Prop where
  li : w.inn.length = n
  c0 : 0 ≤ w.c
  rng : ∀ x, x ∈ w.l → 0 ≤ x ∧ x < (n : Int) ∧ 0 ≤ w.inn.getD x.toNat (-1)
  nd : w.l.Nodup
theorem LOK.into {n i : Nat} {w : Wk} (h : LOK n w) (hi : i < n) (hn : w.inn.getD i 0 < 0) : LOK n (into i w) where
  li := by simp [Go.Proofs.YtlgdgolobnbefaaGreatDoor.into, h.li]
  c0 := by have := h.c0; simp only [Go.Proofs.YtlgdgolobnbefaaGreatDoor.into]; omega
  rng := fun x hx => by
    have hl := h.li
    have hc := h.c0
    simp only [Go.Proofs.YtlgdgolobnbefaaGreatDoor.into, List.mem_append, List.mem_singleton] at hx ⊢
    have hset : ∀ j, j < n → (w.inn.set i w.c).getD j (-1) = if i = j then w.c else w.inn.getD j (-1) := fun j hj => by
      simp only [List.getD_eq_getElem?_getD, List.getElem?_set]
      split <;> simp_all
    rcases hx with hx | rfl
    · obtain ⟨h1, h2, h3⟩ := h.rng x hx
      refine ⟨h1, h2, ?_⟩
      rw [hset _ (by omega)]
      split <;> omega
    · refine ⟨by omega, by omega, ?_⟩
      rw [hset _ (by omega)]
      simp [hc]
  nd := by
    simp only [Go.Proofs.YtlgdgolobnbefaaGreatDoor.into]
    refine List.nodup_append.2 ⟨h.nd, by simp, ?_⟩
    intro a ha b hb
    simp at hb
    subst hb
    rintro rfl
    have h3 := (h.rng _ ha).2.2
    have hl := h.li
    simp only [List.getD_eq_getElem?_getD, Int.toNat_natCast] at h3 hn
    rw [List.getElem?_eq_getElem (by omega)] at h3 hn
    simp at h3 hn
    omega
theorem LOK.out {n i : Nat} {w : Wk} (h : LOK n w) : LOK n (outof i w) := ⟨h.li, by have := h.c0; simp only [outof]; omega, h.rng, h.nd⟩
theorem order_lok {n : Nat} {ks : Nat → List Int} (hn : 0 < n) : LOK n (vis n ks n 0 (w0 n)) :=
  vis_inv (fun i w hi h1 h2 => h2.into hi h1) (fun i w h => h.out) n 0 (w0 n) hn (by simp [w0, List.getD_eq_getElem?_getD, hn]) ⟨by simp [w0], by simp [w0], by simp [w0], by simp [w0]⟩
theorem order_mem {n : Nat} {ks : Nat → List Int} {x : Int} (h : x ∈ orderOf n ks) : 0 ≤ x ∧ x < (n : Int) := by
  unfold orderOf at h
  split at h
  · simp at h
  · obtain ⟨h1, h2, _⟩ := (order_lok (n := n) (by omega)).rng x h
    exact ⟨h1, h2⟩
theorem order_len {n : Nat} {ks : Nat → List Int} : (orderOf n ks).length ≤ n := by
  unfold orderOf
  split
  · simp
  · rename_i hz
    have hr : negs (w0 n).inn ≤ n := by simp [w0, negs_rep]
    have := (vis_ok (n := n) (ks := ks) n 0 0 (w0 n) (by omega) (w0_ok _) (by omega) (by simp [w0, List.getD_eq_getElem?_getD, Nat.pos_of_ne_zero hz]) hr).1.1.lb
    omega
theorem FitH.own1 {k b m' : Nat} {τ : List (Nat × Nat)} {es : List AV} {sz : Nat} {H : Heap} {g : List (Nat × Blk)} (he : Elems sz es) (hb : es ≠ [] → H.get b = some (.cells (flatAV es)))
    (n1 : (((b, k) :: τ).map (·.1)).Nodup) (n2 : (((b, k) :: τ).map (·.2)).Nodup) (n3 : (k :: g.map (·.1)).Nodup) (lt : ∀ x, x ∈ (b, k) :: τ → x.2 < m')
    (src : ∀ e, e ∈ g → ∃ b cs, (b, e.1) ∈ τ ∧ H.get b = some (.cells cs) ∧ e.2 = .cells cs ∧ pureL cs = true) : FitH 0 ((b, k) :: τ) [] H ⟨m', [ownF k es ++ g]⟩ := by
  refine .rows n1 n2 ?_ lt (by simp) (Nat.zero_le _) ?_
  · cases es with
    | nil => rw [List.nodup_cons] at n3; simpa [ownF, Heap.ents] using n3.2
    | cons x r => simpa [ownF, Heap.ents] using n3
  · intro e h
    cases hes : es with
    | nil =>
      rw [hes] at h
      simp [ownF, Heap.ents] at h
      obtain ⟨b', cs, h1, h2⟩ := src e h
      exact ⟨b', cs, List.mem_cons_of_mem _ h1, h2⟩
    | cons x r =>
      rw [hes] at h
      simp only [ownF, Heap.ents, List.flatten_cons, List.flatten_nil, List.append_nil, List.cons_append, List.nil_append, List.mem_cons] at h
      rcases h with rfl | h
      · exact ⟨b, _, List.mem_cons_self, by rw [hb (by simp [hes]), hes], rfl, by rw [← hes]; exact he.pure⟩
      · obtain ⟨b', cs, h1, h2⟩ := src e h
        exact ⟨b', cs, List.mem_cons_of_mem _ h1, h2⟩
def nd0 : Nd := ⟨0, 0, [], [], [], 0, []⟩
def nodeAt (t : Tr) (i : Int) : Nd := t.getD i.toNat nd0
theorem nodeAt_get {t : Tr} {i : Nat} (h : i < t.length) : nodeAt t (i : Int) = t[i] := by
  simp [nodeAt, List.getD_eq_getElem?_getD, List.getElem?_eq_getElem h]
theorem nodeAt_mem {t : Tr} {i : Int} (h0 : 0 ≤ i) (h : i < (t.length : Int)) : nodeAt t i ∈ t := by
  obtain ⟨j, rfl⟩ : ∃ j : Nat, i = j := ⟨i.toNat, by omega⟩
  rw [nodeAt_get (by omega)]
  exact List.getElem_mem _
theorem atX {t : Tr} {i : Int} (h0 : 0 ≤ i) (h : i < (t.length : Int)) : indexAddrA Tryz.prog 30 (aNodes t) (.int .i64 i) = some (.fptr (nodeAt t i).cs 0) := by
  obtain ⟨j, rfl⟩ : ∃ j : Nat, i = j := ⟨i.toNat, by omega⟩
  rw [atN (by omega), nodeAt_get (by omega)]
@[simp] theorem sub_cs (n : Nd) : subL 0 7 n.cs = some n.cs := rfl
@[simp] theorem len_cs (n : Nd) : n.cs.length = 7 := rfl
@[simp] theorem sng_cs (n : Nd) : allSingle n.cs = true := rfl
@[simp] theorem lay_cs (n : Nd) (a b c d e f g : AV) : overL n.cs [a, b, c, d, e, f, g] = some n.cs := rfl
@[simp 5000] theorem ready_cs (H : Heap) (b : Nat) (n : Nd) : H.ready b n.cs = H := rfl
theorem injTI (x y : Tr × Int) (h : [aTree x.1, .int .i64 x.2] = [aTree y.1, .int .i64 y.2]) : x = y := by
  simp at h; exact Prod.ext (inj_aTree h.1) h.2
end Go.Proofs.YtlgdgolobnbefaaGreatDoor
