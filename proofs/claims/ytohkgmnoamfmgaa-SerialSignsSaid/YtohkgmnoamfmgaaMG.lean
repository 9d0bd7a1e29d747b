/- Whether text within an element is written as it is, by both codes. MADE by mkS13.py. No condition. -/
import Derived.Test.YtohkgmnoamfmgaaME
import Derived.Shelf.Strings.Search3
import Derived.Lib.IndexMore
import Derived.Test.YtohkgmnoamfmgaaProg
import Derived.Test.YtohkgmnoamfmgaaMF
import Derived.Lib.Builder
namespace Go.Proofs.Ytohkgmnoamfmgaa
set_option linter.unusedSimpArgs false
set_option linter.unusedVariables false
open Go Go.RowKit
set_option maxRecDepth 100000

/-- x stands in s at p, with blanks, or nothing, at both sides -/
structure WordAt (s x : Str) (p : Nat) : Prop where
  room : p + x.length ≤ s.length
  occ : (s.drop p).take x.length = x
  pre : ∀ c, 0 < p → s[p - 1]? = some c → sp c = true
  post : ∀ c, s[p + x.length]? = some c → sp c = true
structure WInv (s : Str) (i : Nat) (st : List Str × Str) : Prop where
  le : i ≤ s.length
  words : ∀ w, w ∈ st.1 → ∃ p, WordAt s w p
  len : st.2.length ≤ i
  cur : (s.take i).drop (i - st.2.length) = st.2
  pre : ∀ c, 0 < i - st.2.length → s[i - st.2.length - 1]? = some c → sp c = true
theorem winv {s : Str} : ∀ (i : Nat), i ≤ s.length → WInv s i (wst (s.take i))
  | 0, _ => by
    have e : wst (s.take 0) = ([], []) := by simp [wst]
    rw [e]
    exact ⟨Nat.zero_le _, fun w h => (by cases h), Nat.le_refl _, rfl, fun c h => absurd h (Nat.lt_irrefl 0)⟩
  | i + 1, hi => by
    have ih := winv (s := s) i (by omega)
    have hlt : i < s.length := by omega
    rw [wst_at hlt]
    generalize wst (s.take i) = st at ih
    obtain ⟨W, c⟩ := st
    have ihl := ih.len
    have ihc := ih.cur
    have ihp := ih.pre
    simp only at ihl ihc ihp
    unfold wstep
    by_cases hs : sp s[i] = true
    · rw [if_pos hs]
      refine ⟨hi, ?_, Nat.zero_le _, ?_, ?_⟩
      · intro w hw
        simp only at hw
        by_cases hc : c = []
        · rw [if_pos hc] at hw
          exact ih.words w hw
        · rw [if_neg hc] at hw
          rcases List.mem_append.1 hw with hw | hw
          · exact ih.words w hw
          · rw [List.mem_singleton] at hw
            subst hw
            refine ⟨i - w.length, by omega, ?_, fun d h1 h2 => ihp d h1 h2, fun d h => ?_⟩
            · rw [List.drop_take, show i - (i - w.length) = w.length by omega] at ihc
              exact ihc
            · rw [show i - w.length + w.length = i by omega, List.getElem?_eq_getElem hlt, Option.some.injEq] at h
              rw [← h]; exact hs
      · simp
      · intro d _ h
        simp only [List.length_nil, Nat.sub_zero, Nat.add_sub_cancel] at h
        rw [List.getElem?_eq_getElem hlt, Option.some.injEq] at h
        rw [← h]; exact hs
    · rw [if_neg hs]
      refine ⟨hi, ih.words, by simp; omega, ?_, ?_⟩
      · simp only [List.length_append, List.length_singleton]
        rw [show i + 1 - (c.length + 1) = i - c.length by omega, List.take_succ_eq_append_getElem hlt, List.drop_append_of_le_length (by simp; omega), ihc]
      · simp only [List.length_append, List.length_singleton]
        rw [show i + 1 - (c.length + 1) = i - c.length by omega]
        exact ihp
theorem word_at {s x : Str} (h : x ∈ wsplit s) : ∃ p, WordAt s x p := by
  have inv := winv (s := s) s.length (Nat.le_refl _)
  rw [List.take_of_length_le (Nat.le_refl _)] at inv
  unfold wsplit wfin at h
  generalize wst s = st at *
  obtain ⟨W, c⟩ := st
  have il := inv.len
  have ic := inv.cur
  have ip := inv.pre
  simp only at il ic ip h
  by_cases hc : c = []
  · rw [if_pos hc] at h
    exact inv.words x h
  · rw [if_neg hc] at h
    rcases List.mem_append.1 h with h | h
    · exact inv.words x h
    · rw [List.mem_singleton] at h
      subst h
      refine ⟨s.length - x.length, by omega, ?_, ip, fun d h => ?_⟩
      · rw [List.take_of_length_le (Nat.le_refl _)] at ic
        rw [ic, List.take_of_length_le (Nat.le_refl _)]
      · rw [show s.length - x.length + x.length = s.length by omega, List.getElem?_eq_none (Nat.le_refl _)] at h
        cases h
theorem word_ne {s x : Str} (h : x ∈ wsplit s) : x ≠ [] := by
  have key : ∀ (l : Str) (st : List Str × Str), (∀ w, w ∈ st.1 → w ≠ []) → ∀ w, w ∈ (l.foldl wstep st).1 → w ≠ [] := by
    intro l
    induction l with
    | nil => intro st h; exact h
    | cons c r ih =>
      intro st h
      rw [List.foldl_cons]
      refine ih _ ?_
      intro w hw
      unfold wstep at hw
      split at hw
      · simp only at hw
        split at hw
        · exact h w hw
        · rename_i hn
          rcases List.mem_append.1 hw with hw | hw
          · exact h w hw
          · rw [List.mem_singleton] at hw; rw [hw]; exact hn
      · exact h w hw
  unfold wsplit wfin at h
  split at h
  · exact key s ([], []) (fun w h => by cases h) x h
  · rename_i hn
    rcases List.mem_append.1 h with h | h
    · exact key s ([], []) (fun w h => by cases h) x h
    · rw [List.mem_singleton] at h; rw [h]; exact hn
end Go.Proofs.Ytohkgmnoamfmgaa
namespace Go.Proofs.Ytohkgmnoamfmgaa
set_option linter.unusedSimpArgs false
set_option linter.unusedVariables false
open Go Go.RowKit
set_option maxRecDepth 100000

def lays143_ren : Go.Shelf.Ren := ⟨fun | 143 => 30 | 219 => 52 | 217 => 65 | 225 => 66 | 224 => 67 | 267 => 68 | 266 => 74 | 314 => 75 | n => n, fun | 9 => 9 | 3 => 3 | 4 => 4 | 5 => 5 | 46 => 93 | 146 => 95 | 51 => 94 | n => n, fun | 1 => 0 | n => n⟩
theorem lays143 : Go.Proofs.Lays.n143 Try.prog lays143_ren where
  mixed := by kernel_rfl
  f143 := Try.func30.trans (congrArg some (by kernel_rfl))
  f217 := Try.func65.trans (congrArg some (by kernel_rfl))
  f219 := Try.func52.trans (congrArg some (by kernel_rfl))
  f224 := Try.func67.trans (congrArg some (by kernel_rfl))
  f225 := Try.func66.trans (congrArg some (by kernel_rfl))
  f266 := Try.func74.trans (congrArg some (by kernel_rfl))
  f267 := Try.func68.trans (congrArg some (by kernel_rfl))
  f314 := Try.func75.trans (congrArg some (by kernel_rfl))
  t3 := Try.underlying3
  a3 := Try.isAgg3
  z3 := Try.sizeOf3
  v3 := Try.zeroValue3
  t4 := Try.underlying4
  a4 := Try.isAgg4
  z4 := Try.sizeOf4
  v4 := Try.zeroValue4
  t5 := Try.underlying5
  a5 := Try.isAgg5
  z5 := Try.sizeOf5
  v5 := Try.zeroValue5
  t9 := Try.underlying9
  a9 := Try.isAgg9
  z9 := Try.sizeOf9
  v9 := Try.zeroValue9
  t46 := Try.underlying93
  a46 := Try.isAgg93
  z46 := Try.sizeOf93
  v46 := Try.zeroValue93
  t51 := Try.underlying94
  a51 := Try.isAgg94
  z51 := Try.sizeOf94
  v51 := Try.zeroValue94
  t146 := Try.underlying95
  a146 := Try.isAgg95
  z146 := Try.sizeOf95
  v146 := Try.zeroValue95
  g1 := by kernel_rfl
theorem index_at (s sub : ByteArray) (m : Int) (w : World) (hs : s.size < 4294967281) (hm : w.cell? ⟨0, 0, none⟩ = some (.int .i64 m)) :
    Calls Try.prog 30 #[.string s, .string sub] w fun e w' => e = .returned (.int .i64 (Lib.index s.data.toList sub.data.toList)) ∧ w' = w := Any.strings_Index lays143 s sub m w hs hm
theorem c30 {T : List (Entry Try.prog)} (s t : Str) (hl : s.length ≤ 1000000) : CallAt (ctx T) 30 [.str s, .str t] ⟨0, []⟩ (.int .i64 (Lib.index s t)) ⟨0, []⟩ := by
  intro ρ w xs sm hx
  match xs, hx with
  | [x, y], hx =>
    have h0 := hx.2 0 (by simp) (by simp)
    have h1 := hx.2 1 (by simp) (by simp)
    simp only [List.getElem_cons_zero, List.getElem_cons_succ] at h0 h1
    cases h0; cases h1
    obtain ⟨hB, m, hm⟩ := ρ.gl 0 (by simp [globs])
    have hc : w.cell? ⟨0, 0, none⟩ = some (.int .i64 m) := by rw [World.cell?, sm.below 0 hB]; exact hm
    have hrun : (callFunc 30 #[.string ⟨s.toArray⟩, .string ⟨t.toArray⟩]).run (ctx T).P w = .ok (.enter 30 #[.string ⟨s.toArray⟩, .string ⟨t.toArray⟩]) w := by
      have hf : (ctx T).P.funcs[30]? = some Try.f30 := Try.func30
      have hn : ¬ Try.f30.name = "runtime.NumGoroutine" := by decide +kernel
      simp [callFunc, hf, hn, Try.f30]
    refine .inr ⟨30, _, hrun, callsIn_wide.2 ((index_at ⟨s.toArray⟩ ⟨t.toArray⟩ m w ?_ hc).mono ?_)⟩
    · show s.toArray.size < _
      simp; omega
    · rintro e w' ⟨rfl, rfl⟩
      exact ⟨_, ρ, rfl, .int _ _, sm, Step.refl _ _ _⟩
noncomputable def e30 : Entry Try.prog := mkE 30 [[], []] (fun x : Str × Str => [.str x.1, .str x.2]) (fun x => x.1.length ≤ 1000000) (fun x => .int .i64 (Lib.index x.1 x.2)) fun x h => c30 (T := []) x.1 x.2 h
theorem k30 {T : List (Entry Try.prog)} (hT : findE 30 T = some e30.g) {s t : Str} (h1 : s.length ≤ 1000000) (H : Heap) : callL (ctx T) (.fn 30) [.str s, .str t] H = some (.int .i64 (Lib.index s t), H) :=
  mkE_scalar hT inj_str2 (s, t) h1 rfl (by simp)
theorem c79 {T : List (Entry Try.prog)} (c : UInt8) : CallAt (ctx T) 79 [.int .u8 c.toNat] ⟨0, []⟩ (.bool (sp c)) ⟨0, []⟩ := by
  refine callAt_body (fn := Try.f79) (s0 := ⟨[0, 2, 3, 4], [.int .u8 c.toNat, .undef, .undef, .undef], [], 10, ⟨0, [[]]⟩⟩) Try.func79 rfl rfl rfl ?_
  repeat refine wps_seq ?_
  refine wps_region callOK ?_
  simp [ofV, ofV1, mkC_P, writeVar, writeCells, readCells, allSingle, AV.single, getFs, getF, setFs, setF, Heap.get, Heap.set, Heap.new, Heap.kill, killF, pushF, Heap.ready, refs, sliceParts, fillA, replL]
  repeat refine wps_seq ?_
  refine wps_region callOK ?_
  simp [ofV, ofV1, mkC_P, writeVar, writeCells, readCells, allSingle, AV.single, getFs, getF, setFs, setF, Heap.get, Heap.set, Heap.new, Heap.kill, killF, pushF, Heap.ready, refs, sliceParts, fillA, replL]
  repeat refine wps_seq ?_
  refine wps_block ?_
  by_cases h1 : (c.toNat : Int) = 9
  · (repeat (first
      | (refine wps_seq ?_)
      | (refine wps_block ?_)
      | (refine wps_label ?_; simp only [thenQ, blockQ])
      | ((refine wps_region callOK ?_); simp [ofV, ofV1, mkC_P, writeVar, writeCells, readCells, allSingle, AV.single, getFs, getF, setFs, setF, Heap.get, Heap.set, Heap.new, Heap.kill, killF, pushF, Heap.ready, refs, sliceParts, fillA, replL, h1])
      | (refine wps_cond (t := true) rfl (fun _ => ?_) (fun h => by cases h))
      | (refine wps_cond (t := false) rfl (fun h => by cases h) (fun _ => ?_))
      | ((refine wps_skip ?_); simp only [thenQ, blockQ])
      | ((refine wps_exit ?_); simp [thenQ, blockQ])))
    repeat refine wps_seq ?_
    refine wps_ret ?_
    simp [retVal, Try.f79, oneOr, thenQ, blockQ]
    exact ends_pure rfl (by simp [sp, h1])
  by_cases h2 : (c.toNat : Int) = 10
  · (repeat (first
      | (refine wps_seq ?_)
      | (refine wps_block ?_)
      | (refine wps_label ?_; simp only [thenQ, blockQ])
      | ((refine wps_region callOK ?_); simp [ofV, ofV1, mkC_P, writeVar, writeCells, readCells, allSingle, AV.single, getFs, getF, setFs, setF, Heap.get, Heap.set, Heap.new, Heap.kill, killF, pushF, Heap.ready, refs, sliceParts, fillA, replL, h1, h2])
      | (refine wps_cond (t := true) rfl (fun _ => ?_) (fun h => by cases h))
      | (refine wps_cond (t := false) rfl (fun h => by cases h) (fun _ => ?_))
      | ((refine wps_skip ?_); simp only [thenQ, blockQ])
      | ((refine wps_exit ?_); simp [thenQ, blockQ])))
    repeat refine wps_seq ?_
    refine wps_ret ?_
    simp [retVal, Try.f79, oneOr, thenQ, blockQ]
    exact ends_pure rfl (by simp [sp, h2])
  by_cases h3 : (c.toNat : Int) = 12
  · (repeat (first
      | (refine wps_seq ?_)
      | (refine wps_block ?_)
      | (refine wps_label ?_; simp only [thenQ, blockQ])
      | ((refine wps_region callOK ?_); simp [ofV, ofV1, mkC_P, writeVar, writeCells, readCells, allSingle, AV.single, getFs, getF, setFs, setF, Heap.get, Heap.set, Heap.new, Heap.kill, killF, pushF, Heap.ready, refs, sliceParts, fillA, replL, h1, h2, h3])
      | (refine wps_cond (t := true) rfl (fun _ => ?_) (fun h => by cases h))
      | (refine wps_cond (t := false) rfl (fun h => by cases h) (fun _ => ?_))
      | ((refine wps_skip ?_); simp only [thenQ, blockQ])
      | ((refine wps_exit ?_); simp [thenQ, blockQ])))
    repeat refine wps_seq ?_
    refine wps_ret ?_
    simp [retVal, Try.f79, oneOr, thenQ, blockQ]
    exact ends_pure rfl (by simp [sp, h3])
  by_cases h4 : (c.toNat : Int) = 13
  · (repeat (first
      | (refine wps_seq ?_)
      | (refine wps_block ?_)
      | (refine wps_label ?_; simp only [thenQ, blockQ])
      | ((refine wps_region callOK ?_); simp [ofV, ofV1, mkC_P, writeVar, writeCells, readCells, allSingle, AV.single, getFs, getF, setFs, setF, Heap.get, Heap.set, Heap.new, Heap.kill, killF, pushF, Heap.ready, refs, sliceParts, fillA, replL, h1, h2, h3, h4])
      | (refine wps_cond (t := true) rfl (fun _ => ?_) (fun h => by cases h))
      | (refine wps_cond (t := false) rfl (fun h => by cases h) (fun _ => ?_))
      | ((refine wps_skip ?_); simp only [thenQ, blockQ])
      | ((refine wps_exit ?_); simp [thenQ, blockQ])))
    repeat refine wps_seq ?_
    refine wps_ret ?_
    simp [retVal, Try.f79, oneOr, thenQ, blockQ]
    exact ends_pure rfl (by simp [sp, h4])
  by_cases h5 : (c.toNat : Int) = 32
  · (repeat (first
      | (refine wps_seq ?_)
      | (refine wps_block ?_)
      | (refine wps_label ?_; simp only [thenQ, blockQ])
      | ((refine wps_region callOK ?_); simp [ofV, ofV1, mkC_P, writeVar, writeCells, readCells, allSingle, AV.single, getFs, getF, setFs, setF, Heap.get, Heap.set, Heap.new, Heap.kill, killF, pushF, Heap.ready, refs, sliceParts, fillA, replL, h1, h2, h3, h4, h5])
      | (refine wps_cond (t := true) rfl (fun _ => ?_) (fun h => by cases h))
      | (refine wps_cond (t := false) rfl (fun h => by cases h) (fun _ => ?_))
      | ((refine wps_skip ?_); simp only [thenQ, blockQ])
      | ((refine wps_exit ?_); simp [thenQ, blockQ])))
    repeat refine wps_seq ?_
    refine wps_ret ?_
    simp [retVal, Try.f79, oneOr, thenQ, blockQ]
    exact ends_pure rfl (by simp [sp, h5])
  · (repeat (first
      | (refine wps_seq ?_)
      | (refine wps_block ?_)
      | (refine wps_label ?_; simp only [thenQ, blockQ])
      | ((refine wps_region callOK ?_); simp [ofV, ofV1, mkC_P, writeVar, writeCells, readCells, allSingle, AV.single, getFs, getF, setFs, setF, Heap.get, Heap.set, Heap.new, Heap.kill, killF, pushF, Heap.ready, refs, sliceParts, fillA, replL, h1, h2, h3, h4, h5])
      | (refine wps_cond (t := true) rfl (fun _ => ?_) (fun h => by cases h))
      | (refine wps_cond (t := false) rfl (fun h => by cases h) (fun _ => ?_))
      | ((refine wps_skip ?_); simp only [thenQ, blockQ])
      | ((refine wps_exit ?_); simp [thenQ, blockQ])))
    repeat refine wps_seq ?_
    refine wps_ret ?_
    simp [retVal, Try.f79, oneOr, thenQ, blockQ]
    exact ends_pure rfl (by simp [sp, h1, h2, h3, h4, h5])
noncomputable def e79 : Entry Try.prog := mkE 79 [[]] (fun x : UInt8 => [.int .u8 x.toNat]) (fun _ => True) (fun x => .bool (sp x)) fun x _ => c79 (T := []) x
theorem k79 {T : List (Entry Try.prog)} (hT : findE 79 T = some e79.g) (c : UInt8) (H : Heap) : callL (ctx T) (.fn 79) [.int .u8 c.toNat] H = some (.bool (sp c), H) :=
  mkE_scalar hT inj_u8 c trivial rfl (by simp)
end Go.Proofs.Ytohkgmnoamfmgaa
namespace Go.Proofs.Ytohkgmnoamfmgaa
set_option linter.unusedSimpArgs false
set_option linter.unusedVariables false
open Go Go.RowKit
set_option maxRecDepth 100000

/-! ### Splitting, of texts that are written down -/
def strsB : List AV → List Str → Bool
  | [], l => match l with
    | [] => true
    | _ :: _ => false
  | v :: r, l => match v, l with
    | .str s, t :: q => match eqB s t with
      | true => strsB r q
      | false => false
    | _, _ => false
theorem strsB_eq : ∀ {cs : List AV} {L : List Str}, strsB cs L = true → cs = L.map AV.str
  | [], [], _ => rfl
  | [], _ :: _, h => by simp [strsB] at h
  | v :: r, L, h => by
    cases v <;> cases L <;> simp only [strsB] at h <;> first | (cases h; done) | skip
    rename_i s t q
    split at h
    · rename_i he
      rw [eqB_eq] at he
      simp only [decide_eq_true_eq] at he
      rw [he, strsB_eq h]; rfl
    · cases h
def splitOK (L : List Str) : Option (AV × Heap) → Bool
  | some (.slc b 0 len _, H) => match H.get b with
    | some (.cells cs) => match strsB cs L with
      | true => Nat.beq len L.length
      | false => false
    | _ => false
  | _ => false
theorem closedSplit {T : List (Entry Try.prog)} {f : FuncId} {args : List AV} {L : List Str} (h : splitOK L (callN (ctx T) 100000 (.fn f) args ⟨0, []⟩) = true) : CallAt (ctx T) f args ⟨0, []⟩ (aStrs L) ⟨0, []⟩ := by
  revert h
  cases hr : callN (ctx T) 100000 (.fn f) args ⟨0, []⟩ with
  | none => intro h; cases h
  | some r =>
    obtain ⟨v, H'⟩ := r
    intro h
    cases v <;> simp only [splitOK] at h <;> first | (cases h; done) | skip
    rename_i b o len cap
    cases o with
    | succ o => simp [splitOK] at h
    | zero =>
      simp only [splitOK] at h
      split at h
      · rename_i cs hg
        split at h
        · rename_i hs
          have hcs := strsB_eq hs
          have hlen := Nat.eq_of_beq_eq_true h
          refine ((call_ok mixed (mkC_ok _ _ _) 100000).fn f args ⟨0, []⟩ _ _ hr).freeze (Φ := [(b, cs)]) ?_ (.froze (by simp) fun x hx => ?_)
          · simp only [aStrs, fitV]
            refine .inl ⟨cs, by simp [lookC], ?_, by simp [hlen], (el_str L).size⟩
            have h1 := sub_pre (el_str L) (k := L.length) (by simp)
            rw [List.take_of_length_le (by simp)] at h1
            have h2 : flatAV (L.map AV.str) = cs := by
              rw [hcs]
              clear h1 hcs hs h hlen
              induction L with
              | nil => rfl
              | cons x r ih => simp only [List.map_cons, flatAV, ih]; rfl
            rw [h2] at h1 ⊢
            rw [hlen]; exact h1
          · simp only [List.mem_singleton] at hx
            subst hx
            have hp : pureL cs = true := by
              rw [hcs]
              clear hcs hs h hlen
              induction L with
              | nil => rfl
              | cons x r ih => simpa [pureL, pureV] using ih
            exact ⟨cs, hg, fitL_pure hp, hp⟩
        · cases h
      · cases h
theorem occ_iff {s x : Str} {i : Nat} : Lib.occAt s x i = true ↔ (s.drop i).take x.length = x := by
  unfold Lib.occAt
  rw [List.isPrefixOf_iff_prefix, List.prefix_iff_eq_take]
  exact eq_comm
theorem c72 {T : List (Entry Try.prog)} (hI : findE 30 T = some e30.g) (hS : findE 79 T = some e79.g) (W x : Str) (hl : W.length ≤ 100000) (hx1 : x.length ≤ 1000000000)
    (hsp : CallAt (ctx T) 81 [.str W] ⟨0, []⟩ (aStrs (wsplit W)) ⟨0, []⟩) (hco : CallAt (ctx T) 80 [aStrs (wsplit W), .str x] ⟨0, []⟩ (.bool (decide (x ∈ wsplit W))) ⟨0, []⟩) :
    CallAt (ctx T) 72 [.str W, .str x] ⟨0, []⟩ (.bool (inW W x)) ⟨0, []⟩ := by
  have h1 := hsp.lift (by simp [pureL, pureV]) ⟨0, [[]]⟩
  have h2 := hco.lift (by simp [aStrs, pureL, pureV]) ⟨0, [[]]⟩
  refine callAt_body (fn := Try.f72) (s0 := ⟨[0, 1, 4, 5, 6, 7, 8], [.str W, .str x, .undef, .undef, .undef, .undef, .undef], [], 52, ⟨0, [[]]⟩⟩) Try.func72 rfl rfl rfl ?_
  repeat refine wps_seq ?_
  refine wps_region callOK ?_
  simp [ofV, ofV1, mkC_P, writeVar, writeCells, readCells, allSingle, AV.single, getFs, getF, setFs, setF, Heap.get, Heap.set, Heap.new, Heap.kill, killF, pushF, Heap.ready, refs, sliceParts, fillA, replL]
  by_cases hx : x = []
  · repeat refine wps_seq ?_
    refine wps_region callOK ?_
    simp [ofV, ofV1, mkC_P, writeVar, writeCells, readCells, allSingle, AV.single, getFs, getF, setFs, setF, Heap.get, Heap.set, Heap.new, Heap.kill, killF, pushF, Heap.ready, refs, sliceParts, fillA, replL, hx]
    repeat refine wps_seq ?_
    refine wps_cond (t := true) rfl (fun _ => ?_) fun h => by cases h
    repeat refine wps_seq ?_
    refine wps_region callOK ?_
    simp [ofV, ofV1, mkC_P, writeVar, writeCells, readCells, allSingle, AV.single, getFs, getF, setFs, setF, Heap.get, Heap.set, Heap.new, Heap.kill, killF, pushF, Heap.ready, refs, sliceParts, fillA, replL]
    repeat refine wps_seq ?_
    refine wps_ret ?_
    simp [retVal, Try.f72, oneOr, thenQ, blockQ]
    exact ends_pure rfl (by simp only [inW]; symm; simp; intro h; exact word_ne h rfl)
  repeat refine wps_seq ?_
  refine wps_region callOK ?_
  simp [ofV, ofV1, mkC_P, writeVar, writeCells, readCells, allSingle, AV.single, getFs, getF, setFs, setF, Heap.get, Heap.set, Heap.new, Heap.kill, killF, pushF, Heap.ready, refs, sliceParts, fillA, replL, hx]
  repeat refine wps_seq ?_
  refine wps_cond (t := false) rfl (fun h => by cases h) fun _ => ?_
  repeat refine wps_seq ?_
  refine wps_skip ?_
  simp
  have hx0 : 0 < x.length := List.length_pos_iff.2 hx
  repeat refine wps_seq ?_
  refine wps_region callOK ?_
  simp [ofV, ofV1, mkC_P, writeVar, writeCells, readCells, allSingle, AV.single, getFs, getF, setFs, setF, Heap.get, Heap.set, Heap.new, Heap.kill, killF, pushF, Heap.ready, refs, sliceParts, fillA, replL]
  repeat refine wps_seq ?_
  refine wps_block (wps_loop' (fun i : Nat => (⟨[0, 1, 4, 5, 6, 7, 8], [.str W, .str x, .undef, .int .i64 i, .undef, .undef, .undef], [], 52, ⟨0, [[]]⟩⟩ : St))
    (fun i => i ≤ W.length ∧ (x ∈ wsplit W → ∃ p, i ≤ p ∧ WordAt W x p)) (fun i => W.length + 1 - i) [] [] 0 ⟨Nat.zero_le _, fun h => let ⟨p, hp⟩ := word_at h; ⟨p, Nat.zero_le _, hp⟩⟩ ⟨rfl, rfl, rfl, by simp [fitL, fitV, pureV, pureL], FitH.nothing⟩ ?_)
  rintro i ⟨hi, hw⟩ B hB
  have hd : (W.drop i).length ≤ 1000000 := by simp; omega
  repeat refine wps_seq ?_
  refine wps_block ?_
  rcases Lib.index_spec (W.drop i) x with ⟨h0, hn⟩ | ⟨k, h0, hk, ho, hno⟩
  · have hnot : ¬ x ∈ wsplit W := fun h => by
      obtain ⟨p, hp, hwa⟩ := hw h
      have hr := hwa.room
      have := hn (p - i) (by simp; omega)
      have h3 : Lib.occAt (W.drop i) x (p - i) = true := occ_iff.2 (by rw [List.drop_drop, show i + (p - i) = p by omega]; exact hwa.occ)
      rw [h3] at this
      cases this
    repeat refine wps_seq ?_
    refine wps_region callOK ?_
    simp [ofV, ofV1, mkC_P, writeVar, writeCells, readCells, allSingle, AV.single, getFs, getF, setFs, setF, Heap.get, Heap.set, Heap.new, Heap.kill, killF, pushF, Heap.ready, refs, sliceParts, fillA, replL, slStr hi, k30 hI hd, h0]
    repeat refine wps_seq ?_
    refine wps_region callOK ?_
    simp [ofV, ofV1, mkC_P, writeVar, writeCells, readCells, allSingle, AV.single, getFs, getF, setFs, setF, Heap.get, Heap.set, Heap.new, Heap.kill, killF, pushF, Heap.ready, refs, sliceParts, fillA, replL]
    repeat refine wps_seq ?_
    refine wps_cond (t := true) rfl (fun _ => ?_) fun h => by cases h
    repeat refine wps_seq ?_
    refine wps_region callOK ?_
    simp [ofV, ofV1, mkC_P, writeVar, writeCells, readCells, allSingle, AV.single, getFs, getF, setFs, setF, Heap.get, Heap.set, Heap.new, Heap.kill, killF, pushF, Heap.ready, refs, sliceParts, fillA, replL]
    repeat refine wps_seq ?_
    refine wps_ret ?_
    simp [retVal, Try.f72, oneOr, thenQ, blockQ]
    exact ends_pure rfl (by simp [inW, hnot])
  · have hk0 : ¬ (k : Int) < 0 := by omega
    obtain ⟨j, hj⟩ : ∃ j, j = i + k := ⟨_, rfl⟩
    have ho' := occ_iff.1 ho
    rw [List.drop_drop, ← hj] at ho'
    have hroom : j + x.length ≤ W.length := by
      have := congrArg List.length ho'
      simp at this
      simp at hk
      omega
    have a1 : wr .i64 ((i : Int) + (k : Int)) = some (j : Int) := by rw [wr_small (by omega) (by omega), hj]; simp
    obtain ⟨q, hq⟩ : ∃ q, q = j + x.length := ⟨_, rfl⟩
    have a2 : wr .i64 ((j : Int) + (x.length : Int)) = some (q : Int) := by rw [wr_small (by omega) (by omega), hq]; simp
    have nxt : ∀ s', ¬ WordAt W x j → (∃ σ Φ, Fit 0 σ Φ s' (⟨[0, 1, 4, 5, 6, 7, 8], [.str W, .str x, .undef, .int .i64 ((j + 1 : Nat) : Int), .undef, .undef, .undef], [], 52, ⟨0, [[]]⟩⟩ : St)) → B s' := fun s' hno2 hf =>
      hB s' (j + 1) (by omega) ⟨by omega, fun h => by
        obtain ⟨p, hp, hwa⟩ := hw h
        refine ⟨p, ?_, hwa⟩
        have hr := hwa.room
        apply Decidable.byContradiction
        intro hlt
        rcases Nat.lt_or_ge p j with hpj | hpj
        · have h3 := hno (p - i) (by omega)
          have h4 : Lib.occAt (W.drop i) x (p - i) = true := occ_iff.2 (by rw [List.drop_drop, show i + (p - i) = p by omega]; exact hwa.occ)
          rw [h4] at h3
          cases h3
        · have : p = j := by omega
          subst this
          exact hno2 hwa⟩ hf
    repeat refine wps_seq ?_
    refine wps_region callOK ?_
    simp [ofV, ofV1, mkC_P, writeVar, writeCells, readCells, allSingle, AV.single, getFs, getF, setFs, setF, Heap.get, Heap.set, Heap.new, Heap.kill, killF, pushF, Heap.ready, refs, sliceParts, fillA, replL, slStr hi, k30 hI hd, h0]
    repeat refine wps_seq ?_
    refine wps_region callOK ?_
    simp [ofV, ofV1, mkC_P, writeVar, writeCells, readCells, allSingle, AV.single, getFs, getF, setFs, setF, Heap.get, Heap.set, Heap.new, Heap.kill, killF, pushF, Heap.ready, refs, sliceParts, fillA, replL, hk0]
    repeat refine wps_seq ?_
    refine wps_cond (t := false) rfl (fun h => by cases h) fun _ => ?_
    repeat refine wps_seq ?_
    refine wps_skip ?_
    simp
    repeat refine wps_seq ?_
    refine wps_region callOK ?_
    simp [ofV, ofV1, mkC_P, writeVar, writeCells, readCells, allSingle, AV.single, getFs, getF, setFs, setF, Heap.get, Heap.set, Heap.new, Heap.kill, killF, pushF, Heap.ready, refs, sliceParts, fillA, replL, a1]
    repeat refine wps_seq ?_
    refine wps_region callOK ?_
    simp [ofV, ofV1, mkC_P, writeVar, writeCells, readCells, allSingle, AV.single, getFs, getF, setFs, setF, Heap.get, Heap.set, Heap.new, Heap.kill, killF, pushF, Heap.ready, refs, sliceParts, fillA, replL, a2]
    have kS := fun c H => k79 hS c H
    by_cases c0 : j = 0
    · have a4 : wr .i64 1 = some ((j + 1 : Nat) : Int) := by rw [c0]; rfl
      by_cases d0 : q = W.length
      · repeat refine wps_seq ?_
        refine wps_region callOK ?_
        simp [ofV, ofV1, mkC_P, writeVar, writeCells, readCells, allSingle, AV.single, getFs, getF, setFs, setF, Heap.get, Heap.set, Heap.new, Heap.kill, killF, pushF, Heap.ready, refs, sliceParts, fillA, replL, c0, d0]
        repeat refine wps_seq ?_
        refine wps_cond (t := true) rfl (fun _ => ?_) fun h => by cases h
        repeat refine wps_seq ?_
        refine wps_region (callOKF [⟨81, _, _, _, _, h1⟩, ⟨80, _, _, _, _, h2⟩]) ?_
        simp [ofV, ofV1, mkC_P, writeVar, writeCells, readCells, allSingle, AV.single, getFs, getF, setFs, setF, Heap.get, Heap.set, Heap.new, Heap.kill, killF, pushF, Heap.ready, refs, sliceParts, fillA, replL, callF, aStrs]
        repeat refine wps_seq ?_
        refine wps_ret ?_
        simp [retVal, Try.f72, oneOr, thenQ, blockQ]
        exact ends_pure rfl (by simp [inW])
      · have hql : q < W.length := by omega
        have d0i : ¬ (q : Int) = (W.length : Int) := by omega
        rcases Bool.eq_false_or_eq_true (sp W[q]) with d1 | d1
        · repeat refine wps_seq ?_
          refine wps_region callOK ?_
          simp [ofV, ofV1, mkC_P, writeVar, writeCells, readCells, allSingle, AV.single, getFs, getF, setFs, setF, Heap.get, Heap.set, Heap.new, Heap.kill, killF, pushF, Heap.ready, refs, sliceParts, fillA, replL, c0, d0i, ixStr hql, kS, d1]
          repeat refine wps_seq ?_
          refine wps_cond (t := true) rfl (fun _ => ?_) fun h => by cases h
          repeat refine wps_seq ?_
          refine wps_region (callOKF [⟨81, _, _, _, _, h1⟩, ⟨80, _, _, _, _, h2⟩]) ?_
          simp [ofV, ofV1, mkC_P, writeVar, writeCells, readCells, allSingle, AV.single, getFs, getF, setFs, setF, Heap.get, Heap.set, Heap.new, Heap.kill, killF, pushF, Heap.ready, refs, sliceParts, fillA, replL, callF, aStrs]
          repeat refine wps_seq ?_
          refine wps_ret ?_
          simp [retVal, Try.f72, oneOr, thenQ, blockQ]
          exact ends_pure rfl (by simp [inW])
        · repeat refine wps_seq ?_
          refine wps_region callOK ?_
          simp [ofV, ofV1, mkC_P, writeVar, writeCells, readCells, allSingle, AV.single, getFs, getF, setFs, setF, Heap.get, Heap.set, Heap.new, Heap.kill, killF, pushF, Heap.ready, refs, sliceParts, fillA, replL, c0, d0i, ixStr hql, kS, d1]
          repeat refine wps_seq ?_
          refine wps_cond (t := false) rfl (fun h => by cases h) fun _ => ?_
          repeat refine wps_seq ?_
          refine wps_skip ?_
          simp
          repeat refine wps_seq ?_
          refine wps_region callOK ?_
          simp [ofV, ofV1, mkC_P, writeVar, writeCells, readCells, allSingle, AV.single, getFs, getF, setFs, setF, Heap.get, Heap.set, Heap.new, Heap.kill, killF, pushF, Heap.ready, refs, sliceParts, fillA, replL, a4]
          exact nxt _ (fun hwa => by have := hwa.post _ (by rw [← hq]; exact List.getElem?_eq_getElem hql); rw [d1] at this; cases this) ⟨[], [], ⟨rfl, rfl, rfl, by simp [fitL, fitV, pureV, pureL], FitH.nothing⟩⟩
    · obtain ⟨q1, hq1⟩ : ∃ q1, q1 + 1 = j := ⟨j - 1, by omega⟩
      have hq1l : q1 < W.length := by omega
      have a3 : wr .i64 ((j : Int) - 1) = some (q1 : Int) := by rw [wr_small (by omega) (by omega)]; congr 1; omega
      rcases Bool.eq_false_or_eq_true (sp W[q1]) with c1 | c1
      · skip
        by_cases d0 : q = W.length
        · repeat refine wps_seq ?_
          refine wps_region callOK ?_
          simp [ofV, ofV1, mkC_P, writeVar, writeCells, readCells, allSingle, AV.single, getFs, getF, setFs, setF, Heap.get, Heap.set, Heap.new, Heap.kill, killF, pushF, Heap.ready, refs, sliceParts, fillA, replL, c0, a3, ixStr hq1l, kS, c1, d0]
          repeat refine wps_seq ?_
          refine wps_cond (t := true) rfl (fun _ => ?_) fun h => by cases h
          repeat refine wps_seq ?_
          refine wps_region (callOKF [⟨81, _, _, _, _, h1⟩, ⟨80, _, _, _, _, h2⟩]) ?_
          simp [ofV, ofV1, mkC_P, writeVar, writeCells, readCells, allSingle, AV.single, getFs, getF, setFs, setF, Heap.get, Heap.set, Heap.new, Heap.kill, killF, pushF, Heap.ready, refs, sliceParts, fillA, replL, callF, aStrs]
          repeat refine wps_seq ?_
          refine wps_ret ?_
          simp [retVal, Try.f72, oneOr, thenQ, blockQ]
          exact ends_pure rfl (by simp [inW])
        · have hql : q < W.length := by omega
          have d0i : ¬ (q : Int) = (W.length : Int) := by omega
          rcases Bool.eq_false_or_eq_true (sp W[q]) with d1 | d1
          · repeat refine wps_seq ?_
            refine wps_region callOK ?_
            simp [ofV, ofV1, mkC_P, writeVar, writeCells, readCells, allSingle, AV.single, getFs, getF, setFs, setF, Heap.get, Heap.set, Heap.new, Heap.kill, killF, pushF, Heap.ready, refs, sliceParts, fillA, replL, c0, a3, ixStr hq1l, kS, c1, d0i, ixStr hql, kS, d1]
            repeat refine wps_seq ?_
            refine wps_cond (t := true) rfl (fun _ => ?_) fun h => by cases h
            repeat refine wps_seq ?_
            refine wps_region (callOKF [⟨81, _, _, _, _, h1⟩, ⟨80, _, _, _, _, h2⟩]) ?_
            simp [ofV, ofV1, mkC_P, writeVar, writeCells, readCells, allSingle, AV.single, getFs, getF, setFs, setF, Heap.get, Heap.set, Heap.new, Heap.kill, killF, pushF, Heap.ready, refs, sliceParts, fillA, replL, callF, aStrs]
            repeat refine wps_seq ?_
            refine wps_ret ?_
            simp [retVal, Try.f72, oneOr, thenQ, blockQ]
            exact ends_pure rfl (by simp [inW])
          · repeat refine wps_seq ?_
            refine wps_region callOK ?_
            simp [ofV, ofV1, mkC_P, writeVar, writeCells, readCells, allSingle, AV.single, getFs, getF, setFs, setF, Heap.get, Heap.set, Heap.new, Heap.kill, killF, pushF, Heap.ready, refs, sliceParts, fillA, replL, c0, a3, ixStr hq1l, kS, c1, d0i, ixStr hql, kS, d1]
            repeat refine wps_seq ?_
            refine wps_cond (t := false) rfl (fun h => by cases h) fun _ => ?_
            repeat refine wps_seq ?_
            refine wps_skip ?_
            simp
            repeat refine wps_seq ?_
            refine wps_region callOK ?_
            simp [ofV, ofV1, mkC_P, writeVar, writeCells, readCells, allSingle, AV.single, getFs, getF, setFs, setF, Heap.get, Heap.set, Heap.new, Heap.kill, killF, pushF, Heap.ready, refs, sliceParts, fillA, replL, add_one (show j ≤ 1000000000 by omega)]
            exact nxt _ (fun hwa => by have := hwa.post _ (by rw [← hq]; exact List.getElem?_eq_getElem hql); rw [d1] at this; cases this) ⟨[], [], ⟨rfl, rfl, rfl, by simp [fitL, fitV, pureV, pureL], FitH.nothing⟩⟩
      · repeat refine wps_seq ?_
        refine wps_region callOK ?_
        simp [ofV, ofV1, mkC_P, writeVar, writeCells, readCells, allSingle, AV.single, getFs, getF, setFs, setF, Heap.get, Heap.set, Heap.new, Heap.kill, killF, pushF, Heap.ready, refs, sliceParts, fillA, replL, c0, a3, ixStr hq1l, kS, c1]
        repeat refine wps_seq ?_
        refine wps_cond (t := false) rfl (fun h => by cases h) fun _ => ?_
        repeat refine wps_seq ?_
        refine wps_skip ?_
        simp
        repeat refine wps_seq ?_
        refine wps_region callOK ?_
        simp [ofV, ofV1, mkC_P, writeVar, writeCells, readCells, allSingle, AV.single, getFs, getF, setFs, setF, Heap.get, Heap.set, Heap.new, Heap.kill, killF, pushF, Heap.ready, refs, sliceParts, fillA, replL, add_one (show j ≤ 1000000000 by omega)]
        exact nxt _ (fun hwa => by have := hwa.pre _ (by omega) (by rw [← hq1, Nat.add_sub_cancel]; exact List.getElem?_eq_getElem hq1l); rw [c1] at this; cases this) ⟨[], [], ⟨rfl, rfl, rfl, by simp [fitL, fitV, pureV, pureL], FitH.nothing⟩⟩
end Go.Proofs.Ytohkgmnoamfmgaa
namespace Go.Proofs.Ytohkgmnoamfmgaa
set_option linter.unusedSimpArgs false
set_option linter.unusedVariables false
open Go Go.RowKit
set_option maxRecDepth 100000

theorem run_escape {C : Ctx} (hP : C.P = Try.prog) (x : Value) (w : World) : (callFunc 82 #[x]).run C.P w = .ok (.value x) w := by
  have hf : C.P.funcs[82]? = some Try.f82 := by rw [hP]; exact Try.func82
  have hn : ¬ Try.f82.name = "runtime.NumGoroutine" := by decide +kernel
  have h1 : Extern.findNext Try.f82 = none := by kernel_rfl
  have h2 : Extern.find Try.f82 = some Extern.AbiNoEscape.same := by kernel_rfl
  have h3 : Try.f82.body = none := by kernel_rfl
  simp [callFunc, hf, hn, h1, h2, h3, Lib.run_noEscape]
noncomputable def e82 : Entry Try.prog := ⟨82, fun args H => match args with
  | [.ptr b o] => some (.ptr b o, H)
  | _ => none, fun args H v H' hv => by
    split at hv
    · simp only [Option.some.injEq, Prod.mk.injEq] at hv
      obtain ⟨rfl, rfl⟩ := hv
      intro ρ w xs sm hx
      match xs, hx with
      | [x], hx =>
        have h0 := hx.2 0 (by simp) (by simp)
        simp only [List.getElem_cons_zero] at h0
        exact .inl ⟨x, ρ, w, run_escape rfl x w, h0, sm, Step.refl _ _ _⟩
    · cases hv⟩
theorem k82 {T : List (Entry Try.prog)} (hT : findE 82 T = some e82.g) (b o : Nat) (H : Heap) : callL (ctx T) (.fn 82) [.ptr b o] H = some (.ptr b o, H) := by
  rw [callL_summ (g := e82.g) hT]; rfl
abbrev wVoid : Str := [97, 114, 101, 97, 32, 98, 97, 115, 101, 32, 98, 97, 115, 101, 102, 111, 110, 116, 32, 98, 103, 115, 111, 117, 110, 100, 32, 98, 114, 32, 99, 111, 108, 32, 101, 109, 98, 101, 100, 32, 102, 114, 97, 109, 101, 32, 104, 114, 32, 105, 109, 103, 32, 105, 110, 112, 117, 116, 32, 107, 101, 121, 103, 101, 110, 32, 108, 105, 110, 107, 32, 109, 101, 116, 97, 32, 112, 97, 114, 97, 109, 32, 115, 111, 117, 114, 99, 101, 32, 116, 114, 97, 99, 107, 32, 119, 98, 114]
theorem split_void : splitOK (wsplit wVoid) (callN (ctx []) 100000 (.fn 81) [.str wVoid] ⟨0, []⟩) = true := by decide +kernel
theorem c81v {T : List (Entry Try.prog)} : CallAt (ctx T) 81 [.str wVoid] ⟨0, []⟩ (aStrs (wsplit wVoid)) ⟨0, []⟩ := closedSplit (T := []) split_void
theorem c84 {T : List (Entry Try.prog)} (L : List Str) (x : Str) (hl : L.length ≤ 1000000) : CallAt (ctx T) 84 [aStrs L, .str x] ⟨0, []⟩ (.int .i64 (idxFrom (fun y => decide (x = y)) L 0)) ⟨0, []⟩ := by
  refine callAt_body (fn := Try.f84) (s0 := ⟨[0, 1, 4, 5, 7, 8], [aStrs L, .str x, .undef, .undef, .undef, .undef], [], 19, ⟨0, [[]]⟩⟩) Try.func84 rfl rfl rfl ?_
  repeat refine wps_seq ?_
  refine wps_region callOK ?_
  simp [ofV, ofV1, mkC_P, writeVar, writeCells, readCells, allSingle, AV.single, getFs, getF, setFs, setF, Heap.get, Heap.set, Heap.new, Heap.kill, killF, pushF, Heap.ready, refs, sliceParts, fillA, replL]
  repeat refine wps_seq ?_
  refine wps_region callOK ?_
  simp [ofV, ofV1, mkC_P, writeVar, writeCells, readCells, allSingle, AV.single, getFs, getF, setFs, setF, Heap.get, Heap.set, Heap.new, Heap.kill, killF, pushF, Heap.ready, refs, sliceParts, fillA, replL, lenS]
  repeat refine wps_seq ?_
  refine wps_block (wps_loop' (fun i : Nat => (⟨[0, 1, 4, 5, 7, 8], [aStrs L, .str x, .undef, .undef, .int .i64 (L.length : Nat), .int .i64 i], [], 19, ⟨0, [[]]⟩⟩ : St))
    (fun i => i ≤ L.length ∧ idxFrom (fun y => decide (x = y)) L 0 = idxFrom (fun y => decide (x = y)) (L.drop i) i) (fun i => L.length - i) [] [] 0 ⟨Nat.zero_le _, rfl⟩ ⟨rfl, rfl, rfl, by simp [fitL, fitV, pureV, pureL, aStrs], FitH.nothing⟩ ?_)
  rintro i ⟨hi, hx⟩ B hB
  repeat refine wps_seq ?_
  refine wps_region callOK ?_
  simp [ofV, ofV1, mkC_P, writeVar, writeCells, readCells, allSingle, AV.single, getFs, getF, setFs, setF, Heap.get, Heap.set, Heap.new, Heap.kill, killF, pushF, Heap.ready, refs, sliceParts, fillA, replL]
  repeat refine wps_seq ?_
  refine wps_cond rfl (fun h => ?_) fun h => ?_
  · simp at h
    rw [idxFrom_at h] at hx
    repeat refine wps_seq ?_
    refine wps_skip ?_
    simp
    repeat refine wps_seq ?_
    refine wps_block ?_
    repeat refine wps_seq ?_
    refine wps_region callOK ?_
    simp [ofV, ofV1, mkC_P, writeVar, writeCells, readCells, allSingle, AV.single, getFs, getF, setFs, setF, Heap.get, Heap.set, Heap.new, Heap.kill, killF, pushF, Heap.ready, refs, sliceParts, fillA, replL]
    by_cases h2 : L[i] = x
    · repeat refine wps_seq ?_
      refine wps_region callOK ?_
      simp [ofV, ofV1, mkC_P, writeVar, writeCells, readCells, allSingle, AV.single, getFs, getF, setFs, setF, Heap.get, Heap.set, Heap.new, Heap.kill, killF, pushF, Heap.ready, refs, sliceParts, fillA, replL, atS h, h2]
      repeat refine wps_seq ?_
      refine wps_cond (t := true) rfl (fun _ => ?_) fun h => by cases h
      repeat refine wps_seq ?_
      refine wps_region callOK ?_
      simp [ofV, ofV1, mkC_P, writeVar, writeCells, readCells, allSingle, AV.single, getFs, getF, setFs, setF, Heap.get, Heap.set, Heap.new, Heap.kill, killF, pushF, Heap.ready, refs, sliceParts, fillA, replL]
      repeat refine wps_seq ?_
      refine wps_ret ?_
      simp [retVal, Try.f84, oneOr, thenQ, blockQ]
      exact ends_pure rfl (by rw [hx, if_pos (by simp [h2])])
    · have h2' : ¬ x = L[i] := fun e => h2 e.symm
      repeat refine wps_seq ?_
      refine wps_region callOK ?_
      simp [ofV, ofV1, mkC_P, writeVar, writeCells, readCells, allSingle, AV.single, getFs, getF, setFs, setF, Heap.get, Heap.set, Heap.new, Heap.kill, killF, pushF, Heap.ready, refs, sliceParts, fillA, replL, atS h, h2']
      repeat refine wps_seq ?_
      refine wps_cond (t := false) rfl (fun h => by cases h) fun _ => ?_
      repeat refine wps_seq ?_
      refine wps_skip ?_
      simp
      repeat refine wps_seq ?_
      refine wps_region callOK ?_
      simp [ofV, ofV1, mkC_P, writeVar, writeCells, readCells, allSingle, AV.single, getFs, getF, setFs, setF, Heap.get, Heap.set, Heap.new, Heap.kill, killF, pushF, Heap.ready, refs, sliceParts, fillA, replL, add_one (show i ≤ 1000000000 by omega)]
      exact hB _ (i + 1) (by omega) ⟨by omega, by rw [hx, if_neg (by simp [h2'])]⟩ ⟨[], [], ⟨rfl, rfl, rfl, by simp [fitL, fitV, pureV, pureL, aStrs], FitH.nothing⟩⟩
  · simp at h
    repeat refine wps_seq ?_
    refine wps_exit ?_
    simp
    repeat refine wps_seq ?_
    refine wps_region callOK ?_
    simp [ofV, ofV1, mkC_P, writeVar, writeCells, readCells, allSingle, AV.single, getFs, getF, setFs, setF, Heap.get, Heap.set, Heap.new, Heap.kill, killF, pushF, Heap.ready, refs, sliceParts, fillA, replL]
    repeat refine wps_seq ?_
    refine wps_ret ?_
    simp [retVal, Try.f84, oneOr, thenQ, blockQ]
    exact ends_pure rfl (by rw [hx, List.drop_eq_nil_of_le h]; rfl)
noncomputable def e84 : Entry Try.prog := mkE 84 [[1], []] (fun x : List Str × Str => [aStrs x.1, .str x.2]) (fun x => x.1.length ≤ 1000000) (fun x => .int .i64 (idxFrom (fun y => decide (x.2 = y)) x.1 0)) fun x hx => c84 (T := []) x.1 x.2 hx
theorem injSS (x y : List Str × Str) (h : [aStrs x.1, .str x.2] = [aStrs y.1, .str y.2]) : x = y := by
  simp at h; exact Prod.ext (inj_strs (by simpa [aStrs] using h.1)) h.2
theorem k84 {T : List (Entry Try.prog)} (hT : findE 84 T = some e84.g) {L : List Str} (x : Str) (hl : L.length ≤ 1000000) (H : Heap) : callL (ctx T) (.fn 84) [aStrs L, .str x] H = some (.int .i64 (idxFrom (fun y => decide (x = y)) L 0), H) :=
  mkE_scalar hT injSS (L, x) hl rfl (by simp [aStrs])
theorem idx_mem {x : Str} : ∀ (L : List Str) (k : Nat), (0 ≤ idxFrom (fun y => decide (x = y)) L k) ↔ x ∈ L
  | [], k => by simp [idxFrom]
  | y :: r, k => by
    unfold idxFrom
    by_cases h : x = y
    · simp [h]
    · simp only [h, decide_false, Bool.false_eq_true, if_false, List.mem_cons, false_or]
      exact idx_mem r (k + 1)
theorem c80 {T : List (Entry Try.prog)} (hI : findE 84 T = some e84.g) (L : List Str) (x : Str) (hl : L.length ≤ 1000000) : CallAt (ctx T) 80 [aStrs L, .str x] ⟨0, []⟩ (.bool (decide (x ∈ L))) ⟨0, []⟩ := by
  have hk := fun H => k84 hI x hl H
  have hm := idx_mem (x := x) L 0
  generalize idxFrom (fun y => decide (x = y)) L 0 = v at *
  simp only [aStrs] at hk
  refine callAt_body (fn := Try.f80) (s0 := ⟨[0, 1, 4], [aStrs L, .str x, .undef], [], 9, ⟨0, [[]]⟩⟩) Try.func80 rfl rfl rfl ?_
  (repeat (first
    | (refine wps_seq ?_)
    | (refine wps_block ?_)
    | (refine wps_label ?_; simp only [thenQ, blockQ])
    | ((refine wps_region callOK ?_); simp [ofV, ofV1, mkC_P, writeVar, writeCells, readCells, allSingle, AV.single, getFs, getF, setFs, setF, Heap.get, Heap.set, Heap.new, Heap.kill, killF, pushF, Heap.ready, refs, sliceParts, fillA, replL, aStrs, hk])
    | (refine wps_cond (t := true) rfl (fun _ => ?_) (fun h => by cases h))
    | (refine wps_cond (t := false) rfl (fun h => by cases h) (fun _ => ?_))
    | ((refine wps_skip ?_); simp only [thenQ, blockQ])
    | ((refine wps_exit ?_); simp [thenQ, blockQ])))
  repeat refine wps_seq ?_
  refine wps_ret ?_
  simp [retVal, Try.f80, oneOr, thenQ, blockQ]
  exact ends_pure rfl (by simp [hm])
theorem wl_void : (wsplit wVoid).length ≤ 1000000 := by decide +kernel
def voidW (space : Int) (name : Str) : Bool := decide (space = 0) && inW wVoid name
theorem c72v {T : List (Entry Try.prog)} (x : Str) (hx : x.length ≤ 1000000000) : CallAt (ctx T) 72 [.str wVoid, .str x] ⟨0, []⟩ (.bool (inW wVoid x)) ⟨0, []⟩ :=
  c72 (T := [e30, e79]) rfl rfl wVoid x (by decide) hx (c81v (T := [])) (c80 (T := [e84]) rfl _ x wl_void)
theorem c58 {T : List (Entry Try.prog)} (space : Int) (name : Str) (hx : name.length ≤ 1000000000) : CallAt (ctx T) 58 [.int .i64 space, .str name] ⟨0, []⟩ (.bool (voidW space name)) ⟨0, []⟩ := by
  have h := (c72v (T := T) name hx).lift (by simp [pureL, pureV]) ⟨0, [[]]⟩
  refine callAt_body (fn := Try.f58) (s0 := ⟨[0, 1, 4], [.int .i64 space, .str name, .undef], [], 11, ⟨0, [[]]⟩⟩) Try.func58 rfl rfl rfl ?_
  by_cases hs : space = 0
  · repeat refine wps_seq ?_
    refine wps_region callOK ?_
    simp [ofV, ofV1, mkC_P, writeVar, writeCells, readCells, allSingle, AV.single, getFs, getF, setFs, setF, Heap.get, Heap.set, Heap.new, Heap.kill, killF, pushF, Heap.ready, refs, sliceParts, fillA, replL]
    repeat refine wps_seq ?_
    refine wps_region (callOKF [⟨72, _, _, _, _, h⟩]) ?_
    simp [ofV, ofV1, mkC_P, writeVar, writeCells, readCells, allSingle, AV.single, getFs, getF, setFs, setF, Heap.get, Heap.set, Heap.new, Heap.kill, killF, pushF, Heap.ready, refs, sliceParts, fillA, replL, callF, hs]
    repeat refine wps_seq ?_
    refine wps_ret ?_
    simp [retVal, Try.f58, oneOr, thenQ, blockQ]
    exact ends_pure rfl (by simp [voidW, hs])
  · repeat refine wps_seq ?_
    refine wps_region callOK ?_
    simp [ofV, ofV1, mkC_P, writeVar, writeCells, readCells, allSingle, AV.single, getFs, getF, setFs, setF, Heap.get, Heap.set, Heap.new, Heap.kill, killF, pushF, Heap.ready, refs, sliceParts, fillA, replL]
    repeat refine wps_seq ?_
    refine wps_region callOK ?_
    simp [ofV, ofV1, mkC_P, writeVar, writeCells, readCells, allSingle, AV.single, getFs, getF, setFs, setF, Heap.get, Heap.set, Heap.new, Heap.kill, killF, pushF, Heap.ready, refs, sliceParts, fillA, replL, hs]
    repeat refine wps_seq ?_
    refine wps_ret ?_
    simp [retVal, Try.f58, oneOr, thenQ, blockQ]
    exact ends_pure rfl (by simp [voidW, hs])
theorem injIS (x y : Int × Str) (h : [AV.int .i64 x.1, AV.str x.2] = [AV.int .i64 y.1, AV.str y.2]) : x = y := by
  simp at h; exact Prod.ext h.1 h.2
noncomputable def e58 : Entry Try.prog := mkE 58 [[], []] (fun x : Int × Str => [.int .i64 x.1, .str x.2]) (fun x => x.2.length ≤ 1000000000) (fun x => .bool (voidW x.1 x.2)) fun x hx => c58 (T := []) x.1 x.2 hx
theorem k58 {T : List (Entry Try.prog)} (hT : findE 58 T = some e58.g) (space : Int) {name : Str} (hx : name.length ≤ 1000000000) (H : Heap) : callL (ctx T) (.fn 58) [.int .i64 space, .str name] H = some (.bool (voidW space name), H) :=
  mkE_scalar hT injIS (space, name) hx rfl (by simp)
theorem c31 {T : List (Entry Try.prog)} (hI : findE 28 T = some e28.g) (space : Int) (name W : Str) (hW : W.length ≤ 900000) : CallAt (ctx T) 31 [.int .i64 space, .str name, .str W] ⟨0, []⟩ (.bool (decide (space = 0) && inW W name)) ⟨0, []⟩ := by
  have hk := fun H => k28 hI name hW H
  by_cases hs : space = 0
  · refine callAt_body (fn := Try.f31) (s0 := ⟨[0, 1, 2, 6], [.int .i64 space, .str name, .str W, .undef], [], 14, ⟨0, [[]]⟩⟩) Try.func31 rfl rfl rfl ?_
    (repeat (first
      | (refine wps_seq ?_)
      | (refine wps_block ?_)
      | (refine wps_label ?_; simp only [thenQ, blockQ])
      | ((refine wps_region callOK ?_); simp [ofV, ofV1, mkC_P, writeVar, writeCells, readCells, allSingle, AV.single, getFs, getF, setFs, setF, Heap.get, Heap.set, Heap.new, Heap.kill, killF, pushF, Heap.ready, refs, sliceParts, fillA, replL, hk, hs])
      | (refine wps_cond (t := true) rfl (fun _ => ?_) (fun h => by cases h))
      | (refine wps_cond (t := false) rfl (fun h => by cases h) (fun _ => ?_))
      | ((refine wps_skip ?_); simp only [thenQ, blockQ])
      | ((refine wps_exit ?_); simp [thenQ, blockQ])))
    repeat refine wps_seq ?_
    refine wps_ret ?_
    simp [retVal, Try.f31, oneOr, thenQ, blockQ]
    exact ends_pure rfl (by simp [hs])
  · refine callAt_body (fn := Try.f31) (s0 := ⟨[0, 1, 2, 6], [.int .i64 space, .str name, .str W, .undef], [], 14, ⟨0, [[]]⟩⟩) Try.func31 rfl rfl rfl ?_
    (repeat (first
      | (refine wps_seq ?_)
      | (refine wps_block ?_)
      | (refine wps_label ?_; simp only [thenQ, blockQ])
      | ((refine wps_region callOK ?_); simp [ofV, ofV1, mkC_P, writeVar, writeCells, readCells, allSingle, AV.single, getFs, getF, setFs, setF, Heap.get, Heap.set, Heap.new, Heap.kill, killF, pushF, Heap.ready, refs, sliceParts, fillA, replL, hk, hs])
      | (refine wps_cond (t := true) rfl (fun _ => ?_) (fun h => by cases h))
      | (refine wps_cond (t := false) rfl (fun h => by cases h) (fun _ => ?_))
      | ((refine wps_skip ?_); simp only [thenQ, blockQ])
      | ((refine wps_exit ?_); simp [thenQ, blockQ])))
    repeat refine wps_seq ?_
    refine wps_ret ?_
    simp [retVal, Try.f31, oneOr, thenQ, blockQ]
    exact ends_pure rfl (by simp [hs])
theorem injISS (x y : Int × Str × Str) (h : [AV.int .i64 x.1, AV.str x.2.1, AV.str x.2.2] = [AV.int .i64 y.1, AV.str y.2.1, AV.str y.2.2]) : x = y := by
  simp at h; exact Prod.ext h.1 (Prod.ext h.2.1 h.2.2)
noncomputable def e31 : Entry Try.prog := mkE 31 [[], [], []] (fun x : Int × Str × Str => [.int .i64 x.1, .str x.2.1, .str x.2.2]) (fun x => x.2.2.length ≤ 900000) (fun x => .bool (decide (x.1 = 0) && inW x.2.2 x.2.1)) fun x hx => c31 (T := [e28]) rfl x.1 x.2.1 x.2.2 hx
theorem k31 {T : List (Entry Try.prog)} (hT : findE 31 T = some e31.g) (space : Int) (name : Str) {W : Str} (hW : W.length ≤ 900000) (H : Heap) : callL (ctx T) (.fn 31) [.int .i64 space, .str name, .str W] H = some (.bool (decide (space = 0) && inW W name), H) :=
  mkE_scalar hT injISS (space, name, W) hW rfl (by simp)
theorem c17 {T : List (Entry Try.prog)} (hH : findE 31 T = some e31.g) (space : Int) (name : Str) : CallAt (ctx T) 17 [.int .i64 space, .str name] ⟨0, []⟩ (.bool (voidW space name)) ⟨0, []⟩ := by
  have hk := fun H => k31 hH space name (W := wVoid) (by decide) H
  refine callAt_body (fn := Try.f17) (s0 := ⟨[0, 1, 4], [.int .i64 space, .str name, .undef], [], 8, ⟨0, [[]]⟩⟩) Try.func17 rfl rfl rfl ?_
  (repeat (first
    | (refine wps_seq ?_)
    | (refine wps_block ?_)
    | (refine wps_label ?_; simp only [thenQ, blockQ])
    | ((refine wps_region callOK ?_); simp [ofV, ofV1, mkC_P, writeVar, writeCells, readCells, allSingle, AV.single, getFs, getF, setFs, setF, Heap.get, Heap.set, Heap.new, Heap.kill, killF, pushF, Heap.ready, refs, sliceParts, fillA, replL, hk])
    | (refine wps_cond (t := true) rfl (fun _ => ?_) (fun h => by cases h))
    | (refine wps_cond (t := false) rfl (fun h => by cases h) (fun _ => ?_))
    | ((refine wps_skip ?_); simp only [thenQ, blockQ])
    | ((refine wps_exit ?_); simp [thenQ, blockQ])))
  repeat refine wps_seq ?_
  refine wps_ret ?_
  simp [retVal, Try.f17, oneOr, thenQ, blockQ]
  exact ends_pure rfl (by simp [voidW])
noncomputable def e17 : Entry Try.prog := mkE 17 [[], []] (fun x : Int × Str => [.int .i64 x.1, .str x.2]) (fun _ => True) (fun x => .bool (voidW x.1 x.2)) fun x _ => c17 (T := [e31]) rfl x.1 x.2
theorem k17 {T : List (Entry Try.prog)} (hT : findE 17 T = some e17.g) (space : Int) (name : Str) (H : Heap) : callL (ctx T) (.fn 17) [.int .i64 space, .str name] H = some (.bool (voidW space name), H) :=
  mkE_scalar hT injIS (space, name) trivial rfl (by simp)
end Go.Proofs.Ytohkgmnoamfmgaa
namespace Go.Proofs.Ytohkgmnoamfmgaa
set_option linter.unusedSimpArgs false
set_option linter.unusedVariables false
open Go Go.RowKit
set_option maxRecDepth 100000

@[simp] theorem szT47 : sizeT Try.prog 47 = some 1 := rfl
@[simp] theorem agT47 : aggT Try.prog 47 = some false := rfl
@[simp] theorem byT47 : bytesT Try.prog 47 = some 8 := rfl
@[simp] theorem alT47 (H : Heap) : alV Try.prog H 47 = some (.ptr H.n 0, H.new (.cells [.nilM])) := rfl
@[simp] theorem zeT47 : zeroOf Try.prog 47 = some (.nilM) := rfl
attribute [simp] Try.underlying47
@[simp 500] theorem rvF47 (H : Heap) (cs : List AV) (o : Nat) : readVar Try.prog H 47 (.fptr cs o) = getL cs o := rfl
@[simp 500] theorem rvP47 (H : Heap) (b o : Nat) : readVar Try.prog H 47 (.ptr b o) = (H.get b).bind fun k => k.rd.bind fun cs => getL cs o := rfl
@[simp] theorem szT48 : sizeT Try.prog 48 = some 1 := rfl
@[simp] theorem agT48 : aggT Try.prog 48 = some false := rfl
@[simp] theorem byT48 : bytesT Try.prog 48 = some 8 := rfl
@[simp] theorem alT48 (H : Heap) : alV Try.prog H 48 = some (.ptr H.n 0, H.new (.cells [.nilP])) := rfl
@[simp] theorem zeT48 : zeroOf Try.prog 48 = some (.nilP) := rfl
attribute [simp] Try.underlying48
@[simp 500] theorem rvF48 (H : Heap) (cs : List AV) (o : Nat) : readVar Try.prog H 48 (.fptr cs o) = getL cs o := rfl
@[simp 500] theorem rvP48 (H : Heap) (b o : Nat) : readVar Try.prog H 48 (.ptr b o) = (H.get b).bind fun k => k.rd.bind fun cs => getL cs o := rfl
@[simp] theorem szT49 : sizeT Try.prog 49 = some 1 := rfl
@[simp] theorem agT49 : aggT Try.prog 49 = some false := rfl
@[simp] theorem byT49 : bytesT Try.prog 49 = some 24 := rfl
@[simp] theorem alT49 (H : Heap) : alV Try.prog H 49 = some (.ptr H.n 0, H.new (.cells [.nilS])) := rfl
@[simp] theorem zeT49 : zeroOf Try.prog 49 = some (.nilS) := rfl
attribute [simp] Try.underlying49
@[simp 500] theorem rvF49 (H : Heap) (cs : List AV) (o : Nat) : readVar Try.prog H 49 (.fptr cs o) = getL cs o := rfl
@[simp 500] theorem rvP49 (H : Heap) (b o : Nat) : readVar Try.prog H 49 (.ptr b o) = (H.get b).bind fun k => k.rd.bind fun cs => getL cs o := rfl
@[simp] theorem slz49 (sz : Nat) (e : AV) (r : List AV) : binA Try.prog .eql 49 (.fslc sz (e :: r)) .nilS = some (.bool false) := rfl
@[simp] theorem sln49 (sz : Nat) (e : AV) (r : List AV) : binA Try.prog .neq 49 (.fslc sz (e :: r)) .nilS = some (.bool true) := rfl
@[simp] theorem slze49 : binA Try.prog .eql 49 .eslc .nilS = some (.bool false) := rfl
@[simp] theorem slzz49 : binA Try.prog .eql 49 .nilS .nilS = some (.bool true) := rfl
@[simp] theorem szT51 : sizeT Try.prog 51 = some 2 := rfl
@[simp] theorem agT51 : aggT Try.prog 51 = some true := rfl
@[simp] theorem byT51 : bytesT Try.prog 51 = some 32 := rfl
@[simp] theorem alT51 (H : Heap) : alV Try.prog H 51 = some (.ptr H.n 0, H.new (.cells [.nilP, .nilS])) := rfl
@[simp] theorem zeT51 : zeroOf Try.prog 51 = some (.agg [.nilP, .nilS]) := rfl
attribute [simp] Try.underlying51
@[simp 500] theorem rvF51 (H : Heap) (cs : List AV) (o : Nat) : readVar Try.prog H 51 (.fptr cs o) = (subL o 2 cs).bind fun cs => some (.agg cs) := rfl
@[simp 500] theorem rvP51 (H : Heap) (b o : Nat) : readVar Try.prog H 51 (.ptr b o) = (readCells H b o 2).bind fun cs => some (.agg cs) := rfl
@[simp] theorem fa51_0 (x : AV) : fieldAddrA Try.prog 51 x 0 = (match x with | .ptr b o => some (.ptr b (o + 0)) | .fptr cs o => some (.fptr cs (o + 0)) | _ => none) := rfl
@[simp] theorem fd51_0 (cs : List AV) : fieldA Try.prog 51 (.agg cs) 0 = getL cs 0 := rfl
@[simp] theorem fa51_1 (x : AV) : fieldAddrA Try.prog 51 x 1 = (match x with | .ptr b o => some (.ptr b (o + 1)) | .fptr cs o => some (.fptr cs (o + 1)) | _ => none) := rfl
@[simp] theorem fd51_1 (cs : List AV) : fieldA Try.prog 51 (.agg cs) 1 = getL cs 1 := rfl
@[simp] theorem szT53 : sizeT Try.prog 53 = some 4 := rfl
@[simp] theorem agT53 : aggT Try.prog 53 = some true := rfl
@[simp] theorem byT53 : bytesT Try.prog 53 = some 64 := rfl
@[simp] theorem alT53 (H : Heap) : alV Try.prog H 53 = some (.ptr H.n 0, H.new (.obj 53 [.nilP, .nilS, .nilS, .nilM])) := rfl
@[simp] theorem zeT53 : zeroOf Try.prog 53 = some (.agg [.nilP, .nilS, .nilS, .nilM]) := rfl
attribute [simp] Try.underlying53
@[simp 500] theorem rvF53 (H : Heap) (cs : List AV) (o : Nat) : readVar Try.prog H 53 (.fptr cs o) = (subL o 4 cs).bind fun cs => some (.agg cs) := rfl
@[simp 500] theorem rvP53 (H : Heap) (b o : Nat) : readVar Try.prog H 53 (.ptr b o) = (readCells H b o 4).bind fun cs => some (.agg cs) := rfl
@[simp] theorem fa53_0 (x : AV) : fieldAddrA Try.prog 53 x 0 = (match x with | .ptr b o => some (.ptr b (o + 0)) | .fptr cs o => some (.fptr cs (o + 0)) | _ => none) := rfl
@[simp] theorem fd53_0 (cs : List AV) : fieldA Try.prog 53 (.agg cs) 0 = (subL 0 2 cs).bind fun r => some (.agg r) := rfl
@[simp] theorem fa53_1 (x : AV) : fieldAddrA Try.prog 53 x 1 = (match x with | .ptr b o => some (.ptr b (o + 2)) | .fptr cs o => some (.fptr cs (o + 2)) | _ => none) := rfl
@[simp] theorem fd53_1 (cs : List AV) : fieldA Try.prog 53 (.agg cs) 1 = (subL 2 1 cs).bind fun r => some (.agg r) := rfl
@[simp] theorem fa53_2 (x : AV) : fieldAddrA Try.prog 53 x 2 = (match x with | .ptr b o => some (.ptr b (o + 3)) | .fptr cs o => some (.fptr cs (o + 3)) | _ => none) := rfl
@[simp] theorem fd53_2 (cs : List AV) : fieldA Try.prog 53 (.agg cs) 2 = getL cs 3 := rfl
@[simp] theorem szT70 : sizeT Try.prog 70 = some 1 := rfl
@[simp] theorem agT70 : aggT Try.prog 70 = some false := rfl
@[simp] theorem byT70 : bytesT Try.prog 70 = some 8 := rfl
@[simp] theorem alT70 (H : Heap) : alV Try.prog H 70 = some (.ptr H.n 0, H.new (.cells [.nilP])) := rfl
@[simp] theorem zeT70 : zeroOf Try.prog 70 = some (.nilP) := rfl
attribute [simp] Try.underlying70
@[simp 500] theorem rvF70 (H : Heap) (cs : List AV) (o : Nat) : readVar Try.prog H 70 (.fptr cs o) = getL cs o := rfl
@[simp 500] theorem rvP70 (H : Heap) (b o : Nat) : readVar Try.prog H 70 (.ptr b o) = (H.get b).bind fun k => k.rd.bind fun cs => getL cs o := rfl
@[simp] theorem szT99 : sizeT Try.prog 99 = some 3 := rfl
@[simp] theorem agT99 : aggT Try.prog 99 = some true := rfl
@[simp] theorem byT99 : bytesT Try.prog 99 = some 40 := rfl
@[simp] theorem alT99 (H : Heap) : alV Try.prog H 99 = some (.ptr H.n 0, H.new (.obj 99 [.nilP, .nilS, .bool false])) := rfl
@[simp] theorem zeT99 : zeroOf Try.prog 99 = some (.agg [.nilP, .nilS, .bool false]) := rfl
attribute [simp] Try.underlying99
@[simp 500] theorem rvF99 (H : Heap) (cs : List AV) (o : Nat) : readVar Try.prog H 99 (.fptr cs o) = (subL o 3 cs).bind fun cs => some (.agg cs) := rfl
@[simp 500] theorem rvP99 (H : Heap) (b o : Nat) : readVar Try.prog H 99 (.ptr b o) = (readCells H b o 3).bind fun cs => some (.agg cs) := rfl
@[simp] theorem fa99_0 (x : AV) : fieldAddrA Try.prog 99 x 0 = (match x with | .ptr b o => some (.ptr b (o + 0)) | .fptr cs o => some (.fptr cs (o + 0)) | _ => none) := rfl
@[simp] theorem fd99_0 (cs : List AV) : fieldA Try.prog 99 (.agg cs) 0 = (subL 0 2 cs).bind fun r => some (.agg r) := rfl
@[simp] theorem fa99_1 (x : AV) : fieldAddrA Try.prog 99 x 1 = (match x with | .ptr b o => some (.ptr b (o + 2)) | .fptr cs o => some (.fptr cs (o + 2)) | _ => none) := rfl
@[simp] theorem fd99_1 (cs : List AV) : fieldA Try.prog 99 (.agg cs) 1 = getL cs 2 := rfl
@[simp] theorem szT103 : sizeT Try.prog 103 = some 1 := rfl
@[simp] theorem agT103 : aggT Try.prog 103 = some false := rfl
@[simp] theorem byT103 : bytesT Try.prog 103 = some 8 := rfl
@[simp] theorem alT103 (H : Heap) : alV Try.prog H 103 = some (.ptr H.n 0, H.new (.cells [.nilP])) := rfl
@[simp] theorem zeT103 : zeroOf Try.prog 103 = some (.nilP) := rfl
attribute [simp] Try.underlying103
@[simp 500] theorem rvF103 (H : Heap) (cs : List AV) (o : Nat) : readVar Try.prog H 103 (.fptr cs o) = getL cs o := rfl
@[simp 500] theorem rvP103 (H : Heap) (b o : Nat) : readVar Try.prog H 103 (.ptr b o) = (H.get b).bind fun k => k.rd.bind fun cs => getL cs o := rfl
/-! ### The same rows in other frames -/
theorem Sim.perm {ρ : Place} {H H2 : Heap} {w : World} (h : Sim ρ H w) (n : H2.n = H.n) (p : H2.ents.Perm H.ents) : Sim ρ H2 w where
  base := h.base
  below := h.below
  os := h.os
  tape := h.tape
  output := h.output
  dom := fun b hb => h.dom b (n ▸ hb)
  nodup := (p.map _).nodup_iff.2 h.nodup
  live := fun e he => h.live e (p.mem_iff.1 he)
  inj := fun e e' he he' => h.inj e e' (p.mem_iff.1 he) (p.mem_iff.1 he')
theorem Step.perm {ρ ρ' : Place} {H H2 H' H2' : Heap} {w w' : World} (h : Step ρ H w ρ' H' w') (n : H2.n = H.n) (n' : H2'.n = H'.n) (p : H2.ents.Perm H.ents) (p' : H2'.ents.Perm H'.ents) : Step ρ H2 w ρ' H2' w' where
  le := h.le
  size := h.size
  keeps := fun k hk hn => h.keeps k hk fun e he => hn e (p.mem_iff.2 he)
  rows := fun e' he' l' hl' => by
    rcases h.rows e' (p'.mem_iff.1 he') l' hl' with ⟨e, he, x⟩ | x
    · exact .inl ⟨e, p.mem_iff.2 he, x⟩
    · exact .inr x
  num := by rw [n, n']; exact h.num
  low := fun b hb => h.low b (n ▸ hb)
  cold := fun k hk => by
    rcases h.cold k hk with x | ⟨e, he, x⟩ | x
    · exact .inl x
    · exact .inr (.inl ⟨e, p.mem_iff.2 he, x⟩)
    · exact .inr (.inr x)
theorem CallAt.perm {C : Ctx} {f : FuncId} {args : List AV} {H H2 H' H2' : Heap} {v : AV} (h : CallAt C f args H v H') (n : H2.n = H.n) (n' : H2'.n = H'.n) (p : H2.ents.Perm H.ents) (p' : H2'.ents.Perm H'.ents) : CallAt C f args H2 v H2' := by
  intro ρ w xs sm hx
  have sm' := sm.perm n.symm p.symm
  rcases h ρ w xs sm' hx with ⟨x, ρ', w', h0, h1, h2, h3⟩ | ⟨g, ys, h0, h1⟩
  · exact .inl ⟨x, ρ', w', h0, h1, h2.perm n' p', h3.perm n n' p p'⟩
  · refine .inr ⟨g, ys, h0, h1.mono ?_⟩
    rintro e w' ⟨x, ρ', rfl, m1, m2, m3⟩
    exact ⟨x, ρ', rfl, m1, m2.perm n' p', m3.perm n n' p p'⟩
/-- rows of frames above count among the others -/
theorem perm_top {x : Nat × Blk} {f B g : List (Nat × Blk)} : (f ++ (x :: (B ++ g))).Perm (x :: (B ++ (f ++ g))) := by
  refine (List.perm_append_comm (l₁ := f) (l₂ := x :: (B ++ g))).trans ?_
  show (x :: ((B ++ g) ++ f)).Perm _
  refine List.Perm.cons _ ?_
  rw [List.append_assoc]
  exact List.Perm.append_left _ List.perm_append_comm
theorem CallAt.top {C : Ctx} {f : FuncId} {args : List AV} {v : AV} {m m' : Nat} {x x' : Nat × Blk} {fr B B' g g' : List (Nat × Blk)} (h : CallAt C f args ⟨m, [x :: (B ++ (fr ++ g))]⟩ v ⟨m', [x' :: (B' ++ (fr ++ g'))]⟩) : CallAt C f args ⟨m, [fr, x :: (B ++ g)]⟩ v ⟨m', [fr, x' :: (B' ++ g')]⟩ :=
  h.perm rfl rfl (by simpa [Heap.ents] using perm_top) (by simpa [Heap.ents] using perm_top)
/-! ### All numbers stay -/
def idn (m : Nat) : List (Nat × Nat) := (List.range m).map fun i => (i, i)
theorem idn_mem {m i : Nat} (h : i < m) : (i, i) ∈ idn m := List.mem_map.2 ⟨i, by simpa using h, rfl⟩
theorem lookN_of : ∀ {σ : List (Nat × Nat)} {i j : Nat}, (σ.map (·.1)).Nodup → (i, j) ∈ σ → lookN i σ = some j
  | [], _, _, _, h => by cases h
  | x :: r, i, j, nd, h => by
    rw [List.map_cons, List.nodup_cons] at nd
    unfold lookN
    rcases List.mem_cons.1 h with rfl | h
    · simp
    · have hne : ¬ x.1 = i := fun e => nd.1 (List.mem_map.2 ⟨_, h, e.symm⟩)
      rw [if_neg hne]
      exact lookN_of nd.2 h
theorem idn_nd (m : Nat) : ((idn m).map (·.1)).Nodup := by
  have : (idn m).map (·.1) = List.range m := by simp [idn, Function.comp_def]
  rw [this]; exact List.nodup_range
theorem idn_nd2 (m : Nat) : ((idn m).map (·.2)).Nodup := by
  have : (idn m).map (·.2) = List.range m := by simp [idn, Function.comp_def]
  rw [this]; exact List.nodup_range
theorem lookN_idn {m i : Nat} (h : i < m) : lookN i (idn m) = some i := lookN_of (idn_nd m) (idn_mem h)
def Idl (m : Nat) (σ : List (Nat × Nat)) : Prop := ∀ i, i < m → lookN i σ = some i
theorem idl_idn (m : Nat) : Idl m (idn m) := fun i h => lookN_idn h
theorem idl_cons {m k k' : Nat} (h : m ≤ k) : Idl m ((k, k') :: idn m) := fun i hi => by
  have : ¬ k = i := by omega
  simp [lookN, this, lookN_idn hi]
/-- what names numbers below m alone -/
def SelfB (m : Nat) (k : Blk) : Prop := ∀ σ, Idl m σ → fitB σ [] k k
theorem SelfB.mono {m m' : Nat} {k : Blk} (h : SelfB m k) (hm : m ≤ m') : SelfB m' k := fun σ hσ => h σ fun i hi => hσ i (by omega)
theorem self_pure {m : Nat} {cs : List AV} (h : pureL cs = true) : SelfB m (.cells cs) := fun σ _ => fitL_pure h
/-! ### A writer: its buffer's row -/
structure Bs where
  k : Nat
  out : Str
def bV (b : Bs) : AV := match b.out with
  | [] => .nilS
  | _ :: _ => .slc b.k 0 b.out.length (.rest 1)
def bF (b : Bs) : List (Nat × Blk) := match b.out with
  | [] => []
  | _ :: _ => [(b.k, .buf 5 b.out.length (bytesAV b.out))]
/-- more is written -/
def upd (m : Nat) (b : Bs) (s : Str) : Bs := match s with
  | [] => b
  | _ :: _ => ⟨m, b.out ++ s⟩
theorem bytes_len : ∀ (s : Str), (bytesAV s).length = s.length
  | [] => rfl
  | c :: r => by simp [bytesAV, bytes_len r]
theorem bytes_app : ∀ (s t : Str), bytesAV (s ++ t) = bytesAV s ++ bytesAV t
  | [], t => rfl
  | c :: r, t => by simp [bytesAV, bytes_app r t]
theorem bytes_pure : ∀ (s : Str), pureL (bytesAV s) = true
  | [] => rfl
  | c :: r => by simp [bytesAV, pureL, pureV, bytes_pure r]
theorem bytes_single : ∀ (s : Str), allSingle (bytesAV s) = true
  | [] => rfl
  | c :: r => by simp [bytesAV, allSingle, AV.single, bytes_single r]
theorem bF_mem {b : Bs} {e : Nat × Blk} (h : e ∈ bF b) : e = (b.k, .buf 5 b.out.length (bytesAV b.out)) ∧ b.out ≠ [] := by
  obtain ⟨k, out⟩ := b
  cases out with
  | nil => cases h
  | cons c r => exact ⟨by simpa [bF] using h, by simp⟩
theorem bF_ne {b : Bs} (h : b.out ≠ []) : bF b = [(b.k, .buf 5 b.out.length (bytesAV b.out))] := by
  obtain ⟨k, out⟩ := b
  cases out with
  | nil => exact absurd rfl h
  | cons c r => rfl
theorem bV_ne {b : Bs} (h : b.out ≠ []) : bV b = .slc b.k 0 b.out.length (.rest 1) := by
  obtain ⟨k, out⟩ := b
  cases out with
  | nil => exact absurd rfl h
  | cons c r => rfl
/-- the rows a writer is among, at the end of a function -/
theorem fitWr {m m' : Nat} {H : Heap} {σ : List (Nat × Nat)} {wb kc k' fz : Nat} {O O' : Blk} {out : Str} {g : List (Nat × Blk)} (hσ : (σ = idn m ∧ kc = k' ∧ (out ≠ [] → kc < m)) ∨ (σ = (kc, m) :: idn m ∧ k' = m ∧ m ≤ kc)) (hm : m < m')
    (lw : wb < m) (lg : ∀ e, e ∈ g → e.1 < m) (nd : (wb :: g.map (·.1)).Nodup) (hk : out ≠ [] → k' ∉ wb :: g.map (·.1)) (hO : H.get wb = some O) (fO : fitB σ [] O O') (hb : out ≠ [] → H.get kc = some (.buf 5 fz (bytesAV out))) (hfz : fz ≤ out.length)
    (hg : ∀ e, e ∈ g → H.get e.1 = some e.2 ∧ SelfB m e.2) : FitH m σ [] H ⟨m', [(wb, O') :: (bF ⟨k', out⟩ ++ g)]⟩ := by
  have idl : Idl m σ := by
    rcases hσ with ⟨rfl, _⟩ | ⟨rfl, _, h⟩
    · exact idl_idn m
    · exact idl_cons h
  have mem : ∀ i, i < m → (i, i) ∈ σ := fun i hi => by
    rcases hσ with ⟨rfl, _⟩ | ⟨rfl, _, h⟩
    · exact idn_mem hi
    · exact List.mem_cons_of_mem _ (idn_mem hi)
  have memk : out ≠ [] → (kc, k') ∈ σ := fun hne => by
    rcases hσ with ⟨rfl, rfl, h⟩ | ⟨rfl, rfl, h⟩
    · exact idn_mem (h hne)
    · exact List.mem_cons_self
  have sub : ∀ x, x ∈ σ → x.2 < m + 1 ∧ (x.1 < m ∨ x.2 < m → x.1 = x.2) := fun x hx => by
    have key : x ∈ idn m → x.2 < m + 1 ∧ (x.1 < m ∨ x.2 < m → x.1 = x.2) := fun h => by
      obtain ⟨i, hi, rfl⟩ := List.mem_map.1 h
      have : i < m := by simpa using hi
      exact ⟨by show i < m + 1; omega, fun _ => rfl⟩
    rcases hσ with ⟨rfl, _⟩ | ⟨rfl, rfl, h⟩
    · exact key hx
    · rcases List.mem_cons.1 hx with rfl | hx
      · exact ⟨by simp, fun h => by simp at h; omega⟩
      · exact key hx
  refine ⟨?_, ?_, ?_, fun x hx => by have := (sub x hx).1; show x.2 < m'; omega, fun x hx => (sub x hx).2, by show m ≤ m'; omega, ?_, fun x h => by cases h⟩
  · rcases hσ with ⟨rfl, _⟩ | ⟨rfl, _, h⟩
    · simpa using idn_nd m
    · simp only [List.map_nil, List.append_nil, List.map_cons, List.nodup_cons]
      refine ⟨?_, idn_nd m⟩
      simp [idn]; omega
  · rcases hσ with ⟨rfl, _⟩ | ⟨rfl, _, h⟩
    · exact idn_nd2 m
    · simp only [List.map_cons, List.nodup_cons]
      refine ⟨?_, idn_nd2 m⟩
      simp [idn]
  · simp only [Heap.ents, List.flatten_cons, List.flatten_nil, List.append_nil, List.map_cons, List.map_append]
    rw [List.nodup_cons] at nd ⊢
    by_cases hne : out = []
    · subst hne
      simpa [bF] using nd
    · have h1 := hk hne
      rw [bF_ne (b := ⟨k', out⟩) hne]
      simp only [List.mem_cons, not_or] at h1
      refine ⟨?_, ?_⟩
      · simp only [List.map_cons, List.map_nil, List.cons_append, List.nil_append, List.mem_cons, not_or]
        exact ⟨fun e => h1.1 e.symm, nd.1⟩
      · simp only [List.map_cons, List.map_nil, List.cons_append, List.nil_append, List.nodup_cons]
        exact ⟨h1.2, nd.2⟩
  · intro e he
    simp only [Heap.ents, List.flatten_cons, List.flatten_nil, List.append_nil, List.mem_cons, List.mem_append] at he
    rcases he with rfl | he | he
    · exact ⟨wb, O, mem wb lw, hO, fO⟩
    · obtain ⟨rfl, hne⟩ := bF_mem he
      exact ⟨kc, _, memk hne, hb hne, rfl, hfz, by show out.length ≤ (bytesAV out).length; rw [bytes_len]; exact Nat.le_refl _, fitL_pure (bytes_pure _)⟩
    · obtain ⟨h1, h2⟩ := hg e he
      exact ⟨e.1, e.2, mem _ (lg e he), h1, h2 σ idl⟩
end Go.Proofs.Ytohkgmnoamfmgaa
namespace Go.Proofs.Ytohkgmnoamfmgaa
set_option linter.unusedSimpArgs false
set_option linter.unusedVariables false
open Go Go.RowKit
set_option maxRecDepth 100000

def WF (wb : Nat) (ty : TypeId) (a : AV) (b : Bs) (cs : List AV) (g : List (Nat × Blk)) : List (Nat × Blk) := (wb, .obj ty (a :: bV b :: cs)) :: (bF b ++ g)
structure Wok (m wb : Nat) (b : Bs) (cs : List AV) (g : List (Nat × Blk)) : Prop where
  lw : wb < m
  lg : ∀ e, e ∈ g → e.1 < m
  nd : (wb :: g.map (·.1)).Nodup
  hk : b.out ≠ [] → b.k ∉ wb :: g.map (·.1) ∧ b.k < m
  sg : ∀ e, e ∈ g → SelfB m e.2
  sc : ∀ σ, Idl m σ → fitL σ [] cs cs
section
variable {m wb : Nat} {ty : TypeId} {a : AV} {b : Bs} {cs : List AV} {g : List (Nat × Blk)}
theorem Wok.mono (h : Wok m wb b cs g) {m' : Nat} (hm : m ≤ m') : Wok m' wb b cs g where
  lw := Nat.lt_of_lt_of_le h.lw hm
  lg := fun e he => Nat.lt_of_lt_of_le (h.lg e he) hm
  nd := h.nd
  hk := fun hne => ⟨(h.hk hne).1, Nat.lt_of_lt_of_le (h.hk hne).2 hm⟩
  sg := fun e he => (h.sg e he).mono hm
  sc := fun σ hσ => h.sc σ fun i hi => hσ i (by omega)
theorem Wok.upd (h : Wok m wb b cs g) (s : Str) : Wok (m + 1) wb (upd m b s) cs g := by
  have h' := h.mono (Nat.le_succ m)
  refine ⟨h'.lw, h'.lg, h'.nd, ?_, h'.sg, h'.sc⟩
  cases s with
  | nil => exact h'.hk
  | cons c r =>
    intro _
    refine ⟨?_, Nat.lt_succ_self m⟩
    intro hx
    simp only [Go.Proofs.Ytohkgmnoamfmgaa.upd] at hx
    rcases List.mem_cons.1 hx with hx | hx
    · have := h.lw; omega
    · obtain ⟨e, he, hx⟩ := List.mem_map.1 hx
      have := h.lg e he; omega
theorem WF_o : getF wb (WF wb ty a b cs g) = some (.obj ty (a :: bV b :: cs)) := by simp [WF, getF]
theorem WF_b (h : Wok m wb b cs g) (hne : b.out ≠ []) : getF b.k (WF wb ty a b cs g) = some (.buf 5 b.out.length (bytesAV b.out)) := by
  have h1 := (h.hk hne).1
  simp only [List.mem_cons, not_or] at h1
  have : Nat.beq wb b.k = false := beqN_ne fun e => h1.1 e.symm
  simp [WF, getF, this, bF_ne hne]
theorem WF_g (h : Wok m wb b cs g) {e : Nat × Blk} (he : e ∈ g) : getF e.1 (WF wb ty a b cs g) = some e.2 := by
  have nd := h.nd
  rw [List.nodup_cons] at nd
  have e1 : ¬ wb = e.1 := fun x => nd.1 (List.mem_map.2 ⟨e, he, x.symm⟩)
  have b1 : Nat.beq wb e.1 = false := beqN_ne e1
  have key : getF e.1 g = some e.2 := by
    have := get_of_mem (fs := [g]) (b := e.1) (k := e.2) (by simpa using nd.2) (by simpa using he)
    simp only [getFs] at this
    revert this
    cases getF e.1 g with
    | none => intro h; cases h
    | some x => intro h; exact h
  unfold WF getF
  rw [b1]
  by_cases hne : b.out = []
  · obtain ⟨k, out⟩ := b
    simp only at hne
    subst hne
    exact key
  · rw [bF_ne hne]
    have h1 := (h.hk hne).1
    simp only [List.mem_cons, not_or] at h1
    have b2 : Nat.beq b.k e.1 = false := beqN_ne fun x => h1.2 (List.mem_map.2 ⟨e, he, x.symm⟩)
    show getF e.1 ((b.k, _) :: g) = _
    unfold getF
    rw [b2]; exact key
theorem fit_obj {σ : List (Nat × Nat)} {kc k' : Nat} {out : Str} (hw : lookN wb σ = some wb) (hk : out ≠ [] → lookN kc σ = some k') (hc : fitL σ [] cs cs) : fitB σ [] (.obj ty (.ptr wb 0 :: bV ⟨kc, out⟩ :: cs)) (.obj ty (.ptr wb 0 :: bV ⟨k', out⟩ :: cs)) := by
  refine ⟨rfl, ?_⟩
  simp only [fitL, fitV, hw, true_and, and_true]
  refine ⟨?_, hc⟩
  cases out with
  | nil => simp [bV, fitV]
  | cons c r => simp [bV, fitV, hk (by simp)]
end
theorem reach_nil {todo : List Nat} {acc : List (Nat × Blk)} : ∀ {n : Nat}, reach n todo [] acc = (acc, [])
  | 0 => by unfold reach; rfl
  | n + 1 => by
    unfold reach
    cases todo <;> rfl
theorem promW {wb c : Nat} {f : List (Nat × Blk)} {kb : Blk} (h : getF wb f = some kb) : promote wb [c] [] [[], f] = [[], f] := by
  have e2 : refsF [] ++ [c] = [c] := rfl
  unfold promote
  have hn : getF wb [] = none := rfl
  rw [hn]
  simp only [reach_nil, e2]
  unfold promote
  rw [h]
  rfl
@[simp] theorem pe1 : binA Try.prog .eql 48 .nilP .nilP = some (.bool true) := rfl
@[simp] theorem pe2 (b o : Nat) : binA Try.prog .eql 48 (.ptr b o) .nilP = some (.bool false) := rfl
@[simp] theorem pe3 (b : Nat) : binA Try.prog .neq 48 (.ptr b 0) (.ptr b 0) = some (.bool false) := by
  have hs : sizeT Try.prog 51 = some 2 := szT51
  have hb : Nat.blt 0 2 = true := rfl
  simp [binA, eqA, hs, Nat.beq_refl, Try.underlying48, hb]
theorem cv1 {H : Heap} {wb : Nat} {ty : TypeId} {x : AV} {cs : List AV} (hg : H.get wb = some (.obj ty (x :: cs))) : convA Try.prog H 48 101 (.ptr wb 0) = some (.ptr wb 0, H) := by
  have hs : sizeT Try.prog 51 = some 2 := szT51
  have h1 : (Nat.blt 0 2 && Nat.blt 0 (x :: cs).length) = true := rfl
  simp [convA, Try.underlying48, Try.underlying101, hs, hg, Blk.rd, h1]
  rfl
theorem cv2 {H : Heap} {wb : Nat} {ty : TypeId} {cs : List AV} (hg : H.get wb = some (.obj ty cs)) (hl : liesAt Try.prog Try.prog.depth ty (cs.length / Try.prog.cellsOf ty) 0 51 1 = true) : convA Try.prog H 101 48 (.ptr wb 0) = some (.ptr wb 0, H) := by
  have hs : sizeT Try.prog 51 = some 2 := szT51
  simp [convA, Try.underlying48, Try.underlying101, hs, hg, hl]
theorem c73 {T : List (Entry Try.prog)} (hE : findE 82 T = some e82.g) {m wb : Nat} {ty : TypeId} {a : AV} {b : Bs} {cs : List AV} {g : List (Nat × Blk)} (h : Wok m wb b cs g) (ha : a = .nilP ∨ a = .ptr wb 0)
    (hl : liesAt Try.prog Try.prog.depth ty ((cs.length + 1 + 1) / Try.prog.cellsOf ty) 0 51 1 = true) : CallAt (ctx T) 73 [.ptr wb 0] ⟨m, [WF wb ty a b cs g]⟩ (.tup []) ⟨m + 1, [WF wb ty (.ptr wb 0) b cs g]⟩ := by
  have hfin : ∀ m1, FitH m (idn m) [] ⟨m1, [[], WF wb ty (.ptr wb 0) b cs g]⟩ ⟨m + 1, [WF wb ty (.ptr wb 0) b cs g]⟩ := fun m1 => by
    obtain ⟨k, out⟩ := b
    exact fitWr (kc := k) (k' := k) (fz := out.length) (out := out) (O := .obj ty (.ptr wb 0 :: bV ⟨k, out⟩ :: cs)) (.inl ⟨rfl, rfl, fun hne => (h.hk hne).2⟩) (by omega) h.lw h.lg h.nd (fun hne => (h.hk hne).1) (by simp [Heap.get, getFs, getF, WF_o])
      (fit_obj (lookN_idn h.lw) (fun hne => lookN_idn (h.hk hne).2) (h.sc _ (idl_idn m))) (fun hne => by simp only [Heap.get, getFs, getF]; rw [WF_b h hne]) (Nat.le_refl _) (fun e he => ⟨by simp only [Heap.get, getFs, getF]; rw [WF_g h he], h.sg e he⟩)
  have hset : ∀ x, setF wb (.obj ty (x :: bV b :: cs)) (WF wb ty a b cs g) = some (WF wb ty x b cs g) := fun x => by simp [WF, setF]
  refine callAt_body (fn := Try.f73) (s0 := ⟨[0], [.ptr wb 0], [], 20, ⟨m, [] :: [WF wb ty a b cs g]⟩⟩) Try.func73 rfl rfl rfl ?_
  have hg : ∀ x, Heap.get ⟨m, [[], WF wb ty x b cs g]⟩ wb = some (.obj ty (x :: bV b :: cs)) := fun x => by simp [Heap.get, getFs, getF, WF_o]
  rcases ha with rfl | rfl
  · have v1 := cv1 (hg .nilP)
    have v2 := cv2 (hg .nilP) (by simpa using hl)
    repeat refine wps_seq ?_
    refine wps_region callOK ?_
    simp [ofV, ofV1, mkC_P, writeVar, writeCells, readCells, allSingle, AV.single, getFs, getF, setFs, setF, Heap.get, Heap.set, Heap.new, Heap.kill, killF, pushF, Heap.ready, refs, sliceParts, fillA, replL, WF_o]
    repeat refine wps_seq ?_
    refine wps_cond (t := true) rfl (fun _ => ?_) fun h => by cases h
    repeat refine wps_seq ?_
    refine wps_region callOK ?_
    simp [ofV, ofV1, mkC_P, writeVar, writeCells, readCells, allSingle, AV.single, getFs, getF, setFs, setF, Heap.get, Heap.set, Heap.new, Heap.kill, killF, pushF, Heap.ready, refs, sliceParts, fillA, replL, v1, v2, k82 hE, WF_o, promW WF_o, hset]
    exact ⟨[], rfl, idn m, [], by simp [oneOr, fitV, fitL], hfin m⟩
  · repeat refine wps_seq ?_
    refine wps_region callOK ?_
    simp [ofV, ofV1, mkC_P, writeVar, writeCells, readCells, allSingle, AV.single, getFs, getF, setFs, setF, Heap.get, Heap.set, Heap.new, Heap.kill, killF, pushF, Heap.ready, refs, sliceParts, fillA, replL, WF_o]
    repeat refine wps_seq ?_
    refine wps_cond (t := false) rfl (fun h => by cases h) fun _ => ?_
    repeat refine wps_seq ?_
    refine wps_region callOK ?_
    simp [ofV, ofV1, mkC_P, writeVar, writeCells, readCells, allSingle, AV.single, getFs, getF, setFs, setF, Heap.get, Heap.set, Heap.new, Heap.kill, killF, pushF, Heap.ready, refs, sliceParts, fillA, replL, WF_o]
    repeat refine wps_seq ?_
    refine wps_cond (t := false) rfl (fun h => by cases h) fun _ => ?_
    repeat refine wps_seq ?_
    refine wps_skip ?_
    simp
    exact ⟨[], rfl, idn m, [], by simp [oneOr, fitV, fitL], hfin m⟩
end Go.Proofs.Ytohkgmnoamfmgaa
namespace Go.Proofs.Ytohkgmnoamfmgaa
set_option linter.unusedSimpArgs false
set_option linter.unusedVariables false
open Go Go.RowKit
set_option maxRecDepth 100000

theorem reach_one {n b : Nat} {k : Blk} {x : Nat × Blk} {f acc : List (Nat × Blk)} (h : getF b (x :: f) = some k) (hk : refsB k = []) : reach (Nat.succ (Nat.succ n)) [b] (x :: f) acc = ((b, k) :: acc, killF b (x :: f)) := by
  unfold reach
  simp only [h, hk, List.nil_append]
  unfold reach
  rfl
theorem prom2 {wb c : Nat} {k : Blk} {x : Nat × Blk} {f1 f2 : List (Nat × Blk)} {kb : Blk} (n1 : getF wb (x :: f1) = none) (n2 : getF wb f2 = some kb) (h1 : getF c (x :: f1) = some k) (hk : refsB k = []) :
    promote wb [c] [] [x :: f1, f2] = [killF c (x :: f1), (c, k) :: f2] := by
  have r1 : reach 100000 [c] (x :: f1) [] = ([(c, k)], killF c (x :: f1)) := reach_one (n := 99998) h1 hk
  have e1 : refsF [(c, k)] ++ [c] = [c] := by simp [refsF, hk]
  unfold promote
  rw [n1]
  simp only [r1, e1]
  unfold promote
  rw [n2]
  rfl
theorem refs_bytes (t : TypeId) (fz : Nat) (s : Str) : refsB (.buf t fz (bytesAV s)) = [] := by
  show (bytesAV s).flatMap (refs 4) = []
  induction s with
  | nil => rfl
  | cons c r ih => rw [bytesAV, List.flatMap_cons, ih]; rfl
theorem src_str {H : Heap} (s : Str) : srcLen (.str s) = some s.length ∧ srcCells H 1 s.length (.str s) = some (bytesAV s) := by
  refine ⟨rfl, ?_⟩
  simp [srcCells]
theorem lay_nil {α : Type} : ∀ (n : Nat) (l : List α), n ≤ l.length → layL [] n l = some l
  | 0, l, _ => by unfold layL overL; rfl
  | n + 1, [], h => by simp at h
  | n + 1, x :: r, h => by
    show (layL [] n r).bind _ = _
    rw [lay_nil n r (by simpa using h)]; rfl
theorem setF_same {b : Nat} {k : Blk} : ∀ {l : List (Nat × Blk)}, getF b l = some k → setF b k l = some l
  | [], h => by cases h
  | x :: r, h => by
    unfold getF at h
    unfold setF
    split at h
    · rename_i hb
      simp only [Option.some.injEq] at h
      rw [← Nat.eq_of_beq_eq_true hb, ← h]
    · rename_i hb
      rw [setF_same h]; rfl
theorem app_bs {m wb : Nat} {ty : TypeId} {a : AV} {b : Bs} {cs : List AV} {g : List (Nat × Blk)} (h : Wok m wb b cs g) (s : Str) (hl : b.out.length + s.length ≤ 1000000000) :
    appendA Try.prog ⟨m, [[], WF wb ty a b cs g]⟩ 5 (bV b) (.str s) = match s with
      | [] => some (bV b, ⟨m, [[], WF wb ty a b cs g]⟩)
      | _ :: _ => some (.slc m 0 (b.out.length + s.length) (.rest 1), ⟨m + 1, [[(m, .buf 5 (if b.out = [] then 0 else b.out.length) (bytesAV (b.out ++ s)))], (wb, .obj ty (a :: bV b :: cs)) :: g]⟩) := by
  have hsz : sizeT Try.prog 5 = some 1 := szT5
  have hby : bytesT Try.prog 5 = some 1 := byT5
  have hz : zeroOf Try.prog 5 = some (.int .u8 0) := zeT5
  have hroom : ∀ n, n ≤ 1000000000 → roomOK n 1 = true := fun n hn => by simp [roomOK]; omega
  have c0 : (Nat.beq 1 0 || !(Nat.beq (AV.cells (.int .u8 0)).length 1 && Nat.blt 0 1)) = false := rfl
  have hrow : ∀ cs, rowA Try.prog 5 cs = .buf 5 0 cs := fun cs => rfl
  obtain ⟨hx1, hx2⟩ := src_str (H := ⟨m, [[], WF wb ty a b cs g]⟩) s
  obtain ⟨k, out⟩ := b
  simp only at hl
  unfold appendA
  simp only [hsz, hby, hz, hx1, Option.bind_some, c0]
  cases out with
  | nil =>
    simp only [bV]
    cases s with
    | nil => rfl
    | cons d q =>
      have hr := hroom (q.length + 1) (by simp at hl; omega)
      have hcb : Nat.beq (bytesAV (d :: q)).length ((q.length + 1) * 1) = true := by rw [bytes_len]; simp
      simp only [List.length_cons] at hx2 ⊢
      simp only [hr, hx2, Option.bind_some, hcb, hrow]
      simp [Heap.new, pushF, WF, bV, bF]
  | cons c r =>
    have hg : Heap.get ⟨m, [[], WF wb ty a ⟨k, c :: r⟩ cs g]⟩ k = some (.buf 5 (c :: r).length (bytesAV (c :: r))) := by
      have := WF_b (ty := ty) (a := a) h (by simp)
      simp only [Heap.get, getFs, getF]
      rw [this]
    have hk : knownCells ⟨m, [[], WF wb ty a ⟨k, c :: r⟩ cs g]⟩ k = some (c :: r).length := by
      unfold knownCells; simp only [hg, Option.bind_some, Blk.rd, bytes_len]
    have hr := hroom ((c :: r).length + s.length) hl
    have h1 : Nat.beq 1 1 = true := rfl
    simp only [bV, hx2, Option.bind_some, hr, bytes_single, h1, hk]
    cases s with
    | nil =>
      have h2 : Nat.ble (0 + ((c :: r).length + ([] : Str).length) * 1) (c :: r).length = true := by simp
      simp only [h2]
      have hw : writeCells ⟨m, [[], WF wb ty a ⟨k, c :: r⟩ cs g]⟩ k (0 + (c :: r).length * 1) (bytesAV []) = some ⟨m, [[], WF wb ty a ⟨k, c :: r⟩ cs g]⟩ := by
        have hs : setF k (.buf 5 (c :: r).length (bytesAV (c :: r))) (WF wb ty a ⟨k, c :: r⟩ cs g) = some (WF wb ty a ⟨k, c :: r⟩ cs g) := setF_same (WF_b (ty := ty) (a := a) h (by simp))
        have hw1 : Blk.wt (.buf 5 (c :: r).length (bytesAV (c :: r))) (0 + (c :: r).length * 1) = some (bytesAV (c :: r)) := by
          have : Nat.ble (c :: r).length (0 + (c :: r).length * 1) = true := by simp
          simp only [Blk.wt, this]
        have hl2 : layL (bytesAV []) (0 + (c :: r).length * 1) (bytesAV (c :: r)) = some (bytesAV (c :: r)) := lay_nil _ _ (by rw [bytes_len]; simp)
        simp only [writeCells, hg, Option.bind_some, hw1, hl2]
        have hb0 : bytesAV [] = [] := rfl
        rw [hb0]
        simp only [Heap.ready, List.flatMap_nil, Heap.set, setFs, setF, Blk.re, hs, Option.bind_some, Option.bind_none]
      rw [hw]
      simp
    | cons d q =>
      have h2 : Nat.ble (0 + ((c :: r).length + (d :: q).length) * 1) (c :: r).length = false := by
        rw [← Bool.not_eq_true, Nat.ble_eq]; simp
      have h3 : Nat.beq (0 + (c :: r).length * 1) (c :: r).length = true := by simp
      have h4 : readCells ⟨m, [[], WF wb ty a ⟨k, c :: r⟩ cs g]⟩ k 0 ((c :: r).length * 1) = some (bytesAV (c :: r)) := by
        unfold readCells
        simp only [hg, Option.bind_some, Blk.rd, subL, List.drop_zero, Nat.mul_one]
        rw [← bytes_len (c :: r)]
        exact takeL_all _
      have h5 : Nat.beq (bytesAV (d :: q)).length ((d :: q).length * 1) = true := by rw [bytes_len]; simp
      have h6 : goOn (.buf 5 (c :: r).length (bytesAV (c :: r))) 5 0 (bytesAV (c :: r) ++ bytesAV (d :: q)) = some (.buf 5 (c :: r).length (bytesAV (c :: r) ++ bytesAV (d :: q))) := rfl
      simp only [h2, h3, h4, h5, Option.bind_some, hg, h6]
      have hd : Heap.drop ⟨m, [[], WF wb ty a ⟨k, c :: r⟩ cs g]⟩ k = ⟨m, [[], (wb, .obj ty (a :: bV ⟨k, c :: r⟩ :: cs)) :: g]⟩ := by
        have hkw := (h.hk (by simp)).1
        simp only [List.mem_cons, not_or] at hkw
        have e1 : Nat.beq wb k = false := beqN_ne fun e => hkw.1 e.symm
        simp [Heap.drop, killFs, getF, WF, e1, bF, killF]
      rw [hd, ← bytes_app]
      simp [Heap.new, pushF, bV]
theorem fit_stay {m n wb : Nat} {ty : TypeId} {b : Bs} {cs : List AV} {g : List (Nat × Blk)} (h : Wok m wb b cs g) : FitH m (idn m) [] ⟨n, [[], WF wb ty (.ptr wb 0) b cs g]⟩ ⟨m + 1, [WF wb ty (.ptr wb 0) b cs g]⟩ := by
  obtain ⟨k, out⟩ := b
  exact fitWr (kc := k) (k' := k) (fz := out.length) (out := out) (O := .obj ty (.ptr wb 0 :: bV ⟨k, out⟩ :: cs)) (.inl ⟨rfl, rfl, fun hne => (h.hk hne).2⟩) (by omega) h.lw h.lg h.nd (fun hne => (h.hk hne).1) (by simp [Heap.get, getFs, getF, WF_o])
    (fit_obj (lookN_idn h.lw) (fun hne => lookN_idn (h.hk hne).2) (h.sc _ (idl_idn m))) (fun hne => by simp only [Heap.get, getFs, getF]; rw [WF_b h hne]) (Nat.le_refl _) (fun e he => ⟨by simp only [Heap.get, getFs, getF]; rw [WF_g h he], h.sg e he⟩)
/-- the rows of a writer whose buffer is new, c its number -/
theorem fit_new {m n c wb fz : Nat} {ty : TypeId} {out : Str} {b0 : Bs} {cs : List AV} {g : List (Nat × Blk)} (h : Wok m wb b0 cs g) (hc : m ≤ c) (hne : out ≠ []) (hfz : fz ≤ out.length) :
    FitH m ((c, m) :: idn m) [] ⟨n, [[], (c, .buf 5 fz (bytesAV out)) :: (wb, .obj ty (.ptr wb 0 :: .slc c 0 out.length (.rest 1) :: cs)) :: g]⟩ ⟨m + 1, [WF wb ty (.ptr wb 0) ⟨m, out⟩ cs g]⟩ := by
  have hw : Nat.beq c wb = false := beqN_ne (by have := h.lw; omega)
  have hbv : bV ⟨c, out⟩ = .slc c 0 out.length (.rest 1) := bV_ne (b := ⟨c, out⟩) hne
  have idl := idl_cons (m := m) (k := c) (k' := m) hc
  refine fitWr (kc := c) (k' := m) (fz := fz) (out := out) (O := .obj ty (.ptr wb 0 :: .slc c 0 out.length (.rest 1) :: cs)) (.inr ⟨rfl, rfl, hc⟩) (by omega) h.lw h.lg h.nd (fun _ hx => ?_) (by simp [Heap.get, getFs, getF, hw]) ?_ (fun _ => by simp [Heap.get, getFs, getF]) hfz (fun e he => ⟨?_, h.sg e he⟩)
  · rcases List.mem_cons.1 hx with hx | hx
    · have := h.lw; omega
    · obtain ⟨e, he, hx⟩ := List.mem_map.1 hx
      have := h.lg e he; omega
  · rw [← hbv]
    exact fit_obj (idl _ h.lw) (fun _ => by simp [lookN]) (h.sc _ idl)
  · have nd := h.nd
    rw [List.nodup_cons] at nd
    have e1 : Nat.beq wb e.1 = false := beqN_ne fun x => nd.1 (List.mem_map.2 ⟨e, he, x.symm⟩)
    have e2 : Nat.beq c e.1 = false := beqN_ne (by have := h.lg e he; omega)
    have := get_of_mem (fs := [g]) (b := e.1) (k := e.2) (by simpa using nd.2) (by simpa using he)
    simp only [getFs] at this
    simp only [Heap.get, getFs, getF, e1, e2]
    exact this
theorem c61 {T : List (Entry Try.prog)} (hE : findE 82 T = some e82.g) {m wb : Nat} {ty : TypeId} {a : AV} {b : Bs} {cs : List AV} {g : List (Nat × Blk)} (h : Wok m wb b cs g) (ha : a = .nilP ∨ a = .ptr wb 0)
    (hl : liesAt Try.prog Try.prog.depth ty ((cs.length + 1 + 1) / Try.prog.cellsOf ty) 0 51 1 = true) (s : Str) (hs : b.out.length + s.length ≤ 1000000000) :
    CallAt (ctx T) 61 [.ptr wb 0, .str s] ⟨m, [WF wb ty a b cs g]⟩ (.tup [.int .i64 (s.length : Nat), .nilI]) ⟨m + 1, [WF wb ty (.ptr wb 0) (upd m b s) cs g]⟩ := by
  have hcc := (c73 (T := T) hE h ha hl).perm (H2 := ⟨m, [[], WF wb ty a b cs g]⟩) (H2' := ⟨m + 1, [[], WF wb ty (.ptr wb 0) b cs g]⟩) rfl rfl (by simp [Heap.ents]) (by simp [Heap.ents])
  have h1 := h.mono (Nat.le_succ m)
  have happ := app_bs (ty := ty) (a := .ptr wb 0) h1 s hs
  refine callAt_body (fn := Try.f61) (s0 := ⟨[0, 1, 4, 5], [.ptr wb 0, .str s, .undef, .undef], [], 19, ⟨m, [] :: [WF wb ty a b cs g]⟩⟩) Try.func61 rfl rfl rfl ?_
  repeat refine wps_seq ?_
  refine wps_region callOK ?_
  simp [ofV, ofV1, mkC_P, writeVar, writeCells, readCells, allSingle, AV.single, getFs, getF, setFs, setF, Heap.get, Heap.set, Heap.new, Heap.kill, killF, pushF, Heap.ready, refs, sliceParts, fillA, replL]
  repeat refine wps_seq ?_
  refine wps_region (callOKF [⟨73, _, _, _, _, hcc⟩]) ?_
  simp [ofV, ofV1, mkC_P, writeVar, writeCells, readCells, allSingle, AV.single, getFs, getF, setFs, setF, Heap.get, Heap.set, Heap.new, Heap.kill, killF, pushF, Heap.ready, refs, sliceParts, fillA, replL, callF]
  have hO : ∀ n, Heap.get ⟨n, [[], WF wb ty (.ptr wb 0) b cs g]⟩ wb = some (.obj ty (.ptr wb 0 :: bV b :: cs)) := fun n => by simp [Heap.get, getFs, getF, WF_o]
  cases s with
  | nil =>
    simp only at happ
    have hset : setF wb (.obj ty (.ptr wb 0 :: bV b :: cs)) (WF wb ty (.ptr wb 0) b cs g) = some (WF wb ty (.ptr wb 0) b cs g) := setF_same WF_o
    obtain ⟨k, out⟩ := b
    cases out with
    | nil =>
      simp only [bV] at happ hset
      repeat refine wps_seq ?_
      refine wps_region callOK ?_
      simp [ofV, ofV1, mkC_P, writeVar, writeCells, readCells, allSingle, AV.single, getFs, getF, setFs, setF, Heap.get, Heap.set, Heap.new, Heap.kill, killF, pushF, Heap.ready, refs, sliceParts, fillA, replL, WF_o, bV, happ, hset]
      repeat refine wps_seq ?_
      refine wps_region callOK ?_
      simp [ofV, ofV1, mkC_P, writeVar, writeCells, readCells, allSingle, AV.single, getFs, getF, setFs, setF, Heap.get, Heap.set, Heap.new, Heap.kill, killF, pushF, Heap.ready, refs, sliceParts, fillA, replL]
      repeat refine wps_seq ?_
      refine wps_ret ?_
      simp [retVal, Try.f61, oneOr]
      exact ⟨idn m, [], by simp [fitV, fitL, pureV, pureL], fit_stay h⟩
    | cons c r =>
      simp only [bV, List.length_cons] at happ hset
      repeat refine wps_seq ?_
      refine wps_region callOK ?_
      simp [ofV, ofV1, mkC_P, writeVar, writeCells, readCells, allSingle, AV.single, getFs, getF, setFs, setF, Heap.get, Heap.set, Heap.new, Heap.kill, killF, pushF, Heap.ready, refs, sliceParts, fillA, replL, WF_o, bV, happ, hset, promW WF_o]
      repeat refine wps_seq ?_
      refine wps_region callOK ?_
      simp [ofV, ofV1, mkC_P, writeVar, writeCells, readCells, allSingle, AV.single, getFs, getF, setFs, setF, Heap.get, Heap.set, Heap.new, Heap.kill, killF, pushF, Heap.ready, refs, sliceParts, fillA, replL]
      repeat refine wps_seq ?_
      refine wps_ret ?_
      simp [retVal, Try.f61, oneOr]
      exact ⟨idn m, [], by simp [fitV, fitL, pureV, pureL], fit_stay h⟩
  | cons d q =>
    simp only at happ
    have hbw : Nat.beq (m + 1) wb = false := beqN_ne (by have := h.lw; omega)
    have pr := prom2 (wb := wb) (c := m + 1) (k := .buf 5 (if b.out = [] then 0 else b.out.length) (bytesAV (b.out ++ d :: q))) (x := (m + 1, .buf 5 (if b.out = [] then 0 else b.out.length) (bytesAV (b.out ++ d :: q)))) (f1 := []) (f2 := (wb, .obj ty (.ptr wb 0 :: bV b :: cs)) :: g) (kb := .obj ty (.ptr wb 0 :: bV b :: cs)) (by simp [getF, hbw]) (by simp [getF]) (by simp [getF]) (refs_bytes _ _ _)
    repeat refine wps_seq ?_
    refine wps_region callOK ?_
    simp [ofV, ofV1, mkC_P, writeVar, writeCells, readCells, allSingle, AV.single, getFs, getF, setFs, setF, Heap.get, Heap.set, Heap.new, Heap.kill, killF, pushF, Heap.ready, refs, sliceParts, fillA, replL, WF_o, happ, hbw, pr, killF]
    repeat refine wps_seq ?_
    refine wps_region callOK ?_
    simp [ofV, ofV1, mkC_P, writeVar, writeCells, readCells, allSingle, AV.single, getFs, getF, setFs, setF, Heap.get, Heap.set, Heap.new, Heap.kill, killF, pushF, Heap.ready, refs, sliceParts, fillA, replL]
    repeat refine wps_seq ?_
    refine wps_ret ?_
    simp [retVal, Try.f61, oneOr]
    refine ⟨(m + 1, m) :: idn m, [], by simp [fitV, fitL, pureV, pureL], ?_⟩
    have := fit_new (n := m + 1 + 1) (ty := ty) (c := m + 1) (out := b.out ++ d :: q) (fz := if b.out = [] then 0 else b.out.length) h (by omega) (by simp) (by split <;> simp)
    simpa [upd] using this
end Go.Proofs.Ytohkgmnoamfmgaa
namespace Go.Proofs.Ytohkgmnoamfmgaa
set_option linter.unusedSimpArgs false
set_option linter.unusedVariables false
open Go Go.RowKit
set_option maxRecDepth 100000

theorem u8_back (c : UInt8) : UInt8.ofNat c.toNat = c := by simp
theorem bytesS_b : ∀ (s : Str), bytesS (bytesAV s) = some s
  | [] => rfl
  | c :: r => by
    have h1 := bytesS_b r
    have h2 : byteS1 (.int .u8 c.toNat) = some c := by
      show (idx (c.toNat : Int) 256).bind _ = _
      rw [idx_nat (by have := c.toNat_lt; omega)]
      simp
    simp only [bytesAV, bytesS, h1, h2, Option.bind_some]
theorem sd0 {H : Heap} {ts : Array TypeId} : builtinA Try.prog H .unsafeSliceData ts [.nilS] = some (.nilP, H) := rfl
theorem sd1 {H : Heap} {ts : Array TypeId} {k n : Nat} {cap : Cap} : builtinA Try.prog H .unsafeSliceData ts [.slc k 0 (n + 1) cap] = some (.ptr k 0, H) := rfl
theorem us0 {H : Heap} : builtinA Try.prog H .unsafeString #[74, 3] [.nilP, .int .i64 0] = some (.str [], H) := rfl
theorem us1 {H : Heap} {k : Nat} {out : Str} (hg : H.get k = some (.buf 5 out.length (bytesAV out))) (hs : H.set k (.buf 5 out.length (bytesAV out)) = some H) (hne : out ≠ []) (hl : out.length ≤ 1000000000) :
    builtinA Try.prog H .unsafeString #[74, 3] [.ptr k 0, .int .i64 (out.length : Nat)] = some (.str out, H) := by
  have h0 : idx (out.length : Int) 140737488355328 = some out.length := idx_nat (by omega)
  have hpos : Nat.blt 0 out.length = true := by
    have := List.length_pos_iff.2 hne
    simpa using this
  have h1 : (Nat.beq 5 5 && Nat.beq 0 0 && Nat.blt 0 out.length) = true := by rw [hpos]; rfl
  have hc : Nat.beq (Try.prog.cellsOf 5) 1 = true := by kernel_rfl
  have ht : takeL out.length (bytesAV out) = some (bytesAV out) := by
    have := takeL_all (bytesAV out)
    rwa [bytes_len] at this
  have hu : Try.prog.underlying 74 = some (.pointer 5) := Try.underlying74
  have hv : Try.prog.underlying 5 = some (.int .u8) := Try.underlying5
  have hts : (#[74, 3] : Array TypeId)[0]? = some 74 := rfl
  unfold builtinA
  simp only [h0, Option.bind_some, hts, hu, hg, h1, hv, hc, ht, bytesS_b, Nat.max_self, hs]
theorem c26 {T : List (Entry Try.prog)} {m wb : Nat} {ty : TypeId} {b : Bs} {cs : List AV} {g : List (Nat × Blk)} (h : Wok m wb b cs g) (hlen : b.out.length ≤ 1000000000) :
    CallAt (ctx T) 26 [.ptr wb 0] ⟨m, [WF wb ty (.ptr wb 0) b cs g]⟩ (.str b.out) ⟨m + 1, [WF wb ty (.ptr wb 0) b cs g]⟩ := by
  refine callAt_body (fn := Try.f26) (s0 := ⟨[0, 2], [.ptr wb 0, .undef], [], 14, ⟨m, [] :: [WF wb ty (.ptr wb 0) b cs g]⟩⟩) Try.func26 rfl rfl rfl ?_
  repeat refine wps_seq ?_
  refine wps_region callOK ?_
  simp [ofV, ofV1, mkC_P, writeVar, writeCells, readCells, allSingle, AV.single, getFs, getF, setFs, setF, Heap.get, Heap.set, Heap.new, Heap.kill, killF, pushF, Heap.ready, refs, sliceParts, fillA, replL]
  obtain ⟨k, out⟩ := b
  cases out with
  | nil =>
    repeat refine wps_seq ?_
    refine wps_drawK mixed callOK (by decide +kernel) (by decide +kernel) ?_
    simp [ofV, ofV1, mkC_P, writeVar, writeCells, readCells, allSingle, AV.single, getFs, getF, setFs, setF, Heap.get, Heap.set, Heap.new, Heap.kill, killF, pushF, Heap.ready, refs, sliceParts, fillA, replL, evalK_c, evalK_nil, thenK_some, WF_o, bV, lenA, sd0, us0]
    repeat refine wps_seq ?_
    refine wps_ret ?_
    simp [retVal, Try.f26, oneOr]
    exact ⟨idn m, [], fitV_pure rfl, fit_stay h⟩
  | cons c r =>
    have hg : ∀ n, Heap.get ⟨n, [[], WF wb ty (.ptr wb 0) ⟨k, c :: r⟩ cs g]⟩ k = some (.buf 5 (c :: r).length (bytesAV (c :: r))) := fun n => by
      have := WF_b (ty := ty) (a := .ptr wb 0) h (by simp)
      simp only [Heap.get, getFs, getF]
      rw [this]
    have hs : ∀ n, Heap.set ⟨n, [[], WF wb ty (.ptr wb 0) ⟨k, c :: r⟩ cs g]⟩ k (.buf 5 (c :: r).length (bytesAV (c :: r))) = some ⟨n, [[], WF wb ty (.ptr wb 0) ⟨k, c :: r⟩ cs g]⟩ := fun n => by
      have := setF_same (WF_b (ty := ty) (a := .ptr wb 0) h (by simp))
      simp only at this
      simp only [Heap.set, setFs, setF, this, Option.bind_some, Option.bind_none]
    have hu := fun n => us1 (hg n) (hs n) (by simp) hlen
    simp only [List.length_cons, Int.natCast_add, Int.natCast_one] at hu
    repeat refine wps_seq ?_
    refine wps_drawK mixed callOK (by decide +kernel) (by decide +kernel) ?_
    simp [ofV, ofV1, mkC_P, writeVar, writeCells, readCells, allSingle, AV.single, getFs, getF, setFs, setF, Heap.get, Heap.set, Heap.new, Heap.kill, killF, pushF, Heap.ready, refs, sliceParts, fillA, replL, evalK_c, evalK_nil, thenK_some, WF_o, bV, lenA, sd1, hu]
    repeat refine wps_seq ?_
    refine wps_ret ?_
    simp [retVal, Try.f26, oneOr]
    exact ⟨idn m, [], fitV_pure rfl, fit_stay h⟩
theorem c59 {T : List (Entry Try.prog)} {m wb : Nat} {ty : TypeId} {b : Bs} {cs : List AV} {g : List (Nat × Blk)} (h : Wok m wb b cs g) :
    CallAt (ctx T) 59 [.ptr wb 0] ⟨m, [WF wb ty (.ptr wb 0) b cs g]⟩ (.tup []) ⟨m + 1, [WF wb ty .nilP ⟨b.k, []⟩ cs g]⟩ := by
  refine callAt_body (fn := Try.f59) (s0 := ⟨[0], [.ptr wb 0], [], 8, ⟨m, [] :: [WF wb ty (.ptr wb 0) b cs g]⟩⟩) Try.func59 rfl rfl rfl ?_
  repeat refine wps_seq ?_
  refine wps_region callOK ?_
  simp [ofV, ofV1, mkC_P, writeVar, writeCells, readCells, allSingle, AV.single, getFs, getF, setFs, setF, Heap.get, Heap.set, Heap.new, Heap.kill, killF, pushF, Heap.ready, refs, sliceParts, fillA, replL, WF_o, WF]
  repeat refine wps_seq ?_
  refine wps_region callOK ?_
  simp [ofV, ofV1, mkC_P, writeVar, writeCells, readCells, allSingle, AV.single, getFs, getF, setFs, setF, Heap.get, Heap.set, Heap.new, Heap.kill, killF, pushF, Heap.ready, refs, sliceParts, fillA, replL]
  refine ⟨[], rfl, idn m, [], by simp [oneOr, fitV, fitL], ?_⟩
  refine fitWr (kc := b.k) (k' := b.k) (fz := 0) (out := []) (O := .obj ty (.nilP :: .nilS :: cs)) (.inl ⟨rfl, rfl, fun hne => absurd rfl hne⟩) (by omega) h.lw h.lg h.nd (fun hne => absurd rfl hne) (by simp [Heap.get, getFs, getF]) ⟨rfl, ?_⟩ (fun hne => absurd rfl hne) (Nat.le_refl _) (fun e he => ⟨?_, h.sg e he⟩)
  · simp only [fitL, bV, fitV, true_and]
    exact h.sc _ (idl_idn m)
  · have h1 := WF_g (ty := ty) (a := .nilP) h he
    have nd := h.nd
    rw [List.nodup_cons] at nd
    have e1 : Nat.beq wb e.1 = false := beqN_ne fun x => nd.1 (List.mem_map.2 ⟨e, he, x.symm⟩)
    simp only [WF, getF, e1] at h1
    simp only [Heap.get, getFs, getF, e1, h1]
end Go.Proofs.Ytohkgmnoamfmgaa
namespace Go.Proofs.Ytohkgmnoamfmgaa
set_option linter.unusedSimpArgs false
set_option linter.unusedVariables false
open Go Go.RowKit
set_option maxRecDepth 100000

/-- what stands for a character; how many bytes it takes -/
def refOf (q : Bool) : Str → Str × Nat
  | [] => ([], 1)
  | c :: r => if c = 38 then ([38, 97, 109, 112, 59], 1) else if c = 60 then ([38, 108, 116, 59], 1) else if c = 62 then ([38, 103, 116, 59], 1)
    else if c = 34 then (if q = true then [38, 113, 117, 111, 116, 59] else [], 1)
    else if c = 194 then (if r.head? = some 160 then ([38, 110, 98, 115, 112, 59], 2) else ([], 1)) else ([], 1)
def escF (q : Bool) : Nat → Str → Str
  | 0, _ => []
  | _ + 1, [] => []
  | f + 1, c :: r => match refOf q (c :: r) with
    | ([], _) => c :: escF q f r
    | (x :: y, n) => x :: y ++ escF q f ((c :: r).drop n)
def esc (q : Bool) (s : Str) : Str := escF q s.length s
theorem refOf_n (q : Bool) (s : Str) : (refOf q s).2 = 1 ∨ (refOf q s).2 = 2 := by
  cases s with
  | nil => exact .inl rfl
  | cons c r =>
    simp only [refOf]
    by_cases h1 : c = 38
    · simp [h1]
    by_cases h2 : c = 60
    · simp [h1, h2]
    by_cases h3 : c = 62
    · simp [h1, h2, h3]
    by_cases h4 : c = 34
    · cases q <;> simp [h1, h2, h3, h4]
    by_cases h5 : c = 194
    · by_cases h6 : r.head? = some 160 <;> simp [h1, h2, h3, h4, h5, h6]
    · simp [h1, h2, h3, h4, h5]
theorem refOf_len (q : Bool) (c : UInt8) (r : Str) : (refOf q (c :: r)).1.length ≤ 6 := by
    simp only [refOf]
    by_cases h1 : c = 38
    · simp [h1]
    by_cases h2 : c = 60
    · simp [h1, h2]
    by_cases h3 : c = 62
    · simp [h1, h2, h3]
    by_cases h4 : c = 34
    · cases q <;> simp [h1, h2, h3, h4]
    by_cases h5 : c = 194
    · by_cases h6 : r.head? = some 160 <;> simp [h1, h2, h3, h4, h5, h6]
    · simp [h1, h2, h3, h4, h5]
theorem escF_more (q : Bool) : ∀ (f : Nat) (s : Str), s.length ≤ f → escF q f s = escF q s.length s
  | 0, s, h => by
    have : s = [] := List.length_eq_zero_iff.1 (by omega)
    subst this; rfl
  | f + 1, [], _ => rfl
  | f + 1, c :: r, h => by
    simp only [List.length_cons] at h ⊢
    simp only [escF]
    have hn := refOf_n q (c :: r)
    split
    · rw [escF_more q f r (by omega)]
    · rename_i x y n he
      rw [he] at hn
      simp only at hn
      have hl : ((c :: r).drop n).length ≤ r.length := by simp; omega
      rw [escF_more q f _ (by omega), escF_more q r.length _ hl]
theorem esc_cons (q : Bool) (c : UInt8) (r : Str) : esc q (c :: r) = if (refOf q (c :: r)).1 = [] then c :: esc q r else (refOf q (c :: r)).1 ++ esc q ((c :: r).drop (refOf q (c :: r)).2) := by
  unfold esc
  rw [List.length_cons]
  simp only [escF]
  have hn := refOf_n q (c :: r)
  split
  · rename_i he
    rw [he]; rfl
  · rename_i x y n he
    rw [he] at hn ⊢
    simp only at hn
    have hl : ((c :: r).drop n).length ≤ r.length := by simp; omega
    rw [escF_more q r.length _ hl]
    simp
theorem esc_len (q : Bool) : ∀ (n : Nat) (s : Str), s.length ≤ n → (esc q s).length ≤ 6 * s.length
  | n, [], _ => by simp [esc, escF]
  | 0, c :: r, h => by simp at h
  | n + 1, c :: r, h => by
    simp only [List.length_cons] at h
    rw [esc_cons]
    have h1 := esc_len q n r (by omega)
    have h2 := esc_len q n ((c :: r).drop (refOf q (c :: r)).2) (by
      have := refOf_n q (c :: r)
      simp; omega)
    split
    · simp; omega
    · have h3 : (refOf q (c :: r)).1.length ≤ 6 := refOf_len q c r
      have hn := refOf_n q (c :: r)
      simp only [List.length_append, List.length_drop, List.length_cons] at h2 ⊢
      omega

def wStyle : Str := [115, 116, 121, 108, 101]
def openT (n : Nd) : Str := [60] ++ n.name ++ n.attrs.flatMap (fun a => [32] ++ a.1 ++ [61, 34] ++ esc true a.2 ++ [34]) ++ [62]
def closeT (n : Nd) : Str := [60, 47] ++ n.name ++ [62]
section
variable (void raw : Nd → Bool) (t : Tr)
def charsT (n : Nd) : Str := if 0 ≤ n.up ∧ n.up < (t.length : Int) ∧ raw (nodeAt t n.up) = true then n.data else esc false n.data
def kidsT (g : Int → List Int → Str × List Int) : List Int → List Int → Str × List Int
  | [], S => ([], S)
  | k :: r, S => ((g k S).1 ++ (kidsT g r (g k S).2).1, (kidsT g r (g k S).2).2)
/-- the text of a node, and who was written -/
def txtF : Nat → Int → List Int → Str × List Int
  | 0, _, S => ([], S)
  | f + 1, i, S => if i < 0 ∨ (t.length : Int) ≤ i ∨ i ∈ S then ([], S) else
    if (nodeAt t i).kind = 0 then kidsT (txtF f) (nodeAt t i).kids (S ++ [i])
    else if (nodeAt t i).kind = 1 then
      (if void (nodeAt t i) = true then openT (nodeAt t i) else openT (nodeAt t i) ++ (kidsT (txtF f) (nodeAt t i).kids (S ++ [i])).1 ++ closeT (nodeAt t i), (kidsT (txtF f) (nodeAt t i).kids (S ++ [i])).2)
    else if (nodeAt t i).kind = 2 then (charsT raw t (nodeAt t i), S ++ [i])
    else if (nodeAt t i).kind = 3 then ([60, 33, 45, 45] ++ (nodeAt t i).data ++ [45, 45, 62], S ++ [i])
    else if (nodeAt t i).kind = 4 then ([60, 33, 68, 79, 67, 84, 89, 80, 69, 32] ++ (nodeAt t i).data ++ [62], S ++ [i])
    else ([], S ++ [i])
/-- whom a list of written nodes may hold -/
structure SOK (S : List Int) : Prop where
  nd : S.Nodup
  rng : ∀ x, x ∈ S → 0 ≤ x ∧ x < (t.length : Int)
theorem nodup_len : ∀ (n : Nat) (S : List Int), S.Nodup → (∀ x, x ∈ S → 0 ≤ x ∧ x < (n : Int)) → S.length ≤ n
  | 0, S, _, h => by
    cases S with
    | nil => simp
    | cons x r => have := h x (by simp); omega
  | n + 1, S, nd, h => by
    have ih := nodup_len n (S.erase (n : Int)) (nd.erase _) fun x hx => by
      obtain ⟨h1, h2⟩ := h x (List.mem_of_mem_erase hx)
      have h3 : x ≠ (n : Int) := ((List.Nodup.mem_erase_iff nd).1 hx).1
      omega
    rw [List.length_erase] at ih
    split at ih <;> omega
theorem sok_len {S : List Int} (h : SOK t S) : S.length ≤ t.length := nodup_len _ S h.nd h.rng
theorem SOK.add {S : List Int} (h : SOK t S) {i : Int} (h0 : 0 ≤ i) (h1 : i < (t.length : Int)) (hn : i ∉ S) : SOK t (S ++ [i]) where
  nd := List.nodup_append.2 ⟨h.nd, by simp, fun a ha b hb => by
    rw [List.mem_singleton] at hb
    subst hb
    rintro rfl
    exact hn ha⟩
  rng := fun x hx => by
    rcases List.mem_append.1 hx with hx | hx
    · exact h.rng x hx
    · rw [List.mem_singleton] at hx; subst hx; exact ⟨h0, h1⟩
/-- how much a node may write -/
def bigT : Nat := 100000
structure Grows (S : List Int) (x : Str × List Int) : Prop where
  ok : SOK t x.2
  le : S.length ≤ x.2.length
  len : x.1.length ≤ bigT * (x.2.length - S.length)
theorem kids_grows {g : Int → List Int → Str × List Int} (hg : ∀ i S, SOK t S → Grows t S (g i S)) : ∀ (ks : List Int) (S : List Int), SOK t S → Grows t S (kidsT g ks S)
  | [], S, h => ⟨h, Nat.le_refl _, by simp [kidsT]⟩
  | k :: r, S, h => by
    have h1 := hg k S h
    have h2 := kids_grows hg r (g k S).2 h1.ok
    have a1 := h1.le
    have a2 := h2.le
    have a3 := h1.len
    have a4 := h2.len
    refine ⟨h2.ok, by simp only [kidsT]; omega, ?_⟩
    simp only [kidsT, List.length_append]
    have e : (kidsT g r (g k S).2).2.length - S.length = ((kidsT g r (g k S).2).2.length - (g k S).2.length) + ((g k S).2.length - S.length) := by omega
    rw [e, Nat.mul_add]
    omega
theorem open_len {n : Nd} (h : fewNd n = true) : (openT n).length ≤ 20000 := by
  simp only [fewNd, fewAts, Bool.and_eq_true, decide_eq_true_eq, List.all_eq_true] at h
  obtain ⟨h1, h2, h3, h4, h5⟩ := h
  have key : ∀ (l : List At1), (∀ a, a ∈ l → fewAt a = true) → (l.flatMap (fun a => [32] ++ a.1 ++ [61, 34] ++ esc true a.2 ++ [34])).length ≤ 1000 * l.length := by
    intro l
    induction l with
    | nil => intro _; simp
    | cons a r ih =>
      intro ha
      have h6 := ha a (by simp)
      simp only [fewAt, decide_eq_true_eq] at h6
      have h7 := esc_len true _ a.2 (Nat.le_refl _)
      have h8 := ih fun b hb => ha b (by simp [hb])
      simp only [List.flatMap_cons, List.length_append, List.length_cons, List.length_nil] at h8 ⊢
      omega
  have := key n.attrs h5
  simp only [openT, List.length_append, List.length_cons, List.length_nil]
  omega
theorem chars_len {n : Nd} (h : fewNd n = true) : (charsT raw t n).length ≤ 2000 := by
  simp only [fewNd, Bool.and_eq_true, decide_eq_true_eq] at h
  have := esc_len false _ n.data (Nat.le_refl _)
  unfold charsT
  split <;> omega
theorem txt_grows (hf : t.all fewNd = true) : ∀ (f : Nat) (i : Int) (S : List Int), SOK t S → Grows t S (txtF void raw t f i S)
  | 0, i, S, h => ⟨h, Nat.le_refl _, by simp [txtF]⟩
  | f + 1, i, S, h => by
    simp only [txtF]
    split
    · exact ⟨h, Nat.le_refl _, by simp⟩
    · rename_i hi
      simp only [not_or, Int.not_lt, Int.not_le] at hi
      obtain ⟨h0, h1, h2⟩ := hi
      have hn : fewNd (nodeAt t i) = true := List.all_eq_true.1 hf _ (nodeAt_mem h0 h1)
      have hA := h.add t h0 h1 h2
      have hk := kids_grows t (fun i S h => txt_grows hf f i S h) (nodeAt t i).kids (S ++ [i]) hA
      have k1 := hk.le
      have k2 := hk.len
      have ho := open_len hn
      have hc := chars_len raw t hn
      have hcl : (closeT (nodeAt t i)).length ≤ 100 := by
        simp only [fewNd, Bool.and_eq_true, decide_eq_true_eq] at hn
        simp only [closeT, List.length_append, List.length_cons, List.length_nil]
        omega
      have hd : (nodeAt t i).data.length ≤ 300 := by
        simp only [fewNd, Bool.and_eq_true, decide_eq_true_eq] at hn
        exact hn.2.1
      simp only [List.length_append, List.length_singleton, bigT] at k1 k2
      have one : ∀ x : Str, x.length ≤ 2000 → Grows t S (x, S ++ [i]) := fun x hx => ⟨hA, by simp, by simp [bigT]; omega⟩
      split
      · exact ⟨hk.ok, by omega, by show (kidsT (txtF void raw t f) (nodeAt t i).kids (S ++ [i])).1.length ≤ 100000 * ((kidsT (txtF void raw t f) (nodeAt t i).kids (S ++ [i])).2.length - S.length); omega⟩
      · split
        · refine ⟨hk.ok, by simp only; omega, ?_⟩
          split
          · show (openT (nodeAt t i)).length ≤ 100000 * ((kidsT (txtF void raw t f) (nodeAt t i).kids (S ++ [i])).2.length - S.length); omega
          · show (_ ++ _ ++ _ : Str).length ≤ 100000 * ((kidsT (txtF void raw t f) (nodeAt t i).kids (S ++ [i])).2.length - S.length)
            simp only [List.length_append]; omega
        · split
          · exact one _ hc
          · split
            · exact one _ (by simp only [List.length_append, List.length_cons, List.length_nil]; omega)
            · split
              · exact one _ (by simp only [List.length_append, List.length_cons, List.length_nil]; omega)
              · exact one _ (by simp)
end
end Go.Proofs.Ytohkgmnoamfmgaa
namespace Go.Proofs.Ytohkgmnoamfmgaa
set_option linter.unusedSimpArgs false
set_option linter.unusedVariables false
open Go Go.RowKit
set_option maxRecDepth 100000

/-- a text begins so -/
def preB (s t : Str) : Bool := decide (t.length ≤ s.length) && decide (s.take t.length = t)
theorem c83 {T : List (Entry Try.prog)} (s t : Str) : CallAt (ctx T) 83 [.str s, .str t] ⟨0, []⟩ (.bool (preB s t)) ⟨0, []⟩ := by
  refine callAt_body (fn := Try.f83) (s0 := ⟨[0, 1, 4], [.str s, .str t, .undef], [], 18, ⟨0, [[]]⟩⟩) Try.func83 rfl rfl rfl ?_
  repeat refine wps_seq ?_
  refine wps_region callOK ?_
  simp [ofV, ofV1, mkC_P, writeVar, writeCells, readCells, allSingle, AV.single, getFs, getF, setFs, setF, Heap.get, Heap.set, Heap.new, Heap.kill, killF, pushF, Heap.ready, refs, sliceParts, fillA, replL]
  by_cases h : t.length ≤ s.length
  · repeat refine wps_seq ?_
    refine wps_region callOK ?_
    simp [ofV, ofV1, mkC_P, writeVar, writeCells, readCells, allSingle, AV.single, getFs, getF, setFs, setF, Heap.get, Heap.set, Heap.new, Heap.kill, killF, pushF, Heap.ready, refs, sliceParts, fillA, replL, h, slStrTo h]
    repeat refine wps_seq ?_
    refine wps_ret ?_
    simp [retVal, Try.f83, oneOr, thenQ, blockQ]
    exact ends_pure rfl (by simp [preB, h])
  · repeat refine wps_seq ?_
    refine wps_region callOK ?_
    simp [ofV, ofV1, mkC_P, writeVar, writeCells, readCells, allSingle, AV.single, getFs, getF, setFs, setF, Heap.get, Heap.set, Heap.new, Heap.kill, killF, pushF, Heap.ready, refs, sliceParts, fillA, replL, h]
    repeat refine wps_seq ?_
    refine wps_ret ?_
    simp [retVal, Try.f83, oneOr, thenQ, blockQ]
    exact ends_pure rfl (by simp [preB, h])
noncomputable def e83 : Entry Try.prog := mkE 83 [[], []] (fun x : Str × Str => [.str x.1, .str x.2]) (fun _ => True) (fun x => .bool (preB x.1 x.2)) fun x _ => c83 (T := []) x.1 x.2
theorem k83 {T : List (Entry Try.prog)} (hT : findE 83 T = some e83.g) (s t : Str) (H : Heap) : callL (ctx T) (.fn 83) [.str s, .str t] H = some (.bool (preB s t), H) :=
  mkE_scalar hT inj_str2 (s, t) trivial rfl (by simp)
theorem c77 {T : List (Entry Try.prog)} (hI : findE 83 T = some e83.g) (s t : Str) : CallAt (ctx T) 77 [.str s, .str t] ⟨0, []⟩ (.bool (preB s t)) ⟨0, []⟩ := by
  have hk := fun H => k83 hI s t H
  refine callAt_body (fn := Try.f77) (s0 := ⟨[0, 1, 4], [.str s, .str t, .undef], [], 8, ⟨0, [[]]⟩⟩) Try.func77 rfl rfl rfl ?_
  (repeat (first
    | (refine wps_seq ?_)
    | (refine wps_block ?_)
    | (refine wps_label ?_; simp only [thenQ, blockQ])
    | ((refine wps_region callOK ?_); simp [ofV, ofV1, mkC_P, writeVar, writeCells, readCells, allSingle, AV.single, getFs, getF, setFs, setF, Heap.get, Heap.set, Heap.new, Heap.kill, killF, pushF, Heap.ready, refs, sliceParts, fillA, replL, hk])
    | (refine wps_cond (t := true) rfl (fun _ => ?_) (fun h => by cases h))
    | (refine wps_cond (t := false) rfl (fun h => by cases h) (fun _ => ?_))
    | ((refine wps_skip ?_); simp only [thenQ, blockQ])
    | ((refine wps_exit ?_); simp [thenQ, blockQ])))
  repeat refine wps_seq ?_
  refine wps_ret ?_
  simp [retVal, Try.f77, oneOr, thenQ, blockQ]
  exact ends_pure rfl (by rfl)
noncomputable def e77 : Entry Try.prog := mkE 77 [[], []] (fun x : Str × Str => [.str x.1, .str x.2]) (fun _ => True) (fun x => .bool (preB x.1 x.2)) fun x _ => c77 (T := [e83]) rfl x.1 x.2
theorem k77 {T : List (Entry Try.prog)} (hT : findE 77 T = some e77.g) (s t : Str) (H : Heap) : callL (ctx T) (.fn 77) [.str s, .str t] H = some (.bool (preB s t), H) :=
  mkE_scalar hT inj_str2 (s, t) trivial rfl (by simp)
/-- the end of a function that wrote -/
theorem fit_done {m m2 n wb : Nat} {ty : TypeId} {b0 b2 : Bs} {cs : List AV} {g f : List (Nat × Blk)} (h : Wok m wb b0 cs g) (h2 : Wok m2 wb b2 cs g) (hne : b2.out ≠ []) (hk : m ≤ b2.k) (hf : ∀ i, i = b2.k ∨ i < m → getF i f = none) :
    FitH m ((b2.k, m) :: idn m) [] ⟨n, [f, WF wb ty (.ptr wb 0) b2 cs g]⟩ ⟨m + 1, [WF wb ty (.ptr wb 0) ⟨m, b2.out⟩ cs g]⟩ := by
  have idl := idl_cons (m := m) (k := b2.k) (k' := m) hk
  obtain ⟨k, out⟩ := b2
  simp only at hne hk hf idl
  refine fitWr (kc := k) (k' := m) (fz := out.length) (out := out) (O := .obj ty (.ptr wb 0 :: bV ⟨k, out⟩ :: cs)) (.inr ⟨rfl, rfl, hk⟩) (by omega) h.lw h.lg h.nd (fun _ hx => ?_) ?_ (fit_obj (idl _ h.lw) (fun _ => by simp [lookN]) (h.sc _ idl)) (fun _ => ?_) (Nat.le_refl _) (fun e he => ⟨?_, h.sg e he⟩)
  · rcases List.mem_cons.1 hx with hx | hx
    · have := h.lw; omega
    · obtain ⟨e, he, hx⟩ := List.mem_map.1 hx
      have := h.lg e he; omega
  · simp only [Heap.get, getFs]
    rw [hf wb (.inr h.lw), WF_o]
  · simp only [Heap.get, getFs]
    rw [hf k (.inl rfl), WF_b h2 hne]
  · simp only [Heap.get, getFs]
    rw [hf e.1 (.inr (h.lg e he)), WF_g h2 he]
/-- the same, where nothing was written -/
theorem fit_none {m n wb : Nat} {ty : TypeId} {b : Bs} {cs : List AV} {g f : List (Nat × Blk)} (h : Wok m wb b cs g) (hf : ∀ i, i < m → getF i f = none) : FitH m (idn m) [] ⟨n, [f, WF wb ty (.ptr wb 0) b cs g]⟩ ⟨m + 1, [WF wb ty (.ptr wb 0) b cs g]⟩ := by
  obtain ⟨k, out⟩ := b
  exact fitWr (kc := k) (k' := k) (fz := out.length) (out := out) (O := .obj ty (.ptr wb 0 :: bV ⟨k, out⟩ :: cs)) (.inl ⟨rfl, rfl, fun hne => (h.hk hne).2⟩) (by omega) h.lw h.lg h.nd (fun hne => (h.hk hne).1) (by simp only [Heap.get, getFs]; rw [hf wb h.lw, WF_o])
    (fit_obj (lookN_idn h.lw) (fun hne => lookN_idn (h.hk hne).2) (h.sc _ (idl_idn m))) (fun hne => by simp only [Heap.get, getFs]; rw [hf k (h.hk hne).2, WF_b h hne]) (Nat.le_refl _) (fun e he => ⟨by simp only [Heap.get, getFs]; rw [hf e.1 (h.lg e he), WF_g h he], h.sg e he⟩)
theorem upd_out (m : Nat) (b : Bs) (s : Str) : (upd m b s).out = b.out ++ s := by cases s <;> simp [upd]
theorem upd_ne {m : Nat} {b : Bs} {s : Str} (h : s ≠ []) : upd m b s = ⟨m, b.out ++ s⟩ := by cases s with
  | nil => exact absurd rfl h
  | cons c r => rfl
/-- two writes, as one -/
theorem fit_two {m n wb : Nat} {ty : TypeId} {b : Bs} {cs : List AV} {g : List (Nat × Blk)} (h : Wok m wb b cs g) (p r : Str) : ∃ σ, Idl m σ ∧ FitH m σ [] ⟨n, [[], WF wb ty (.ptr wb 0) (upd (m + 1) (upd m b p) r) cs g]⟩ ⟨m + 1, [WF wb ty (.ptr wb 0) (upd m b (p ++ r)) cs g]⟩ := by
  have h1 := h.upd p
  have h2 := h1.upd r
  by_cases hr : r = []
  · subst hr
    by_cases hp : p = []
    · subst hp
      exact ⟨_, idl_idn m, fit_none h fun _ _ => rfl⟩
    · have e : upd (m + 1) (upd m b p) [] = ⟨m, b.out ++ p⟩ := upd_ne hp
      rw [List.append_nil, e, upd_ne hp]
      rw [e] at h2
      exact ⟨_, idl_cons (Nat.le_refl m), fit_done h h2 (by simp [hp]) (Nat.le_refl _) fun _ _ => rfl⟩
  · have e : upd (m + 1) (upd m b p) r = ⟨m + 1, b.out ++ p ++ r⟩ := by rw [upd_ne hr, upd_out]
    rw [upd_ne (show p ++ r ≠ [] by simp [hr]), e]
    rw [e] at h2
    rw [← List.append_assoc]
    exact ⟨_, idl_cons (Nat.le_succ m), fit_done h h2 (by simp [hr]) (by simp) fun _ _ => rfl⟩
theorem c78 {T : List (Entry Try.prog)} (hE : findE 82 T = some e82.g) {m wb : Nat} {a : AV} {b : Bs} {q : Bool} {g : List (Nat × Blk)} (h : Wok m wb b [.bool q] g) (ha : a = .nilP ∨ a = .ptr wb 0) (p r : Str) (hs : b.out.length + p.length + r.length ≤ 1000000000) :
    CallAt (ctx T) 78 [.ptr wb 0, .str p, .str r] ⟨m, [WF wb 99 a b [.bool q] g]⟩ (.tup []) ⟨m + 1, [WF wb 99 (.ptr wb 0) (upd m b (p ++ r)) [.bool q] g]⟩ := by
  have hl : liesAt Try.prog Try.prog.depth 99 (([AV.bool q].length + 1 + 1) / Try.prog.cellsOf 99) 0 51 1 = true := by
    show liesAt Try.prog Try.prog.depth 99 (3 / Try.prog.cellsOf 99) 0 51 1 = true
    decide +kernel
  have f1 := (c61 (T := T) hE h ha hl p (by omega)).perm (H2 := ⟨m, [[], WF wb 99 a b [.bool q] g]⟩) (H2' := ⟨m + 1, [[], WF wb 99 (.ptr wb 0) (upd m b p) [.bool q] g]⟩) rfl rfl (by simp [Heap.ents]) (by simp [Heap.ents])
  have f2 := (c61 (T := T) hE (h.upd p) (.inr rfl) hl r (by rw [upd_out]; simp; omega)).perm (H2 := ⟨m + 1, [[], WF wb 99 (.ptr wb 0) (upd m b p) [.bool q] g]⟩) (H2' := ⟨m + 2, [[], WF wb 99 (.ptr wb 0) (upd (m + 1) (upd m b p) r) [.bool q] g]⟩) rfl rfl (by simp [Heap.ents]) (by simp [Heap.ents])
  refine callAt_body (fn := Try.f78) (s0 := ⟨[0, 1, 2], [.ptr wb 0, .str p, .str r], [], 16, ⟨m, [] :: [WF wb 99 a b [.bool q] g]⟩⟩) Try.func78 rfl rfl rfl ?_
  repeat refine wps_seq ?_
  refine wps_region (callOKF [⟨61, _, _, _, _, f1⟩]) ?_
  simp [ofV, ofV1, mkC_P, writeVar, writeCells, readCells, allSingle, AV.single, getFs, getF, setFs, setF, Heap.get, Heap.set, Heap.new, Heap.kill, killF, pushF, Heap.ready, refs, sliceParts, fillA, replL, callF]
  repeat refine wps_seq ?_
  refine wps_region (callOKF [⟨61, _, _, _, _, f2⟩]) ?_
  simp [ofV, ofV1, mkC_P, writeVar, writeCells, readCells, allSingle, AV.single, getFs, getF, setFs, setF, Heap.get, Heap.set, Heap.new, Heap.kill, killF, pushF, Heap.ready, refs, sliceParts, fillA, replL, callF]
  obtain ⟨σ, _, fh⟩ := fit_two (n := m + 2) (ty := 99) h p r
  exact ⟨[], rfl, σ, [], by simp [oneOr, fitV, fitL], fh⟩
end Go.Proofs.Ytohkgmnoamfmgaa
namespace Go.Proofs.Ytohkgmnoamfmgaa
set_option linter.unusedSimpArgs false
set_option linter.unusedVariables false
open Go Go.RowKit
set_option maxRecDepth 100000

theorem FitH.zero {n : Nat} {σ : List (Nat × Nat)} {Φ : List (Nat × List AV)} {H H' : Heap} (h : FitH n σ Φ H H') : FitH 0 σ Φ H H' := ⟨h.nd1, h.nd2, h.nd3, h.lt, fun _ _ h => by omega, Nat.zero_le _, h.src, h.frz⟩
theorem FitH.of_get {n : Nat} {σ : List (Nat × Nat)} {Φ : List (Nat × List AV)} {H H2 H' : Heap} (h : FitH n σ Φ H H') (e : ∀ b, H2.get b = H.get b) : FitH n σ Φ H2 H' := ⟨h.nd1, h.nd2, h.nd3, h.lt, h.idn, h.num, fun x hx => by
  obtain ⟨b, k, h1, h2, h3⟩ := h.src x hx
  exact ⟨b, k, h1, by rw [e]; exact h2, h3⟩, fun x hx => by
  obtain ⟨cs, h1, h2⟩ := h.frz x hx
  exact ⟨cs, by rw [e]; exact h1, h2⟩⟩
theorem get_nil {m : Nat} {f : List (Nat × Blk)} (b : Nat) : Heap.get ⟨m, [f]⟩ b = Heap.get ⟨m, [[], f]⟩ b := rfl
theorem wok0 (q : Bool) (m k : Nat) (out : Str) (hm : k < m) (hk : k ≠ 0) : Wok m 0 ⟨k, out⟩ [.bool q] [] where
  lw := by omega
  lg := fun e he => by cases he
  nd := by simp
  hk := fun _ => ⟨by simp [hk], hm⟩
  sg := fun e he => by cases he
  sc := fun σ _ => fitL_pure (by simp [pureL, pureV])
theorem bw (q : Bool) : buildA Try.prog 99 [(1, .bool q)] = some (.agg [.nilP, .nilS, .bool q]) := rfl
theorem pre_nb {r : Str} : preB (194 :: r) [194, 160] = decide (r.head? = some 160) := by
  cases r with
  | nil => rfl
  | cons d q =>
    simp only [preB, List.head?_cons]
    by_cases h : d = 160
    · subst h; simp
    · simp [h]
theorem wps_joinR {C : Ctx} {n : Nat} {r : Option Nat} {c d : Code} {s : St} {Q : Out → St → Prop} (φ : Prop) (s0 : St) (h1 : φ → WpSr C n r d s0 Q) (h2 : ∀ R : St → Prop, (∀ s', φ → s'.wT = s0 → R s') → WpSr C n r c s (thenQ R Q)) : WpSr C n r (.seq c d) s Q :=
  wps_join φ s0 h1 fun hj => h2 _ hj
theorem u8n {c : UInt8} {n : Nat} (hn : n < 256) : ((c.toNat : Int) = (n : Int)) ↔ c = UInt8.ofNat n := by
  constructor
  · intro h
    apply UInt8.toNat_inj.1
    simp
    omega
  · rintro rfl
    simp
    omega
def aW (fl : Bool) : AV := if fl = true then .ptr 0 0 else .nilP
theorem aW_or (fl : Bool) : aW fl = .nilP ∨ aW fl = .ptr 0 0 := by cases fl <;> simp [aW]
theorem refOf_room (q : Bool) (c : UInt8) (r : Str) : (refOf q (c :: r)).2 ≤ r.length + 1 := by
  simp only [refOf]
  by_cases h1 : c = 38
  · simp [h1]
  by_cases h2 : c = 60
  · simp [h1, h2]
  by_cases h3 : c = 62
  · simp [h1, h2, h3]
  by_cases h4 : c = 34
  · cases q <;> simp [h1, h2, h3, h4]
  by_cases h5 : c = 194
  · by_cases h6 : r.head? = some 160
    · cases r with
      | nil => simp at h6
      | cons d t => simp [h1, h2, h3, h4, h5, h6]
    · simp [h1, h2, h3, h4, h5, h6]
  · simp [h1, h2, h3, h4, h5]
theorem fitW {n k : Nat} {ty : TypeId} {fl : Bool} {out : Str} {q : Bool} (hk : k ≠ 0) : FitH 0 [(k, 1), (0, 0)] [] ⟨n, [WF 0 ty (aW fl) ⟨k, out⟩ [.bool q] []]⟩ ⟨2, [WF 0 ty (aW fl) ⟨1, out⟩ [.bool q] []]⟩ := by
  have k0 : Nat.beq 0 k = false := beqN_ne (fun e => hk e.symm)
  refine ⟨by simp [hk], by simp, ?_, by simp, by simp, by simp, ?_, by simp⟩
  · cases out <;> simp [Heap.ents, WF, bF]
  · intro e he
    cases out with
    | nil =>
      simp [Heap.ents, WF, bF] at he
      subst he
      exact ⟨0, _, by simp, rfl, rfl, by cases fl <;> simp [aW, bV, fitL, fitV, pureV, lookN, hk]⟩
    | cons c r =>
      simp [Heap.ents, WF, bF] at he
      rcases he with rfl | rfl
      · exact ⟨0, _, by simp, rfl, rfl, by cases fl <;> simp [aW, bV, fitL, fitV, pureV, lookN, hk]⟩
      · exact ⟨k, .buf 5 (r.length + 1) (bytesAV (c :: r)), by simp, by simp [Heap.get, getFs, getF, WF, bF, k0], rfl, Nat.le_refl _, by rw [bytes_len]; simp, fitL_pure (bytes_pure _)⟩
theorem c71 {T : List (Entry Try.prog)} (hE : findE 82 T = some e82.g) (hP : findE 77 T = some e77.g) (s : Str) (q : Bool) (hl : s.length ≤ 1000000) :
    CallAt (ctx T) 71 [.str s, .bool q] ⟨0, []⟩ (.str (esc q s)) ⟨0, []⟩ := by
  refine callAt_body (fn := Try.f71) (s0 := ⟨[0, 1, 4, 5, 6, 7, 8, 9, 20], [.str s, .bool q, .undef, .undef, .undef, .undef, .undef, .undef, .undef], [], 56, ⟨0, [[]]⟩⟩) Try.func71 rfl rfl rfl ?_
  repeat refine wps_seq ?_
  refine wps_region callOK ?_
  simp [ofV, ofV1, mkC_P, writeVar, writeCells, readCells, allSingle, AV.single, getFs, getF, setFs, setF, Heap.get, Heap.set, Heap.new, Heap.kill, killF, pushF, Heap.ready, refs, sliceParts, fillA, replL]
  repeat refine wps_seq ?_
  refine wps_region callOK ?_
  simp [ofV, ofV1, mkC_P, writeVar, writeCells, readCells, allSingle, AV.single, getFs, getF, setFs, setF, Heap.get, Heap.set, Heap.new, Heap.kill, killF, pushF, Heap.ready, refs, sliceParts, fillA, replL, bw]
  repeat refine wps_seq ?_
  refine wps_region callOK ?_
  simp [ofV, ofV1, mkC_P, writeVar, writeCells, readCells, allSingle, AV.single, getFs, getF, setFs, setF, Heap.get, Heap.set, Heap.new, Heap.kill, killF, pushF, Heap.ready, refs, sliceParts, fillA, replL]
  repeat refine wps_seq ?_
  refine wps_region callOK ?_
  simp [ofV, ofV1, mkC_P, writeVar, writeCells, readCells, allSingle, AV.single, getFs, getF, setFs, setF, Heap.get, Heap.set, Heap.new, Heap.kill, killF, pushF, Heap.ready, refs, sliceParts, fillA, replL]
  repeat refine wps_seq ?_
  refine wps_block (wps_loop' (fun x : Nat × Nat × Str × Bool => (⟨[0, 1, 4, 5, 6, 7, 8, 9, 20], [.str s, .undef, .undef, .ptr 0 0, .int .i64 x.2.1, .int .i64 x.1, .undef, .undef, .undef], [], 56, ⟨2, [WF 0 99 (aW x.2.2.2) ⟨1, x.2.2.1⟩ [.bool q] []]⟩⟩ : St))
    (fun x => x.2.1 ≤ x.1 ∧ x.1 ≤ s.length ∧ x.2.2.1 ++ (s.drop x.2.1).take (x.1 - x.2.1) ++ esc q (s.drop x.1) = esc q s) (fun x => s.length - x.1) [(0, 0)] [] (0, 0, [], false) ⟨Nat.le_refl _, Nat.zero_le _, by simp⟩
    ⟨rfl, rfl, rfl, by simp [fitL, fitV, lookN, pureV], ?_⟩ ?_)
  · refine ⟨by simp, by simp, by simp [Heap.ents, WF, bF], by simp, by simp, by simp, ?_, by simp⟩
    intro e he
    simp [Heap.ents, WF, bF, aW, bV] at he
    subst he
    exact ⟨0, _, by simp, rfl, rfl, by simp [fitL, fitV, pureV]⟩
  rintro ⟨i, from_, out, fl⟩ ⟨hfi, hi, hinv⟩ B hB
  simp only at hfi hi hinv
  have hol : out.length ≤ 6000000 := by
    have h1 := congrArg List.length hinv
    have h2 := esc_len q _ s (Nat.le_refl _)
    simp only [List.length_append] at h1
    omega
  repeat refine wps_seq ?_
  refine wps_region callOK ?_
  simp [ofV, ofV1, mkC_P, writeVar, writeCells, readCells, allSingle, AV.single, getFs, getF, setFs, setF, Heap.get, Heap.set, Heap.new, Heap.kill, killF, pushF, Heap.ready, refs, sliceParts, fillA, replL]
  repeat refine wps_seq ?_
  refine wps_cond rfl (fun h => ?_) fun h => ?_
  · simp at h
    repeat refine wps_seq ?_
    refine wps_skip ?_
    simp
    repeat refine wps_seq ?_
    refine wps_block ?_
    repeat refine wps_seq ?_
    refine wps_region callOK ?_
    simp [ofV, ofV1, mkC_P, writeVar, writeCells, readCells, allSingle, AV.single, getFs, getF, setFs, setF, Heap.get, Heap.set, Heap.new, Heap.kill, killF, pushF, Heap.ready, refs, sliceParts, fillA, replL]
    have hdr : s.drop i = s[i] :: s.drop (i + 1) := List.drop_eq_getElem_cons h
    obtain ⟨ref, n, hrn⟩ : ∃ ref n, refOf q (s.drop i) = (ref, n) := ⟨_, _, rfl⟩
    refine wps_joinR True ((⟨[0, 1, 4, 5, 6, 7, 8, 9, 20], [.str s, .undef, .undef, .ptr 0 0, .int .i64 from_, .int .i64 i, .str ref, .int .i64 n, .int .u8 s[i].toNat], [], 56, ⟨2, [WF 0 99 (aW fl) ⟨1, out⟩ [.bool q] []]⟩⟩ : St)) (fun _ => ?_) fun R hj => ?_
    rotate_left
    · rw [hdr] at hrn
      simp only [refOf] at hrn
      by_cases k1 : s[i] = 38
      · have h1 : ((s[i].toNat : Int) = 38) := (u8n (n := 38) (by omega)).2 k1
        rw [if_pos k1] at hrn
        obtain ⟨rfl, rfl⟩ := Prod.mk.inj hrn
        (repeat (first
          | (refine wps_seq ?_)
          | (refine wps_block ?_)
          | (refine wps_label ?_; simp only [thenQ, blockQ])
          | ((refine wps_region callOK ?_); simp [ofV, ofV1, mkC_P, writeVar, writeCells, readCells, allSingle, AV.single, getFs, getF, setFs, setF, Heap.get, Heap.set, Heap.new, Heap.kill, killF, pushF, Heap.ready, refs, sliceParts, fillA, replL, ixStr h, h1])
          | (refine wps_cond (t := true) rfl (fun _ => ?_) (fun h => by cases h))
          | (refine wps_cond (t := false) rfl (fun h => by cases h) (fun _ => ?_))
          | ((refine wps_skip ?_); simp only [thenQ, blockQ])
          | ((refine wps_exit ?_); simp [thenQ, blockQ])))
        exact hj _ trivial (by simp [St.wT, h1])
      have h1 : ¬ ((s[i].toNat : Int) = 38) := fun e => k1 ((u8n (n := 38) (by omega)).1 e)
      rw [if_neg k1] at hrn
      by_cases k2 : s[i] = 60
      · have h2 : ((s[i].toNat : Int) = 60) := (u8n (n := 60) (by omega)).2 k2
        rw [if_pos k2] at hrn
        obtain ⟨rfl, rfl⟩ := Prod.mk.inj hrn
        (repeat (first
          | (refine wps_seq ?_)
          | (refine wps_block ?_)
          | (refine wps_label ?_; simp only [thenQ, blockQ])
          | ((refine wps_region callOK ?_); simp [ofV, ofV1, mkC_P, writeVar, writeCells, readCells, allSingle, AV.single, getFs, getF, setFs, setF, Heap.get, Heap.set, Heap.new, Heap.kill, killF, pushF, Heap.ready, refs, sliceParts, fillA, replL, ixStr h, h1, h2])
          | (refine wps_cond (t := true) rfl (fun _ => ?_) (fun h => by cases h))
          | (refine wps_cond (t := false) rfl (fun h => by cases h) (fun _ => ?_))
          | ((refine wps_skip ?_); simp only [thenQ, blockQ])
          | ((refine wps_exit ?_); simp [thenQ, blockQ])))
        exact hj _ trivial (by simp [St.wT, h2])
      have h2 : ¬ ((s[i].toNat : Int) = 60) := fun e => k2 ((u8n (n := 60) (by omega)).1 e)
      rw [if_neg k2] at hrn
      by_cases k3 : s[i] = 62
      · have h3 : ((s[i].toNat : Int) = 62) := (u8n (n := 62) (by omega)).2 k3
        rw [if_pos k3] at hrn
        obtain ⟨rfl, rfl⟩ := Prod.mk.inj hrn
        (repeat (first
          | (refine wps_seq ?_)
          | (refine wps_block ?_)
          | (refine wps_label ?_; simp only [thenQ, blockQ])
          | ((refine wps_region callOK ?_); simp [ofV, ofV1, mkC_P, writeVar, writeCells, readCells, allSingle, AV.single, getFs, getF, setFs, setF, Heap.get, Heap.set, Heap.new, Heap.kill, killF, pushF, Heap.ready, refs, sliceParts, fillA, replL, ixStr h, h1, h2, h3])
          | (refine wps_cond (t := true) rfl (fun _ => ?_) (fun h => by cases h))
          | (refine wps_cond (t := false) rfl (fun h => by cases h) (fun _ => ?_))
          | ((refine wps_skip ?_); simp only [thenQ, blockQ])
          | ((refine wps_exit ?_); simp [thenQ, blockQ])))
        exact hj _ trivial (by simp [St.wT, h3])
      have h3 : ¬ ((s[i].toNat : Int) = 62) := fun e => k3 ((u8n (n := 62) (by omega)).1 e)
      rw [if_neg k3] at hrn
      by_cases k4 : s[i] = 34
      · have h4 : ((s[i].toNat : Int) = 34) := (u8n (n := 34) (by omega)).2 k4
        rw [if_pos k4] at hrn
        cases q with
        | true =>
          obtain ⟨rfl, rfl⟩ := Prod.mk.inj hrn
          (repeat (first
            | (refine wps_seq ?_)
            | (refine wps_block ?_)
            | (refine wps_label ?_; simp only [thenQ, blockQ])
            | ((refine wps_region callOK ?_); simp [ofV, ofV1, mkC_P, writeVar, writeCells, readCells, allSingle, AV.single, getFs, getF, setFs, setF, Heap.get, Heap.set, Heap.new, Heap.kill, killF, pushF, Heap.ready, refs, sliceParts, fillA, replL, ixStr h, h1, h2, h3, h4, WF_o])
            | (refine wps_cond (t := true) rfl (fun _ => ?_) (fun h => by cases h))
            | (refine wps_cond (t := false) rfl (fun h => by cases h) (fun _ => ?_))
            | ((refine wps_skip ?_); simp only [thenQ, blockQ])
            | ((refine wps_exit ?_); simp [thenQ, blockQ])))
          exact hj _ trivial (by simp [St.wT, h4])
        | false =>
          obtain ⟨rfl, rfl⟩ := Prod.mk.inj hrn
          (repeat (first
            | (refine wps_seq ?_)
            | (refine wps_block ?_)
            | (refine wps_label ?_; simp only [thenQ, blockQ])
            | ((refine wps_region callOK ?_); simp [ofV, ofV1, mkC_P, writeVar, writeCells, readCells, allSingle, AV.single, getFs, getF, setFs, setF, Heap.get, Heap.set, Heap.new, Heap.kill, killF, pushF, Heap.ready, refs, sliceParts, fillA, replL, ixStr h, h1, h2, h3, h4, WF_o])
            | (refine wps_cond (t := true) rfl (fun _ => ?_) (fun h => by cases h))
            | (refine wps_cond (t := false) rfl (fun h => by cases h) (fun _ => ?_))
            | ((refine wps_skip ?_); simp only [thenQ, blockQ])
            | ((refine wps_exit ?_); simp [thenQ, blockQ])))
          exact hj _ trivial (by simp [St.wT, h4])
      have h4 : ¬ ((s[i].toNat : Int) = 34) := fun e => k4 ((u8n (n := 34) (by omega)).1 e)
      rw [if_neg k4] at hrn
      by_cases k5 : s[i] = 194
      · have h5 : ((s[i].toNat : Int) = 194) := (u8n (n := 194) (by omega)).2 k5
        rw [if_pos k5] at hrn
        have hpb : preB (s.drop i) [194, 160] = decide ((s.drop (i + 1)).head? = some 160) := by rw [hdr, k5, pre_nb]
        have kp := fun H => k77 hP (s.drop i) [194, 160] H
        rw [hpb] at kp
        by_cases k6 : (s.drop (i + 1)).head? = some 160
        · rw [if_pos k6] at hrn
          obtain ⟨rfl, rfl⟩ := Prod.mk.inj hrn
          simp only [k6, decide_true] at kp
          (repeat (first
            | (refine wps_seq ?_)
            | (refine wps_block ?_)
            | (refine wps_label ?_; simp only [thenQ, blockQ])
            | ((refine wps_region callOK ?_); simp [ofV, ofV1, mkC_P, writeVar, writeCells, readCells, allSingle, AV.single, getFs, getF, setFs, setF, Heap.get, Heap.set, Heap.new, Heap.kill, killF, pushF, Heap.ready, refs, sliceParts, fillA, replL, ixStr h, h1, h2, h3, h4, h5, slStr hi, kp])
            | (refine wps_cond (t := true) rfl (fun _ => ?_) (fun h => by cases h))
            | (refine wps_cond (t := false) rfl (fun h => by cases h) (fun _ => ?_))
            | ((refine wps_skip ?_); simp only [thenQ, blockQ])
            | ((refine wps_exit ?_); simp [thenQ, blockQ])))
          exact hj _ trivial (by simp [St.wT, h5])
        · rw [if_neg k6] at hrn
          obtain ⟨rfl, rfl⟩ := Prod.mk.inj hrn
          simp only [decide_eq_false k6] at kp
          (repeat (first
            | (refine wps_seq ?_)
            | (refine wps_block ?_)
            | (refine wps_label ?_; simp only [thenQ, blockQ])
            | ((refine wps_region callOK ?_); simp [ofV, ofV1, mkC_P, writeVar, writeCells, readCells, allSingle, AV.single, getFs, getF, setFs, setF, Heap.get, Heap.set, Heap.new, Heap.kill, killF, pushF, Heap.ready, refs, sliceParts, fillA, replL, ixStr h, h1, h2, h3, h4, h5, slStr hi, kp])
            | (refine wps_cond (t := true) rfl (fun _ => ?_) (fun h => by cases h))
            | (refine wps_cond (t := false) rfl (fun h => by cases h) (fun _ => ?_))
            | ((refine wps_skip ?_); simp only [thenQ, blockQ])
            | ((refine wps_exit ?_); simp [thenQ, blockQ])))
          exact hj _ trivial (by simp [St.wT, h5])
      have h5 : ¬ ((s[i].toNat : Int) = 194) := fun e => k5 ((u8n (n := 194) (by omega)).1 e)
      rw [if_neg k5] at hrn
      obtain ⟨rfl, rfl⟩ := Prod.mk.inj hrn
      (repeat (first
        | (refine wps_seq ?_)
        | (refine wps_block ?_)
        | (refine wps_label ?_; simp only [thenQ, blockQ])
        | ((refine wps_region callOK ?_); simp [ofV, ofV1, mkC_P, writeVar, writeCells, readCells, allSingle, AV.single, getFs, getF, setFs, setF, Heap.get, Heap.set, Heap.new, Heap.kill, killF, pushF, Heap.ready, refs, sliceParts, fillA, replL, ixStr h, h1, h2, h3, h4, h5])
        | (refine wps_cond (t := true) rfl (fun _ => ?_) (fun h => by cases h))
        | (refine wps_cond (t := false) rfl (fun h => by cases h) (fun _ => ?_))
        | ((refine wps_skip ?_); simp only [thenQ, blockQ])
        | ((refine wps_exit ?_); simp [thenQ, blockQ])))
      exact hj _ trivial (by simp [St.wT])
    have hes := esc_cons q s[i] (s.drop (i + 1))
    rw [← hdr, hrn] at hes
    simp only at hes
    by_cases hr : ref = []
    · rw [if_pos hr] at hes
      repeat refine wps_seq ?_
      refine wps_region callOK ?_
      simp [ofV, ofV1, mkC_P, writeVar, writeCells, readCells, allSingle, AV.single, getFs, getF, setFs, setF, Heap.get, Heap.set, Heap.new, Heap.kill, killF, pushF, Heap.ready, refs, sliceParts, fillA, replL, hr]
      repeat refine wps_seq ?_
      refine wps_cond (t := false) rfl (fun h => by cases h) fun _ => ?_
      repeat refine wps_seq ?_
      refine wps_skip ?_
      simp
      repeat refine wps_seq ?_
      refine wps_region callOK ?_
      simp [ofV, ofV1, mkC_P, writeVar, writeCells, readCells, allSingle, AV.single, getFs, getF, setFs, setF, Heap.get, Heap.set, Heap.new, Heap.kill, killF, pushF, Heap.ready, refs, sliceParts, fillA, replL, add_one (show i ≤ 1000000000 by omega)]
      refine hB _ (i + 1, from_, out, fl) (by simp; omega) ⟨by simp; omega, by simp; omega, ?_⟩ ⟨[(1, 1), (0, 0)], [], rfl, rfl, rfl, by simp [fitL, fitV, lookN, pureV], ?_⟩
      · simp only
        rw [← hinv, hes]
        have e1 : (s.drop from_).take (i + 1 - from_) = (s.drop from_).take (i - from_) ++ [s[i]] := by
          rw [show i + 1 - from_ = (i - from_) + 1 by omega, List.take_succ_eq_append_getElem (by simp; omega)]
          congr 2
          simp only [List.getElem_drop]
          congr 1; omega
        rw [e1]; simp
      · exact fitW (by omega)
    · rw [if_neg hr] at hes
      have hn2 := refOf_n q (s.drop i)
      rw [hrn] at hn2
      simp only at hn2
      have hin : i + n ≤ s.length := by
        have := refOf_room q s[i] (s.drop (i + 1))
        rw [← hdr, hrn] at this
        simp at this
        omega
      have hput := c78 (T := T) hE (wok0 q 2 1 out (by omega) (by omega)) (aW_or fl) ((s.take i).drop from_) ref (by have := refOf_len q s[i] (s.drop (i + 1)); rw [← hdr, hrn] at this; simp at this ⊢; omega)
      obtain ⟨j, hj⟩ : ∃ j, j = i + n := ⟨_, rfl⟩
      have a1 : wr .i64 ((i : Int) + (n : Int)) = some (j : Int) := by rw [wr_small (by omega) (by omega), hj]; simp
      obtain ⟨i2, hi2⟩ : ∃ i2, i2 + 1 = j := ⟨i + n - 1, by omega⟩
      have a2 : wr .i64 ((j : Int) - 1) = some (i2 : Int) := by rw [wr_small (by omega) (by omega)]; congr 1; omega
      repeat refine wps_seq ?_
      refine wps_region callOK ?_
      simp [ofV, ofV1, mkC_P, writeVar, writeCells, readCells, allSingle, AV.single, getFs, getF, setFs, setF, Heap.get, Heap.set, Heap.new, Heap.kill, killF, pushF, Heap.ready, refs, sliceParts, fillA, replL, hr]
      repeat refine wps_seq ?_
      refine wps_cond (t := true) rfl (fun _ => ?_) fun h => by cases h
      repeat refine wps_seq ?_
      refine wps_region (callOKF [⟨78, _, _, _, _, hput⟩]) ?_
      simp [ofV, ofV1, mkC_P, writeVar, writeCells, readCells, allSingle, AV.single, getFs, getF, setFs, setF, Heap.get, Heap.set, Heap.new, Heap.kill, killF, pushF, Heap.ready, refs, sliceParts, fillA, replL, callF, slStrOf hi hfi]
      repeat refine wps_seq ?_
      refine wps_region callOK ?_
      simp [ofV, ofV1, mkC_P, writeVar, writeCells, readCells, allSingle, AV.single, getFs, getF, setFs, setF, Heap.get, Heap.set, Heap.new, Heap.kill, killF, pushF, Heap.ready, refs, sliceParts, fillA, replL, a1]
      repeat refine wps_seq ?_
      refine wps_region callOK ?_
      simp [ofV, ofV1, mkC_P, writeVar, writeCells, readCells, allSingle, AV.single, getFs, getF, setFs, setF, Heap.get, Heap.set, Heap.new, Heap.kill, killF, pushF, Heap.ready, refs, sliceParts, fillA, replL, a2]
      repeat refine wps_seq ?_
      refine wps_region callOK ?_
      simp [ofV, ofV1, mkC_P, writeVar, writeCells, readCells, allSingle, AV.single, getFs, getF, setFs, setF, Heap.get, Heap.set, Heap.new, Heap.kill, killF, pushF, Heap.ready, refs, sliceParts, fillA, replL, add_one (show i2 ≤ 1000000000 by omega)]
      have hne : (s.take i).drop from_ ++ ref ≠ [] := by simp [hr]
      rw [upd_ne hne]
      refine hB _ (i2 + 1, j, out ++ ((s.take i).drop from_ ++ ref), true) (by simp; omega) ⟨by simp; omega, by simp; omega, ?_⟩ ⟨[(2, 1), (0, 0)], [], rfl, rfl, rfl, by simp [fitL, fitV, lookN, pureV], fitW (fl := true) (k := 2) (by omega)⟩
      simp only
      rw [← hinv, hes, hi2, hj, List.drop_take, List.drop_drop]
      simp
  · simp at h
    have hil : i = s.length := by omega
    subst hil
    have hput := c78 (T := T) hE (wok0 q 2 1 out (by omega) (by omega)) (aW_or fl) (s.drop from_) [] (by simp; omega)
    have hfin : out ++ s.drop from_ = esc q s := by
      rw [← hinv]
      simp only [List.drop_length]
      have e0 : esc q [] = [] := rfl
      rw [e0, List.append_nil, List.take_of_length_le (by simp)]
    rw [List.append_nil] at hput
    have hst := c26 (T := T) (ty := 99) ((wok0 q 2 1 out (by omega) (by omega)).upd (s.drop from_)) (by rw [upd_out]; simp; omega)
    rw [upd_out, hfin] at hst
    repeat refine wps_seq ?_
    refine wps_exit ?_
    simp
    repeat refine wps_seq ?_
    refine wps_region (callOKF [⟨78, _, _, _, _, hput⟩]) ?_
    simp [ofV, ofV1, mkC_P, writeVar, writeCells, readCells, allSingle, AV.single, getFs, getF, setFs, setF, Heap.get, Heap.set, Heap.new, Heap.kill, killF, pushF, Heap.ready, refs, sliceParts, fillA, replL, callF, slStr hfi]
    repeat refine wps_seq ?_
    refine wps_region (callOKF [⟨26, _, _, _, _, hst⟩]) ?_
    simp [ofV, ofV1, mkC_P, writeVar, writeCells, readCells, allSingle, AV.single, getFs, getF, setFs, setF, Heap.get, Heap.set, Heap.new, Heap.kill, killF, pushF, Heap.ready, refs, sliceParts, fillA, replL, callF]
    repeat refine wps_seq ?_
    refine wps_ret ?_
    simp [retVal, Try.f71, oneOr, thenQ, blockQ]
    exact ends_pure rfl (by rfl)
end Go.Proofs.Ytohkgmnoamfmgaa
namespace Go.Proofs.Ytohkgmnoamfmgaa
set_option linter.unusedSimpArgs false
set_option linter.unusedVariables false
open Go Go.RowKit
set_option maxRecDepth 100000

theorem injSB (x y : Str × Bool) (h : [AV.str x.1, AV.bool x.2] = [AV.str y.1, AV.bool y.2]) : x = y := by
  simp at h; exact Prod.ext h.1 h.2
noncomputable def e71 : Entry Try.prog := mkE 71 [[], []] (fun x : Str × Bool => [.str x.1, .bool x.2]) (fun x => x.1.length ≤ 1000000) (fun x => .str (esc x.2 x.1)) fun x hx => c71 (T := [e82, e77]) rfl rfl x.1 x.2 hx
theorem k71 {T : List (Entry Try.prog)} (hT : findE 71 T = some e71.g) {s : Str} (q : Bool) (hl : s.length ≤ 1000000) (H : Heap) : callL (ctx T) (.fn 71) [.str s, .bool q] H = some (.str (esc q s), H) :=
  mkE_scalar hT injSB (s, q) hl rfl (by simp)
theorem c57 {T : List (Entry Try.prog)} (hW : findE 71 T = some e71.g) (s : Str) (hl : s.length ≤ 1000000) : CallAt (ctx T) 57 [.str s] ⟨0, []⟩ (.str (esc true s)) ⟨0, []⟩ := by
  have hk := fun q H => k71 hW q hl H
  refine callAt_body (fn := Try.f57) (s0 := ⟨[0, 2], [.str s, .undef], [], 5, ⟨0, [[]]⟩⟩) Try.func57 rfl rfl rfl ?_
  (repeat (first
    | (refine wps_seq ?_)
    | (refine wps_block ?_)
    | (refine wps_label ?_; simp only [thenQ, blockQ])
    | ((refine wps_region callOK ?_); simp [ofV, ofV1, mkC_P, writeVar, writeCells, readCells, allSingle, AV.single, getFs, getF, setFs, setF, Heap.get, Heap.set, Heap.new, Heap.kill, killF, pushF, Heap.ready, refs, sliceParts, fillA, replL, hk])
    | (refine wps_cond (t := true) rfl (fun _ => ?_) (fun h => by cases h))
    | (refine wps_cond (t := false) rfl (fun h => by cases h) (fun _ => ?_))
    | ((refine wps_skip ?_); simp only [thenQ, blockQ])
    | ((refine wps_exit ?_); simp [thenQ, blockQ])))
  repeat refine wps_seq ?_
  refine wps_ret ?_
  simp [retVal, Try.f57, oneOr, thenQ, blockQ]
  exact ends_pure rfl (by rfl)
noncomputable def e57 : Entry Try.prog := mkE 57 [[]] (fun x : Str => [.str x]) (fun x => x.length ≤ 1000000) (fun x => .str (esc true x)) fun x hx => c57 (T := [e71]) rfl x hx
theorem k57 {T : List (Entry Try.prog)} (hT : findE 57 T = some e57.g) {s : Str} (hl : s.length ≤ 1000000) (H : Heap) : callL (ctx T) (.fn 57) [.str s] H = some (.str (esc true s), H) :=
  mkE_scalar hT inj_str s hl rfl (by simp)
theorem c60 {T : List (Entry Try.prog)} (hW : findE 71 T = some e71.g) (s : Str) (hl : s.length ≤ 1000000) : CallAt (ctx T) 60 [.str s] ⟨0, []⟩ (.str (esc false s)) ⟨0, []⟩ := by
  have hk := fun q H => k71 hW q hl H
  refine callAt_body (fn := Try.f60) (s0 := ⟨[0, 2], [.str s, .undef], [], 5, ⟨0, [[]]⟩⟩) Try.func60 rfl rfl rfl ?_
  (repeat (first
    | (refine wps_seq ?_)
    | (refine wps_block ?_)
    | (refine wps_label ?_; simp only [thenQ, blockQ])
    | ((refine wps_region callOK ?_); simp [ofV, ofV1, mkC_P, writeVar, writeCells, readCells, allSingle, AV.single, getFs, getF, setFs, setF, Heap.get, Heap.set, Heap.new, Heap.kill, killF, pushF, Heap.ready, refs, sliceParts, fillA, replL, hk])
    | (refine wps_cond (t := true) rfl (fun _ => ?_) (fun h => by cases h))
    | (refine wps_cond (t := false) rfl (fun h => by cases h) (fun _ => ?_))
    | ((refine wps_skip ?_); simp only [thenQ, blockQ])
    | ((refine wps_exit ?_); simp [thenQ, blockQ])))
  repeat refine wps_seq ?_
  refine wps_ret ?_
  simp [retVal, Try.f60, oneOr, thenQ, blockQ]
  exact ends_pure rfl (by rfl)
noncomputable def e60 : Entry Try.prog := mkE 60 [[]] (fun x : Str => [.str x]) (fun x => x.length ≤ 1000000) (fun x => .str (esc false x)) fun x hx => c60 (T := [e71]) rfl x hx
theorem k60 {T : List (Entry Try.prog)} (hT : findE 60 T = some e60.g) {s : Str} (hl : s.length ≤ 1000000) (H : Heap) : callL (ctx T) (.fn 60) [.str s] H = some (.str (esc false s), H) :=
  mkE_scalar hT inj_str s hl rfl (by simp)
theorem c63 {T : List (Entry Try.prog)} (s : Str) (q : Bool) (hl : s.length ≤ 1000000) : CallAt (ctx T) 63 [.str s, .bool q] ⟨0, []⟩ (.str (esc q s)) ⟨0, []⟩ := by
  refine callAt_body (fn := Try.f63) (s0 := ⟨[0, 1, 4, 5, 6], [.str s, .bool q, .undef, .undef, .undef], [], 70, ⟨0, [[]]⟩⟩) Try.func63 rfl rfl rfl ?_
  repeat refine wps_seq ?_
  refine wps_region callOK ?_
  simp [ofV, ofV1, mkC_P, writeVar, writeCells, readCells, allSingle, AV.single, getFs, getF, setFs, setF, Heap.get, Heap.set, Heap.new, Heap.kill, killF, pushF, Heap.ready, refs, sliceParts, fillA, replL]
  repeat refine wps_seq ?_
  refine wps_region callOK ?_
  simp [ofV, ofV1, mkC_P, writeVar, writeCells, readCells, allSingle, AV.single, getFs, getF, setFs, setF, Heap.get, Heap.set, Heap.new, Heap.kill, killF, pushF, Heap.ready, refs, sliceParts, fillA, replL]
  repeat refine wps_seq ?_
  refine wps_region callOK ?_
  simp [ofV, ofV1, mkC_P, writeVar, writeCells, readCells, allSingle, AV.single, getFs, getF, setFs, setF, Heap.get, Heap.set, Heap.new, Heap.kill, killF, pushF, Heap.ready, refs, sliceParts, fillA, replL]
  repeat refine wps_seq ?_
  refine wps_block (wps_loop' (fun x : Nat × Str => (⟨[0, 1, 4, 5, 6], [.str s, .bool q, .undef, .str x.2, .int .i64 x.1], [], 70, ⟨0, [[]]⟩⟩ : St))
    (fun x => x.1 ≤ s.length ∧ x.2 ++ esc q (s.drop x.1) = esc q s) (fun x => s.length - x.1) [] [] (0, []) ⟨Nat.zero_le _, by simp⟩ ⟨rfl, rfl, rfl, by simp [fitL, fitV, pureV, pureL], FitH.nothing⟩ ?_)
  rintro ⟨i, out⟩ ⟨hi, hinv⟩ B hB
  simp only at hi hinv
  have hol : out.length ≤ 6000000 := by
    have h1 := congrArg List.length hinv
    have h2 := esc_len q _ s (Nat.le_refl _)
    simp only [List.length_append] at h1
    omega
  repeat refine wps_seq ?_
  refine wps_region callOK ?_
  simp [ofV, ofV1, mkC_P, writeVar, writeCells, readCells, allSingle, AV.single, getFs, getF, setFs, setF, Heap.get, Heap.set, Heap.new, Heap.kill, killF, pushF, Heap.ready, refs, sliceParts, fillA, replL]
  repeat refine wps_seq ?_
  refine wps_cond rfl (fun h => ?_) fun h => ?_
  · simp at h
    repeat refine wps_seq ?_
    refine wps_skip ?_
    simp
    repeat refine wps_seq ?_
    refine wps_block ?_
    have hdr : s.drop i = s[i] :: s.drop (i + 1) := List.drop_eq_getElem_cons h
    have hes := esc_cons q s[i] (s.drop (i + 1))
    rw [← hdr] at hes
    have cat : ∀ t : Str, t.length ≤ 100 → binA Try.prog .add 9 (.str out) (.str t) = some (.str (out ++ t)) := fun t ht => catStr (by omega)
    have one : ∀ (t : Str) s', refOf q (s.drop i) = (t, 1) → t ≠ [] → (∃ σ Φ, Fit 0 σ Φ s' (⟨[0, 1, 4, 5, 6], [.str s, .bool q, .undef, .str (out ++ t), .int .i64 ((i + 1 : Nat) : Int)], [], 70, ⟨0, [[]]⟩⟩ : St)) → B s' := fun t s' hr hne hf =>
      hB s' (i + 1, out ++ t) (by simp; omega) ⟨by simp; omega, by
        rw [hr] at hes
        simp only at hes
        rw [if_neg hne] at hes
        simp only
        rw [← hinv, hes]; simp⟩ hf
    have bare : ∀ s', (refOf q (s.drop i)).1 = [] → (∃ σ Φ, Fit 0 σ Φ s' (⟨[0, 1, 4, 5, 6], [.str s, .bool q, .undef, .str (out ++ [s[i]]), .int .i64 ((i + 1 : Nat) : Int)], [], 70, ⟨0, [[]]⟩⟩ : St)) → B s' := fun s' hr hf =>
      hB s' (i + 1, out ++ [s[i]]) (by simp; omega) ⟨by simp; omega, by
        rw [if_pos hr] at hes
        simp only
        rw [← hinv, hes]; simp⟩ hf
    have hrf := hdr ▸ (rfl : refOf q (s.drop i) = refOf q (s.drop i))
    by_cases k1 : s[i] = 38
    · have h1 : ((s[i].toNat : Int) = 38) := (u8n (n := 38) (by omega)).2 k1
      (repeat (first
        | (refine wps_seq ?_)
        | (refine wps_block ?_)
        | (refine wps_label ?_; simp only [thenQ, blockQ])
        | ((refine wps_region callOK ?_); simp [ofV, ofV1, mkC_P, writeVar, writeCells, readCells, allSingle, AV.single, getFs, getF, setFs, setF, Heap.get, Heap.set, Heap.new, Heap.kill, killF, pushF, Heap.ready, refs, sliceParts, fillA, replL, ixStr h, h1, cat [38, 97, 109, 112, 59] (by decide), add_one (show i ≤ 1000000000 by omega)])
        | (refine wps_cond (t := true) rfl (fun _ => ?_) (fun h => by cases h))
        | (refine wps_cond (t := false) rfl (fun h => by cases h) (fun _ => ?_))
        | ((refine wps_skip ?_); simp only [thenQ, blockQ])
        | ((refine wps_exit ?_); simp [thenQ, blockQ])))
      exact one _ _ (by rw [hdr]; simp only [refOf]; rw [if_pos k1]) (by decide) ⟨[], [], ⟨rfl, rfl, rfl, by simp [fitL, fitV, pureV, pureL], FitH.nothing⟩⟩
    have h1 : ¬ ((s[i].toNat : Int) = 38) := fun e => k1 ((u8n (n := 38) (by omega)).1 e)
    by_cases k2 : s[i] = 60
    · have h2 : ((s[i].toNat : Int) = 60) := (u8n (n := 60) (by omega)).2 k2
      (repeat (first
        | (refine wps_seq ?_)
        | (refine wps_block ?_)
        | (refine wps_label ?_; simp only [thenQ, blockQ])
        | ((refine wps_region callOK ?_); simp [ofV, ofV1, mkC_P, writeVar, writeCells, readCells, allSingle, AV.single, getFs, getF, setFs, setF, Heap.get, Heap.set, Heap.new, Heap.kill, killF, pushF, Heap.ready, refs, sliceParts, fillA, replL, ixStr h, h1, h2, cat [38, 108, 116, 59] (by decide), add_one (show i ≤ 1000000000 by omega)])
        | (refine wps_cond (t := true) rfl (fun _ => ?_) (fun h => by cases h))
        | (refine wps_cond (t := false) rfl (fun h => by cases h) (fun _ => ?_))
        | ((refine wps_skip ?_); simp only [thenQ, blockQ])
        | ((refine wps_exit ?_); simp [thenQ, blockQ])))
      exact one _ _ (by rw [hdr]; simp only [refOf]; rw [if_neg k1, if_pos k2]) (by decide) ⟨[], [], ⟨rfl, rfl, rfl, by simp [fitL, fitV, pureV, pureL], FitH.nothing⟩⟩
    have h2 : ¬ ((s[i].toNat : Int) = 60) := fun e => k2 ((u8n (n := 60) (by omega)).1 e)
    by_cases k3 : s[i] = 62
    · have h3 : ((s[i].toNat : Int) = 62) := (u8n (n := 62) (by omega)).2 k3
      (repeat (first
        | (refine wps_seq ?_)
        | (refine wps_block ?_)
        | (refine wps_label ?_; simp only [thenQ, blockQ])
        | ((refine wps_region callOK ?_); simp [ofV, ofV1, mkC_P, writeVar, writeCells, readCells, allSingle, AV.single, getFs, getF, setFs, setF, Heap.get, Heap.set, Heap.new, Heap.kill, killF, pushF, Heap.ready, refs, sliceParts, fillA, replL, ixStr h, h1, h2, h3, cat [38, 103, 116, 59] (by decide), add_one (show i ≤ 1000000000 by omega)])
        | (refine wps_cond (t := true) rfl (fun _ => ?_) (fun h => by cases h))
        | (refine wps_cond (t := false) rfl (fun h => by cases h) (fun _ => ?_))
        | ((refine wps_skip ?_); simp only [thenQ, blockQ])
        | ((refine wps_exit ?_); simp [thenQ, blockQ])))
      exact one _ _ (by rw [hdr]; simp only [refOf]; rw [if_neg k1, if_neg k2, if_pos k3]) (by decide) ⟨[], [], ⟨rfl, rfl, rfl, by simp [fitL, fitV, pureV, pureL], FitH.nothing⟩⟩
    have h3 : ¬ ((s[i].toNat : Int) = 62) := fun e => k3 ((u8n (n := 62) (by omega)).1 e)
    have sl := slStr1 (H := ⟨0, [[]]⟩) h
    have a1 := add_one (show i ≤ 1000000000 by omega)
    by_cases k4 : s[i] = 34
    · have h4 : ((s[i].toNat : Int) = 34) := (u8n (n := 34) (by omega)).2 k4
      have h5 : ¬ ((s[i].toNat : Int) = 194) := by omega
      cases q with
      | true =>
        (repeat (first
          | (refine wps_seq ?_)
          | (refine wps_block ?_)
          | (refine wps_label ?_; simp only [thenQ, blockQ])
          | ((refine wps_region callOK ?_); simp [ofV, ofV1, mkC_P, writeVar, writeCells, readCells, allSingle, AV.single, getFs, getF, setFs, setF, Heap.get, Heap.set, Heap.new, Heap.kill, killF, pushF, Heap.ready, refs, sliceParts, fillA, replL, ixStr h, h1, h2, h3, h4, cat [38, 113, 117, 111, 116, 59] (by decide), a1])
          | (refine wps_cond (t := true) rfl (fun _ => ?_) (fun h => by cases h))
          | (refine wps_cond (t := false) rfl (fun h => by cases h) (fun _ => ?_))
          | ((refine wps_skip ?_); simp only [thenQ, blockQ])
          | ((refine wps_exit ?_); simp [thenQ, blockQ])))
        exact one _ _ (by rw [hdr]; simp only [refOf]; rw [if_neg k1, if_neg k2, if_neg k3, if_pos k4]) (by decide) ⟨[], [], ⟨rfl, rfl, rfl, by simp [fitL, fitV, pureV, pureL], FitH.nothing⟩⟩
      | false =>
        (repeat (first
          | (refine wps_seq ?_)
          | (refine wps_block ?_)
          | (refine wps_label ?_; simp only [thenQ, blockQ])
          | ((refine wps_region callOK ?_); simp [ofV, ofV1, mkC_P, writeVar, writeCells, readCells, allSingle, AV.single, getFs, getF, setFs, setF, Heap.get, Heap.set, Heap.new, Heap.kill, killF, pushF, Heap.ready, refs, sliceParts, fillA, replL, ixStr h, h1, h2, h3, h4, h5, sl, cat [s[i]] (by simp), a1])
          | (refine wps_cond (t := true) rfl (fun _ => ?_) (fun h => by cases h))
          | (refine wps_cond (t := false) rfl (fun h => by cases h) (fun _ => ?_))
          | ((refine wps_skip ?_); simp only [thenQ, blockQ])
          | ((refine wps_exit ?_); simp [thenQ, blockQ])))
        exact bare _ (by rw [hdr]; simp only [refOf]; rw [if_neg k1, if_neg k2, if_neg k3, if_pos k4]; rfl) ⟨[], [], ⟨rfl, rfl, rfl, by simp [fitL, fitV, pureV, pureL], FitH.nothing⟩⟩
    have h4 : ¬ ((s[i].toNat : Int) = 34) := fun e => k4 ((u8n (n := 34) (by omega)).1 e)
    by_cases k5 : s[i] = 194
    · have h5 : ((s[i].toNat : Int) = 194) := (u8n (n := 194) (by omega)).2 k5
      have hz : s[i] = 194 := k5
      by_cases k6 : i + 1 < s.length
      · have k6' : ((i : Int) + 1 < (s.length : Int)) := by omega
        have ix1 : indexA Try.prog 9 (.str s) (.int .i64 ((i : Int) + 1)) = some (.int .u8 (s[i + 1]'k6).toNat) := by simpa using ixStr k6
        have hhd : (s.drop (i + 1)).head? = some s[i + 1] := by rw [List.head?_drop, List.getElem?_eq_getElem k6]
        by_cases k7 : s[i + 1] = 160
        · have h7 : ((s[i + 1].toNat : Int) = 160) := (u8n (n := 160) (by omega)).2 k7
          have a2 : wr .i64 ((i : Int) + 1 + 1) = some ((i + 2 : Nat) : Int) := by rw [wr_small (by omega) (by omega)]; congr 1
          have hr : refOf q (s.drop i) = ([38, 110, 98, 115, 112, 59], 2) := by
            rw [hdr]; simp only [refOf]; rw [if_neg k1, if_neg k2, if_neg k3, if_neg k4, if_pos k5, hhd, k7, if_pos rfl]
          (repeat (first
            | (refine wps_seq ?_)
            | (refine wps_block ?_)
            | (refine wps_label ?_; simp only [thenQ, blockQ])
            | ((refine wps_region callOK ?_); simp [ofV, ofV1, mkC_P, writeVar, writeCells, readCells, allSingle, AV.single, getFs, getF, setFs, setF, Heap.get, Heap.set, Heap.new, Heap.kill, killF, pushF, Heap.ready, refs, sliceParts, fillA, replL, ixStr h, h1, h2, h3, h4, h5, k6', ix1, h7, cat [38, 110, 98, 115, 112, 59] (by decide), a1, a2])
            | (refine wps_cond (t := true) rfl (fun _ => ?_) (fun h => by cases h))
            | (refine wps_cond (t := false) rfl (fun h => by cases h) (fun _ => ?_))
            | ((refine wps_skip ?_); simp only [thenQ, blockQ])
            | ((refine wps_exit ?_); simp [thenQ, blockQ])))
          refine hB _ (i + 2, out ++ [38, 110, 98, 115, 112, 59]) (by simp; omega) ⟨by simp; omega, ?_⟩ ⟨[], [], ⟨rfl, rfl, rfl, by simp [fitL, fitV, pureV, pureL], FitH.nothing⟩⟩
          rw [hr] at hes
          simp only at hes
          rw [if_neg (by simp), List.drop_drop] at hes
          simp only
          rw [← hinv, hes]; simp
        · have h7 : ¬ ((s[i + 1].toNat : Int) = 160) := fun e => k7 ((u8n (n := 160) (by omega)).1 e)
          (repeat (first
            | (refine wps_seq ?_)
            | (refine wps_block ?_)
            | (refine wps_label ?_; simp only [thenQ, blockQ])
            | ((refine wps_region callOK ?_); simp [ofV, ofV1, mkC_P, writeVar, writeCells, readCells, allSingle, AV.single, getFs, getF, setFs, setF, Heap.get, Heap.set, Heap.new, Heap.kill, killF, pushF, Heap.ready, refs, sliceParts, fillA, replL, ixStr h, h1, h2, h3, h4, h5, k6', ix1, h7, sl, cat [s[i]] (by simp), a1])
            | (refine wps_cond (t := true) rfl (fun _ => ?_) (fun h => by cases h))
            | (refine wps_cond (t := false) rfl (fun h => by cases h) (fun _ => ?_))
            | ((refine wps_skip ?_); simp only [thenQ, blockQ])
            | ((refine wps_exit ?_); simp [thenQ, blockQ])))
          exact bare _ (by rw [hdr]; simp only [refOf]; rw [if_neg k1, if_neg k2, if_neg k3, if_neg k4, if_pos k5, hhd, if_neg (by simp [k7])]) ⟨[], [], ⟨rfl, rfl, rfl, by simp [fitL, fitV, pureV, pureL], FitH.nothing⟩⟩
      · have k6' : ¬ ((i : Int) + 1 < (s.length : Int)) := by omega
        have hhd : (s.drop (i + 1)).head? = none := by rw [List.head?_drop, List.getElem?_eq_none (by omega)]
        (repeat (first
          | (refine wps_seq ?_)
          | (refine wps_block ?_)
          | (refine wps_label ?_; simp only [thenQ, blockQ])
          | ((refine wps_region callOK ?_); simp [ofV, ofV1, mkC_P, writeVar, writeCells, readCells, allSingle, AV.single, getFs, getF, setFs, setF, Heap.get, Heap.set, Heap.new, Heap.kill, killF, pushF, Heap.ready, refs, sliceParts, fillA, replL, ixStr h, h1, h2, h3, h4, h5, k6', sl, cat [s[i]] (by simp), a1])
          | (refine wps_cond (t := true) rfl (fun _ => ?_) (fun h => by cases h))
          | (refine wps_cond (t := false) rfl (fun h => by cases h) (fun _ => ?_))
          | ((refine wps_skip ?_); simp only [thenQ, blockQ])
          | ((refine wps_exit ?_); simp [thenQ, blockQ])))
        exact bare _ (by rw [hdr]; simp only [refOf]; rw [if_neg k1, if_neg k2, if_neg k3, if_neg k4, if_pos k5, hhd, if_neg (by simp)]) ⟨[], [], ⟨rfl, rfl, rfl, by simp [fitL, fitV, pureV, pureL], FitH.nothing⟩⟩
    have h5 : ¬ ((s[i].toNat : Int) = 194) := fun e => k5 ((u8n (n := 194) (by omega)).1 e)
    (repeat (first
      | (refine wps_seq ?_)
      | (refine wps_block ?_)
      | (refine wps_label ?_; simp only [thenQ, blockQ])
      | ((refine wps_region callOK ?_); simp [ofV, ofV1, mkC_P, writeVar, writeCells, readCells, allSingle, AV.single, getFs, getF, setFs, setF, Heap.get, Heap.set, Heap.new, Heap.kill, killF, pushF, Heap.ready, refs, sliceParts, fillA, replL, ixStr h, h1, h2, h3, h4, h5, sl, cat [s[i]] (by simp), a1])
      | (refine wps_cond (t := true) rfl (fun _ => ?_) (fun h => by cases h))
      | (refine wps_cond (t := false) rfl (fun h => by cases h) (fun _ => ?_))
      | ((refine wps_skip ?_); simp only [thenQ, blockQ])
      | ((refine wps_exit ?_); simp [thenQ, blockQ])))
    exact bare _ (by rw [hdr]; simp only [refOf]; rw [if_neg k1, if_neg k2, if_neg k3, if_neg k4, if_neg k5]) ⟨[], [], ⟨rfl, rfl, rfl, by simp [fitL, fitV, pureV, pureL], FitH.nothing⟩⟩
  · simp at h
    have hil : i = s.length := by omega
    subst hil
    have e0 : esc q [] = [] := rfl
    rw [List.drop_length, e0, List.append_nil] at hinv
    repeat refine wps_seq ?_
    refine wps_exit ?_
    simp
    repeat refine wps_seq ?_
    refine wps_region callOK ?_
    simp [ofV, ofV1, mkC_P, writeVar, writeCells, readCells, allSingle, AV.single, getFs, getF, setFs, setF, Heap.get, Heap.set, Heap.new, Heap.kill, killF, pushF, Heap.ready, refs, sliceParts, fillA, replL]
    repeat refine wps_seq ?_
    refine wps_ret ?_
    simp [retVal, Try.f63, oneOr, thenQ, blockQ]
    exact ends_pure rfl (by rw [hinv])
noncomputable def e63 : Entry Try.prog := mkE 63 [[], []] (fun x : Str × Bool => [.str x.1, .bool x.2]) (fun x => x.1.length ≤ 1000000) (fun x => .str (esc x.2 x.1)) fun x hx => c63 (T := []) x.1 x.2 hx
theorem k63 {T : List (Entry Try.prog)} (hT : findE 63 T = some e63.g) {s : Str} (q : Bool) (hl : s.length ≤ 1000000) (H : Heap) : callL (ctx T) (.fn 63) [.str s, .bool q] H = some (.str (esc q s), H) :=
  mkE_scalar hT injSB (s, q) hl rfl (by simp)
theorem c62 {T : List (Entry Try.prog)} (hW : findE 63 T = some e63.g) (s : Str) (hl : s.length ≤ 1000000) : CallAt (ctx T) 62 [.str s] ⟨0, []⟩ (.str (esc true s)) ⟨0, []⟩ := by
  have hk := fun q H => k63 hW q hl H
  refine callAt_body (fn := Try.f62) (s0 := ⟨[0, 2], [.str s, .undef], [], 5, ⟨0, [[]]⟩⟩) Try.func62 rfl rfl rfl ?_
  (repeat (first
    | (refine wps_seq ?_)
    | (refine wps_block ?_)
    | (refine wps_label ?_; simp only [thenQ, blockQ])
    | ((refine wps_region callOK ?_); simp [ofV, ofV1, mkC_P, writeVar, writeCells, readCells, allSingle, AV.single, getFs, getF, setFs, setF, Heap.get, Heap.set, Heap.new, Heap.kill, killF, pushF, Heap.ready, refs, sliceParts, fillA, replL, hk])
    | (refine wps_cond (t := true) rfl (fun _ => ?_) (fun h => by cases h))
    | (refine wps_cond (t := false) rfl (fun h => by cases h) (fun _ => ?_))
    | ((refine wps_skip ?_); simp only [thenQ, blockQ])
    | ((refine wps_exit ?_); simp [thenQ, blockQ])))
  repeat refine wps_seq ?_
  refine wps_ret ?_
  simp [retVal, Try.f62, oneOr, thenQ, blockQ]
  exact ends_pure rfl (by rfl)
noncomputable def e62 : Entry Try.prog := mkE 62 [[]] (fun x : Str => [.str x]) (fun x => x.length ≤ 1000000) (fun x => .str (esc true x)) fun x hx => c62 (T := [e63]) rfl x hx
theorem k62 {T : List (Entry Try.prog)} (hT : findE 62 T = some e62.g) {s : Str} (hl : s.length ≤ 1000000) (H : Heap) : callL (ctx T) (.fn 62) [.str s] H = some (.str (esc true s), H) :=
  mkE_scalar hT inj_str s hl rfl (by simp)
theorem c48 {T : List (Entry Try.prog)} (hW : findE 63 T = some e63.g) (s : Str) (hl : s.length ≤ 1000000) : CallAt (ctx T) 48 [.str s] ⟨0, []⟩ (.str (esc false s)) ⟨0, []⟩ := by
  have hk := fun q H => k63 hW q hl H
  refine callAt_body (fn := Try.f48) (s0 := ⟨[0, 2], [.str s, .undef], [], 5, ⟨0, [[]]⟩⟩) Try.func48 rfl rfl rfl ?_
  (repeat (first
    | (refine wps_seq ?_)
    | (refine wps_block ?_)
    | (refine wps_label ?_; simp only [thenQ, blockQ])
    | ((refine wps_region callOK ?_); simp [ofV, ofV1, mkC_P, writeVar, writeCells, readCells, allSingle, AV.single, getFs, getF, setFs, setF, Heap.get, Heap.set, Heap.new, Heap.kill, killF, pushF, Heap.ready, refs, sliceParts, fillA, replL, hk])
    | (refine wps_cond (t := true) rfl (fun _ => ?_) (fun h => by cases h))
    | (refine wps_cond (t := false) rfl (fun h => by cases h) (fun _ => ?_))
    | ((refine wps_skip ?_); simp only [thenQ, blockQ])
    | ((refine wps_exit ?_); simp [thenQ, blockQ])))
  repeat refine wps_seq ?_
  refine wps_ret ?_
  simp [retVal, Try.f48, oneOr, thenQ, blockQ]
  exact ends_pure rfl (by rfl)
noncomputable def e48 : Entry Try.prog := mkE 48 [[]] (fun x : Str => [.str x]) (fun x => x.length ≤ 1000000) (fun x => .str (esc false x)) fun x hx => c48 (T := [e63]) rfl x hx
theorem k48 {T : List (Entry Try.prog)} (hT : findE 48 T = some e48.g) {s : Str} (hl : s.length ≤ 1000000) (H : Heap) : callL (ctx T) (.fn 48) [.str s] H = some (.str (esc false s), H) :=
  mkE_scalar hT inj_str s hl rfl (by simp)
end Go.Proofs.Ytohkgmnoamfmgaa
namespace Go.Proofs.Ytohkgmnoamfmgaa
set_option linter.unusedSimpArgs false
set_option linter.unusedVariables false
open Go Go.RowKit
set_option maxRecDepth 100000

abbrev wRaw : Str := [115, 116, 121, 108, 101, 32, 115, 99, 114, 105, 112, 116, 32, 120, 109, 112, 32, 105, 102, 114, 97, 109, 101, 32, 110, 111, 101, 109, 98, 101, 100, 32, 110, 111, 102, 114, 97, 109, 101, 115, 32, 112, 108, 97, 105, 110, 116, 101, 120, 116]
theorem raw_split : wsplit wRaw = [[115, 116, 121, 108, 101], [115, 99, 114, 105, 112, 116], [120, 109, 112], [105, 102, 114, 97, 109, 101], [110, 111, 101, 109, 98, 101, 100], [110, 111, 102, 114, 97, 109, 101, 115], [112, 108, 97, 105, 110, 116, 101, 120, 116]] := by decide +kernel
def rawB (n : Nd) : Bool := decide (n.kind = 1) && (decide (n.space = 0) && inW wRaw n.name)
theorem raw_style {T : List (Entry Try.prog)} (kind space : Int) (attrs : List At1) (data : Str) (up : Int) (kids : List Int) : CallAt (ctx T) 13 [aNode ⟨kind, space, [115, 116, 121, 108, 101], attrs, data, up, kids⟩] ⟨0, []⟩ (.bool (rawB ⟨kind, space, [115, 116, 121, 108, 101], attrs, data, up, kids⟩)) ⟨0, []⟩ := by
  have hin : inW wRaw [115, 116, 121, 108, 101] = true := by simp [inW, raw_split]
  by_cases k1 : kind = 1
  · by_cases k2 : space = 0
    · refine callAt_body (fn := Try.f13) (s0 := ⟨[0, 1, 2, 4, 5], [aNode ⟨kind, space, [115, 116, 121, 108, 101], attrs, data, up, kids⟩, .undef, .undef, .undef, .undef], [], 21, ⟨0, [[]]⟩⟩) Try.func13 rfl rfl rfl ?_
      (repeat (first
        | (refine wps_seq ?_)
        | (refine wps_block ?_)
        | (refine wps_label ?_; simp only [thenQ, blockQ])
        | ((refine wps_region callOK ?_); simp [ofV, ofV1, mkC_P, writeVar, writeCells, readCells, allSingle, AV.single, getFs, getF, setFs, setF, Heap.get, Heap.set, Heap.new, Heap.kill, killF, pushF, Heap.ready, refs, sliceParts, fillA, replL, aNode, Nd.cs, aInt, aAttrs, aInts, k1, k2])
        | (refine wps_cond (t := true) rfl (fun _ => ?_) (fun h => by cases h))
        | (refine wps_cond (t := false) rfl (fun h => by cases h) (fun _ => ?_))
        | ((refine wps_skip ?_); simp only [thenQ, blockQ])
        | ((refine wps_exit ?_); simp [thenQ, blockQ])))
      repeat refine wps_seq ?_
      refine wps_ret ?_
      simp [retVal, Try.f13, oneOr, thenQ, blockQ]
      exact ends_pure rfl (by simp only [rawB, hin, k1, k2]; simp)
    · refine callAt_body (fn := Try.f13) (s0 := ⟨[0, 1, 2, 4, 5], [aNode ⟨kind, space, [115, 116, 121, 108, 101], attrs, data, up, kids⟩, .undef, .undef, .undef, .undef], [], 21, ⟨0, [[]]⟩⟩) Try.func13 rfl rfl rfl ?_
      (repeat (first
        | (refine wps_seq ?_)
        | (refine wps_block ?_)
        | (refine wps_label ?_; simp only [thenQ, blockQ])
        | ((refine wps_region callOK ?_); simp [ofV, ofV1, mkC_P, writeVar, writeCells, readCells, allSingle, AV.single, getFs, getF, setFs, setF, Heap.get, Heap.set, Heap.new, Heap.kill, killF, pushF, Heap.ready, refs, sliceParts, fillA, replL, aNode, Nd.cs, aInt, aAttrs, aInts, k1, k2])
        | (refine wps_cond (t := true) rfl (fun _ => ?_) (fun h => by cases h))
        | (refine wps_cond (t := false) rfl (fun h => by cases h) (fun _ => ?_))
        | ((refine wps_skip ?_); simp only [thenQ, blockQ])
        | ((refine wps_exit ?_); simp [thenQ, blockQ])))
      repeat refine wps_seq ?_
      refine wps_ret ?_
      simp [retVal, Try.f13, oneOr, thenQ, blockQ]
      exact ends_pure rfl (by simp only [rawB, hin, k1]; simp [k2])
  · refine callAt_body (fn := Try.f13) (s0 := ⟨[0, 1, 2, 4, 5], [aNode ⟨kind, space, [115, 116, 121, 108, 101], attrs, data, up, kids⟩, .undef, .undef, .undef, .undef], [], 21, ⟨0, [[]]⟩⟩) Try.func13 rfl rfl rfl ?_
    (repeat (first
      | (refine wps_seq ?_)
      | (refine wps_block ?_)
      | (refine wps_label ?_; simp only [thenQ, blockQ])
      | ((refine wps_region callOK ?_); simp [ofV, ofV1, mkC_P, writeVar, writeCells, readCells, allSingle, AV.single, getFs, getF, setFs, setF, Heap.get, Heap.set, Heap.new, Heap.kill, killF, pushF, Heap.ready, refs, sliceParts, fillA, replL, aNode, Nd.cs, aInt, aAttrs, aInts, k1])
      | (refine wps_cond (t := true) rfl (fun _ => ?_) (fun h => by cases h))
      | (refine wps_cond (t := false) rfl (fun h => by cases h) (fun _ => ?_))
      | ((refine wps_skip ?_); simp only [thenQ, blockQ])
      | ((refine wps_exit ?_); simp [thenQ, blockQ])))
    repeat refine wps_seq ?_
    refine wps_ret ?_
    simp [retVal, Try.f13, oneOr, thenQ, blockQ]
    exact ends_pure rfl (by simp only [rawB, hin]; simp [k1])
theorem raw_script {T : List (Entry Try.prog)} (kind space : Int) (attrs : List At1) (data : Str) (up : Int) (kids : List Int) : CallAt (ctx T) 13 [aNode ⟨kind, space, [115, 99, 114, 105, 112, 116], attrs, data, up, kids⟩] ⟨0, []⟩ (.bool (rawB ⟨kind, space, [115, 99, 114, 105, 112, 116], attrs, data, up, kids⟩)) ⟨0, []⟩ := by
  have hin : inW wRaw [115, 99, 114, 105, 112, 116] = true := by simp [inW, raw_split]
  by_cases k1 : kind = 1
  · by_cases k2 : space = 0
    · refine callAt_body (fn := Try.f13) (s0 := ⟨[0, 1, 2, 4, 5], [aNode ⟨kind, space, [115, 99, 114, 105, 112, 116], attrs, data, up, kids⟩, .undef, .undef, .undef, .undef], [], 21, ⟨0, [[]]⟩⟩) Try.func13 rfl rfl rfl ?_
      (repeat (first
        | (refine wps_seq ?_)
        | (refine wps_block ?_)
        | (refine wps_label ?_; simp only [thenQ, blockQ])
        | ((refine wps_region callOK ?_); simp [ofV, ofV1, mkC_P, writeVar, writeCells, readCells, allSingle, AV.single, getFs, getF, setFs, setF, Heap.get, Heap.set, Heap.new, Heap.kill, killF, pushF, Heap.ready, refs, sliceParts, fillA, replL, aNode, Nd.cs, aInt, aAttrs, aInts, k1, k2])
        | (refine wps_cond (t := true) rfl (fun _ => ?_) (fun h => by cases h))
        | (refine wps_cond (t := false) rfl (fun h => by cases h) (fun _ => ?_))
        | ((refine wps_skip ?_); simp only [thenQ, blockQ])
        | ((refine wps_exit ?_); simp [thenQ, blockQ])))
      repeat refine wps_seq ?_
      refine wps_ret ?_
      simp [retVal, Try.f13, oneOr, thenQ, blockQ]
      exact ends_pure rfl (by simp only [rawB, hin, k1, k2]; simp)
    · refine callAt_body (fn := Try.f13) (s0 := ⟨[0, 1, 2, 4, 5], [aNode ⟨kind, space, [115, 99, 114, 105, 112, 116], attrs, data, up, kids⟩, .undef, .undef, .undef, .undef], [], 21, ⟨0, [[]]⟩⟩) Try.func13 rfl rfl rfl ?_
      (repeat (first
        | (refine wps_seq ?_)
        | (refine wps_block ?_)
        | (refine wps_label ?_; simp only [thenQ, blockQ])
        | ((refine wps_region callOK ?_); simp [ofV, ofV1, mkC_P, writeVar, writeCells, readCells, allSingle, AV.single, getFs, getF, setFs, setF, Heap.get, Heap.set, Heap.new, Heap.kill, killF, pushF, Heap.ready, refs, sliceParts, fillA, replL, aNode, Nd.cs, aInt, aAttrs, aInts, k1, k2])
        | (refine wps_cond (t := true) rfl (fun _ => ?_) (fun h => by cases h))
        | (refine wps_cond (t := false) rfl (fun h => by cases h) (fun _ => ?_))
        | ((refine wps_skip ?_); simp only [thenQ, blockQ])
        | ((refine wps_exit ?_); simp [thenQ, blockQ])))
      repeat refine wps_seq ?_
      refine wps_ret ?_
      simp [retVal, Try.f13, oneOr, thenQ, blockQ]
      exact ends_pure rfl (by simp only [rawB, hin, k1]; simp [k2])
  · refine callAt_body (fn := Try.f13) (s0 := ⟨[0, 1, 2, 4, 5], [aNode ⟨kind, space, [115, 99, 114, 105, 112, 116], attrs, data, up, kids⟩, .undef, .undef, .undef, .undef], [], 21, ⟨0, [[]]⟩⟩) Try.func13 rfl rfl rfl ?_
    (repeat (first
      | (refine wps_seq ?_)
      | (refine wps_block ?_)
      | (refine wps_label ?_; simp only [thenQ, blockQ])
      | ((refine wps_region callOK ?_); simp [ofV, ofV1, mkC_P, writeVar, writeCells, readCells, allSingle, AV.single, getFs, getF, setFs, setF, Heap.get, Heap.set, Heap.new, Heap.kill, killF, pushF, Heap.ready, refs, sliceParts, fillA, replL, aNode, Nd.cs, aInt, aAttrs, aInts, k1])
      | (refine wps_cond (t := true) rfl (fun _ => ?_) (fun h => by cases h))
      | (refine wps_cond (t := false) rfl (fun h => by cases h) (fun _ => ?_))
      | ((refine wps_skip ?_); simp only [thenQ, blockQ])
      | ((refine wps_exit ?_); simp [thenQ, blockQ])))
    repeat refine wps_seq ?_
    refine wps_ret ?_
    simp [retVal, Try.f13, oneOr, thenQ, blockQ]
    exact ends_pure rfl (by simp only [rawB, hin]; simp [k1])
theorem raw_xmp {T : List (Entry Try.prog)} (kind space : Int) (attrs : List At1) (data : Str) (up : Int) (kids : List Int) : CallAt (ctx T) 13 [aNode ⟨kind, space, [120, 109, 112], attrs, data, up, kids⟩] ⟨0, []⟩ (.bool (rawB ⟨kind, space, [120, 109, 112], attrs, data, up, kids⟩)) ⟨0, []⟩ := by
  have hin : inW wRaw [120, 109, 112] = true := by simp [inW, raw_split]
  by_cases k1 : kind = 1
  · by_cases k2 : space = 0
    · refine callAt_body (fn := Try.f13) (s0 := ⟨[0, 1, 2, 4, 5], [aNode ⟨kind, space, [120, 109, 112], attrs, data, up, kids⟩, .undef, .undef, .undef, .undef], [], 21, ⟨0, [[]]⟩⟩) Try.func13 rfl rfl rfl ?_
      (repeat (first
        | (refine wps_seq ?_)
        | (refine wps_block ?_)
        | (refine wps_label ?_; simp only [thenQ, blockQ])
        | ((refine wps_region callOK ?_); simp [ofV, ofV1, mkC_P, writeVar, writeCells, readCells, allSingle, AV.single, getFs, getF, setFs, setF, Heap.get, Heap.set, Heap.new, Heap.kill, killF, pushF, Heap.ready, refs, sliceParts, fillA, replL, aNode, Nd.cs, aInt, aAttrs, aInts, k1, k2])
        | (refine wps_cond (t := true) rfl (fun _ => ?_) (fun h => by cases h))
        | (refine wps_cond (t := false) rfl (fun h => by cases h) (fun _ => ?_))
        | ((refine wps_skip ?_); simp only [thenQ, blockQ])
        | ((refine wps_exit ?_); simp [thenQ, blockQ])))
      repeat refine wps_seq ?_
      refine wps_ret ?_
      simp [retVal, Try.f13, oneOr, thenQ, blockQ]
      exact ends_pure rfl (by simp only [rawB, hin, k1, k2]; simp)
    · refine callAt_body (fn := Try.f13) (s0 := ⟨[0, 1, 2, 4, 5], [aNode ⟨kind, space, [120, 109, 112], attrs, data, up, kids⟩, .undef, .undef, .undef, .undef], [], 21, ⟨0, [[]]⟩⟩) Try.func13 rfl rfl rfl ?_
      (repeat (first
        | (refine wps_seq ?_)
        | (refine wps_block ?_)
        | (refine wps_label ?_; simp only [thenQ, blockQ])
        | ((refine wps_region callOK ?_); simp [ofV, ofV1, mkC_P, writeVar, writeCells, readCells, allSingle, AV.single, getFs, getF, setFs, setF, Heap.get, Heap.set, Heap.new, Heap.kill, killF, pushF, Heap.ready, refs, sliceParts, fillA, replL, aNode, Nd.cs, aInt, aAttrs, aInts, k1, k2])
        | (refine wps_cond (t := true) rfl (fun _ => ?_) (fun h => by cases h))
        | (refine wps_cond (t := false) rfl (fun h => by cases h) (fun _ => ?_))
        | ((refine wps_skip ?_); simp only [thenQ, blockQ])
        | ((refine wps_exit ?_); simp [thenQ, blockQ])))
      repeat refine wps_seq ?_
      refine wps_ret ?_
      simp [retVal, Try.f13, oneOr, thenQ, blockQ]
      exact ends_pure rfl (by simp only [rawB, hin, k1]; simp [k2])
  · refine callAt_body (fn := Try.f13) (s0 := ⟨[0, 1, 2, 4, 5], [aNode ⟨kind, space, [120, 109, 112], attrs, data, up, kids⟩, .undef, .undef, .undef, .undef], [], 21, ⟨0, [[]]⟩⟩) Try.func13 rfl rfl rfl ?_
    (repeat (first
      | (refine wps_seq ?_)
      | (refine wps_block ?_)
      | (refine wps_label ?_; simp only [thenQ, blockQ])
      | ((refine wps_region callOK ?_); simp [ofV, ofV1, mkC_P, writeVar, writeCells, readCells, allSingle, AV.single, getFs, getF, setFs, setF, Heap.get, Heap.set, Heap.new, Heap.kill, killF, pushF, Heap.ready, refs, sliceParts, fillA, replL, aNode, Nd.cs, aInt, aAttrs, aInts, k1])
      | (refine wps_cond (t := true) rfl (fun _ => ?_) (fun h => by cases h))
      | (refine wps_cond (t := false) rfl (fun h => by cases h) (fun _ => ?_))
      | ((refine wps_skip ?_); simp only [thenQ, blockQ])
      | ((refine wps_exit ?_); simp [thenQ, blockQ])))
    repeat refine wps_seq ?_
    refine wps_ret ?_
    simp [retVal, Try.f13, oneOr, thenQ, blockQ]
    exact ends_pure rfl (by simp only [rawB, hin]; simp [k1])
theorem raw_iframe {T : List (Entry Try.prog)} (kind space : Int) (attrs : List At1) (data : Str) (up : Int) (kids : List Int) : CallAt (ctx T) 13 [aNode ⟨kind, space, [105, 102, 114, 97, 109, 101], attrs, data, up, kids⟩] ⟨0, []⟩ (.bool (rawB ⟨kind, space, [105, 102, 114, 97, 109, 101], attrs, data, up, kids⟩)) ⟨0, []⟩ := by
  have hin : inW wRaw [105, 102, 114, 97, 109, 101] = true := by simp [inW, raw_split]
  by_cases k1 : kind = 1
  · by_cases k2 : space = 0
    · refine callAt_body (fn := Try.f13) (s0 := ⟨[0, 1, 2, 4, 5], [aNode ⟨kind, space, [105, 102, 114, 97, 109, 101], attrs, data, up, kids⟩, .undef, .undef, .undef, .undef], [], 21, ⟨0, [[]]⟩⟩) Try.func13 rfl rfl rfl ?_
      (repeat (first
        | (refine wps_seq ?_)
        | (refine wps_block ?_)
        | (refine wps_label ?_; simp only [thenQ, blockQ])
        | ((refine wps_region callOK ?_); simp [ofV, ofV1, mkC_P, writeVar, writeCells, readCells, allSingle, AV.single, getFs, getF, setFs, setF, Heap.get, Heap.set, Heap.new, Heap.kill, killF, pushF, Heap.ready, refs, sliceParts, fillA, replL, aNode, Nd.cs, aInt, aAttrs, aInts, k1, k2])
        | (refine wps_cond (t := true) rfl (fun _ => ?_) (fun h => by cases h))
        | (refine wps_cond (t := false) rfl (fun h => by cases h) (fun _ => ?_))
        | ((refine wps_skip ?_); simp only [thenQ, blockQ])
        | ((refine wps_exit ?_); simp [thenQ, blockQ])))
      repeat refine wps_seq ?_
      refine wps_ret ?_
      simp [retVal, Try.f13, oneOr, thenQ, blockQ]
      exact ends_pure rfl (by simp only [rawB, hin, k1, k2]; simp)
    · refine callAt_body (fn := Try.f13) (s0 := ⟨[0, 1, 2, 4, 5], [aNode ⟨kind, space, [105, 102, 114, 97, 109, 101], attrs, data, up, kids⟩, .undef, .undef, .undef, .undef], [], 21, ⟨0, [[]]⟩⟩) Try.func13 rfl rfl rfl ?_
      (repeat (first
        | (refine wps_seq ?_)
        | (refine wps_block ?_)
        | (refine wps_label ?_; simp only [thenQ, blockQ])
        | ((refine wps_region callOK ?_); simp [ofV, ofV1, mkC_P, writeVar, writeCells, readCells, allSingle, AV.single, getFs, getF, setFs, setF, Heap.get, Heap.set, Heap.new, Heap.kill, killF, pushF, Heap.ready, refs, sliceParts, fillA, replL, aNode, Nd.cs, aInt, aAttrs, aInts, k1, k2])
        | (refine wps_cond (t := true) rfl (fun _ => ?_) (fun h => by cases h))
        | (refine wps_cond (t := false) rfl (fun h => by cases h) (fun _ => ?_))
        | ((refine wps_skip ?_); simp only [thenQ, blockQ])
        | ((refine wps_exit ?_); simp [thenQ, blockQ])))
      repeat refine wps_seq ?_
      refine wps_ret ?_
      simp [retVal, Try.f13, oneOr, thenQ, blockQ]
      exact ends_pure rfl (by simp only [rawB, hin, k1]; simp [k2])
  · refine callAt_body (fn := Try.f13) (s0 := ⟨[0, 1, 2, 4, 5], [aNode ⟨kind, space, [105, 102, 114, 97, 109, 101], attrs, data, up, kids⟩, .undef, .undef, .undef, .undef], [], 21, ⟨0, [[]]⟩⟩) Try.func13 rfl rfl rfl ?_
    (repeat (first
      | (refine wps_seq ?_)
      | (refine wps_block ?_)
      | (refine wps_label ?_; simp only [thenQ, blockQ])
      | ((refine wps_region callOK ?_); simp [ofV, ofV1, mkC_P, writeVar, writeCells, readCells, allSingle, AV.single, getFs, getF, setFs, setF, Heap.get, Heap.set, Heap.new, Heap.kill, killF, pushF, Heap.ready, refs, sliceParts, fillA, replL, aNode, Nd.cs, aInt, aAttrs, aInts, k1])
      | (refine wps_cond (t := true) rfl (fun _ => ?_) (fun h => by cases h))
      | (refine wps_cond (t := false) rfl (fun h => by cases h) (fun _ => ?_))
      | ((refine wps_skip ?_); simp only [thenQ, blockQ])
      | ((refine wps_exit ?_); simp [thenQ, blockQ])))
    repeat refine wps_seq ?_
    refine wps_ret ?_
    simp [retVal, Try.f13, oneOr, thenQ, blockQ]
    exact ends_pure rfl (by simp only [rawB, hin]; simp [k1])
theorem raw_noembed {T : List (Entry Try.prog)} (kind space : Int) (attrs : List At1) (data : Str) (up : Int) (kids : List Int) : CallAt (ctx T) 13 [aNode ⟨kind, space, [110, 111, 101, 109, 98, 101, 100], attrs, data, up, kids⟩] ⟨0, []⟩ (.bool (rawB ⟨kind, space, [110, 111, 101, 109, 98, 101, 100], attrs, data, up, kids⟩)) ⟨0, []⟩ := by
  have hin : inW wRaw [110, 111, 101, 109, 98, 101, 100] = true := by simp [inW, raw_split]
  by_cases k1 : kind = 1
  · by_cases k2 : space = 0
    · refine callAt_body (fn := Try.f13) (s0 := ⟨[0, 1, 2, 4, 5], [aNode ⟨kind, space, [110, 111, 101, 109, 98, 101, 100], attrs, data, up, kids⟩, .undef, .undef, .undef, .undef], [], 21, ⟨0, [[]]⟩⟩) Try.func13 rfl rfl rfl ?_
      (repeat (first
        | (refine wps_seq ?_)
        | (refine wps_block ?_)
        | (refine wps_label ?_; simp only [thenQ, blockQ])
        | ((refine wps_region callOK ?_); simp [ofV, ofV1, mkC_P, writeVar, writeCells, readCells, allSingle, AV.single, getFs, getF, setFs, setF, Heap.get, Heap.set, Heap.new, Heap.kill, killF, pushF, Heap.ready, refs, sliceParts, fillA, replL, aNode, Nd.cs, aInt, aAttrs, aInts, k1, k2])
        | (refine wps_cond (t := true) rfl (fun _ => ?_) (fun h => by cases h))
        | (refine wps_cond (t := false) rfl (fun h => by cases h) (fun _ => ?_))
        | ((refine wps_skip ?_); simp only [thenQ, blockQ])
        | ((refine wps_exit ?_); simp [thenQ, blockQ])))
      repeat refine wps_seq ?_
      refine wps_ret ?_
      simp [retVal, Try.f13, oneOr, thenQ, blockQ]
      exact ends_pure rfl (by simp only [rawB, hin, k1, k2]; simp)
    · refine callAt_body (fn := Try.f13) (s0 := ⟨[0, 1, 2, 4, 5], [aNode ⟨kind, space, [110, 111, 101, 109, 98, 101, 100], attrs, data, up, kids⟩, .undef, .undef, .undef, .undef], [], 21, ⟨0, [[]]⟩⟩) Try.func13 rfl rfl rfl ?_
      (repeat (first
        | (refine wps_seq ?_)
        | (refine wps_block ?_)
        | (refine wps_label ?_; simp only [thenQ, blockQ])
        | ((refine wps_region callOK ?_); simp [ofV, ofV1, mkC_P, writeVar, writeCells, readCells, allSingle, AV.single, getFs, getF, setFs, setF, Heap.get, Heap.set, Heap.new, Heap.kill, killF, pushF, Heap.ready, refs, sliceParts, fillA, replL, aNode, Nd.cs, aInt, aAttrs, aInts, k1, k2])
        | (refine wps_cond (t := true) rfl (fun _ => ?_) (fun h => by cases h))
        | (refine wps_cond (t := false) rfl (fun h => by cases h) (fun _ => ?_))
        | ((refine wps_skip ?_); simp only [thenQ, blockQ])
        | ((refine wps_exit ?_); simp [thenQ, blockQ])))
      repeat refine wps_seq ?_
      refine wps_ret ?_
      simp [retVal, Try.f13, oneOr, thenQ, blockQ]
      exact ends_pure rfl (by simp only [rawB, hin, k1]; simp [k2])
  · refine callAt_body (fn := Try.f13) (s0 := ⟨[0, 1, 2, 4, 5], [aNode ⟨kind, space, [110, 111, 101, 109, 98, 101, 100], attrs, data, up, kids⟩, .undef, .undef, .undef, .undef], [], 21, ⟨0, [[]]⟩⟩) Try.func13 rfl rfl rfl ?_
    (repeat (first
      | (refine wps_seq ?_)
      | (refine wps_block ?_)
      | (refine wps_label ?_; simp only [thenQ, blockQ])
      | ((refine wps_region callOK ?_); simp [ofV, ofV1, mkC_P, writeVar, writeCells, readCells, allSingle, AV.single, getFs, getF, setFs, setF, Heap.get, Heap.set, Heap.new, Heap.kill, killF, pushF, Heap.ready, refs, sliceParts, fillA, replL, aNode, Nd.cs, aInt, aAttrs, aInts, k1])
      | (refine wps_cond (t := true) rfl (fun _ => ?_) (fun h => by cases h))
      | (refine wps_cond (t := false) rfl (fun h => by cases h) (fun _ => ?_))
      | ((refine wps_skip ?_); simp only [thenQ, blockQ])
      | ((refine wps_exit ?_); simp [thenQ, blockQ])))
    repeat refine wps_seq ?_
    refine wps_ret ?_
    simp [retVal, Try.f13, oneOr, thenQ, blockQ]
    exact ends_pure rfl (by simp only [rawB, hin]; simp [k1])
theorem raw_noframes {T : List (Entry Try.prog)} (kind space : Int) (attrs : List At1) (data : Str) (up : Int) (kids : List Int) : CallAt (ctx T) 13 [aNode ⟨kind, space, [110, 111, 102, 114, 97, 109, 101, 115], attrs, data, up, kids⟩] ⟨0, []⟩ (.bool (rawB ⟨kind, space, [110, 111, 102, 114, 97, 109, 101, 115], attrs, data, up, kids⟩)) ⟨0, []⟩ := by
  have hin : inW wRaw [110, 111, 102, 114, 97, 109, 101, 115] = true := by simp [inW, raw_split]
  by_cases k1 : kind = 1
  · by_cases k2 : space = 0
    · refine callAt_body (fn := Try.f13) (s0 := ⟨[0, 1, 2, 4, 5], [aNode ⟨kind, space, [110, 111, 102, 114, 97, 109, 101, 115], attrs, data, up, kids⟩, .undef, .undef, .undef, .undef], [], 21, ⟨0, [[]]⟩⟩) Try.func13 rfl rfl rfl ?_
      (repeat (first
        | (refine wps_seq ?_)
        | (refine wps_block ?_)
        | (refine wps_label ?_; simp only [thenQ, blockQ])
        | ((refine wps_region callOK ?_); simp [ofV, ofV1, mkC_P, writeVar, writeCells, readCells, allSingle, AV.single, getFs, getF, setFs, setF, Heap.get, Heap.set, Heap.new, Heap.kill, killF, pushF, Heap.ready, refs, sliceParts, fillA, replL, aNode, Nd.cs, aInt, aAttrs, aInts, k1, k2])
        | (refine wps_cond (t := true) rfl (fun _ => ?_) (fun h => by cases h))
        | (refine wps_cond (t := false) rfl (fun h => by cases h) (fun _ => ?_))
        | ((refine wps_skip ?_); simp only [thenQ, blockQ])
        | ((refine wps_exit ?_); simp [thenQ, blockQ])))
      repeat refine wps_seq ?_
      refine wps_ret ?_
      simp [retVal, Try.f13, oneOr, thenQ, blockQ]
      exact ends_pure rfl (by simp only [rawB, hin, k1, k2]; simp)
    · refine callAt_body (fn := Try.f13) (s0 := ⟨[0, 1, 2, 4, 5], [aNode ⟨kind, space, [110, 111, 102, 114, 97, 109, 101, 115], attrs, data, up, kids⟩, .undef, .undef, .undef, .undef], [], 21, ⟨0, [[]]⟩⟩) Try.func13 rfl rfl rfl ?_
      (repeat (first
        | (refine wps_seq ?_)
        | (refine wps_block ?_)
        | (refine wps_label ?_; simp only [thenQ, blockQ])
        | ((refine wps_region callOK ?_); simp [ofV, ofV1, mkC_P, writeVar, writeCells, readCells, allSingle, AV.single, getFs, getF, setFs, setF, Heap.get, Heap.set, Heap.new, Heap.kill, killF, pushF, Heap.ready, refs, sliceParts, fillA, replL, aNode, Nd.cs, aInt, aAttrs, aInts, k1, k2])
        | (refine wps_cond (t := true) rfl (fun _ => ?_) (fun h => by cases h))
        | (refine wps_cond (t := false) rfl (fun h => by cases h) (fun _ => ?_))
        | ((refine wps_skip ?_); simp only [thenQ, blockQ])
        | ((refine wps_exit ?_); simp [thenQ, blockQ])))
      repeat refine wps_seq ?_
      refine wps_ret ?_
      simp [retVal, Try.f13, oneOr, thenQ, blockQ]
      exact ends_pure rfl (by simp only [rawB, hin, k1]; simp [k2])
  · refine callAt_body (fn := Try.f13) (s0 := ⟨[0, 1, 2, 4, 5], [aNode ⟨kind, space, [110, 111, 102, 114, 97, 109, 101, 115], attrs, data, up, kids⟩, .undef, .undef, .undef, .undef], [], 21, ⟨0, [[]]⟩⟩) Try.func13 rfl rfl rfl ?_
    (repeat (first
      | (refine wps_seq ?_)
      | (refine wps_block ?_)
      | (refine wps_label ?_; simp only [thenQ, blockQ])
      | ((refine wps_region callOK ?_); simp [ofV, ofV1, mkC_P, writeVar, writeCells, readCells, allSingle, AV.single, getFs, getF, setFs, setF, Heap.get, Heap.set, Heap.new, Heap.kill, killF, pushF, Heap.ready, refs, sliceParts, fillA, replL, aNode, Nd.cs, aInt, aAttrs, aInts, k1])
      | (refine wps_cond (t := true) rfl (fun _ => ?_) (fun h => by cases h))
      | (refine wps_cond (t := false) rfl (fun h => by cases h) (fun _ => ?_))
      | ((refine wps_skip ?_); simp only [thenQ, blockQ])
      | ((refine wps_exit ?_); simp [thenQ, blockQ])))
    repeat refine wps_seq ?_
    refine wps_ret ?_
    simp [retVal, Try.f13, oneOr, thenQ, blockQ]
    exact ends_pure rfl (by simp only [rawB, hin]; simp [k1])
theorem raw_plaintext {T : List (Entry Try.prog)} (kind space : Int) (attrs : List At1) (data : Str) (up : Int) (kids : List Int) : CallAt (ctx T) 13 [aNode ⟨kind, space, [112, 108, 97, 105, 110, 116, 101, 120, 116], attrs, data, up, kids⟩] ⟨0, []⟩ (.bool (rawB ⟨kind, space, [112, 108, 97, 105, 110, 116, 101, 120, 116], attrs, data, up, kids⟩)) ⟨0, []⟩ := by
  have hin : inW wRaw [112, 108, 97, 105, 110, 116, 101, 120, 116] = true := by simp [inW, raw_split]
  by_cases k1 : kind = 1
  · by_cases k2 : space = 0
    · refine callAt_body (fn := Try.f13) (s0 := ⟨[0, 1, 2, 4, 5], [aNode ⟨kind, space, [112, 108, 97, 105, 110, 116, 101, 120, 116], attrs, data, up, kids⟩, .undef, .undef, .undef, .undef], [], 21, ⟨0, [[]]⟩⟩) Try.func13 rfl rfl rfl ?_
      (repeat (first
        | (refine wps_seq ?_)
        | (refine wps_block ?_)
        | (refine wps_label ?_; simp only [thenQ, blockQ])
        | ((refine wps_region callOK ?_); simp [ofV, ofV1, mkC_P, writeVar, writeCells, readCells, allSingle, AV.single, getFs, getF, setFs, setF, Heap.get, Heap.set, Heap.new, Heap.kill, killF, pushF, Heap.ready, refs, sliceParts, fillA, replL, aNode, Nd.cs, aInt, aAttrs, aInts, k1, k2])
        | (refine wps_cond (t := true) rfl (fun _ => ?_) (fun h => by cases h))
        | (refine wps_cond (t := false) rfl (fun h => by cases h) (fun _ => ?_))
        | ((refine wps_skip ?_); simp only [thenQ, blockQ])
        | ((refine wps_exit ?_); simp [thenQ, blockQ])))
      repeat refine wps_seq ?_
      refine wps_ret ?_
      simp [retVal, Try.f13, oneOr, thenQ, blockQ]
      exact ends_pure rfl (by simp only [rawB, hin, k1, k2]; simp)
    · refine callAt_body (fn := Try.f13) (s0 := ⟨[0, 1, 2, 4, 5], [aNode ⟨kind, space, [112, 108, 97, 105, 110, 116, 101, 120, 116], attrs, data, up, kids⟩, .undef, .undef, .undef, .undef], [], 21, ⟨0, [[]]⟩⟩) Try.func13 rfl rfl rfl ?_
      (repeat (first
        | (refine wps_seq ?_)
        | (refine wps_block ?_)
        | (refine wps_label ?_; simp only [thenQ, blockQ])
        | ((refine wps_region callOK ?_); simp [ofV, ofV1, mkC_P, writeVar, writeCells, readCells, allSingle, AV.single, getFs, getF, setFs, setF, Heap.get, Heap.set, Heap.new, Heap.kill, killF, pushF, Heap.ready, refs, sliceParts, fillA, replL, aNode, Nd.cs, aInt, aAttrs, aInts, k1, k2])
        | (refine wps_cond (t := true) rfl (fun _ => ?_) (fun h => by cases h))
        | (refine wps_cond (t := false) rfl (fun h => by cases h) (fun _ => ?_))
        | ((refine wps_skip ?_); simp only [thenQ, blockQ])
        | ((refine wps_exit ?_); simp [thenQ, blockQ])))
      repeat refine wps_seq ?_
      refine wps_ret ?_
      simp [retVal, Try.f13, oneOr, thenQ, blockQ]
      exact ends_pure rfl (by simp only [rawB, hin, k1]; simp [k2])
  · refine callAt_body (fn := Try.f13) (s0 := ⟨[0, 1, 2, 4, 5], [aNode ⟨kind, space, [112, 108, 97, 105, 110, 116, 101, 120, 116], attrs, data, up, kids⟩, .undef, .undef, .undef, .undef], [], 21, ⟨0, [[]]⟩⟩) Try.func13 rfl rfl rfl ?_
    (repeat (first
      | (refine wps_seq ?_)
      | (refine wps_block ?_)
      | (refine wps_label ?_; simp only [thenQ, blockQ])
      | ((refine wps_region callOK ?_); simp [ofV, ofV1, mkC_P, writeVar, writeCells, readCells, allSingle, AV.single, getFs, getF, setFs, setF, Heap.get, Heap.set, Heap.new, Heap.kill, killF, pushF, Heap.ready, refs, sliceParts, fillA, replL, aNode, Nd.cs, aInt, aAttrs, aInts, k1])
      | (refine wps_cond (t := true) rfl (fun _ => ?_) (fun h => by cases h))
      | (refine wps_cond (t := false) rfl (fun h => by cases h) (fun _ => ?_))
      | ((refine wps_skip ?_); simp only [thenQ, blockQ])
      | ((refine wps_exit ?_); simp [thenQ, blockQ])))
    repeat refine wps_seq ?_
    refine wps_ret ?_
    simp [retVal, Try.f13, oneOr, thenQ, blockQ]
    exact ends_pure rfl (by simp only [rawB, hin]; simp [k1])
theorem raw_other {T : List (Entry Try.prog)} (name : Str) (kind space : Int) (attrs : List At1) (data : Str) (up : Int) (kids : List Int) (e0 : ¬ name = [115, 116, 121, 108, 101]) (e1 : ¬ name = [115, 99, 114, 105, 112, 116]) (e2 : ¬ name = [120, 109, 112]) (e3 : ¬ name = [105, 102, 114, 97, 109, 101]) (e4 : ¬ name = [110, 111, 101, 109, 98, 101, 100]) (e5 : ¬ name = [110, 111, 102, 114, 97, 109, 101, 115]) (e6 : ¬ name = [112, 108, 97, 105, 110, 116, 101, 120, 116]) : CallAt (ctx T) 13 [aNode ⟨kind, space, name, attrs, data, up, kids⟩] ⟨0, []⟩ (.bool (rawB ⟨kind, space, name, attrs, data, up, kids⟩)) ⟨0, []⟩ := by
  have hin : inW wRaw name = false := by simp [inW, raw_split, e0, e1, e2, e3, e4, e5, e6]
  refine callAt_body (fn := Try.f13) (s0 := ⟨[0, 1, 2, 4, 5], [aNode ⟨kind, space, name, attrs, data, up, kids⟩, .undef, .undef, .undef, .undef], [], 21, ⟨0, [[]]⟩⟩) Try.func13 rfl rfl rfl ?_
  (repeat (first
    | (refine wps_seq ?_)
    | (refine wps_block ?_)
    | (refine wps_label ?_; simp only [thenQ, blockQ])
    | ((refine wps_region callOK ?_); simp [ofV, ofV1, mkC_P, writeVar, writeCells, readCells, allSingle, AV.single, getFs, getF, setFs, setF, Heap.get, Heap.set, Heap.new, Heap.kill, killF, pushF, Heap.ready, refs, sliceParts, fillA, replL, aNode, Nd.cs, aInt, aAttrs, aInts, e0, e1, e2, e3, e4, e5, e6])
    | (refine wps_cond (t := true) rfl (fun _ => ?_) (fun h => by cases h))
    | (refine wps_cond (t := false) rfl (fun h => by cases h) (fun _ => ?_))
    | ((refine wps_skip ?_); simp only [thenQ, blockQ])
    | ((refine wps_exit ?_); simp [thenQ, blockQ])))
  repeat refine wps_seq ?_
  refine wps_ret ?_
  simp [retVal, Try.f13, oneOr, thenQ, blockQ]
  exact ends_pure rfl (by simp only [rawB, hin]; simp)
theorem c13 {T : List (Entry Try.prog)} (n : Nd) : CallAt (ctx T) 13 [aNode n] ⟨0, []⟩ (.bool (rawB n)) ⟨0, []⟩ := by
  obtain ⟨kind, space, name, attrs, data, up, kids⟩ := n
  by_cases e0 : name = [115, 116, 121, 108, 101]
  · subst e0; exact raw_style kind space attrs data up kids
  by_cases e1 : name = [115, 99, 114, 105, 112, 116]
  · subst e1; exact raw_script kind space attrs data up kids
  by_cases e2 : name = [120, 109, 112]
  · subst e2; exact raw_xmp kind space attrs data up kids
  by_cases e3 : name = [105, 102, 114, 97, 109, 101]
  · subst e3; exact raw_iframe kind space attrs data up kids
  by_cases e4 : name = [110, 111, 101, 109, 98, 101, 100]
  · subst e4; exact raw_noembed kind space attrs data up kids
  by_cases e5 : name = [110, 111, 102, 114, 97, 109, 101, 115]
  · subst e5; exact raw_noframes kind space attrs data up kids
  by_cases e6 : name = [112, 108, 97, 105, 110, 116, 101, 120, 116]
  · subst e6; exact raw_plaintext kind space attrs data up kids
  exact raw_other name kind space attrs data up kids e0 e1 e2 e3 e4 e5 e6
noncomputable def e13 : Entry Try.prog := mkE 13 [[]] (fun x : Nd => [aNode x]) (fun _ => True) (fun x => .bool (rawB x)) fun x _ => c13 (T := []) x
theorem k13 {T : List (Entry Try.prog)} (hT : findE 13 T = some e13.g) (n : Nd) (H : Heap) : callL (ctx T) (.fn 13) [aNode n] H = some (.bool (rawB n), H) :=
  mkE_scalar hT injN1 n trivial rfl (by simp [th_aNode])
theorem c14 {T : List (Entry Try.prog)} (hI : findE 28 T = some e28.g) (n : Nd) : CallAt (ctx T) 14 [aNode n] ⟨0, []⟩ (.bool (rawB n)) ⟨0, []⟩ := by
  obtain ⟨kind, space, name, attrs, data, up, kids⟩ := n
  have hk := fun H => k28 hI (w := wRaw) name (by decide) H
  by_cases k1 : kind = 1
  · by_cases k2 : space = 0
    · refine callAt_body (fn := Try.f14) (s0 := ⟨[0, 1, 2], [aNode ⟨kind, space, name, attrs, data, up, kids⟩, .undef, .undef], [], 16, ⟨0, [[]]⟩⟩) Try.func14 rfl rfl rfl ?_
      (repeat (first
        | (refine wps_seq ?_)
        | (refine wps_block ?_)
        | (refine wps_label ?_; simp only [thenQ, blockQ])
        | ((refine wps_region callOK ?_); simp [ofV, ofV1, mkC_P, writeVar, writeCells, readCells, allSingle, AV.single, getFs, getF, setFs, setF, Heap.get, Heap.set, Heap.new, Heap.kill, killF, pushF, Heap.ready, refs, sliceParts, fillA, replL, aNode, Nd.cs, aInt, aAttrs, aInts, k1, k2, hk])
        | (refine wps_cond (t := true) rfl (fun _ => ?_) (fun h => by cases h))
        | (refine wps_cond (t := false) rfl (fun h => by cases h) (fun _ => ?_))
        | ((refine wps_skip ?_); simp only [thenQ, blockQ])
        | ((refine wps_exit ?_); simp [thenQ, blockQ])))
      repeat refine wps_seq ?_
      refine wps_ret ?_
      simp [retVal, Try.f14, oneOr, thenQ, blockQ]
      exact ends_pure rfl (by simp [rawB, k1, k2])
    · refine callAt_body (fn := Try.f14) (s0 := ⟨[0, 1, 2], [aNode ⟨kind, space, name, attrs, data, up, kids⟩, .undef, .undef], [], 16, ⟨0, [[]]⟩⟩) Try.func14 rfl rfl rfl ?_
      (repeat (first
        | (refine wps_seq ?_)
        | (refine wps_block ?_)
        | (refine wps_label ?_; simp only [thenQ, blockQ])
        | ((refine wps_region callOK ?_); simp [ofV, ofV1, mkC_P, writeVar, writeCells, readCells, allSingle, AV.single, getFs, getF, setFs, setF, Heap.get, Heap.set, Heap.new, Heap.kill, killF, pushF, Heap.ready, refs, sliceParts, fillA, replL, aNode, Nd.cs, aInt, aAttrs, aInts, k1, k2, hk])
        | (refine wps_cond (t := true) rfl (fun _ => ?_) (fun h => by cases h))
        | (refine wps_cond (t := false) rfl (fun h => by cases h) (fun _ => ?_))
        | ((refine wps_skip ?_); simp only [thenQ, blockQ])
        | ((refine wps_exit ?_); simp [thenQ, blockQ])))
      repeat refine wps_seq ?_
      refine wps_ret ?_
      simp [retVal, Try.f14, oneOr, thenQ, blockQ]
      exact ends_pure rfl (by simp [rawB, k1, k2])
  · refine callAt_body (fn := Try.f14) (s0 := ⟨[0, 1, 2], [aNode ⟨kind, space, name, attrs, data, up, kids⟩, .undef, .undef], [], 16, ⟨0, [[]]⟩⟩) Try.func14 rfl rfl rfl ?_
    (repeat (first
      | (refine wps_seq ?_)
      | (refine wps_block ?_)
      | (refine wps_label ?_; simp only [thenQ, blockQ])
      | ((refine wps_region callOK ?_); simp [ofV, ofV1, mkC_P, writeVar, writeCells, readCells, allSingle, AV.single, getFs, getF, setFs, setF, Heap.get, Heap.set, Heap.new, Heap.kill, killF, pushF, Heap.ready, refs, sliceParts, fillA, replL, aNode, Nd.cs, aInt, aAttrs, aInts, k1, hk])
      | (refine wps_cond (t := true) rfl (fun _ => ?_) (fun h => by cases h))
      | (refine wps_cond (t := false) rfl (fun h => by cases h) (fun _ => ?_))
      | ((refine wps_skip ?_); simp only [thenQ, blockQ])
      | ((refine wps_exit ?_); simp [thenQ, blockQ])))
    repeat refine wps_seq ?_
    refine wps_ret ?_
    simp [retVal, Try.f14, oneOr, thenQ, blockQ]
    exact ends_pure rfl (by simp [rawB, k1])
noncomputable def e14 : Entry Try.prog := mkE 14 [[]] (fun x : Nd => [aNode x]) (fun _ => True) (fun x => .bool (rawB x)) fun x _ => c14 (T := [e28]) rfl x
theorem k14 {T : List (Entry Try.prog)} (hT : findE 14 T = some e14.g) (n : Nd) (H : Heap) : callL (ctx T) (.fn 14) [aNode n] H = some (.bool (rawB n), H) :=
  mkE_scalar hT injN1 n trivial rfl (by simp [th_aNode])
end Go.Proofs.Ytohkgmnoamfmgaa
