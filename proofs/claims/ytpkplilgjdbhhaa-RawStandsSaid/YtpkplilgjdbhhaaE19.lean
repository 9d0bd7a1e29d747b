/- Regions that draw their order: the theorem. No condition. -/
import Derived.Test.YtpkplilgjdbhhaaE18
namespace Go.Proofs.Ytpkplilgjdbhhaa
set_option linter.unusedSimpArgs false
set_option linter.unusedVariables false
open Go Go.RowKit
section
variable {C : Ctx} {call : CallE} {ops : Array Oper} {base : Nat} {R : Nat → DrawSt} {V : Nat → AV} {ρ0 : Place} {H0 : Heap} {w0 : World} {ds : List Deferred}
variable {D : Nat → Prop} {ρ : Place} {a : Act} {w : World} {H : Heap} {i : Nat} {o : Oper}

/-- an operation that is ready -/
theorem Inv.ready (hC : CallOK C call) (run : Run C call ops base R V) (dr : Drawn ops) (hbase : H0.n = base)
    (inv : Inv C ops base R V ρ0 H0 w0 ds D ρ a w H) (ho : ops[i]? = some o) (hn : ¬ D i) (hc : Comes ops D i) {r : Option Nat} {K : Act → World → Prop} {Q : Exit → Act → World → Prop}
    (hK : ∀ ρ' a' w' H', Inv C ops base R V ρ0 H0 w0 ds (And1 D i) ρ' a' w' H' → K a' w') : wpOpIn (fen r) 0 C.P ops Q i K a w := by
  have hi := (Array.getElem?_eq_some_iff.1 ho).1
  have hguard : ∀ H1, guardA ops (only (R i).s (slotsOf ops o) H1) o = guardA ops (R i).s o := fun H1 => guardA_congr fun t ht => by rw [only_get, if_pos ht]
  have hval : ∀ H1, evalVal C call o (only (R i).s (slotsOf ops o) H1) = evalVal C call o { (R i).s with H := H1 } := fun H1 =>
    evalVal_congr rfl fun t ht => by rw [only_get, if_pos (asks_slots ht)]; rfl
  have tup : ∀ ρ', VR ρ' (.tup []) undef := fun ρ' => .tup [] #[] rfl (fun i h => absurd h (Nat.not_lt_zero i))
  have laid : Acts ops i → Sim ρ (H.lay (wantedBy (Region.before ops) i (R i).ps)) w ∧ Step ρ0 H0 w0 ρ (H.lay (wantedBy (Region.before ops) i (R i).ps)) w := fun hact => by
    have hw := inv.wanted run dr hn hc hact
    have hid : ∀ e, e ∈ wantedBy (Region.before ops) i (R i).ps → ∃ l, Hid w0 ρ H w e.1 e.2 l := fun e he => by
      obtain ⟨A, h1, h2, _, h4, h5⟩ := hw e he
      rw [h1]; exact inv.pend A e.2 h2 h4 h5
    refine ⟨inv.sim.lay ((wanted_ids _ i _).nodup (run.ps_at i (Nat.le_of_lt hi)).1) hid fun e e' he he' l l' hl hl' hcb => ?_, inv.step.lay hid⟩
    obtain ⟨A, h1, h2, _, h4, h5⟩ := hw e he
    obtain ⟨A', g1, g2, _, g4, g5⟩ := hw e' he'
    rw [h1] at hl
    rw [g1] at hl'
    rw [h1, g1, inv.apart A A' e.2 e'.2 h2 g2 h4 g4 h5 g5 l l' hl hl' hcb]
  have wants : Acts ops i → ∀ e, e ∈ wantedBy (Region.before ops) i (R i).ps → ∃ A, e.1 = base + A ∧ D A ∧ (Acts ops i ∧ ahead (Region.before ops) A i = true) ∧ AllocAt C ops R A e.2 ∧ (∀ j, D j → Acts ops j → ahead (Region.before ops) A j = false) :=
    fun hact e he => let ⟨A, h1, h2, h3, h4, h5⟩ := inv.wanted run dr hn hc hact e he; ⟨A, h1, h2, ⟨hact, h3⟩, h4, h5⟩
  have env := fun H1 => inv.env run dr ho hn hc H1
  unfold wpOpIn
  simp only [ho]
  -- an operation that makes its value at heap H1
  have go : ∀ (L : List (Nat × Blk)) (H' : Heap), guardA ops (R i).s o = some true → (∀ k, ¬ AllocAt C ops R i k) →
      (∀ e, e ∈ L → ∃ A, e.1 = base + A ∧ D A ∧ (Acts ops i ∧ ahead (Region.before ops) A i = true) ∧ AllocAt C ops R A e.2 ∧ (∀ j, D j → Acts ops j → ahead (Region.before ops) A j = false)) →
      Sim ρ (H.lay L) w → Step ρ0 H0 w0 ρ (H.lay L) w → evalVal C call o { (R i).s with H := H.lay L } = some (V i, H') → CurH ops R (And1 D i) H' →
      (if Region.wanted o (yielded ops a.tmps) = true then o.wpIn (fen r) 0 C.P a w K Q else (∀ f, o.about C.P w a.eval = some f → (fen r).fn f) ∧ K (a.put o.dst undef) w) := by
    intro L H' hg hna hL sm st he hcur
    rw [guard_run (env H) ((hguard H).trans hg)]
    simp only [if_true]
    refine op_core hC ((hval (H.lay L)).trans he) sm (env _) fun x ρ' w' h1 h2 h3 => hK ρ' _ w' H' ?_
    exact inv.turn run dr ho hn hc hna hL h1 h2 st h3 hcur
  have skip : ∀ (L : List (Nat × Blk)), guardA ops (R i).s o = some false → V i = .tup [] →
      (∀ e, e ∈ L → ∃ A, e.1 = base + A ∧ D A ∧ (Acts ops i ∧ ahead (Region.before ops) A i = true) ∧ AllocAt C ops R A e.2 ∧ (∀ j, D j → Acts ops j → ahead (Region.before ops) A j = false)) →
      Sim ρ (H.lay L) w → Step ρ0 H0 w0 ρ (H.lay L) w → CurH ops R (And1 D i) (H.lay L) →
      (if Region.wanted o (yielded ops a.tmps) = true then o.wpIn (fen r) 0 C.P a w K Q else (∀ f, o.about C.P w a.eval = some f → (fen r).fn f) ∧ K (a.put o.dst undef) w) := by
    intro L hg hv hL sm st hcur
    rw [guard_run (env H) ((hguard H).trans hg)]
    simp only [Bool.false_eq_true, if_false]
    refine ⟨fun f _ => fen_fn r f, hK ρ _ w (H.lay L) (inv.turn run dr ho hn hc (fun k hk => ?_) hL (by rw [hv]; exact tup ρ) sm st (.refl _ _ _) hcur)⟩
    obtain ⟨o', p, g1, _, g3, _⟩ := hk
    rw [ho] at g1; cases g1
    rw [hg] at g3; cases g3
  have nil : ∀ e, e ∈ ([] : List (Nat × Blk)) → ∃ A, e.1 = base + A ∧ D A ∧ (Acts ops i ∧ ahead (Region.before ops) A i = true) ∧ AllocAt C ops R A e.2 ∧ (∀ j, D j → Acts ops j → ahead (Region.before ops) A j = false) := fun e he => by cases he
  have notAct : clsOf o.op ≠ .acts → ¬ Acts ops i := fun h ⟨o', g1, g2⟩ => by rw [ho] at g1; cases g1; exact h g2
  have notAlloc : clsOf o.op ≠ .allocs → ∀ k, ¬ AllocAt C ops R i k := fun h k ⟨o', p, g1, g2, _⟩ => by rw [ho] at g1; cases g1; exact h g2
  cases run.how i o ho with
  | skip hg hv hcl hH hp hh hr => exact skip [] hg hv nil inv.sim inv.step (inv.heapStays (notAct hcl))
  | skipActs hg hv hcl hH hp hh hr =>
    have hact : Acts ops i := ⟨o, ho, hcl⟩
    refine skip _ hg hv (wants hact) (laid hact).1 (laid hact).2 ?_
    have h1 := inv.heapIs run dr hn hc hact
    rw [h1, ← hH]
    exact inv.heapTurns dr hn hc hact
  | alloc hg hcl k hk hv hH hp hh hr =>
    have hAt : AllocAt C ops R i k.2 := ⟨o, k, ho, hcl, hg, hk, rfl⟩
    rw [guard_run (env H) ((hguard H).trans hg)]
    simp only [if_true]
    have hk' : mkBlk C o (only (R i).s (slotsOf ops o) H) = some k := (mkBlk_congr fun t ht => by rw [only_get, if_pos (asks_slots ht)]).trans hk
    obtain ⟨ob, fin, x, h1, h2⟩ := mkBlk_run (C := C) (s := only (R i).s (slotsOf ops o) H) inv.sim (env H) hk'
    obtain ⟨h3, h4⟩ := h2 (base + i) (inv.undone i hn hi)
    have hsome : ∃ q, evalVal C call o (only (R i).s (slotsOf ops o) H) = some q := by
      unfold evalVal
      cases hop : o.op <;> simp [clsOf, hop] at hcl <;> simp only [hk', Option.bind_some]
      all_goals first | exact ⟨_, rfl⟩ | (split at hcl <;> (try simp at hcl) <;> split at hcl <;> simp at hcl)
    obtain ⟨q, hq⟩ := hsome
    refine ⟨fun f _ => fen_fn r f, ?_⟩
    rw [semAt_exec hq, h1]
    exact hK _ _ _ H (inv.allocs run dr hbase ho hn hc hAt (by rw [hv]; exact h3) h4)
  | act hg hcl he hp hh hr =>
    have hact : Acts ops i := ⟨o, ho, hcl⟩
    have h1 := inv.heapIs run dr hn hc hact
    refine go _ (R (i + 1)).s.H hg (notAlloc (by rw [hcl]; intro e; cases e)) (wants hact) (laid hact).1 (laid hact).2 ?_ (inv.heapTurns dr hn hc hact)
    rw [h1]; exact he
  | read hg hcl he hH hp hh hr =>
    have hna := notAct (by rw [hcl]; intro e; cases e)
    refine go [] H hg (notAlloc (by rw [hcl]; intro e; cases e)) nil inv.sim inv.step ?_ (inv.heapStays hna)
    have hrec : ({ i := i, o := o, s := (R i).s, v := V i } : Rec) ∈ (R ops.size).rs := by
      have := run.rs_at (x := { i := i, o := o, s := (R i).s, v := V i }) (i := i + 1) (by rw [hr]; exact List.mem_cons_self) (ops.size - (i + 1)) (by omega)
      have e : i + 1 + (ops.size - (i + 1)) = ops.size := by omega
      rw [e] at this; exact this
    have hs := run.same_at inv.closed (x := { i := i, o := o, s := (R i).s, v := V i }) hn hc inv.heap ops.size (Nat.le_refl _) (fun j hj _ => inv.inside j hj) (run.same _ hrec)
    unfold sameAt at hs
    simp only at hs
    show evalVal C call o { (R i).s with H := H } = _
    cases hy : evalVal C call o { (R i).s with H := H } with
    | none => rw [hy] at hs; cases hs
    | some y =>
      rw [hy] at hs
      obtain ⟨v, H1⟩ := y
      simp only [decide_eq_true_eq] at hs
      subst hs
      have := evalVal_reads hcl hy
      simp only at this
      rw [this]
  | pure hg hcl he hH hp hh hr =>
    have hna := notAct (by rw [hcl]; intro e; cases e)
    exact go [] H hg (notAlloc (by rw [hcl]; intro e; cases e)) nil inv.sim inv.step ((evalVal_pure hcl he).2 H) (inv.heapStays hna)

theorem count_set {l : Array Bool} {i : Nat} (hi : i < l.size) (h : l.getD i true = false) : (l.setIfInBounds i true).toList.count false + 1 = l.toList.count false := by
  have hl : l[i] = false := by simpa [Array.getD, hi] using h
  have h1 : i < l.toList.length := by simpa using hi
  rw [Array.toList_setIfInBounds, List.count_set h1]
  have h2 : l.toList[i] = false := by simpa using hl
  have hlen : l.toList.length = l.size := by simp
  have hpos : 0 < l.toList.count false := List.count_pos_iff.2 (by rw [← h2]; exact List.getElem_mem h1)
  have e1 : (l.toList[i] == false) = true := by rw [h2]; rfl
  rw [if_pos e1]
  simp only [Bool.true_eq_false, beq_iff_eq, if_false]
  omega
theorem draw_any (hC : CallOK C call) (run : Run C call ops base R V) (dr : Drawn ops) (hbase : H0.n = base) {r : Option Nat} {Q : Exit → Act → World → Prop}
    (hk : ∀ ρ' a' w' H' D, (∀ j, j < ops.size → D j) → Inv C ops base R V ρ0 H0 w0 ds D ρ' a' w' H' → Q .normal a' w') :
    ∀ (fuel : Nat) (listed : Array Bool) (ρ : Place) (a : Act) (w : World) (H : Heap), listed.size = ops.size → listed.toList.count false ≤ fuel →
      Inv C ops base R V ρ0 H0 w0 ds (fun j => listed.getD j false = true) ρ a w H → wpAnyIn (fen r) 0 C.P .any ops Q fuel listed a w := by
  have fin : ∀ (listed : Array Bool) ρ a w H, listed.size = ops.size → Region.ready .any ops listed = [] → Inv C ops base R V ρ0 H0 w0 ds (fun j => listed.getD j false = true) ρ a w H → Q .normal a w := by
    intro listed ρ a w H hs hr inv
    refine hk ρ a w H _ (fun j hj => ?_) inv
    induction j using Nat.strongRecOn with
    | _ j ih =>
      cases hl : listed.getD j false with
      | true => rfl
      | false =>
        have hjs : j < listed.size := by omega
        have hmem : j ∈ Region.ready .any ops listed := mem_ready.2 ⟨by simpa [Array.getD, hjs] using hl, ops[j], by simp [hj], fun e he hb => by
          have hlt := dr.back j ops[j] (by simp [hj]) e he hb
          exact ih e.on hlt (by omega)⟩
        rw [hr] at hmem; cases hmem
  intro fuel
  induction fuel with
  | zero =>
    intro listed ρ a w H hs hcnt inv
    have hr : Region.ready .any ops listed = [] := by
      rw [List.eq_nil_iff_forall_not_mem]
      intro j hj
      obtain ⟨h1, o, ho, _⟩ := mem_ready.1 hj
      have hjs : j < listed.size := by rw [hs]; exact (Array.getElem?_eq_some_iff.1 ho).1
      have hl : listed.toList[j]'(by simpa using hjs) = false := by simpa [Array.getD, hjs] using h1
      have : 0 < listed.toList.count false := List.count_pos_iff.2 (by rw [← hl]; exact List.getElem_mem _)
      omega
    exact ⟨hr, fin listed ρ a w H hs hr inv⟩
  | succ fuel ih =>
    intro listed ρ a w H hs hcnt inv
    refine ⟨fun hr => fin listed ρ a w H hs hr inv, fun i hi => ?_⟩
    obtain ⟨h1, o, ho, h3⟩ := mem_ready.1 hi
    have hio : i < ops.size := (Array.getElem?_eq_some_iff.1 ho).1
    have his : i < listed.size := by rw [hs]; exact hio
    have hn : ¬ listed.getD i false = true := by
      have : listed[i] = false := by simpa [Array.getD, his] using h1
      simp [Array.getD, his, this]
    refine inv.ready hC run dr hbase ho hn (fun o' ho' e he hb => by rw [ho] at ho'; cases ho'; exact h3 e he hb) fun ρ' a' w' H' inv' => ?_
    refine ih (listed.setIfInBounds i true) ρ' a' w' H' (by simp [hs]) (by have := count_set his h1; omega) ?_
    have : (fun j => (listed.setIfInBounds i true).getD j false = true) = And1 (fun j => listed.getD j false = true) i := by
      funext j
      apply propext
      unfold And1
      simp only [Array.getD_eq_getD_getElem?, Array.getElem?_setIfInBounds]
      by_cases hj : i = j
      · subst hj; simp [his]
      · rw [if_neg hj]
        constructor
        · exact .inr
        · rintro (h | h)
          · exact absurd h.symm hj
          · exact h
    rw [this]; exact inv'

theorem draw_wp (hC : CallOK C call) {id : Nat} {s s' : St} {r : Option Nat} {Q : Exit → Act → World → Prop} (hm : C.P.follows .mixedOrders = true)
    (h : evalDraw C call ops s = some s') (sm : Sim ρ s.H w) (e : EnvR ρ s a)
    (hk : ∀ a' w' ρ', Sim ρ' s'.H w' → Step ρ s.H w ρ' s'.H w' → EnvR ρ' s' a' → a'.defers = a.defers → Q .normal a' w') : (Code.region id ops true).wpIn (fen r) 0 C.P Q a w := by
  obtain ⟨dr, R, V, run, h0, h1⟩ := evalDraw_run h
  refine wpIn_region_any hm ?_
  obtain ⟨g1, g2, g3⟩ := freshenAll_run (l := ops.toList) sm e
  have hn0 : (freshenAll ops.toList s).H.n = s.H.n := freshenAll_n _ _
  have hR0 : (R 0).s.H = ⟨s.H.n + ops.size, (freshenAll ops.toList s).H.fs⟩ := by rw [h0]; simp [reserve, hn0]
  have sm0 : Sim ρ (R 0).s.H w := by
    rw [hR0]; exact g1.of_sub (fun _ h => h) (by rw [hn0]; exact Nat.le_add_right _ _) g1.nodup
  have st0 : Step ρ s.H w ρ (R 0).s.H w := by
    rw [hR0]; exact g2.trans (.of_sub (fun _ h => h) (by rw [hn0]; exact Nat.le_add_right _ _))
  have e0 : EnvR ρ (R 0).s a := by rw [h0]; exact ⟨g3.size, g3.val⟩
  have nobody : ∀ j, ¬ (Array.replicate ops.size false).getD j false = true := fun j => by
    rw [Array.getD_eq_getD_getElem?, Array.getElem?_replicate]
    split <;> simp
  have hw : ({ w with drawn := w.drawn + 1 } : World) = w.drew := rfl
  have inv : Inv C ops s.H.n R V ρ s.H w a.defers (fun j => (Array.replicate ops.size false).getD j false = true) ρ a w.drew (R 0).s.H :=
    ⟨fun j hj => absurd hj (nobody j), fun j hj => absurd hj (nobody j), e0.size, fun t v hc => by
      rcases hc with ⟨j, hj, _⟩ | ⟨_, hv⟩
      · exact absurd hj (nobody j)
      · exact e0.val t v hv,
     .inr ⟨fun k hk => absurd hk (nobody k), rfl⟩, sm0.drew, st0.trans (Step.drew _ _ _), by rw [hR0]; exact Nat.le_refl _, fun A _ _ => sm.dom _ (Nat.le_add_right _ _), fun A k hA => absurd hA (nobody A),
     fun A A' k k' hA => absurd hA (nobody A), rfl⟩
  rw [hw]
  refine draw_any hC run dr rfl (fun ρ' a' w' H' D hD inv => ?_) ops.size _ ρ a w.drew _ (by simp) (by simp) inv
  -- all are done
  have hall : ∀ j, D j ↔ j < ops.size := fun j => ⟨inv.inside j, hD j⟩
  have hDeq : D = fun j => j < ops.size := funext fun j => propext (hall j)
  subst hDeq
  have hH : H' = (R ops.size).s.H := inv.heap.one (run.heap_at ops.size (Nat.le_refl _))
  obtain ⟨hnd, hps⟩ := run.ps_at ops.size (Nat.le_refl _)
  have hun : ∀ p, p ∈ (R ops.size).ps → ∀ j, j < ops.size → Acts ops j → ahead (Region.before ops) p.i j = false := fun p hp j hj hja => by
    cases hx : ahead (Region.before ops) p.i j with
    | false => rfl
    | true => rw [(hps p hp).2.2.2 j hja (dr.lt hx) hj] at hx; cases hx
  have hid : ∀ x, x ∈ allPend (R ops.size).ps → ∃ l, Hid w ρ' H' w' x.1 x.2 l := fun x hx => by
    obtain ⟨p, hp, rfl⟩ := mem_allPend.1 hx
    obtain ⟨q1, q2, q3, _⟩ := hps p hp
    simp only
    rw [q2]; exact inv.pend p.i p.k q1 q3 (hun p hp)
  have smE := inv.sim.lay (L := allPend (R ops.size).ps) (by rw [allPend_ids]; exact hnd) hid fun x x' hx hx' l l' hl hl' hcb => by
    obtain ⟨p, hp, rfl⟩ := mem_allPend.1 hx
    obtain ⟨p', hp', rfl⟩ := mem_allPend.1 hx'
    obtain ⟨q1, q2, q3, _⟩ := hps p hp
    obtain ⟨q1', q2', q3', _⟩ := hps p' hp'
    simp only at hl hl' ⊢
    rw [q2] at hl ⊢
    rw [q2'] at hl' ⊢
    rw [inv.apart p.i p'.i p.k p'.k q1 q1' q3 q3' (hun p hp) (hun p' hp') l l' hl hl' hcb]
  have stE := inv.step.lay hid
  rw [hH] at smE stE
  subst h1
  refine hk a' w' ρ' smE stE ⟨?_, fun t v hv => ?_⟩ inv.defers
  · show (R ops.size).s.sz = _
    rw [run.sz_at ops.size (Nat.le_refl _)]; exact inv.size
  · exact inv.slots t v (run.get_at ops.size (Nat.le_refl _) t v hv)
end
end Go.Proofs.Ytpkplilgjdbhhaa
