/- How E's operations meet the model's: all that call no Go function. No condition. -/
import Derived.Test.YtpkplilgjdbhhaaE12
namespace Go.Proofs.Ytpkplilgjdbhhaa
set_option linter.unusedSimpArgs false
set_option linter.unusedVariables false
open Go Go.RowKit

section
variable {ρ : Place} {w : World}

/-- an operation's value, or nothing, in the next world -/
def Done (ρ : Place) (H : Heap) (w : World) (r : Result Next) (v : AV) (H' : Heap) : Prop :=
  ∃ x ρ' w', VR ρ' v x ∧ Sim ρ' H' w' ∧ Step ρ H w ρ' H' w' ∧ (r = .ok (.value x) w' ∨ (r = .ok .skip w' ∧ x = undef))
theorem Done.of_good {H H' : Heap} {v : AV} {P : Program} {sem : Sem Value} (h : Good ρ H w (sem.run P w) v H') : Done ρ H w ((do Pure.pure (Next.value (← sem)) : Sem Next).run P w) v H' := by
  obtain ⟨x, ρ', w', h1, h2, h3, h4⟩ := h
  exact ⟨x, ρ', w', h2, h3, h4, .inl (by simp [h1])⟩
theorem Done.pure {H : Heap} {v : AV} {x : Value} {P : Program} {sem : Sem Value} (s : Sim ρ H w) (hr : sem.run P w = .ok x w) (hv : VR ρ v x) : Done ρ H w ((do Pure.pure (Next.value (← sem)) : Sem Next).run P w) v H :=
  .of_good (Good.pure s hv hr)
theorem Done.unit {H H' : Heap} {w' : World} {P : Program} {sem : Sem Unit} (hr : sem.run P w = .ok () w') (s : Sim ρ H' w') (t : Step ρ H w ρ H' w') : Done ρ H w ((do sem; Pure.pure Next.skip : Sem Next).run P w) .undef H' :=
  ⟨undef, ρ, w', .undef _, s, t, .inr ⟨by simp [hr], rfl⟩⟩

theorem vrs_nil {xs : List Value} (h : VRs ρ [] xs) : xs = [] := by cases xs with | nil => rfl | cons _ _ => have := h.1; simp at this
theorem vrs_one {v : AV} {xs : List Value} (h : VRs ρ [v] xs) : ∃ x, xs = [x] ∧ VR ρ v x := by
  cases xs with
  | nil => have := h.1; simp at this
  | cons x r => exact ⟨x, by rw [vrs_nil h.tail], h.head⟩
theorem vrs_two {v u : AV} {xs : List Value} (h : VRs ρ [v, u] xs) : ∃ x y, xs = [x, y] ∧ VR ρ v x ∧ VR ρ u y := by
  cases xs with
  | nil => have := h.1; simp at this
  | cons x r =>
    obtain ⟨y, rfl, hy⟩ := vrs_one h.tail
    exact ⟨x, y, rfl, h.head, hy⟩

theorem mkBlk_run {C : Ctx} {o : Oper} {s : St} {a : Act} {k : (Nat → AV) × Blk} (sm : Sim ρ s.H w) (e : EnvR ρ s a) (h : mkBlk C o s = some k) :
    ∃ (ob : Obj) (fin : Nat) (x : Value), (execOp a.eval o).run C.P w = .ok (.value x) (w.alloc ob) ∧ ∀ n, ρ n = none →
      VR (ρ.upd n ⟨w.heap.size, 0, fin⟩) (k.1 n) x ∧ BlkR (ρ.upd n ⟨w.heap.size, 0, fin⟩) (w.alloc ob) ⟨w.heap.size, 0, fin⟩ k.2 := by
  unfold mkBlk at h
  have cells : ∀ {cs : List AV} {c : Array Value} {t : TypeId}, VRs ρ cs c.toList → ∀ n, ρ n = none → BlkR (ρ.upd n ⟨w.heap.size, 0, c.size⟩) (w.alloc (.cells c t)) ⟨w.heap.size, 0, c.size⟩ (.cells cs) := fun {cs c t} hv n hn =>
    blk_new (by rw [← hv.1]; simp) (fun i h h' => (hv.2 i h (by simpa using h')).mono (Place.le_upd hn)) (fun i _ => by simp)
  split at h
  · rename_i t hop
    replace h := Option.bind_eq_some_iff.1 h; obtain ⟨z, hz, h⟩ := h
    replace h := Option.bind_eq_some_iff.1 h; obtain ⟨n, hn, h⟩ := h
    split at h
    · simp only [Option.some.injEq] at h
      subst h
      obtain ⟨zv, rfl, hzr, _⟩ := zeroOf_run hz
      refine ⟨_, zv.cells.size, _, by simp [execOp, hop, Instr.alloc, hzr, newVar, newRow, newObj, Sem.run]; rfl, fun m hm => ⟨.ptr m 0 _ Place.upd_same, cells (VRs.const zv) m hm⟩⟩
    · simp at h
  · rename_i t x hop
    replace h := Option.bind_eq_some_iff.1 h; obtain ⟨v, hv, h⟩ := h
    split at h
    · rename_i hsing
      simp only [Option.some.injEq] at h
      subst h
      have hvr := opnd_run e hv
      have hc : VRs ρ v.cells (a.eval x).cells.toList := hvr.cells (by rintro rfl; simp [AV.cells, allSingle, AV.single] at hsing) (by rintro l rfl; simp [AV.cells, allSingle, AV.single] at hsing)
      refine ⟨_, (a.eval x).cells.size, _, by simp [execOp, hop, Instr.box, newVar, newRow, newObj, Sem.run]; rfl, fun m hm => ⟨.ptr m 0 _ Place.upd_same, cells hc m hm⟩⟩
    · simp at h
  · rename_i t len parts hop
    replace h := Option.bind_eq_some_iff.1 h; obtain ⟨ps, hps, h⟩ := h
    replace h := Option.bind_eq_some_iff.1 h; obtain ⟨cs, hcs, h⟩ := h
    simp only [Option.some.injEq] at h
    subst h
    obtain ⟨h1, h2⟩ := opndP_run e hps
    obtain ⟨c, el, hrun, hv⟩ := buildSlice_run (vals := parts.toList.map fun p => (p.1, a.eval p.2)) sm hcs (by simp [h1]) (by simpa [Function.comp_def] using h2)
    refine ⟨.cells c el, c.size, .slice (some ⟨w.heap.size, 0, none⟩) len len, ?_, fun m hm => ⟨.slcE m 0 len len _ Place.upd_same (Nat.le_refl _), cells hv m hm⟩⟩
    have : (parts.toList.map fun p => (p.1, a.eval p.2)).toArray = parts.map fun (i, x) => (i, a.eval x) := by simp [← List.map_toArray]
    rw [this] at hrun
    simp [execOp, hop, hrun]
  · rename_i t r hop
    replace h := Option.bind_eq_some_iff.1 h; obtain ⟨_, hr, h⟩ := h
    simp only [Option.some.injEq] at h
    subst h
    refine ⟨.map #[] 0, 0, .map (some w.heap.size), ?_, fun m hm => ⟨.map m _ Place.upd_same, #[], 0, ?_, rfl, fun i h => absurd h (Nat.not_lt_zero i)⟩⟩
    · cases r with
      | none => simp [execOp, hop, Instr.makeMap, newObj, Sem.run]
      | some x =>
        obtain ⟨v, hv, hr⟩ := Option.bind_eq_some_iff.1 hr
        have hvr := opnd_run e hv
        obtain ⟨d, hd, hr⟩ := Option.bind_eq_some_iff.1 hr
        split at hr
        · rename_i k i
          cases hvr' : a.eval x <;> rw [hvr'] at hvr <;> cases hvr
          simp [execOp, hop, Instr.makeMap, run_underlying hd, hvr', asInt, asIntOf, newObj, Sem.run]
        · simp at hr
    · show (w.heap.push _)[w.heap.size]? = _
      simp
  · simp at h

theorem opnds_arr {s : St} {a : Act} (e : EnvR ρ s a) {xs : Array Operand} {vs : List AV} (h : opnds s xs.toList = some vs) : VRs ρ vs (xs.map a.eval).toList := by
  simpa using opnds_run e h
theorem VR.args {fn : Fn} {a c : List AV} {x : Value} (h : VR ρ (.func fn a c) x) : ∃ a' c', x = .func fn a' c' ∧ VRs ρ a a'.toList ∧ VRs ρ c c'.toList := by
  cases h with
  | func _ _ _ a' c' ha hc hav hcv => exact ⟨a', c', rfl, agg_vrs ha hav, agg_vrs hc hcv⟩

theorem builtin_run {C : Ctx} {H H' : Heap} (sm : Sim ρ H w) {b : Builtin} {ts : Array TypeId} {ty : TypeId} {cs : Array Bool} {args : List AV} {v : AV} {xs : List Value} (h : builtinA C.P H b ts args = some (v, H'))
    (hv : VRs ρ args xs) : Done ρ H w ((builtin b ts ty cs xs.toArray).run C.P w) v H' := by
  unfold builtinA at h
  split at h
  · obtain ⟨x, rfl, hx⟩ := vrs_one hv
    replace h := Option.bind_eq_some_iff.1 h; obtain ⟨t, ht, h⟩ := h
    replace h := Option.bind_eq_some_iff.1 h; obtain ⟨n, hn, h⟩ := h
    simp only [Option.some.injEq, Prod.mk.injEq] at h
    obtain ⟨rfl, rfl⟩ := h
    exact Done.pure sm (len_run sm ht hn hx) (.int _ _)
  · obtain ⟨x, y, rfl, hx, hy⟩ := vrs_two hv
    replace h := Option.bind_eq_some_iff.1 h; obtain ⟨t, ht, h⟩ := h
    replace h := Option.bind_eq_some_iff.1 h; obtain ⟨d, hd, h⟩ := h
    split at h
    · rename_i elem
      replace h := Option.bind_eq_some_iff.1 h; obtain ⟨_, hu, h⟩ := h
      split at hu
      · rename_i u hu1
        obtain ⟨ud, hud, hu⟩ := Option.bind_eq_some_iff.1 hu
        refine Done.of_good (append_run sm ht hd hu1 ?_ h hx hy)
        split at hu
        · exact .inl hud
        · exact .inr ⟨_, hud⟩
        · simp at hu
      · simp at hu
    · simp at h
  · obtain ⟨x, y, rfl, hx, hy⟩ := vrs_two hv
    replace h := Option.bind_eq_some_iff.1 h; obtain ⟨t, ht, h⟩ := h
    replace h := Option.bind_eq_some_iff.1 h; obtain ⟨d, hd, h⟩ := h
    split at h
    · exact Done.of_good (copy_run sm ht hd h hx hy)
    · simp at h
  · obtain ⟨x, rfl, hx⟩ := vrs_one hv
    replace h := Option.bind_eq_some_iff.1 h; obtain ⟨t, ht, h⟩ := h
    replace h := Option.bind_eq_some_iff.1 h; obtain ⟨H1, hc, h⟩ := h
    simp only [Option.some.injEq, Prod.mk.injEq] at h
    obtain ⟨rfl, rfl⟩ := h
    exact Done.of_good (clear_run sm ht hc hx)
  · obtain ⟨x, y, rfl, hx, hy⟩ := vrs_two hv
    replace h := Option.bind_eq_some_iff.1 h; obtain ⟨t, ht, h⟩ := h
    replace h := Option.bind_eq_some_iff.1 h; obtain ⟨H1, hc, h⟩ := h
    simp only [Option.some.injEq, Prod.mk.injEq] at h
    obtain ⟨rfl, rfl⟩ := h
    exact Done.of_good (delete_run sm ht hc hx hy)
  · cases xs with
    | nil => have := hv.1; simp at this
    | cons x r =>
      replace h := Option.bind_eq_some_iff.1 h; obtain ⟨u, hu, h⟩ := h
      simp only [Option.some.injEq, Prod.mk.injEq] at h
      obtain ⟨rfl, rfl⟩ := h
      obtain ⟨y, h1, h2⟩ := most_run (P := C.P) hu hv.head hv.tail w
      exact Done.pure sm (by simpa [Builtin.max_] using h1) h2
  · cases xs with
    | nil => have := hv.1; simp at this
    | cons x r =>
      replace h := Option.bind_eq_some_iff.1 h; obtain ⟨u, hu, h⟩ := h
      simp only [Option.some.injEq, Prod.mk.injEq] at h
      obtain ⟨rfl, rfl⟩ := h
      obtain ⟨y, h1, h2⟩ := most_run (P := C.P) hu hv.head hv.tail w
      exact Done.pure sm (by simpa [Builtin.min_] using h1) h2
  · simp at h

/-- no Go function is called -/
def quietOp (o : Op) : Prop := ∀ c, o = .call c → ∃ b, c.callee = .builtin b
theorem val_run {C : Ctx} {call : CallE} {o : Oper} {s : St} {a : Act} {v : AV} {H' : Heap} (sm : Sim ρ s.H w) (e : EnvR ρ s a) (h : evalVal C call o s = some (v, H')) (hq : quietOp o.op) :
    Done ρ s.H w ((execOp a.eval o).run C.P w) v H' := by
  have put : ∀ {x : Option AV}, (x.bind fun x => some (x, s.H)) = some (v, H') → x = some v ∧ H' = s.H := fun {x} hx => by
    obtain ⟨y, hy, hx⟩ := Option.bind_eq_some_iff.1 hx
    simp only [Option.some.injEq, Prod.mk.injEq] at hx
    exact ⟨by rw [hy, hx.1], hx.2.symm⟩
  have pure_ : ∀ {x : Value}, VR ρ v x → H' = s.H → (execOp a.eval o).run C.P w = .ok (.value x) w → Done ρ s.H w ((execOp a.eval o).run C.P w) v H' := fun {x} hv hH hr => by
    subst hH
    exact ⟨x, ρ, w, hv, sm, .refl _ _ _, .inl hr⟩
  have blk : ∀ {k : (Nat → AV) × Blk}, mkBlk C o s = some k → v = k.1 s.H.n → H' = s.H.new k.2 → Done ρ s.H w ((execOp a.eval o).run C.P w) v H' := fun {k} hk hv hH => by
    obtain ⟨ob, fin, x, h1, h2⟩ := mkBlk_run sm e hk
    obtain ⟨h3, h4⟩ := h2 s.H.n (sm.dom _ (Nat.le_refl _))
    obtain ⟨g1, g2⟩ := sm.new ob fin k.2 h4
    subst hv; subst hH
    exact ⟨x, _, _, h3, g1, g2, .inl h1⟩
  unfold evalVal at h
  simp only at h
  split at h
  · rename_i x hop
    obtain ⟨hx, rfl⟩ := put h
    exact pure_ (opnd_run e hx) rfl (by simp [execOp, hop])
  · rename_i x hop
    obtain ⟨hx, rfl⟩ := put h
    exact pure_ (opnd_run e hx) rfl (by simp [execOp, hop])
  · rename_i c x y hop
    replace h := Option.bind_eq_some_iff.1 h; obtain ⟨cv, hc, h⟩ := h
    have hcr := opnd_run e hc
    split at h
    · rename_i t
      have hce : a.eval c = .bool t := by cases hq : a.eval c <;> rw [hq] at hcr <;> cases hcr; rfl
      split at h
      · obtain ⟨hx, rfl⟩ := put h
        exact pure_ (opnd_run e hx) rfl (by simp [execOp, hop, hce, asBool])
      · obtain ⟨hx, rfl⟩ := put h
        exact pure_ (opnd_run e hx) rfl (by simp [execOp, hop, hce, asBool])
    · simp at h
  · replace h := Option.bind_eq_some_iff.1 h; obtain ⟨k, hk, h⟩ := h
    simp only [Option.some.injEq, Prod.mk.injEq] at h
    exact blk hk h.1.symm h.2.symm
  · replace h := Option.bind_eq_some_iff.1 h; obtain ⟨k, hk, h⟩ := h
    simp only [Option.some.injEq, Prod.mk.injEq] at h
    exact blk hk h.1.symm h.2.symm
  · replace h := Option.bind_eq_some_iff.1 h; obtain ⟨k, hk, h⟩ := h
    simp only [Option.some.injEq, Prod.mk.injEq] at h
    exact blk hk h.1.symm h.2.symm
  · replace h := Option.bind_eq_some_iff.1 h; obtain ⟨k, hk, h⟩ := h
    simp only [Option.some.injEq, Prod.mk.injEq] at h
    exact blk hk h.1.symm h.2.symm
  · rename_i t parts hop
    replace h := Option.bind_eq_some_iff.1 h; obtain ⟨ps, hps, h⟩ := h
    obtain ⟨hx, rfl⟩ := put h
    obtain ⟨h1, h2⟩ := opndP_run e hps
    obtain ⟨y, hr, hv⟩ := build_run (vals := parts.toList.map fun p => (p.1, a.eval p.2)) hx (by simp [h1]) (by simpa [Function.comp_def] using h2) w
    refine pure_ hv rfl ?_
    have : (parts.toList.map fun p => (p.1, a.eval p.2)).toArray = parts.map fun (i, x) => (i, a.eval x) := by simp [← List.map_toArray]
    rw [this] at hr
    simp [execOp, hop, hr]
  · rename_i t x hop
    replace h := Option.bind_eq_some_iff.1 h; obtain ⟨p, hp, h⟩ := h
    obtain ⟨hx, rfl⟩ := put h
    obtain ⟨y, hr, hv⟩ := readVar_run sm hx (opnd_run e hp)
    exact pure_ hv rfl (by simp [execOp, hop, hr])
  · rename_i t x y hop
    replace h := Option.bind_eq_some_iff.1 h; obtain ⟨p, hp, h⟩ := h
    replace h := Option.bind_eq_some_iff.1 h; obtain ⟨u, hu, h⟩ := h
    replace h := Option.bind_eq_some_iff.1 h; obtain ⟨H1, hw, h⟩ := h
    simp only [Option.some.injEq, Prod.mk.injEq] at h
    obtain ⟨rfl, rfl⟩ := h
    obtain ⟨w', hr, h1, h2⟩ := writeVar_run (P := C.P) sm hw (opnd_run e hp) (opnd_run e hu)
    exact ⟨undef, ρ, w', .undef _, h1, h2, .inr ⟨by simp [execOp, hop, hr], rfl⟩⟩
  · rename_i x hop
    replace h := Option.bind_eq_some_iff.1 h; obtain ⟨p, hp, h⟩ := h
    have hpr := opnd_run e hp
    split at h
    · simp only [Option.some.injEq, Prod.mk.injEq] at h
      obtain ⟨rfl, rfl⟩ := h
      refine pure_ hpr rfl ?_
      cases hq : a.eval x <;> rw [hq] at hpr <;> cases hpr
      simp [execOp, hop, hq]
    · simp only [Option.some.injEq, Prod.mk.injEq] at h
      obtain ⟨rfl, rfl⟩ := h
      refine pure_ hpr rfl ?_
      cases hq : a.eval x <;> rw [hq] at hpr <;> cases hpr
      simp [execOp, hop, hq]
    · simp only [Option.some.injEq, Prod.mk.injEq] at h
      obtain ⟨rfl, rfl⟩ := h
      refine pure_ hpr rfl ?_
      obtain ⟨a', c', hq, _⟩ := hpr.args
      simp [execOp, hop, hq]
    · simp only [Option.some.injEq, Prod.mk.injEq] at h
      obtain ⟨rfl, rfl⟩ := h
      refine pure_ hpr rfl ?_
      obtain ⟨a', c', hq, _⟩ := hpr.args
      simp [execOp, hop, hq]
    · simp at h
  · rename_i op t x y ty hop
    replace h := Option.bind_eq_some_iff.1 h; obtain ⟨p, hp, h⟩ := h
    replace h := Option.bind_eq_some_iff.1 h; obtain ⟨u, hu, h⟩ := h
    obtain ⟨hx, rfl⟩ := put h
    obtain ⟨z, hr, hv⟩ := binA_run hx (opnd_run e hp) (opnd_run e hu) x y w
    refine pure_ hv rfl ?_
    have e2 : execOp a.eval o = (do Pure.pure (Next.value (← (do eqGuard op t x y (a.eval x) (a.eval y); Go.binOp op t (a.eval x) (a.eval y) : Sem Value))) : Sem Next) := by simp only [execOp, hop]
    rw [e2, Sem.run_bind, hr]
    rfl
  · rename_i op t x hop
    replace h := Option.bind_eq_some_iff.1 h; obtain ⟨p, hp, h⟩ := h
    obtain ⟨hx, rfl⟩ := put h
    obtain ⟨z, hr, hv⟩ := unA_run (P := C.P) hx (opnd_run e hp) w
    exact pure_ hv rfl (by simp [execOp, hop, hr])
  · rename_i t u x hop
    replace h := Option.bind_eq_some_iff.1 h; obtain ⟨p, hp, h⟩ := h
    have := Done.of_good (conv_run sm h (opnd_run e hp))
    simpa [execOp, hop] using this
  · rename_i fn first cap hop
    replace h := Option.bind_eq_some_iff.1 h; obtain ⟨p, hp, h⟩ := h
    replace h := Option.bind_eq_some_iff.1 h; obtain ⟨u, hu, h⟩ := h
    simp only [Option.some.injEq, Prod.mk.injEq] at h
    obtain ⟨rfl, rfl⟩ := h
    have h1 := opnds_arr e hp
    have h2 := opnds_arr e hu
    exact pure_ (.func fn _ _ _ _ (by simpa using h1.1) (by simpa using h2.1) (fun i g g' => h1.2 i g (by simpa using g')) (fun i g g' => h2.2 i g (by simpa using g'))) rfl (by simp [execOp, hop, Instr.makeFunc])
  · rename_i t l c hop
    replace h := Option.bind_eq_some_iff.1 h; obtain ⟨p, hp, h⟩ := h
    replace h := Option.bind_eq_some_iff.1 h; obtain ⟨u, hu, h⟩ := h
    have := Done.of_good (makeSlice_run sm h (opnd_run e hp) (opnd_run e hu))
    simpa [execOp, hop] using this
  · rename_i t x lo hi mx hop
    replace h := Option.bind_eq_some_iff.1 h; obtain ⟨p, hp, h⟩ := h
    replace h := Option.bind_eq_some_iff.1 h; obtain ⟨l, hl, h⟩ := h
    replace h := Option.bind_eq_some_iff.1 h; obtain ⟨g, hg, h⟩ := h
    replace h := Option.bind_eq_some_iff.1 h; obtain ⟨m, hm, h⟩ := h
    obtain ⟨hx, rfl⟩ := put h
    obtain ⟨z, hr, hv⟩ := slice_run sm hx (opnd_run e hp) (opndO_run e hl) (opndO_run e hg) (opndO_run e hm)
    exact pure_ hv rfl (by simp [execOp, hop, hr])
  · rename_i t x f hop
    replace h := Option.bind_eq_some_iff.1 h; obtain ⟨p, hp, h⟩ := h
    obtain ⟨hx, rfl⟩ := put h
    obtain ⟨z, hr, hv⟩ := fieldAddr_run hx (opnd_run e hp) w
    exact pure_ hv rfl (by simp [execOp, hop, hr])
  · rename_i t x f hop
    replace h := Option.bind_eq_some_iff.1 h; obtain ⟨p, hp, h⟩ := h
    obtain ⟨hx, rfl⟩ := put h
    obtain ⟨z, hr, hv⟩ := field_run hx (opnd_run e hp) w
    exact pure_ hv rfl (by simp [execOp, hop, hr])
  · rename_i t x i hop
    replace h := Option.bind_eq_some_iff.1 h; obtain ⟨p, hp, h⟩ := h
    replace h := Option.bind_eq_some_iff.1 h; obtain ⟨u, hu, h⟩ := h
    obtain ⟨hx, rfl⟩ := put h
    obtain ⟨z, hr, hv⟩ := indexAddr_run hx (opnd_run e hp) (opnd_run e hu) w
    exact pure_ hv rfl (by simp [execOp, hop, hr])
  · rename_i t x i hop
    replace h := Option.bind_eq_some_iff.1 h; obtain ⟨p, hp, h⟩ := h
    replace h := Option.bind_eq_some_iff.1 h; obtain ⟨u, hu, h⟩ := h
    obtain ⟨hx, rfl⟩ := put h
    obtain ⟨z, hr, hv⟩ := index_run hx (opnd_run e hp) (opnd_run e hu) w
    exact pure_ hv rfl (by simp [execOp, hop, hr])
  · rename_i t m k ok hop
    replace h := Option.bind_eq_some_iff.1 h; obtain ⟨p, hp, h⟩ := h
    replace h := Option.bind_eq_some_iff.1 h; obtain ⟨u, hu, h⟩ := h
    obtain ⟨hx, rfl⟩ := put h
    obtain ⟨z, hr, hv⟩ := lookup_run sm hx (opnd_run e hp) (opnd_run e hu)
    exact pure_ hv rfl (by simp [execOp, hop, hr])
  · rename_i t m k x hop
    replace h := Option.bind_eq_some_iff.1 h; obtain ⟨p, hp, h⟩ := h
    replace h := Option.bind_eq_some_iff.1 h; obtain ⟨u, hu, h⟩ := h
    replace h := Option.bind_eq_some_iff.1 h; obtain ⟨z, hz, h⟩ := h
    replace h := Option.bind_eq_some_iff.1 h; obtain ⟨H1, hw, h⟩ := h
    simp only [Option.some.injEq, Prod.mk.injEq] at h
    obtain ⟨rfl, rfl⟩ := h
    obtain ⟨w', hr, h1, h2⟩ := mapUpd_run (P := C.P) sm hw (opnd_run e hp) (opnd_run e hu) (opnd_run e hz)
    exact ⟨undef, ρ, w', .undef _, h1, h2, .inr ⟨by simp [execOp, hop, hr], rfl⟩⟩
  · rename_i t m k x hop
    replace h := Option.bind_eq_some_iff.1 h; obtain ⟨p, hp, h⟩ := h
    replace h := Option.bind_eq_some_iff.1 h; obtain ⟨u, hu, h⟩ := h
    replace h := Option.bind_eq_some_iff.1 h; obtain ⟨z, hz, h⟩ := h
    replace h := Option.bind_eq_some_iff.1 h; obtain ⟨H1, hw, h⟩ := h
    simp only [Option.some.injEq, Prod.mk.injEq] at h
    obtain ⟨rfl, rfl⟩ := h
    obtain ⟨w', hr, h1, h2⟩ := mapUpd_run (P := C.P) sm hw (opnd_run e hp) (opnd_run e hu) (opnd_run e hz)
    exact ⟨undef, ρ, w', .undef _, h1, h2, .inr ⟨by simp [execOp, hop, hr], rfl⟩⟩
  · rename_i x i hop
    replace h := Option.bind_eq_some_iff.1 h; obtain ⟨p, hp, h⟩ := h
    have hpr := opnd_run e hp
    split at h
    · rename_i vs
      obtain ⟨hx, rfl⟩ := put h
      obtain ⟨hi, rfl⟩ := getL_spec hx
      cases hq : a.eval x <;> rw [hq] at hpr <;> cases hpr
      rename_i xs hl hv
      have hi' : i < xs.size := by omega
      exact pure_ (hv i hi hi') rfl (by simp [execOp, hop, Instr.extract, hq, hi'])
    · simp at h
  · rename_i c hop
    obtain ⟨b, hb⟩ := hq c hop
    replace h := Option.bind_eq_some_iff.1 h; obtain ⟨args, ha, h⟩ := h
    rw [hb] at h
    have hr := fun cs => builtin_run (C := C) (ty := o.type) (cs := cs) sm h (opnds_arr e ha)
    simp only [Array.toArray_toList] at hr
    simp only [execOp, hop, resolve, hb, Sem.run_bind, Sem.run_pure, Result.andThen_ok, invoke]
    exact hr _
  · simp at h
end
end Go.Proofs.Ytpkplilgjdbhhaa
