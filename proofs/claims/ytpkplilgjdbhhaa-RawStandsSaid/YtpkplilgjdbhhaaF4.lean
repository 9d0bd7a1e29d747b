/- Calls by their contracts: out of an empty heap into any; tables of contracts. No condition. -/
import Derived.Test.YtpkplilgjdbhhaaF3
namespace Go.Proofs.Ytpkplilgjdbhhaa
set_option linter.unusedSimpArgs false
set_option linter.unusedVariables false
open Go Go.RowKit

theorem FitH.empty {H : Heap} : FitH 0 [] [] H ⟨0, []⟩ where
  nd1 := List.nodup_nil
  nd2 := List.nodup_nil
  nd3 := List.nodup_nil
  lt := fun x h => by cases h
  idn := fun x h => by cases h
  num := Nat.le_refl _
  src := fun e he => by simp [Heap.ents] at he
  frz := fun x h => by cases h
/-- some blocks freeze, the others go -/
theorem FitH.froze {H : Heap} {Φ : List (Nat × List AV)} (nd : (Φ.map (·.1)).Nodup) (frz : ∀ x, x ∈ Φ → ∃ cs, H.get x.1 = some (.cells cs) ∧ fitL [] Φ cs x.2 ∧ pureL x.2 = true) : FitH 0 [] Φ H ⟨0, []⟩ where
  nd1 := by simpa using nd
  nd2 := List.nodup_nil
  nd3 := List.nodup_nil
  lt := fun x h => by cases h
  idn := fun x h => by cases h
  num := Nat.le_refl _
  src := fun e he => by simp [Heap.ents] at he
  frz := frz
section
variable {C : Ctx} {f : FuncId} {args args' : List AV} {v : AV}
theorem Sim.bare {ρ : Place} {H : Heap} {w : World} (s : Sim ρ H w) : Sim ρ.bare ⟨0, []⟩ w where
  base := s.base
  below := s.below
  os := s.os
  tape := s.tape
  output := s.output
  dom := fun _ _ => rfl
  nodup := List.nodup_nil
  live := fun e he => by cases he
  inj := fun e e' he => by cases he
/-- what is called with values alone, and answers a value alone, does so at any heap -/
theorem CallAt.lift (h : CallAt C f args ⟨0, []⟩ v ⟨0, []⟩) (hp : pureL args = true) (H : Heap) : CallAt C f args H v H := by
  intro ρ w xs sm hx
  have up : ∀ {x : Value} {ρ' : Place} {w' : World}, VR ρ' v x → Sim ρ' ⟨0, []⟩ w' → Step ρ.bare ⟨0, []⟩ w ρ' ⟨0, []⟩ w' → ∃ ρ'', VR ρ'' v x ∧ Sim ρ'' H w' ∧ Step ρ H w ρ'' H w' := by
    intro x ρ' w' h1 h2 h3
    have hle : ρ.le { ρ' with at_ := ρ.at_ } := ⟨fun _ _ h => h, h3.le.fz, h3.le.os, h3.le.tape, h3.le.output⟩
    have hkeep : ∀ k, k < w.heap.size → w'.heap[k]? = w.heap[k]? := fun k hk => h3.keeps k hk fun e he => by cases he
    have hbl : ρ'.le { ρ' with at_ := ρ.at_ } := ⟨fun b l hb => (by have hd := h2.dom b (Nat.zero_le _); rw [hd] at hb; cases hb), fun _ hk => ⟨hk, rfl⟩, rfl, rfl, rfl⟩
    refine ⟨{ ρ' with at_ := ρ.at_ }, h1.mono hbl, ⟨h2.base, h2.below, h2.os, h2.tape, h2.output, sm.dom, sm.nodup, fun e he => ?_, sm.inj⟩,
      ⟨hle, h3.size, fun k hk _ => hkeep k hk, fun e he l hl => .inl ⟨e, he, l, hl, rfl⟩, Nat.le_refl _, fun _ _ => rfl, fun k hk => ?_⟩⟩
    · obtain ⟨l, g1, g2, g3, g4⟩ := sm.live e he
      refine ⟨l, g1, fun hB => ?_, Nat.lt_of_lt_of_le g3 h3.size, (g4.same (hkeep _ g3)).mono hle⟩
      rcases h3.cold _ hB with h | ⟨e, he, _⟩ | h
      · exact g2 h
      · cases he
      · omega
    · rcases h3.cold _ hk with h | ⟨e, he, _⟩ | h
      · exact .inl h
      · cases he
      · exact .inr (.inr h)
  rcases h ρ.bare w xs sm.bare (hx.pure hp) with ⟨x, ρ', w', h0, h1, h2, h3⟩ | ⟨g, ys, h0, h1⟩
  · obtain ⟨ρ'', k1, k2, k3⟩ := up h1 h2 h3
    exact .inl ⟨x, ρ'', w', h0, k1, k2, k3⟩
  · refine .inr ⟨g, ys, h0, h1.mono ?_⟩
    rintro e w' ⟨x, ρ', rfl, m1, m2, m3⟩
    obtain ⟨ρ'', k1, k2, k3⟩ := up m1 m2 m3
    exact ⟨x, ρ'', rfl, k1, k2, k3⟩
/-- what answers a scalar may be handed what the heap holds -/
theorem CallAt.borrow (h : CallAt C f args' ⟨0, []⟩ v ⟨0, []⟩) (hs : scalarV v = true) {H : Heap} {Φ : List (Nat × List AV)} (hH : (H.ents.map (·.1)).Nodup → FitH 0 [] Φ H ⟨0, []⟩) (hf : fitL [] Φ args args') : CallAt C f args H v H := by
  intro ρ w xs sm hx
  have fh := hH sm.nodup
  have hx' : VRs (newPlace 0 [] Φ ρ w sm.below) args' xs := by
    obtain ⟨k1, k2⟩ := fitL_spec hf
    refine ⟨by rw [hx.1, k1], fun i h1 h2 => ?_⟩
    exact Fits.run (fh.fits sm) sm _ (Nat.le_refl _) (hx.2 i (by omega) h2) (k2 i (by omega) h1)
  have up : ∀ {x : Value} {ρ' : Place} {w' : World}, VR ρ' v x → Sim ρ' ⟨0, []⟩ w' → Step (newPlace 0 [] Φ ρ w sm.below) ⟨0, []⟩ w ρ' ⟨0, []⟩ w' → VR ρ v x ∧ Sim ρ H w' ∧ Step ρ H w ρ H w' := by
    intro x ρ' w' h1 h2 h3
    have hkeep : ∀ k, k < w.heap.size → w'.heap[k]? = w.heap[k]? := fun k hk => h3.keeps k hk fun e he => by cases he
    refine ⟨h1.scalar hs, ⟨fun k hk => Nat.lt_of_lt_of_le (sm.base k hk) h3.size, fun k hk => (hkeep k (sm.base k hk)).trans (sm.below k hk), ?_, ?_, ?_, sm.dom, sm.nodup, fun e he => ?_, sm.inj⟩,
      ⟨Place.le_refl _, h3.size, fun k hk _ => hkeep k hk, fun e he l hl => .inl ⟨e, he, l, hl, rfl⟩, Nat.le_refl _, fun _ _ => rfl, fun k hk => .inl hk⟩⟩
    · exact (h2.os.trans h3.le.os).trans sm.os
    · exact (h2.tape.trans h3.le.tape).trans sm.tape
    · exact (h2.output.trans h3.le.output).trans sm.output
    · obtain ⟨l, g1, g2, g3, g4⟩ := sm.live e he
      exact ⟨l, g1, g2, Nat.lt_of_lt_of_le g3 h3.size, g4.same (hkeep _ g3)⟩
  rcases h _ w xs (fh.sim sm (Nat.zero_le _)) hx' with ⟨x, ρ', w', h0, h1, h2, h3⟩ | ⟨g, ys, h0, h1⟩
  · obtain ⟨k1, k2, k3⟩ := up h1 h2 h3
    exact .inl ⟨x, ρ, w', h0, k1, k2, k3⟩
  · refine .inr ⟨g, ys, h0, h1.mono ?_⟩
    rintro e w' ⟨x, ρ', rfl, m1, m2, m3⟩
    obtain ⟨k1, k2, k3⟩ := up m1 m2 m3
    exact ⟨x, ρ, rfl, k1, k2, k3⟩
end

/-! ### What the heap holds, as values -/
def chunk (sz : Nat) : Nat → List AV → List AV
  | 0, _ => []
  | Nat.succ n, cs => (if sz = 1 then cs.headD .undef else .agg (cs.take sz)) :: chunk sz n (cs.drop sz)
def thaw1 (H : Heap) (sz : Nat) : AV → Option AV
  | .slc b o len _ => match H.get b with
    | some (.cells cs) => if pureL cs = true then match subL o (len * sz) cs with
      | some r => if allSize sz (chunk sz len r) = true ∧ flatAV (chunk sz len r) = r ∧ (chunk sz len r).length = len then some (.fslc sz (chunk sz len r)) else none
      | none => none
      else none
    | _ => none
  | .ptr b o => match H.get b with
    | some (.cells cs) => if pureL cs = true then some (.fptr cs o) else none
    | _ => none
  | .nilS => if sz = 0 then some .nilS else some (.fslc sz [])
  | .zslc => if sz = 0 then some .zslc else some (.fslc sz [])
  | .eslc => if sz = 0 then some .eslc else some (.fslc sz [])
  | v => if pureV v = true then some v else none
def thawC (H : Heap) : List Nat → List AV → Option (List AV)
  | _, [] => some []
  | ss, a :: r => (thaw1 H (ss.headD 0) a).bind fun a' => (thawC H ss.tail r).bind fun r' => some (a' :: r')
/-- no block, no slice that is nil or empty but a frozen one -/
def okV : AV → Bool
  | .nilS | .zslc | .eslc => false
  | .agg cs => pureL cs && cs.all fun c => match c with
    | .nilS | .zslc | .eslc => false
    | _ => true
  | v => pureV v
theorem okV_pure {v : AV} (h : okV v = true) : pureV v = true := by
  cases v <;> simp_all [okV, pureV]
/-- an argument; ss: the sizes of the elements of its slices -/
def thawA (H : Heap) (ss : List Nat) (v : AV) : Option AV := if okV v = true then some v else match v with
  | .agg cs => (thawC H ss cs).bind fun cs' => some (.agg cs')
  | .func fn a c => (thawC H [] a).bind fun a' => (thawC H [] c).bind fun c' => some (.func fn a' c')
  | v => thaw1 H (ss.headD 0) v
def thawL (H : Heap) : List (List Nat) → List AV → Option (List AV)
  | _, [] => some []
  | ss, a :: r => (thawA H (ss.headD []) a).bind fun a' => (thawL H ss.tail r).bind fun r' => some (a' :: r')
def pureBlks : List (Nat × Blk) → List (Nat × List AV)
  | [] => []
  | e :: r => match e.2 with
    | .cells cs => if pureL cs = true then (e.1, cs) :: pureBlks r else pureBlks r
    | _ => pureBlks r
theorem pureBlks_mem : ∀ {l : List (Nat × Blk)} {x : Nat × List AV}, x ∈ pureBlks l → (x.1, .cells x.2) ∈ l ∧ pureL x.2 = true
  | [], x, h => by cases h
  | e :: r, x, h => by
    unfold pureBlks at h
    split at h
    · rename_i cs hcs
      split at h
      · rename_i hp
        rcases List.mem_cons.1 h with rfl | h
        · exact ⟨by rw [← hcs]; exact List.mem_cons_self, hp⟩
        · exact ⟨List.mem_cons_of_mem _ (pureBlks_mem h).1, (pureBlks_mem h).2⟩
      · exact ⟨List.mem_cons_of_mem _ (pureBlks_mem h).1, (pureBlks_mem h).2⟩
    · exact ⟨List.mem_cons_of_mem _ (pureBlks_mem h).1, (pureBlks_mem h).2⟩
theorem pureBlks_ids : ∀ (l : List (Nat × Blk)), ((pureBlks l).map (·.1)).Sublist (l.map (·.1))
  | [] => by simp [pureBlks]
  | e :: r => by
    unfold pureBlks
    split
    · split
      · simpa using pureBlks_ids r
      · simpa using (pureBlks_ids r).trans (List.sublist_cons_self _ _)
    · simpa using (pureBlks_ids r).trans (List.sublist_cons_self _ _)
theorem pureBlks_look : ∀ {l : List (Nat × Blk)} {b : Nat} {cs : List AV}, (l.map (·.1)).Nodup → (b, .cells cs) ∈ l → pureL cs = true → lookC b (pureBlks l) = some cs
  | [], _, _, _, h, _ => by cases h
  | e :: r, b, cs, hn, h, hp => by
    rw [List.map_cons, List.nodup_cons] at hn
    unfold pureBlks
    rcases List.mem_cons.1 h with rfl | h
    · simp only [hp, if_true, lookC]
    · have hne : e.1 ≠ b := fun hx => hn.1 (List.mem_map.2 ⟨_, h, hx.symm⟩)
      split
      · split
        · simp only [lookC, if_neg hne]; exact pureBlks_look hn.2 h hp
        · exact pureBlks_look hn.2 h hp
      · exact pureBlks_look hn.2 h hp
theorem get_of_mem : ∀ {fs : List (List (Nat × Blk))} {b : Nat} {k : Blk}, (fs.flatten.map (·.1)).Nodup → (b, k) ∈ fs.flatten → getFs b fs = some k
  | fs, b, k, hn, h => by
    have key : ∀ (f : List (Nat × Blk)), (b, k) ∈ f → (f.map (·.1)).Nodup → getF b f = some k := by
      intro f
      induction f with
      | nil => intro h; cases h
      | cons e r ih =>
        intro h hn
        rw [List.map_cons, List.nodup_cons] at hn
        unfold getF
        rcases List.mem_cons.1 h with rfl | h
        · simp
        · have hne : e.1 ≠ b := fun hx => hn.1 (List.mem_map.2 ⟨_, h, hx.symm⟩)
          rw [beqN_ne hne]; exact ih h hn.2
    have miss : ∀ (f : List (Nat × Blk)), b ∉ f.map (·.1) → getF b f = none := by
      intro f
      induction f with
      | nil => intro _; rfl
      | cons e r ih =>
        intro h
        simp only [List.map_cons, List.mem_cons, not_or] at h
        unfold getF
        rw [beqN_ne (fun hx => h.1 hx.symm)]; exact ih h.2
    induction fs with
    | nil => cases h
    | cons f r ih =>
      simp only [List.flatten_cons, List.map_append] at hn h
      obtain ⟨n1, n2, n3⟩ := List.nodup_append.1 hn
      unfold getFs
      rcases List.mem_append.1 h with h | h
      · rw [key f h n1]
      · have hm : b ∉ f.map (·.1) := fun hx => n3 b hx b (List.mem_map.2 ⟨_, h, rfl⟩) rfl
        rw [miss f hm]; exact ih n2 h
section
variable {H : Heap}
theorem pure_fitH (hn : (H.ents.map (·.1)).Nodup) : FitH 0 [] (pureBlks H.ents) H ⟨0, []⟩ :=
  .froze ((pureBlks_ids H.ents).nodup hn) fun x hx => by
    obtain ⟨h1, h2⟩ := pureBlks_mem hx
    exact ⟨x.2, get_of_mem hn h1, fitL_pure h2, h2⟩
theorem thaw1_fit (hn : (H.ents.map (·.1)).Nodup) {sz : Nat} {v v' : AV} (h : thaw1 H sz v = some v') : fitV [] (pureBlks H.ents) v v' := by
  cases v
  case slc b o len cap =>
    unfold thaw1 at h
    simp only at h
    split at h
    · rename_i cs hg
      split at h
      · rename_i hp
        split at h
        · rename_i r hr
          split at h
          · rename_i hc
            simp only [Option.some.injEq] at h
            subst h
            simp only [fitV]
            exact .inl ⟨cs, pureBlks_look hn (Heap.get_mem hg) hp, by rw [hc.2.1]; exact hr, hc.2.2, hc.1⟩
          · cases h
        · cases h
      · cases h
    · cases h
  case ptr b o =>
    unfold thaw1 at h
    simp only at h
    split at h
    · rename_i cs hg
      split at h
      · rename_i hp
        simp only [Option.some.injEq] at h
        subst h
        simp only [fitV]
        exact ⟨pureBlks_look hn (Heap.get_mem hg) hp, trivial⟩
      · cases h
    · cases h
  case nilS =>
    unfold thaw1 at h
    simp only at h
    split at h <;> (simp only [Option.some.injEq] at h; subst h; simp [fitV])
  case zslc =>
    unfold thaw1 at h
    simp only at h
    split at h <;> (simp only [Option.some.injEq] at h; subst h; simp [fitV])
  case eslc =>
    unfold thaw1 at h
    simp only at h
    split at h <;> (simp only [Option.some.injEq] at h; subst h; simp [fitV])
  all_goals
    unfold thaw1 at h
    simp only at h
    split at h
    · rename_i hp
      simp only [Option.some.injEq] at h
      subst h
      exact fitV_pure hp
    · cases h
theorem thawC_fit (hn : (H.ents.map (·.1)).Nodup) : ∀ {ss : List Nat} {l l' : List AV}, thawC H ss l = some l' → fitL [] (pureBlks H.ents) l l'
  | ss, [], l', h => by
    simp only [thawC, Option.some.injEq] at h
    subst h; simp [fitL]
  | ss, a :: r, l', h => by
    obtain ⟨a', h1, h⟩ := Option.bind_eq_some_iff.1 h
    obtain ⟨r', h2, h⟩ := Option.bind_eq_some_iff.1 h
    simp only [Option.some.injEq] at h
    subst h
    simp only [fitL]
    exact ⟨thaw1_fit hn h1, thawC_fit hn h2⟩
theorem thawA_fit (hn : (H.ents.map (·.1)).Nodup) {ss : List Nat} {v v' : AV} (h : thawA H ss v = some v') : fitV [] (pureBlks H.ents) v v' := by
  unfold thawA at h
  split at h
  · rename_i hp
    simp only [Option.some.injEq] at h
    subst h; exact fitV_pure (okV_pure hp)
  · split at h
    · obtain ⟨cs', h1, h⟩ := Option.bind_eq_some_iff.1 h
      simp only [Option.some.injEq] at h
      subst h
      simp only [fitV]
      exact .inl (thawC_fit hn h1)
    · obtain ⟨a', h1, h⟩ := Option.bind_eq_some_iff.1 h
      obtain ⟨c', h2, h⟩ := Option.bind_eq_some_iff.1 h
      simp only [Option.some.injEq] at h
      subst h
      simp only [fitV]
      exact .inl ⟨trivial, thawC_fit hn h1, thawC_fit hn h2⟩
    · exact thaw1_fit hn h
theorem thawL_fit (hn : (H.ents.map (·.1)).Nodup) : ∀ {ss : List (List Nat)} {l l' : List AV}, thawL H ss l = some l' → fitL [] (pureBlks H.ents) l l'
  | ss, [], l', h => by
    simp only [thawL, Option.some.injEq] at h
    subst h; simp [fitL]
  | ss, a :: r, l', h => by
    obtain ⟨a', h1, h⟩ := Option.bind_eq_some_iff.1 h
    obtain ⟨r', h2, h⟩ := Option.bind_eq_some_iff.1 h
    simp only [Option.some.injEq] at h
    subst h
    simp only [fitL]
    exact ⟨thawA_fit hn h1, thawL_fit hn h2⟩
end

/-! ### Tables -/
theorem CallAt.norm {C : Ctx} {f : FuncId} {args args' : List AV} {H H' : Heap} {v : AV} (h : CallAt C f args' H v H') (hf : fitL [] [] args args') : CallAt C f args H v H' := by
  intro ρ w xs sm hx
  have ft : Fits [] [] ρ ρ H w := ⟨ρ.bare_le, sm.below, fun _ _ h => (by cases h), fun _ _ h => (by cases h)⟩
  obtain ⟨k1, k2⟩ := fitL_spec hf
  exact h ρ w xs sm ⟨by rw [hx.1, k1], fun i h1 h2 => Fits.run ft sm _ (Nat.le_refl _) (hx.2 i (by omega) h2) (k2 i (by omega) h1)⟩
/-- a function that takes values and answers one: at any heap -/
def sumPure (ss : List (List Nat)) (pf : List AV → Option AV) : List AV → Heap → Option (AV × Heap) := fun args H =>
  if pureL args = true then (thawL ⟨0, []⟩ ss args).bind fun args' => (pf args').bind fun v => some (v, H)
  else (thawL H ss args).bind fun args' => (pf args').bind fun v => if scalarV v = true then some (v, H) else none
theorem sumPure_ok {C : Ctx} {f : FuncId} {pf : List AV → Option AV} (h : ∀ args v, pf args = some v → CallAt C f args ⟨0, []⟩ v ⟨0, []⟩) (ss : List (List Nat)) :
    ∀ args H v H', sumPure ss pf args H = some (v, H') → CallAt C f args H v H' := by
  intro args H v H' hv ρ w xs sm hx
  unfold sumPure at hv
  split at hv
  · rename_i hp
    obtain ⟨args', ha, hv⟩ := Option.bind_eq_some_iff.1 hv
    obtain ⟨u, hu, hv⟩ := Option.bind_eq_some_iff.1 hv
    simp only [Option.some.injEq, Prod.mk.injEq] at hv
    obtain ⟨rfl, rfl⟩ := hv
    have hf := thawL_fit (H := ⟨0, []⟩) List.nodup_nil ha
    exact ((h _ _ hu).norm hf).lift hp H ρ w xs sm hx
  · obtain ⟨args', ha, hv⟩ := Option.bind_eq_some_iff.1 hv
    obtain ⟨u, hu, hv⟩ := Option.bind_eq_some_iff.1 hv
    split at hv
    · rename_i hs
      simp only [Option.some.injEq, Prod.mk.injEq] at hv
      obtain ⟨rfl, rfl⟩ := hv
      exact (h _ _ hu).borrow hs (fun hn => pure_fitH hn) (thawL_fit sm.nodup ha) ρ w xs sm hx
    · cases hv
open Classical in
/-- out of a law on the arguments of some form -/
noncomputable def pfOf {α : Type} (enc : α → List AV) (pre : α → Prop) (post : α → AV) : List AV → Option AV := fun args =>
  if h : ∃ x, args = enc x ∧ pre x then some (post h.choose) else none
theorem pfOf_eq {α : Type} {enc : α → List AV} {pre : α → Prop} {post : α → AV} (inj : ∀ x y, enc x = enc y → x = y) {x : α} (hx : pre x) : pfOf enc pre post (enc x) = some (post x) := by
  unfold pfOf
  have h : ∃ y, enc x = enc y ∧ pre y := ⟨x, rfl, hx⟩
  rw [dif_pos h, ← inj _ _ h.choose_spec.1]
theorem pfOf_ok {α : Type} {enc : α → List AV} {pre : α → Prop} {post : α → AV} {C : Ctx} {f : FuncId} (h : ∀ x, pre x → CallAt C f (enc x) ⟨0, []⟩ (post x) ⟨0, []⟩) :
    ∀ args v, pfOf enc pre post args = some v → CallAt C f args ⟨0, []⟩ v ⟨0, []⟩ := by
  intro args v hv
  unfold pfOf at hv
  split at hv
  · rename_i hx
    simp only [Option.some.injEq] at hv
    subst hv
    have hs := hx.choose_spec
    have := h _ hs.2
    rwa [← hs.1] at this
  · cases hv
structure Entry (P : Program) where
  f : FuncId
  g : List AV → Heap → Option (AV × Heap)
  ok : ∀ args H v H', g args H = some (v, H') → CallAt ⟨P, fun _ => [], fun _ => none⟩ f args H v H'
def findE {P : Program} (f : FuncId) : List (Entry P) → Option (List AV → Heap → Option (AV × Heap))
  | [] => none
  | e :: r => match Nat.beq e.f f with
    | true => some e.g
    | false => findE f r
def mkC (P : Program) (keep : FuncId → List Nat) (T : List (Entry P)) : Ctx := { P := P, keep := keep, summ := fun f => findE f T }
theorem findE_ok {P : Program} {f : FuncId} {g : List AV → Heap → Option (AV × Heap)} : ∀ {T : List (Entry P)}, findE f T = some g → ∀ args H v H', g args H = some (v, H') → CallAt ⟨P, fun _ => [], fun _ => none⟩ f args H v H'
  | [], h => by cases h
  | e :: r, h => by
    unfold findE at h
    split at h
    · rename_i hb
      simp only [Option.some.injEq] at h
      subst h
      rw [← Nat.eq_of_beq_eq_true hb]
      exact e.ok
    · exact findE_ok h
theorem mkC_ok (P : Program) (keep : FuncId → List Nat) (T : List (Entry P)) : SummOK (mkC P keep T) := fun _ _ h => findE_ok h
theorem mkC_call (P : Program) (keep : FuncId → List Nat) (T : List (Entry P)) (hm : P.follows .mixedOrders = true) : CallOK (mkC P keep T) (callL (mkC P keep T)) := callL_ok hm (mkC_ok P keep T)
/-- single facts, ahead of a table -/
structure Fact (C : Ctx) where
  f : FuncId
  args : List AV
  H : Heap
  v : AV
  H' : Heap
  ok : CallAt C f args H v H'
open Classical in
noncomputable def callF {C : Ctx} : List (Fact C) → CallE → CallE
  | [], call, f, args, H => call f args H
  | x :: r, call, f, args, H => if f = x.f ∧ args = x.args ∧ H = x.H then some (x.v, x.H') else callF r call f args H
theorem callF_ok {C : Ctx} {call : CallE} (hc : CallOK C call) : ∀ (l : List (Fact C)), CallOK C (callF l call)
  | [], f, args, H, v, H', h => hc f args H v H' h
  | x :: r, f, args, H, v, H', h => by
    unfold callF at h
    split at h
    · rename_i hx
      obtain ⟨rfl, rfl, rfl⟩ := hx
      simp only [Option.some.injEq, Prod.mk.injEq] at h
      obtain ⟨rfl, rfl⟩ := h
      exact x.ok
    · exact callF_ok hc r f args H v H' h
end Go.Proofs.Ytpkplilgjdbhhaa
