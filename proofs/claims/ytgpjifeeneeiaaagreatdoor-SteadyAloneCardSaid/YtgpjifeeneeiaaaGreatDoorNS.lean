/- steady: the kids of a node may be where they are: a walk that calls itself. No condition. -/
import Derived.Test.YtgpjifeeneeiaaaGreatDoorNI
import Derived.Test.YtgpjifeeneeiaaaGreatDoorNH
import Derived.Test.YtgpjifeeneeiaaaGreatDoorNK
import Derived.Test.YtgpjifeeneeiaaaGreatDoorNR
import Derived.Test.YtgpjifeeneeiaaaGreatDoorNG
namespace Go.Proofs.YtgpjifeeneeiaaaGreatDoor
set_option linter.unusedSimpArgs false
set_option linter.unusedVariables false
open Go Go.RowKit
set_option maxRecDepth 100000
theorem idx_cases {α : Type} {p : α → Bool} : ∀ (L : List α) (k : Nat), (idxFrom p L k = -1 ∧ ∀ a, a ∈ L → p a = false) ∨ ∃ i, ∃ h : i < L.length, idxFrom p L k = (k + i : Nat) ∧ p L[i] = true ∧ ∀ a, a ∈ L.take i → p a = false
 | [], k => .inl ⟨rfl, fun a ha => by cases ha⟩
 | x :: r, k => by
  by_cases hx : p x = true
  ·exact .inr ⟨0, by simp, by simp [idxFrom, hx], by simpa using hx, fun a ha => by simp at ha⟩
  ·simp only [Bool.not_eq_true] at hx
   rcases idx_cases r (k + 1) with ⟨h1, h2⟩ | ⟨i, h, h1, h2, h3⟩
   ·refine .inl ⟨by rw [idxFrom, if_neg (by simp [hx]), h1], fun a ha => ?_⟩
    rcases List.mem_cons.1 ha with rfl | ha
    ·exact hx
    ·exact h2 a ha
   ·refine .inr ⟨i + 1, by simpa using h, by simp [idxFrom, hx, h1]; omega, by simpa using h2, fun a ha => ?_⟩
    rw [List.take_succ_cons] at ha
    rcases List.mem_cons.1 ha with rfl | ha
    ·exact hx
    ·exact h3 a ha
structure DelOk (L : List Int) (p : Int → Bool) (i j : Nat) (R : List Int) : Prop where
 ij : i < j
 jn : j ≤ L.length
 len : R.length = L.length
 fr : R.take i = (L.take j).filter fun a => !p a
 bk : R.drop j = L.drop j
theorem DelOk.keep {L R : List Int} {p : Int → Bool} {i j : Nat} (h : DelOk L p i j R) (hj : j < L.length) (hp : p L[j] = false) : DelOk L p (i + 1) (j + 1) (R.set i L[j]) := by
 have hR : j < R.length := by rw [h.len]; exact hj
 have hij := h.ij
 refine ⟨by omega, by omega, by simp [h.len], ?_, ?_⟩
 ·rw [List.take_succ_eq_append_getElem hj, List.filter_append, ← h.fr, List.take_succ_eq_append_getElem (by simp; omega)]
  simp [hp, List.take_set_of_le]
 ·rw [List.drop_set_of_lt (by omega)]
  have := h.bk
  rw [List.drop_eq_getElem_cons hR, List.drop_eq_getElem_cons hj] at this
  exact (List.cons.inj this).2
theorem DelOk.pass {L R : List Int} {p : Int → Bool} {i j : Nat} (h : DelOk L p i j R) (hj : j < L.length) (hp : p L[j] = true) : DelOk L p i (j + 1) R := by
 have hR : j < R.length := by rw [h.len]; exact hj
 have hij := h.ij
 refine ⟨by omega, by omega, h.len, ?_, ?_⟩
 ·rw [List.take_succ_eq_append_getElem hj, List.filter_append, ← h.fr]
  simp [hp]
 ·have := h.bk
  rw [List.drop_eq_getElem_cons hR, List.drop_eq_getElem_cons hj] at this
  exact (List.cons.inj this).2
theorem DelOk.start {L : List Int} {p : Int → Bool} {i : Nat} (hi : i < L.length) (hp : p L[i] = true) (hb : ∀ a, a ∈ L.take i → p a = false) : DelOk L p i (i + 1) L := by
 refine ⟨by omega, by omega, rfl, ?_, rfl⟩
 rw [List.take_succ_eq_append_getElem hi, List.filter_append]
 have : (L.take i).filter (fun a => !p a) = L.take i := List.filter_eq_self.2 fun a ha => by simp [hb a ha]
 simp [this, hp]
@[simp] theorem szT48 : sizeT Tryz.prog 48 = some 1 := rfl
@[simp] theorem agT48 : aggT Tryz.prog 48 = some false := rfl
@[simp] theorem byT48 : bytesT Tryz.prog 48 = some 8 := rfl
@[simp] theorem alT48 (H : Heap) : alV Tryz.prog H 48 = some (.ptr H.n 0, H.new (.cells [.nilF])) := rfl
@[simp] theorem zeT48 : zeroOf Tryz.prog 48 = some (.nilF) := rfl
attribute [simp] Tryz.underlying48
@[simp 500] theorem rvF48 (H : Heap) (cs : List AV) (o : Nat) : readVar Tryz.prog H 48 (.fptr cs o) = getL cs o := rfl
@[simp 500] theorem rvP48 (H : Heap) (b o : Nat) : readVar Tryz.prog H 48 (.ptr b o) = (H.get b).bind fun k => k.rd.bind fun cs => getL cs o := rfl
def atP (L : List Int) (i : Int) : Int := idxFrom (fun k => decide (k = i)) L 0
structure okT (t : Tr) : Prop where
 ok : okTr t
 nd : ∀ n, n ∈ t → okN n
 kd : ∀ n, n ∈ t → ∀ k, k ∈ n.kids → 0 ≤ k ∧ k < (t.length : Int)
theorem okT.at_ {t : Tr} (h : okT t) {i : Int} (h0 : 0 ≤ i) (h1 : i < (t.length : Int)) : okN (nodeAt t i) := h.nd _ (nodeAt_mem h0 h1)
def lfB (s : Str) : Bool := match s with
 | [] => false
 | c :: _ => decide ((c.toNat : Int) = 10)
theorem chars_ne {L : List Nd} {s : Str} (h : charsB L s = true) : ∃ c r, s = c :: r := by
 cases s with
 | nil => simp [charsB] at h
 | cons c r => exact ⟨c, r, rfl⟩
theorem allSingle_get : ∀ {l : List AV}, allSingle l = true → ∀ i (h : i < l.length), l[i].single = true
 | [], _, i, h => absurd h (Nat.not_lt_zero i)
 | v :: r, h, i, hi => by
  unfold allSingle at h
  cases hv : v.single with
  | false => rw [hv] at h; cases h
  | true =>
   rw [hv] at h
   cases i with
   | zero => exact hv
   | succ i => exact allSingle_get h i (by simpa using hi)
theorem pure_raws : ∀ (xs : List Value), pureL (xs.map AV.val) = true
 | [] => rfl
 | x :: r => by simp [pureL, pureV, pure_raws r]
theorem single_raws : ∀ (xs : List Value), allSingle (xs.map AV.val) = true
 | [] => rfl
 | x :: r => by simp [allSingle, AV.single, single_raws r]
theorem pick_list {α : Type} {p : Nat → α → Prop} : ∀ (n : Nat), (∀ i, i < n → ∃ x, p i x) → ∃ l : List α, l.length = n ∧ ∀ i (h : i < l.length), p i l[i]
 | 0, _ => ⟨[], rfl, fun i h => absurd h (Nat.not_lt_zero i)⟩
 | n + 1, h => by
  obtain ⟨l, hl, hp⟩ := pick_list n fun i hi => h i (by omega)
  obtain ⟨x, hx⟩ := h n (by omega)
  refine ⟨l ++ [x], by simp [hl], fun i hi => ?_⟩
  by_cases hlt : i < l.length
  ·rw [List.getElem_append_left hlt]; exact hp i hlt
  ·have : i = l.length := by simp at hi; omega
   subst this
   simp only [List.getElem_append_right (Nat.le_refl _), Nat.sub_self, List.getElem_cons_zero]
   rw [hl]; exact hx
theorem CallAt.anyrow {C : Ctx} {f : FuncId} {args : List AV} {v : AV} {n n' b b' : Nat} {P cs : List AV} {g g' : List (Nat × Blk)} (hs : allSingle P = true)
  (h : ∀ pre, pureL pre = true → allSingle pre = true → pre.length = P.length → CallAt C f args ⟨n, [(b, .cells pre) :: g]⟩ v ⟨n', [(b', .cells (pre ++ cs)) :: g']⟩) :
  CallAt C f args ⟨n, [(b, .cells P) :: g]⟩ v ⟨n', [(b', .cells (P ++ cs)) :: g']⟩ := by
 intro ρ w xs sm hx
 obtain ⟨l, hl, hB, hlt, hr⟩ := sm.live (b, .cells P) (by simp [Heap.ents])
 obtain ⟨vs, hvl, hvs⟩ := pick_list (p := fun i x => w.cell? ⟨l.cb, l.off + i, none⟩ = some x ∧ ∀ h : i < P.length, VR ρ P[i] x) P.length fun i hi => by
  obtain ⟨x, h1, h2⟩ := hr.2.2 i hi
  exact ⟨x, h1, fun _ => h2⟩
 have one : ∀ i (h : i < vs.length), vs[i].oneCell' = true := fun i hi => ((hvs i hi).2 (by omega)).oneCell (allSingle_get hs i (by omega))
 obtain ⟨pre, hpre⟩ : ∃ p, p = vs.map AV.val := ⟨_, rfl⟩
 have hpl : pre.length = P.length := by rw [hpre]; simpa using hvl
 have sm1 : Sim ρ ⟨n, [(b, .cells pre) :: g]⟩ w := {
  base := sm.base
  below := sm.below
  os := sm.os
  tape := sm.tape
  output := sm.output
  dom := sm.dom
  nodup := by simpa [Heap.ents] using sm.nodup
  live := fun e he => by
   simp only [Heap.ents, List.flatten_cons, List.flatten_nil, List.append_nil, List.mem_cons] at he
   rcases he with rfl | he
   ·refine ⟨l, hl, hB, hlt, by rw [hpl]; exact hr.1, hr.2.1, fun i hi => ?_⟩
    have hi' : i < vs.length := by omega
    refine ⟨vs[i], (hvs i hi').1, ?_⟩
    simp only [hpre, List.getElem_map]
    exact .val _ (one i hi')
   ·exact sm.live e (by simp [Heap.ents, he])
  inj := fun e e' he he' l l' hl hl' hc => by
   have mk : ∀ e, e ∈ Heap.ents ⟨n, [(b, .cells pre) :: g]⟩ → ∃ e2, e2 ∈ Heap.ents ⟨n, [(b, .cells P) :: g]⟩ ∧ e2.1 = e.1 := fun e he => by
    simp only [Heap.ents, List.flatten_cons, List.flatten_nil, List.append_nil, List.mem_cons] at he
    rcases he with rfl | he
    ·exact ⟨(b, .cells P), by simp [Heap.ents], rfl⟩
    ·exact ⟨e, by simp [Heap.ents, he], rfl⟩
   obtain ⟨e2, h1, h2⟩ := mk e he
   obtain ⟨e3, h3, h4⟩ := mk e' he'
   rw [← h2, ← h4]
   exact sm.inj e2 e3 h1 h3 l l' (by rw [h2]; exact hl) (by rw [h4]; exact hl') hc }
 have up : ∀ {x : Value} {ρ' : Place} {w' : World}, VR ρ' v x → Sim ρ' ⟨n', [(b', .cells (pre ++ cs)) :: g']⟩ w' → Step ρ ⟨n, [(b, .cells pre) :: g]⟩ w ρ' ⟨n', [(b', .cells (pre ++ cs)) :: g']⟩ w' →
   Sim ρ' ⟨n', [(b', .cells (P ++ cs)) :: g']⟩ w' ∧ Step ρ ⟨n, [(b, .cells P) :: g]⟩ w ρ' ⟨n', [(b', .cells (P ++ cs)) :: g']⟩ w' := by
  intro x ρ' w' hv s1 t1
  have mk : ∀ e, e ∈ Heap.ents ⟨n', [(b', .cells (P ++ cs)) :: g']⟩ → ∃ e2, e2 ∈ Heap.ents ⟨n', [(b', .cells (pre ++ cs)) :: g']⟩ ∧ e2.1 = e.1 := fun e he => by
   simp only [Heap.ents, List.flatten_cons, List.flatten_nil, List.append_nil, List.mem_cons] at he
   rcases he with rfl | he
   ·exact ⟨(b', .cells (pre ++ cs)), by simp [Heap.ents], rfl⟩
   ·exact ⟨e, by simp [Heap.ents, he], rfl⟩
  have mk0 : ∀ e, e ∈ Heap.ents ⟨n, [(b, .cells pre) :: g]⟩ → ∃ e2, e2 ∈ Heap.ents ⟨n, [(b, .cells P) :: g]⟩ ∧ e2.1 = e.1 := fun e he => by
   simp only [Heap.ents, List.flatten_cons, List.flatten_nil, List.append_nil, List.mem_cons] at he
   rcases he with rfl | he
   ·exact ⟨(b, .cells P), by simp [Heap.ents], rfl⟩
   ·exact ⟨e, by simp [Heap.ents, he], rfl⟩
  refine ⟨{
   base := s1.base
   below := s1.below
   os := s1.os
   tape := s1.tape
   output := s1.output
   dom := s1.dom
   nodup := by simpa [Heap.ents] using s1.nodup
   live := fun e he => by
    simp only [Heap.ents, List.flatten_cons, List.flatten_nil, List.append_nil, List.mem_cons] at he
    rcases he with rfl | he
    ·obtain ⟨l1, g1, g2, g3, g4⟩ := s1.live (b', .cells (pre ++ cs)) (by simp [Heap.ents])
     refine ⟨l1, g1, g2, g3, ?_, g4.2.1, fun i hi => ?_⟩
     ·have := g4.1
      simp only [List.length_append] at this ⊢
      omega
     ·obtain ⟨y, hy, hvy⟩ := g4.2.2 i (by simp only [List.length_append] at hi ⊢; omega)
      refine ⟨y, hy, ?_⟩
      by_cases hi2 : i < P.length
      ·have hi3 : i < vs.length := by omega
       rw [List.getElem_append_left (by omega)] at hvy
       rw [List.getElem_append_left hi2]
       simp only [hpre, List.getElem_map] at hvy
       have : y = vs[i] := by cases hvy; rfl
       rw [this]
       exact ((hvs i hi3).2 hi2).mono t1.le
      ·rw [List.getElem_append_right (by omega)] at hvy
       rw [List.getElem_append_right (by omega)]
       simpa only [hpl] using hvy
    ·exact s1.live e (by simp [Heap.ents, he])
   inj := fun e e' he he' l l' hl hl' hc => by
    obtain ⟨e2, h1, h2⟩ := mk e he
    obtain ⟨e3, h3, h4⟩ := mk e' he'
    rw [← h2, ← h4]
    exact s1.inj e2 e3 h1 h3 l l' (by rw [h2]; exact hl) (by rw [h4]; exact hl') hc }, {
   le := t1.le
   size := t1.size
   keeps := fun k hk hn => t1.keeps k hk fun e he l hl => by
    obtain ⟨e2, h1, h2⟩ := mk0 e he
    exact hn e2 h1 l (by rw [h2]; exact hl)
   rows := fun e he l hl => by
    obtain ⟨e2, h1, h2⟩ := mk e he
    rcases t1.rows e2 h1 l (by rw [h2]; exact hl) with ⟨e3, h3, l3, hl3, hc⟩ | hge
    ·obtain ⟨e4, h4, h5⟩ := mk0 e3 h3
     exact .inl ⟨e4, h4, l3, by rw [h5]; exact hl3, hc⟩
    ·exact .inr hge
   num := t1.num
   low := t1.low
   cold := fun k hk => by
    rcases t1.cold k hk with hh | ⟨e3, h3, l3, hl3, hc⟩ | hh
    ·exact .inl hh
    ·obtain ⟨e4, h4, h5⟩ := mk0 e3 h3
     exact .inr (.inl ⟨e4, h4, l3, by rw [h5]; exact hl3, hc⟩)
    ·exact .inr (.inr hh) }⟩
 rcases h pre (by rw [hpre]; exact pure_raws vs) (by rw [hpre]; exact single_raws vs) hpl ρ w xs sm1 hx with ⟨x, ρ1, w', h0, h1, h2, h3⟩ | ⟨q, ys, h0, h1⟩
 ·obtain ⟨k1, k2⟩ := up h1 h2 h3
  exact .inl ⟨x, ρ1, w', h0, h1, k1, k2⟩
 ·refine .inr ⟨q, ys, h0, h1.mono ?_⟩
  rintro e w' ⟨x, ρ1, rfl, m1, m2, m3⟩
  obtain ⟨k1, k2⟩ := up m1 m2 m3
  exact ⟨x, ρ1, rfl, m1, k1, k2⟩
def putL (rec : Int → Nat → List Bool → List Nd × List Bool) (n : Nat) : List Int → Nat → List Bool → List Int × List Nd × List Bool
 | [], _, s => ([], [], s)
 | k :: r, z, s =>
  if 0 ≤ k ∧ k < (n : Int) ∧ s.getD k.toNat true = false then
   let a := rec k z s
   let b := putL rec n r (z + a.1.length) a.2
   ((z : Int) :: b.1, a.1 ++ b.2.1, b.2.2)
  else putL rec n r z s
def putP : Nat → Tr → Int → Int → Nat → List Bool → List Nd × List Bool
 | 0, _, _, _, _, s => ([], s)
 | f + 1, t, i, up, z, s =>
  let r := putL (fun k z' s' => putP f t k (z : Int) z' s') t.length (nodeAt t i).kids (z + 1) (s.set i.toNat true)
  ({ nodeAt t i with up := up, kids := r.1 } :: r.2.1, r.2.2)
def unsB (s : List Bool) : Nat := s.count false
theorem unsB_set : ∀ {s : List Bool} {i : Nat}, s.getD i true = false → unsB (s.set i true) + 1 = unsB s
 | [], i, h => by simp at h
 | x :: r, 0, h => by
  simp at h; subst h
  simp [unsB]
 | x :: r, i + 1, h => by
  have := unsB_set (s := r) (i := i) (by simpa using h)
  simp only [unsB, List.set_cons_succ, List.count_cons] at this ⊢
  omega
theorem putL_spec {rec : Int → Nat → List Bool → List Nd × List Bool} {n : Nat} (hrec : ∀ k z s, s.length = n → s.getD k.toNat true = false → (rec k z s).2.length = n ∧ (rec k z s).1.length + unsB (rec k z s).2 ≤ unsB s) : ∀ (K : List Int) (z : Nat) (s : List Bool), s.length = n →
  (putL rec n K z s).2.2.length = n ∧ (putL rec n K z s).2.1.length + unsB (putL rec n K z s).2.2 ≤ unsB s ∧ (putL rec n K z s).1.length ≤ K.length
 | [], z, s, h => by simp [putL, h]
 | k :: r, z, s, h => by
  unfold putL
  split
  ·rename_i hc
   obtain ⟨h1, h2⟩ := hrec k z s h hc.2.2
   obtain ⟨h3, h4, h5⟩ := putL_spec hrec r (z + (rec k z s).1.length) (rec k z s).2 h1
   simp only [List.length_append, List.length_cons]
   refine ⟨h3, by omega, by omega⟩
  ·obtain ⟨h3, h4, h5⟩ := putL_spec hrec r z s h
   simp only [List.length_cons]
   exact ⟨h3, h4, by omega⟩
theorem putP_spec : ∀ (f : Nat) (t : Tr) (i up : Int) (z : Nat) (s : List Bool), s.length = t.length → s.getD i.toNat true = false →
  (putP f t i up z s).2.length = t.length ∧ (putP f t i up z s).1.length + unsB (putP f t i up z s).2 ≤ unsB s
 | 0, t, i, up, z, s, h, _ => by simp [putP, h]
 | f + 1, t, i, up, z, s, h, hs => by
  have h1 := unsB_set hs
  obtain ⟨h3, h4, _⟩ := putL_spec (rec := fun k z' s' => putP f t k (z : Int) z' s') (n := t.length) (fun k z' s' hl hu => putP_spec f t k z z' s' hl hu) (nodeAt t i).kids (z + 1) (s.set i.toNat true) (by simpa using h)
  unfold putP
  simp only [List.length_cons]
  exact ⟨h3, by omega⟩
def pV (k : Nat) : Option (List Nd) → AV
 | none => .nilS
 | some P => .slc k 0 P.length (.rest 7)
def oL (o : Option (List Nd)) : List Nd := o.getD []
def kR (t : Tr) (k : Nat) : Option (List Nd) → List (Nat × Blk)
 | none => [(0, .cells [aNodes t, .nilS])]
 | some P => [(k, .cells (flatAV (P.map aNode))), (0, .cells [aNodes t, .slc k 0 P.length (.rest 7)])]
section
variable {t : Tr} {k n : Nat} {o : Option (List Nd)} {f : List (Nat × Blk)}
theorem kR_0 (hk : k ≠ 0) : getF 0 (kR t k o) = some (.cells [aNodes t, pV k o]) := by
 have : Nat.beq k 0 = false := beqN_ne hk
 cases o <;> simp [kR, getF, pV, this]
theorem kget0 (hk : k ≠ 0) (hf : getF 0 f = none) : Heap.get ⟨n, [f, kR t k o]⟩ 0 = some (.cells [aNodes t, pV k o]) := by
 simp only [Heap.get, getFs, hf, kR_0 hk]
theorem th_path (hk : k ≠ 0) (hf : getF k f = none) : thawA ⟨n, [f, kR t k o]⟩ [7] (pV k o) = some (aNodes (oL o)) := by
 cases o with
 | none => exact thawA_nilS (by omega)
 | some P =>
  have h := thawA_slc (H := ⟨n, [f, kR t k (some P)]⟩) (b := k) (cap := .rest 7) (r := []) (el_node P) (by simp [Heap.get, getFs, hf, kR, getF])
  simpa [pV, oL] using h
theorem len_path {H : Heap} : lenA Tryz.prog H 22 (pV k o) = some (oL o).length := by cases o <;> simp [pV, oL, lenA]
theorem pure_flat (P : List Nd) : pureL (flatAV (P.map aNode)) = true := (el_node P).pure
theorem app_path {P : List Nd} {x : Nd} {A : Blk} (hl : P.length ≤ 100000) (ho : o = none ∧ P = [] ∨ o = some P) :
  appendA Tryz.prog ⟨32, [[(27, .cells x.cs), (3, A)], kR t 2 o]⟩ 31 (pV 2 o) (.slc 27 0 1 (.ex 1)) =
   some (.slc 32 0 (P.length + 1) (.rest 7), ⟨33, [[(32, .cells (flatAV ((P ++ [x]).map aNode))), (27, .cells x.cs), (3, A)], [(0, .cells [aNodes t, pV 2 o])]]⟩) := by
 rcases ho with ⟨rfl, rfl⟩ | rfl
 ·rfl
 ·cases P with
  | nil => rfl
  | cons y r =>
   have h := own_append (P := Tryz.prog) (H := ⟨32, [[(27, .cells x.cs), (3, A)], kR t 2 (some (y :: r))]⟩) (elem := 31) (b := 2) (n := 0) (es := (y :: r).map aNode) (cs := x.cs) (x := .slc 27 0 1 (.ex 1)) szT31 byT31 zeT31
    rfl (by omega) (by omega) rfl (by simp [srcCells, readCells, Heap.get, getFs, getF, Blk.rd]) rfl rfl (el_node _) (by simp at hl ⊢; omega) (fun _ => by simp [Heap.get, getFs, getF, kR]) (fun he => absurd he (by simp)) (by intro cs; rfl)
   have hd : Heap.drop ⟨32, [[(27, .cells x.cs), (3, A)], kR t 2 (some (y :: r))]⟩ 2 = ⟨32, [[(27, .cells x.cs), (3, A)], [(0, .cells [aNodes t, .slc 2 0 (y :: r).length (.rest 7)])]]⟩ := rfl
   rw [hd, ownV_ne (by simp)] at h
   have e : flatAV ((y :: r).map aNode) ++ x.cs = flatAV ((y :: r ++ [x]).map aNode) := by rw [List.map_append, flat_append]; simp [flatAV]
   rw [e] at h
   simpa [Heap.new, pushF, pV] using h
theorem put_path {c m n : Nat} {Q : List Nd} {A B : Nat × Blk} {v : AV} (hc : c ≠ 0) (hA : A.1 ≠ 0) (hB : B.1 ≠ 0) (hv : v.cells = [v]) :
  writeVar Tryz.prog ⟨n, [(c, .cells (flatAV (Q.map aNode))) :: [A, B], [(0, .cells [aNodes t, v])]]⟩ 22 (.ptr 0 1) (.slc c 0 m (.rest 7)) =
   some ⟨n, [[A, B], [(c, .cells (flatAV (Q.map aNode))), (0, .cells [aNodes t, .slc c 0 m (.rest 7)])]]⟩ := by
 have b1 : Nat.beq c 0 = false := beqN_ne hc
 have b2 : Nat.beq A.1 0 = false := beqN_ne hA
 have b3 : Nat.beq B.1 0 = false := beqN_ne hB
 have hk : refsB (.cells (flatAV (Q.map aNode))) = [] := refsL_pure 4 _ (pure_flat Q)
 have r1 : reach 100000 [c] ((c, .cells (flatAV (Q.map aNode))) :: [A, B]) [] = ([(c, .cells (flatAV (Q.map aNode)))], [A, B]) := by
  have := reach_one (n := 99998) (b := c) (k := .cells (flatAV (Q.map aNode))) (x := (c, .cells (flatAV (Q.map aNode)))) (f := [A, B]) (acc := []) (by simp [getF]) hk
  rw [this]; simp [killF]
 have e1 : refsF [((c, .cells (flatAV (Q.map aNode))) : Nat × Blk)] ++ [c] = [c] := by simp [refsF, hk]
 have n1 : getF 0 ((c, Blk.cells (flatAV (Q.map aNode))) :: [A, B]) = none := by simp [getF, b1, b2, b3]
 have hp : promote 0 [c] [] [(c, .cells (flatAV (Q.map aNode))) :: [A, B], [(0, .cells [aNodes t, v])]] = [[A, B], [(c, .cells (flatAV (Q.map aNode))), (0, .cells [aNodes t, v])]] := by
  unfold promote
  rw [n1]
  simp only [r1, e1]
  unfold promote
  simp [getF]
 have hg : Heap.get ⟨n, [(c, .cells (flatAV (Q.map aNode))) :: [A, B], [(0, .cells [aNodes t, v])]]⟩ 0 = some (.cells [aNodes t, v]) := by simp [Heap.get, getFs, getF, b1, b2, b3]
 have hrd : Heap.ready ⟨n, [(c, .cells (flatAV (Q.map aNode))) :: [A, B], [(0, .cells [aNodes t, v])]]⟩ 0 [.slc c 0 m (.rest 7)] = ⟨n, [[A, B], [(c, .cells (flatAV (Q.map aNode))), (0, .cells [aNodes t, v])]]⟩ := by
  show (⟨n, promote 0 [c] [] _⟩ : Heap) = _
  rw [hp]
 have hs1 : setF 0 (.cells [aNodes t, .slc c 0 m (.rest 7)]) [A, B] = none := sF_none (by simp [getF, b2, b3])
 unfold writeVar
 simp only [szT22, Option.bind_some, cells_slc, List.length_cons, List.length_nil]
 simp [allSingle, AV.single, writeCells, hg, Blk.wt, hrd, Heap.set, setFs, setF, b1, b2, b3, Blk.re]
theorem cut_path {c m n : Nat} {row : List AV} {A B : Nat × Blk} {v : AV} (hc : c ≠ 0) (hA : A.1 ≠ 0) (hB : B.1 ≠ 0) (hA2 : A.1 ≠ c) (hB2 : B.1 ≠ c) (hp : pureL row = true) :
  writeVar Tryz.prog ⟨n, [[A, B], [(c, .cells row), (0, .cells [aNodes t, v])]]⟩ 22 (.ptr 0 1) (.slc c 0 m (.rest 7)) =
   some ⟨n, [[A, B], [(c, .cells row), (0, .cells [aNodes t, .slc c 0 m (.rest 7)])]]⟩ := by
 have b1 : Nat.beq c 0 = false := beqN_ne hc
 have b2 : Nat.beq A.1 0 = false := beqN_ne hA
 have b3 : Nat.beq B.1 0 = false := beqN_ne hB
 have b4 : Nat.beq A.1 c = false := beqN_ne hA2
 have b5 : Nat.beq B.1 c = false := beqN_ne hB2
 have r1 : reach 100000 [c] [A, B] [] = ([], [A, B]) := reach_no (n := 99998) (by simp [getF, b4, b5])
 have n1 : getF 0 [A, B] = none := by simp [getF, b2, b3]
 have hpr : promote 0 [c] [] [[A, B], [(c, .cells row), (0, .cells [aNodes t, v])]] = [[A, B], [(c, .cells row), (0, .cells [aNodes t, v])]] := by
  unfold promote
  rw [n1]
  simp only [r1]
  unfold promote
  simp [getF, b1]
 have hg : Heap.get ⟨n, [[A, B], [(c, .cells row), (0, .cells [aNodes t, v])]]⟩ 0 = some (.cells [aNodes t, v]) := by simp [Heap.get, getFs, getF, b1, b2, b3]
 have hrd : Heap.ready ⟨n, [[A, B], [(c, .cells row), (0, .cells [aNodes t, v])]]⟩ 0 [.slc c 0 m (.rest 7)] = ⟨n, [[A, B], [(c, .cells row), (0, .cells [aNodes t, v])]]⟩ := by
  show (⟨n, promote 0 [c] [] _⟩ : Heap) = _
  rw [hpr]
 have hs1 : setF 0 (.cells [aNodes t, .slc c 0 m (.rest 7)]) [A, B] = none := sF_none n1
 unfold writeVar
 simp only [szT22, Option.bind_some, cells_slc, List.length_cons, List.length_nil]
 simp [allSingle, AV.single, writeCells, hg, Blk.wt, hrd, Heap.set, setFs, setF, b1, b2, b3, Blk.re]
theorem sl_path {H : Heap} {cs : List AV} {b q kn : Nat} (hb : H.get b = some (.cells cs)) (hl : cs.length = kn * 7) (hq : q + 1 ≤ kn) :
  sliceA Tryz.prog H 22 (.slc b 0 (q + 1) (.rest 7)) none (some (.int .i64 (q : Int))) none = some (.slc b 0 q (.rest 7)) := by
 have hs : sizeT Tryz.prog 31 = some 7 := szT31
 have hk : knownCells H b = some (kn * 7) := by simp [knownCells, hb, Blk.rd, hl]
 simp only [sliceA, hiOK, Tryz.underlying22, Option.bind_some, hs]
 have e2 : kn * 7 / 7 = kn := by omega
 have hi1 : idx (q : Int) (Nat.succ kn) = some q := idx_nat (by omega)
 have hn : Nat.ble (kn * 7) 0 = false := by cases kn with
  | zero => omega
  | succ m => rfl
 simp only [sliceBlk, hk, Option.bind_some, bound, Nat.beq_refl, Nat.sub_zero, e2, hi1, Nat.zero_mul, hn, Nat.add_zero]
end
def pR (z : Nat) (pre : List AV) : Option Unit → AV × List (Nat × Blk)
 | none => (.nilS, [])
 | some _ => (.slc 0 0 z (.rest 7), [(0, .cells pre)])
theorem prom_top {b : Nat} {rs : List Nat} {f : List (Nat × Blk)} {r : List (List (Nat × Blk))} (h : (getF b f).isSome = true) : promote b rs [] (f :: r) = f :: r := by
 obtain ⟨k, hk⟩ := Option.isSome_iff_exists.1 h
 unfold promote
 rw [hk]; rfl
theorem single_nodes : ∀ (L : List Nd), allSingle (flatAV (L.map aNode)) = true
 | [] => rfl
 | x :: r => by
  rw [List.map_cons]
  show allSingle (x.cs ++ flatAV (r.map aNode)) = true
  rw [allSingle_append, single_nodes r]; rfl
theorem app_put {z : Nat} {pre nc : List AV} {o : Option Unit} {v0 : AV} {r0 : List (Nat × Blk)} {A B C S : Blk} (hpr : pR z pre o = (v0, r0)) (ho : o = none → z = 0 ∧ pre = []) (hpl : pre.length = z * 7) (hnl : nc.length = 7) (hns : allSingle nc = true) (hz : z ≤ 100000) :
  appendA Tryz.prog ⟨7, [(6, .cells nc) :: (5, .cells nc) :: (4, A) :: (3, B) :: (2, C) :: (1, S) :: r0]⟩ 31 v0 (.slc 6 0 1 (.ex 1)) =
   some (.slc 7 0 (z + 1) (.rest 7), ⟨8, [[(7, .cells (pre ++ nc)), (6, .cells nc), (5, .cells nc), (4, A), (3, B), (2, C), (1, S)]]⟩) := by
 have hrow : ∀ cs, rowA Tryz.prog 31 cs = .cells cs := by intro cs; rfl
 have htk : takeL 7 nc = some nc := by rw [← hnl]; exact takeL_all nc
 obtain ⟨by_, hby⟩ : ∃ b, bytesT Tryz.prog 31 = some b := ⟨_, byT31⟩
 have hbv : 0 < by_ ∧ by_ ≤ 1000 := by
  have := hby.symm.trans byT31
  simp at this; omega
 obtain ⟨zz, hzz, hzl⟩ : ∃ b, zeroOf Tryz.prog 31 = some b ∧ b.cells.length = 7 := ⟨_, zeT31, rfl⟩
 have hb1 : Nat.blt 0 by_ = true := by simp; omega
 cases o with
 | none =>
  obtain ⟨rfl, rfl⟩ := ho rfl
  simp [pR] at hpr
  obtain ⟨rfl, rfl⟩ := hpr
  have hr : roomOK 1 by_ = true := by unfold roomOK; rw [Nat.ble_eq]; omega
  unfold appendA
  simp [szT31, hby, hzz, hzl, srcLen, hb1, hr, srcCells, readCells, Heap.get, getFs, getF, subL, htk, hnl, hrow, Heap.new, pushF]
 | some _ =>
  simp [pR] at hpr
  obtain ⟨rfl, rfl⟩ := hpr
  have hr : roomOK (z + 1) by_ = true := by
   unfold roomOK; rw [Nat.ble_eq]
   have : (z + 1) * by_ ≤ 100001 * 1000 := Nat.mul_le_mul (by omega) hbv.2
   omega
  have h2 : Nat.ble ((z + 1) * 7) (z * 7) = false := by rw [← Bool.not_eq_true, Nat.ble_eq]; omega
  have htp : takeL (z * 7) pre = some pre := by rw [← hpl]; exact takeL_all pre
  unfold appendA
  simp [szT31, hby, hzz, hzl, srcLen, hb1, hr, srcCells, readCells, Heap.get, getFs, getF, subL, htk, hnl, hrow, Heap.new, pushF, hns, knownCells, hpl, h2, htp, Heap.drop, killFs, killF]
theorem app_atts0 {g : List (Nat × Blk)} {fs : List (List (Nat × Blk))} : appendA Tryz.prog ⟨7, ((6, .cells []) :: g) :: fs⟩ 43 (.slc 6 0 0 (.ex 0)) (aAttrs []) = some (.slc 6 0 0 (.ex 0), ⟨7, ((6, .cells []) :: g) :: fs⟩) := rfl
theorem app_atts {g : List (Nat × Blk)} {fs : List (List (Nat × Blk))} (A : List At1) (hA : A ≠ []) (hl : A.length ≤ 100000) :
  appendA Tryz.prog ⟨7, ((6, .cells []) :: g) :: fs⟩ 43 (.slc 6 0 0 (.ex 0)) (aAttrs A) =
   some (.slc 7 0 A.length (.rest 2), ⟨8, ((7, .cells (flatAV (A.map aAttr))) :: (6, .cells []) :: g) :: fs⟩) := by
 cases A with
 | nil => exact absurd rfl hA
 | cons x r =>
  have hrow : ∀ cs, rowA Tryz.prog 43 cs = .cells cs := by intro cs; rfl
  obtain ⟨by_, hby⟩ : ∃ b, bytesT Tryz.prog 43 = some b := ⟨_, byT43⟩
  have hbv : 0 < by_ ∧ by_ ≤ 1000 := by
   have := hby.symm.trans byT43
   simp at this; omega
  obtain ⟨zz, hzz, hzl⟩ : ∃ b, zeroOf Tryz.prog 43 = some b ∧ b.cells.length = 2 := ⟨_, zeT43, rfl⟩
  have hb1 : Nat.blt 0 by_ = true := by simp; omega
  have hr : roomOK ((x :: r).length) by_ = true := by
   unfold roomOK; rw [Nat.ble_eq]
   have : (x :: r).length * by_ ≤ 100000 * 1000 := Nat.mul_le_mul hl hbv.2
   omega
  have hel := (el_attr (x :: r)).len
  have hsg := single_attr (x :: r)
  have htk : ((x :: r).map aAttr).take (x :: r).length = (x :: r).map aAttr := by rw [List.take_of_length_le]; simp
  have hln : ((x :: r).map aAttr).length = (x :: r).length := by simp
  rw [hln] at hel
  have h1 : 0 < (x :: r).length := by simp
  show appendA _ _ _ _ (.fslc 2 ((x :: r).map aAttr)) = _
  generalize (x :: r).map aAttr = M at *
  generalize hF : flatAV M = F at *
  unfold appendA
  simp only [szT43, hby, hzz, hzl, srcLen, hb1, Option.bind_some, hln]
  generalize (x :: r).length = k at *
  have h2 : Nat.ble k 0 = false := by rw [← Bool.not_eq_true, Nat.ble_eq]; omega
  simp [srcCells, htk, hF, hr, hsg, h2, hel, readCells, Heap.get, getFs, getF, subL, takeL, hrow, Heap.new, pushF]
theorem put_in {C : Ctx} {f : FuncId} {t : Tr} {k up : Int} {N sz n q : Nat} {s s' : List Bool} {cs P : List AV} {g : List (Nat × Blk)} (hN : 5 < N) (hP : allSingle P = true) (hg : ∀ e, e ∈ g → e.1 < N ∧ e.1 ≠ 5 ∧ e.1 ≠ 1) (hnd : (g.map (·.1)).Nodup) (hcs : pureL cs = true)
  (h : ∀ pre, pureL pre = true → allSingle pre = true → pre.length = P.length → CallAt C f [aTree t, .int .i64 k, .int .i64 up, .agg [.slc 0 0 sz (.rest 7)], .slc 1 0 n (.ex n)] ⟨2, [[(1, .cells (bls s)), (0, .cells pre)]]⟩ (.agg [.slc 2 0 q (.rest 7)]) ⟨3, [[(2, .cells (pre ++ cs)), (1, .cells (bls s'))]]⟩) :
  CallAt C f [aTree t, .int .i64 k, .int .i64 up, .agg [.slc 5 0 sz (.rest 7)], .slc 1 0 n (.ex n)] ⟨N, [(5, .cells P) :: (1, .cells (bls s)) :: g]⟩ (.agg [.slc N 0 q (.rest 7)]) ⟨N + 1, [(N, .cells (P ++ cs)) :: (1, .cells (bls s')) :: g]⟩ := by
 refine CallAt.anyrow hP fun pre hp hs hl => ?_
 have hb := pure_bls s
 have hb' := pure_bls s'
 have h5 : ∀ e, e ∈ g → Nat.beq 5 e.1 = false ∧ Nat.beq 1 e.1 = false := fun e he => ⟨beqN_ne fun x => (hg e he).2.1 x.symm, beqN_ne fun x => (hg e he).2.2 x.symm⟩
 have hf : FitH 0 [(5, 0), (1, 1)] [] ⟨N, [(5, .cells pre) :: (1, .cells (bls s)) :: g]⟩ ⟨2, [[(1, .cells (bls s)), (0, .cells pre)]]⟩ := {
  nd1 := by simp
  nd2 := by simp
  nd3 := by simp [Heap.ents]
  lt := by simp
  idn := by simp
  num := by simp
  src := by
   intro e he
   simp [Heap.ents] at he
   rcases he with rfl | rfl
   ·exact ⟨1, .cells (bls s), by simp, by simp [Heap.get, getFs, getF], fitL_pure hb⟩
   ·exact ⟨5, .cells pre, by simp, by simp [Heap.get, getFs, getF], fitL_pure hp⟩
  frz := fun x h => by cases h }
 have := (h pre hp hs hl).framed (H' := ⟨N + 1, [(N, .cells (pre ++ cs)) :: (1, .cells (bls s')) :: g]⟩) (args := [aTree t, .int .i64 k, .int .i64 up, .agg [.slc 5 0 sz (.rest 7)], .slc 1 0 n (.ex n)]) hf ?_ ?_ (by simp)
 ·simpa [renV, renL, outN, lookR] using this
 ·have ht : fitV [(5, 0), (1, 1)] [] (aTree t) (aTree t) := fitV_pure (by simp)
  simp [fitL, fitV, lookN, ht, pureV]
 ·refine ⟨by simp, fun hn hlt => ?_, ?_⟩
  ·simp only [Heap.ents, List.flatten_cons, List.flatten_nil, List.append_nil, List.map_cons, List.nodup_cons, List.mem_cons, List.mem_map, not_or]
   refine ⟨⟨by omega, ?_⟩, ?_, hnd⟩
   ·rintro ⟨e, he, hh⟩; have := hg e he; omega
   ·rintro ⟨e, he, hh⟩; have := hg e he; omega
  ·intro e he
   have hc := renL_pure (outN [(5, 0), (1, 1)] N 2) (l := pre ++ cs) (by
    have : ∀ {a b : List AV}, pureL a = true → pureL b = true → pureL (a ++ b) = true := by
     intro a b h1 h2
     induction a with
     | nil => exact h2
     | cons x r ih =>
      simp only [pureL, Bool.and_eq_true, List.cons_append] at h1 ⊢
      exact ⟨h1.1, ih h1.2⟩
    exact this hp hcs)
   have hs' := renL_pure (outN [(5, 0), (1, 1)] N 2) hb'
   simp only [Heap.ents, List.flatten_cons, List.flatten_nil, List.append_nil, List.mem_cons] at he
   rcases he with rfl | rfl | he
   ·exact .inl ⟨(2, .cells (pre ++ cs)), by simp [Heap.ents], by simp [renB, hc]; simp [outN, lookR]⟩
   ·exact .inl ⟨(1, .cells (bls s')), by simp [Heap.ents], by simp [renB, hs']; simp [outN, lookR]⟩
   ·have := hg e he
    refine .inr ⟨by simp [Heap.ents, he], ?_⟩
    simp; omega
def hdP (up : Int) (n : Nd) : List AV := [aInt n.kind, aInt n.space, .str n.name, aAttrs n.attrs, .str n.data, aInt up]
abbrev hPR (t : Tr) (sz : Nat) (row : List AV) (s : List Bool) : List (Nat × Blk) := [(5, .cells row), (1, .cells (bls s)), (3, .cells [.slc 5 0 sz (.rest 7)]), (2, .cells [aNodes t]), (4, .cells [.nilS])]
theorem put_fitL {t : Tr} {sz : Nat} {s : List Bool} {L : List Int} {U W : List AV} {H : Heap} {a b : Nat} {v6 : AV} (hv6 : v6 = lA b L ∨ (v6 = .nilS ∧ L = [])) (hU : pureL U = true) (hW : pureL W = true) (h1 : a ≠ b ∧ a ∉ [1, 2, 3, 4] ∧ b ∉ [1, 2, 3, 4]) (h5 : H.get a = some (.cells (U ++ v6 :: W)))
  (g1 : H.get 1 = some (.cells (bls s))) (g2 : H.get 2 = some (.cells [aNodes t])) (g3 : H.get 3 = some (.cells [.slc a 0 sz (.rest 7)])) (g4 : H.get 4 = some (.cells [.nilS])) (g6 : L ≠ [] → H.get b = some (.cells (ints L))) :
  FitH 2 [(a, 5), (b, 6), (1, 1), (2, 2), (3, 3), (4, 4)] [] H ⟨7, [hPR t sz (U ++ lA 6 L :: W) s, lF 6 L]⟩ where
 nd1 := by
  obtain ⟨h1, h2, h3⟩ := h1
  simp at h2 h3
  simp
  omega
 nd2 := by simp
 nd3 := by
  by_cases hL : L = []
  ·subst hL; simp [Heap.ents, lF, ownF]
  ·rw [lF_ne hL]; simp [Heap.ents]
 lt := by simp
 idn := by simp
 num := by simp
 src := by
  intro e he
  have hN := pure_aNodes t
  simp only [Heap.ents, hPR, List.flatten_cons, List.flatten_nil, List.append_nil, List.mem_cons, List.mem_append, List.not_mem_nil, or_false] at he
  rcases he with (rfl | rfl | rfl | rfl | rfl) | he
  ·refine ⟨a, _, by simp, h5, ?_⟩
   show fitL _ _ _ _
   refine fitL_app (fitL_pure hU) ⟨?_, fitL_pure hW⟩
   by_cases hL : L = []
   ·subst hL
    rcases hv6 with rfl | ⟨rfl, _⟩ <;> simp [lA, ownV, ints, fitV]
   ·rcases hv6 with rfl | ⟨_, h⟩
    ·rw [lA_ne hL, lA_ne hL]
     have : ¬ a = b := h1.1
     simp [fitV, lookN, this]
    ·exact absurd h hL
  ·exact ⟨1, _, by simp, g1, fitL_pure (pure_bls s)⟩
  ·exact ⟨3, _, by simp, g3, by simp [fitB, fitL, fitV, lookN]⟩
  ·exact ⟨2, _, by simp, g2, fitL_pure (by simp [pureL])⟩
  ·exact ⟨4, _, by simp, g4, by simp [fitB, fitL, fitV]⟩
  ·by_cases hL : L = []
   ·subst hL; cases he
   ·rw [lF_ne hL] at he
    simp at he
    subst he
    exact ⟨b, _, by simp, g6 hL, fitL_pure (pure_ints L)⟩
 frz := fun y hy => by cases hy
theorem put_fitE {sz : Nat} {s : List Bool} {L : List Int} {pre : List AV} {x : Nd} {up : Int} {D : List Nd} {H : Heap} (hp : pureL pre = true) (h5 : H.get 5 = some (.cells (pre ++ hdP up x ++ lA 6 L :: flatAV (D.map aNode))))
  (g1 : H.get 1 = some (.cells (bls s))) (g6 : L ≠ [] → H.get 6 = some (.cells (ints L))) :
  ∃ σ Φ, fitV σ Φ (.agg [.slc 5 0 sz (.rest 7)]) (.agg [.slc 2 0 sz (.rest 7)]) ∧ FitH 2 σ Φ H ⟨3, [[(2, .cells (pre ++ flatAV ((({ x with up := up, kids := L } : Nd) :: D).map aNode))), (1, .cells (bls s))]]⟩ := by
 have key : ∀ Φ, (Φ = [] ∨ (Φ = [(6, ints L)] ∧ L ≠ [])) → fitV [(5, 2), (1, 1)] Φ (lA 6 L) (aInts L) → FitH 2 [(5, 2), (1, 1)] Φ H ⟨3, [[(2, .cells (pre ++ flatAV ((({ x with up := up, kids := L } : Nd) :: D).map aNode))), (1, .cells (bls s))]]⟩ := fun Φ hΦ hv => {
  nd1 := by rcases hΦ with rfl | ⟨rfl, _⟩ <;> simp
  nd2 := by simp
  nd3 := by simp [Heap.ents]
  lt := by simp
  idn := by simp
  num := by simp
  src := by
   intro e he
   simp only [Heap.ents, List.flatten_cons, List.flatten_nil, List.append_nil, List.mem_cons, List.not_mem_nil, or_false] at he
   rcases he with rfl | rfl
   ·refine ⟨5, _, by simp, h5, ?_⟩
    show fitL _ _ _ (pre ++ (hdP up x ++ aInts L :: flatAV (D.map aNode)))
    rw [List.append_assoc]
    refine fitL_app (fitL_pure hp) (fitL_app (fitL_pure (by simp [hdP, pureL, pureV, aInt])) ⟨hv, fitL_pure (el_node D).pure⟩)
   ·exact ⟨1, _, by simp, g1, fitL_pure (pure_bls s)⟩
  frz := fun y hy => by
   rcases hΦ with rfl | ⟨rfl, hL⟩
   ·cases hy
   ·simp at hy; subst hy
    exact ⟨ints L, g6 hL, fitL_pure (pure_ints L), pure_ints L⟩ }
 by_cases hL : L = []
 ·refine ⟨_, [], ?_, key [] (.inl rfl) (by subst hL; simp [lA, ownV, ints, fitV])⟩
  simp [fitV, fitL, lookN]
 ·refine ⟨_, [(6, ints L)], ?_, key _ (.inr ⟨rfl, hL⟩) ?_⟩
  ·simp [fitV, fitL, lookN]
  ·rw [lA_ne hL]
   simp only [fitV, lookC, if_true]
   refine .inl ⟨_, rfl, ?_, by simp, (el_int L).size⟩
   have hl := (el_int L).len
   rw [flat_ints] at hl
   have h2 : (ints L).length = L.length := by simp [ints]
   show subL 0 (L.length * 1) (ints L) = some (flatAV (ints L))
   rw [flat_ints, Nat.mul_one, ← h2]
   unfold subL
   rw [List.drop_zero, takeL_all]
theorem pure_app : ∀ {a b : List AV}, pureL a = true → pureL b = true → pureL (a ++ b) = true
 | [], b, _, h => h
 | x :: r, b, h1, h2 => by
  simp only [pureL, Bool.and_eq_true, List.cons_append] at h1 ⊢
  exact ⟨h1.1, pure_app h1.2 h2⟩
theorem get_r0 {z : Nat} {pre : List AV} {o : Option Unit} {v0 : AV} {r0 : List (Nat × Blk)} (hpr : pR z pre o = (v0, r0)) : r0 = [] ∨ r0 = [(0, .cells pre)] := by
 cases o <;> (simp [pR] at hpr; obtain ⟨rfl, rfl⟩ := hpr; simp)
theorem put_fit1 {z : Nat} {pre : List AV} {o : Option Unit} {v0 : AV} {r0 : List (Nat × Blk)} (hpr : pR z pre o = (v0, r0)) (hp : pureL pre = true) {t : Tr} {s : List Bool} {x : Nd} {n : Nat} {va : AV} {Φ : List (Nat × List AV)} {f : List (Nat × Blk)}
  (hΦ : Φ = [] ∨ Φ = [(7, flatAV (x.attrs.map aAttr))]) (hva : ∀ σ, fitV σ Φ va (aAttrs x.attrs)) (h7 : ∀ y, y ∈ Φ → getF y.1 f = some (.cells y.2))
  (h5 : getF 5 f = some (.cells [aInt x.kind, aInt x.space, .str x.name, va, .str x.data, aInt x.up, aInts x.kids])) (h4 : getF 4 f = some (.cells [.nilS])) (h3 : getF 3 f = some (.cells [v0])) (h2 : getF 2 f = some (.cells [aNodes t])) (h1 : getF 1 f = none)
  (h0 : getF 0 f = none) : FitH 2 [(5, 5), (4, 4), (3, 3), (2, 2), (1, 1), (0, 0)] Φ ⟨n, [f, (1, .cells (bls s)) :: r0]⟩ ⟨6, [(5, .cells x.cs) :: (4, .cells [.nilS]) :: (3, .cells [v0]) :: (2, .cells [aNodes t]) :: (1, .cells (bls s)) :: r0]⟩ where
 nd1 := by rcases hΦ with rfl | rfl <;> simp
 nd2 := by simp
 nd3 := by rcases get_r0 hpr with rfl | rfl <;> simp [Heap.ents]
 lt := by simp
 idn := by simp
 num := by simp
 src := by
  intro e he
  have hN := pure_aNodes t
  simp only [Heap.ents, List.flatten_cons, List.flatten_nil, List.append_nil, List.mem_cons] at he
  rcases he with rfl | rfl | rfl | rfl | rfl | he
  ·exact ⟨5, .cells [aInt x.kind, aInt x.space, .str x.name, va, .str x.data, aInt x.up, aInts x.kids], by simp, by simp [Heap.get, getFs, h5], by simp [fitB, Nd.cs, fitL, fitV, aInt, pureV, hva]⟩
  ·exact ⟨4, .cells [.nilS], by simp, by simp [Heap.get, getFs, h4], by simp [fitB, fitL, fitV]⟩
  ·refine ⟨3, .cells [v0], by simp, by simp [Heap.get, getFs, h3], ?_⟩
   cases o <;> (simp [pR] at hpr; obtain ⟨rfl, rfl⟩ := hpr; simp [fitB, fitL, fitV, lookN])
  ·exact ⟨2, .cells [aNodes t], by simp, by simp [Heap.get, getFs, h2], fitL_pure (by simp [pureL])⟩
  ·exact ⟨1, .cells (bls s), by simp, by simp [Heap.get, getFs, h1, getF], fitL_pure (pure_bls s)⟩
  ·rcases get_r0 hpr with rfl | rfl
   ·cases he
   ·simp at he
    subst he
    exact ⟨0, .cells pre, by simp, by simp [Heap.get, getFs, h0, getF], fitL_pure hp⟩
 frz := fun y hy => by
  refine ⟨y.2, by simp [Heap.get, getFs, h7 y hy], ?_, ?_⟩ <;> (rcases hΦ with rfl | rfl <;> simp at hy <;> subst hy)
  ·exact fitL_pure (el_attr _).pure
  ·exact (el_attr _).pure
theorem put_at {T : List (Entry Tryz.prog)} (t : Tr) (ht : okT t) : ∀ (F : Nat) (i : Nat) (up : Int) (z : Nat) (seen : List Bool) (pre : List AV) (o : Option Unit) (ho : o = none → z = 0 ∧ pre = []) 
  (hp : pureL pre = true) (hs : allSingle pre = true) (hpl : pre.length = z * 7) (i1 : i < t.length) (hsl : seen.length = t.length) (hsi : seen.getD i true = false) (hz : z + unsB seen ≤ 100000) (hF : unsB seen ≤ F),
  CallAt (ctx T) 29 [aTree t, .int .i64 (i : Int), .int .i64 up, .agg [(pR z pre o).1], .slc 1 0 t.length (.ex t.length)] ⟨2, [(1, .cells (bls seen)) :: (pR z pre o).2]⟩
   (.agg [.slc 2 0 (z + (putP F t i up z seen).1.length) (.rest 7)]) ⟨3, [[(2, .cells (pre ++ flatAV ((putP F t i up z seen).1.map aNode))), (1, .cells (bls (putP F t i up z seen).2))]]⟩ := by
 intro F
 induction F with
 | zero =>
  intro i up z seen pre o ho hp hs hpl i1 hsl hsi hz hF
  have := unsB_set hsi
  omega
 | succ F' ih =>
 intro i up z seen pre o ho hp hs hpl i1 hsl hsi hz hF
 have hix := atX (t := t) (i := (i : Int)) (by omega) (by omega)
 obtain ⟨v0, r0, hpr⟩ : ∃ v0 r0, pR z pre o = (v0, r0) := ⟨_, _, rfl⟩
 have hv1 : v0.single = true := by cases o <;> (simp [pR] at hpr; obtain ⟨rfl, rfl⟩ := hpr; rfl)
 have hvc : v0.cells = [v0] := by cases o <;> (simp [pR] at hpr; obtain ⟨rfl, rfl⟩ := hpr; rfl)
 have hvl : ∀ H, lenA Tryz.prog H 22 v0 = some z := fun H => by
  cases o with
  | none => simp [pR] at hpr; obtain ⟨rfl, rfl⟩ := hpr; simp [lenA, (ho rfl).1]
  | some _ => simp [pR] at hpr; obtain ⟨rfl, rfl⟩ := hpr; simp [lenA]
 rw [hpr]
 simp only
 obtain ⟨x, hxn⟩ : ∃ x, x = nodeAt t i := ⟨_, rfl⟩
 have hal := (ht.ok.2 _ (nodeAt_mem (t := t) (i := (i : Int)) (by omega) (by omega))).2
 have hkl := (ht.ok.2 _ (nodeAt_mem (t := t) (i := (i : Int)) (by omega) (by omega))).1
 rw [← hxn] at hix hal hkl
 refine callAt_body (fn := Tryz.f29) (s0 := ⟨[0, 1, 2, 3, 4, 5, 8, 10, 11, 12, 13, 14], [aTree t, .int .i64 i, .int .i64 up, .agg [v0], .slc 1 0 t.length (.ex t.length), .undef, .undef, .undef, .undef, .undef, .undef, .undef], [], 99, ⟨2, [] :: [(1, .cells (bls seen)) :: r0]⟩⟩) Tryz.func29 rfl rfl rfl ?_
 repeat apply wq
 refine wps_region callOK ?_
 simp [zS, hv1]
 repeat apply wq
 refine wps_region callOK ?_
 simp [zS, hix, nd_fold]
 have hat3 : getL x.cs 3 = some (aAttrs x.attrs) := rfl
 have hst3 : ∀ v, layL [v] 3 x.cs = some [aInt x.kind, aInt x.space, .str x.name, v, .str x.data, aInt x.up, aInts x.kids] := fun v => rfl
 refine wps_joinG ((⟨[0, 1, 2, 3, 4, 5, 8, 10, 11, 12, 13, 14], [aTree t, .int .i64 i, .int .i64 up, .undef, .slc 1 0 t.length (.ex t.length), .ptr 2 0, .ptr 3 0, .ptr 4 0, .ptr 5 0, .undef, .undef, .undef], [], 99, ⟨6, [(5, .cells x.cs) :: (4, .cells [.nilS]) :: (3, .cells [v0]) :: (2, .cells [aNodes t]) :: (1, .cells (bls seen)) :: r0]⟩⟩ : St)) ?_ fun hj => ?_
 rotate_left
 ·have hTr : ∀ σ Φ, fitV σ Φ (aTree t) (aTree t) := fun _ _ => fitV_pure (by simp)
  by_cases hA : x.attrs = []
  ·rw [hA] at hat3
   repeat apply wq
   refine wps_region callOK ?_
   simp [zS, app_atts0, hat3, hst3, prom_top]
   exact hj _ ⟨[(5, 5), (4, 4), (3, 3), (2, 2), (1, 1), (0, 0)], [], rfl, rfl, rfl, by simp [fitL, fitV, lookN, pureV, pureL, hTr], put_fit1 hpr hp (.inl rfl) (fun σ => by rw [hA]; simp [fitV, aAttrs]) (by simp) rfl rfl rfl rfl rfl rfl⟩
  ·have happ1 := app_atts (g := [(5, .cells x.cs), (4, .cells [.nilS]), (3, .cells [v0]), (2, .cells [aNodes t])]) (fs := [(1, .cells (bls seen)) :: r0]) x.attrs hA (by omega)
   repeat apply wq
   refine wps_region callOK ?_
   simp [zS, happ1, hat3, hst3, prom_top]
   have hel := el_attr x.attrs
   exact hj _ ⟨[(5, 5), (4, 4), (3, 3), (2, 2), (1, 1), (0, 0)], [(7, flatAV (x.attrs.map aAttr))], rfl, rfl, rfl, by simp [fitL, fitV, lookN, pureV, pureL, hTr], put_fit1 hpr hp (.inr rfl) (fun σ => by
    simp only [aAttrs, fitV, lookC, if_true]
    refine .inl ⟨_, rfl, ?_, by simp, hel.size⟩
    have hl := hel.len
    rw [List.length_map] at hl
    unfold subL
    rw [List.drop_zero, ← hl, takeL_all]) (by simp [getF]) rfl rfl rfl rfl rfl rfl⟩
 have hst5 : layL [AV.int .i64 up] 5 x.cs = some [aInt x.kind, aInt x.space, .str x.name, aAttrs x.attrs, .str x.data, .int .i64 up, aInts x.kids] := rfl
 repeat apply wq
 refine wps_region callOK ?_
 simp [zS, hst5]
 repeat apply wq
 refine wps_region callOK ?_
 simp [zS, hvl]
 have happ := app_put (nc := [aInt x.kind, aInt x.space, .str x.name, aAttrs x.attrs, .str x.data, .int .i64 up, .nilS]) (A := .cells [.nilS]) (B := .cells [v0]) (C := .cells [aNodes t]) (S := .cells (bls seen)) hpr ho hpl rfl rfl (by omega)
 have sga : ∀ A, (aAttrs A).single = true := fun _ => rfl
 have sgi : ∀ i, (aInt i).single = true := fun _ => rfl
 repeat apply wq
 refine wps_region callOK ?_
 simp [zS, happ, prom_top, sga, sgi]
 have hly : layL [.bool true] i (bls seen) = some (bls (seen.set i true)) := layB (by omega)
 have hxi : indexAddrA Tryz.prog 51 (.slc 1 0 t.length (.ex t.length)) (.int .i64 (i : Int)) = some (.ptr 1 i) := by simp [indexAddrA, idx_nat i1]
 repeat apply wq
 refine wps_region callOK ?_
 simp [zS, hly, hxi]
 repeat apply wq
 refine wps_region callOK ?_
 simp [zS]
 obtain ⟨U, hU⟩ : ∃ U, U = pre ++ hdP up x := ⟨_, rfl⟩
 have hUp : pureL U = true := by rw [hU]; exact pure_app hp (by simp [hdP, pureL, pureV, aInt])
 have hUl : U.length = z * 7 + 6 := by rw [hU]; simp [hdP, hpl]
 have e0 : pre ++ [aInt x.kind, aInt x.space, .str x.name, aAttrs x.attrs, .str x.data, .int .i64 up, .nilS] = U ++ [.nilS] := by rw [hU]; simp [hdP, aInt]
 rw [e0]
 obtain ⟨K, hK⟩ : ∃ K, K = x.kids := ⟨_, rfl⟩
 have hUn := unsB_set hsi
 obtain ⟨rec, hrec⟩ : ∃ rec, rec = fun (k : Int) (z' : Nat) (s' : List Bool) => putP F' t k (z : Int) z' s' := ⟨_, rfl⟩
 obtain ⟨R, hR⟩ : ∃ R, R = putL rec t.length K (z + 1) (seen.set i true) := ⟨_, rfl⟩
 have hfin : putP (F' + 1) t i up z seen = ({ x with up := up, kids := R.1 } :: R.2.1, R.2.2) := by rw [hR, hrec, hK, hxn]; rfl
 rw [hfin]
 clear hfin happ hly hxi hst5 e0
 have gk : getL x.cs 6 = some (aInts K) := by rw [hK]; rfl
 repeat apply wq
 refine wps_block (wps_loop' (fun y : Nat × List Int × List Nd × List Bool => (⟨[0, 1, 2, 3, 4, 5, 8, 10, 11, 12, 13, 14], [.undef, .int .i64 i, .undef, .undef, .slc 1 0 t.length (.ex t.length), .ptr 2 0, .ptr 3 0, .ptr 4 0, .undef, .int .i64 (z : Int), .int .i64 (y.1 : Int), .undef], [], 99, ⟨7, [hPR t (z + 1 + y.2.2.1.length) (U ++ lA 6 y.2.1 :: flatAV (y.2.2.1.map aNode)) y.2.2.2, lF 6 y.2.1]⟩⟩ : St))
  (fun y => y.1 ≤ K.length ∧ y.2.1.length ≤ y.1 ∧ y.2.2.2.length = t.length ∧ y.2.2.1.length + unsB y.2.2.2 < unsB seen ∧ R = (y.2.1 ++ (putL rec t.length (K.drop y.1) (z + 1 + y.2.2.1.length) y.2.2.2).1, y.2.2.1 ++ (putL rec t.length (K.drop y.1) (z + 1 + y.2.2.1.length) y.2.2.2).2.1, (putL rec t.length (K.drop y.1) (z + 1 + y.2.2.1.length) y.2.2.2).2.2))
  (fun y => K.length - y.1) [(7, 5), (8, 6), (1, 1), (2, 2), (3, 3), (4, 4)] [] (0, [], [], seen.set i true) ⟨Nat.zero_le _, Nat.le_refl _, by simpa using hsl, by simp; omega, by simpa using hR⟩
  ⟨rfl, rfl, rfl, by simp [fitL, fitV, lookN, pureV, pureL], put_fitL (L := []) (W := []) (.inr ⟨rfl, rfl⟩) hUp rfl (by simp) (by simp [Heap.get, getFs, getF, lA, ownV]) (by simp [Heap.get, getFs, getF, lA, ownV]) (by simp [Heap.get, getFs, getF, lA, ownV]) (by simp [Heap.get, getFs, getF, lA, ownV]) (by simp [Heap.get, getFs, getF, lA, ownV]) (by simp)⟩ ?_)
 rintro ⟨j, L, D, s⟩ ⟨hj, hLj, hsn, hDu, hx⟩ B hB
 simp only at hj hLj hsn hDu hx ⊢
 have hrecS : ∀ k z' s', s'.length = t.length → s'.getD k.toNat true = false → (rec k z' s').2.length = t.length ∧ (rec k z' s').1.length + unsB (rec k z' s').2 ≤ unsB s' := fun k z' s' h1 h2 => by rw [hrec]; exact putP_spec F' t k z z' s' h1 h2
 have hW := (el_node D).pure
 have hWl := (el_node D).len
 by_cases h : j < K.length
 ·have hc : (j : Int) < (K.length : Int) := by omega
  have hik := atI h
  have hac := add_one (show j ≤ 1000000000 by rw [← hK] at hkl; omega)
  rw [List.drop_eq_getElem_cons h] at hx
  simp only [putL] at hx
  generalize K[j] = k at *
  repeat apply wq
  refine wps_region callOK ?_
  simp [zS, hix, gk, lenI, hc]
  repeat apply wq
  refine wps_ct (by simp [opnd, St.get, h]) ?_
  repeat apply wq
  refine wps_skip ?_
  simp
  repeat apply wq
  refine wps_block ?_
  repeat apply wq
  refine wps_region callOK ?_
  simp [zS, hix, gk, hik]
  by_cases hA : 0 ≤ k ∧ k < (t.length : Int) ∧ s.getD k.toNat true = false
  ·obtain ⟨k0, k1, k2⟩ := hA
   rw [if_pos ⟨k0, k1, k2⟩] at hx
   obtain ⟨kn, rfl⟩ : ∃ kn : Nat, k = (kn : Int) := ⟨k.toNat, by omega⟩
   simp only [Int.toNat_natCast] at k2 hx
   have kl : kn < t.length := by omega
   have hks : s.getD kn true = s[kn]'(by omega) := by simp [List.getD, show kn < s.length by omega]
   have hgb := getB (s := s) (i := kn) (by omega)
   rw [← hks, k2] at hgb
   have hxk : indexAddrA Tryz.prog 51 (.slc 1 0 t.length (.ex t.length)) (.int .i64 (kn : Int)) = some (.ptr 1 kn) := by simp [indexAddrA, idx_nat kl]
   have lenT : ∀ H, lenA Tryz.prog H 22 (aNodes t) = some t.length := fun H => by simp [lenA]
   repeat apply wq
   refine wps_region callOK ?_
   simp [zS, k0, k1, lenT, hxk, hgb]
   repeat apply wq
   refine wps_ct rfl ?_
   obtain ⟨sz, hsz⟩ : ∃ sz, sz = z + 1 + D.length := ⟨_, rfl⟩
   rw [← hsz] at hx ⊢
   obtain ⟨W, hWe⟩ : ∃ W, W = flatAV (D.map aNode) := ⟨_, rfl⟩
   rw [← hWe] at hW hWl ⊢
   have hxz : ∀ n, n = 5 → indexAddrA Tryz.prog 22 (.slc n 0 sz (.rest 7)) (.int .i64 (z : Int)) = some (.ptr n (z * 7)) := fun n _ => by simp [indexAddrA, idx_nat (show z < sz by omega)]
   have gz : getL (U ++ lA 6 L :: W) (z * 7 + 6) = some (lA 6 L) := by
    rw [← hUl, getL_get (by simp), List.getElem_append_right (by omega)]; simp
   have hl5 : ∀ H, lenA Tryz.prog H 22 (.slc 5 0 sz (.rest 7)) = some sz := fun H => by simp [lenA]
   have happk := app_l (m := 24) (t := 19) (b := 6) (L := L) (v := (sz : Int)) (g1 := hPR t sz (U ++ lA 6 L :: W) s) (g := []) (by rw [← hK] at hkl; omega) (by simp) (by simp)
   rw [List.append_nil] at happk
   have hlk : layL [.slc 24 0 (L.length + 1) (.rest 1)] (z * 7 + 6) (U ++ lA 6 L :: W) = some (U ++ .slc 24 0 (L.length + 1) (.rest 1) :: W) := by
    have := layL_app (a := U) (b := [lA 6 L]) (b' := [.slc 24 0 (L.length + 1) (.rest 1)]) (c := W) rfl
    rw [hUl] at this
    simpa using this
   repeat apply wq
   refine wps_drawn mixed callOK (by decide +kernel) fun B_ hB_ => ?_
   have d_1_13 : ahead B_ 1 13 = false := by rw [hB_]; decide +kernel
   have d_1_16 : ahead B_ 1 16 = true := by rw [hB_]; decide +kernel
   have d_4_13 : ahead B_ 4 13 = true := by rw [hB_]; decide +kernel
   have d_4_16 : ahead B_ 4 16 = true := by rw [hB_]; decide +kernel
   have d_8_13 : ahead B_ 8 13 = true := by rw [hB_]; decide +kernel
   have d_8_16 : ahead B_ 8 16 = true := by rw [hB_]; decide +kernel
   have d_10_13 : ahead B_ 10 13 = true := by rw [hB_]; decide +kernel
   have d_10_16 : ahead B_ 10 16 = true := by rw [hB_]; decide +kernel
   have d_11_13 : ahead B_ 11 13 = true := by rw [hB_]; decide +kernel
   have d_11_16 : ahead B_ 11 16 = true := by rw [hB_]; decide +kernel
   have d_12_13 : ahead B_ 12 13 = true := by rw [hB_]; decide +kernel
   have d_12_16 : ahead B_ 12 16 = true := by rw [hB_]; decide +kernel
   have d_13_1 : ahead B_ 13 1 = false := by rw [hB_]; decide +kernel
   have d_13_4 : ahead B_ 13 4 = false := by rw [hB_]; decide +kernel
   have d_13_8 : ahead B_ 13 8 = false := by rw [hB_]; decide +kernel
   have d_13_10 : ahead B_ 13 10 = false := by rw [hB_]; decide +kernel
   have d_13_11 : ahead B_ 13 11 = false := by rw [hB_]; decide +kernel
   have d_16_1 : ahead B_ 16 1 = false := by rw [hB_]; decide +kernel
   have d_16_4 : ahead B_ 16 4 = false := by rw [hB_]; decide +kernel
   have d_16_8 : ahead B_ 16 8 = false := by rw [hB_]; decide +kernel
   have d_16_10 : ahead B_ 16 10 = false := by rw [hB_]; decide +kernel
   have d_16_11 : ahead B_ 16 11 = false := by rw [hB_]; decide +kernel
   apply drawE B_
   simp [zS, mkBlk, guardA, clsOf, reserve, freshenAll, wantedBy, unwantedBy, Heap.lay, ontoF, evE_c, evE_n, putE_s, putX_s, valE_s, redE_s, actE_s, layE_s, gateE_t, gateE_f, clsF_a, clsF_l, clsF_r, clsF_p, clsE_l, clsE_a, clsE_p, clsE_r, d_1_13, d_1_16, d_4_13, d_4_16, d_8_13, d_8_16, d_10_13, d_10_16, d_11_13, d_11_16, d_12_13, d_12_16, d_13_1, d_13_4, d_13_8, d_13_10, d_13_11, d_16_1, d_16_4, d_16_8, d_16_10, d_16_11, hxz, gz, hl5, happk, hlk, prom_top]
   exact rfl
   refine ⟨_, rfl, ?_, ?_⟩
   simp [zS, reserve, freshenAll, sameRecs, sameAll, sameAt, d_1_13, d_1_16, d_4_13, d_4_16, d_8_13, d_8_16, d_10_13, d_10_16, d_11_13, d_11_16, d_12_13, d_12_16, d_13_1, d_13_4, d_13_8, d_13_10, d_13_11, d_16_1, d_16_4, d_16_8, d_16_10, d_16_11, hxz, gz, hl5, happk, hlk, prom_top]
   simp [allPend, Heap.lay, ontoF, thenQ]
   have hsU := hrecS kn sz s hsn (by simpa using k2)
   have hle : unsB s ≤ F' := by omega
   obtain ⟨ra, hra⟩ : ∃ ra, ra = rec kn sz s := ⟨_, rfl⟩
   have hcall := put_in (C := ctx T) (f := 29) (N := 25) (t := t) (k := (kn : Int)) (up := (z : Int)) (sz := sz) (n := t.length) (q := sz + ra.1.length) (s := s) (s' := ra.2) (cs := flatAV (ra.1.map aNode)) (P := U ++ .slc 24 0 (L.length + 1) (.rest 1) :: W)
    (g := [(24, .cells (ints (L ++ [(sz : Int)]))), (19, .cells [.int .i64 (sz : Int)]), (3, .cells [.slc 5 0 sz (.rest 7)]), (2, .cells [aNodes t]), (4, .cells [.nilS])]) (by omega) (by
     have hsU : allSingle (hdP up x) = true := rfl
     have hsW : allSingle (.slc 24 0 (L.length + 1) (.rest 1) :: W) = true := by rw [hWe]; exact single_nodes D
     rw [allSingle_append, hU, allSingle_append, hs, hsU, hsW]; rfl) (by simp) (by simp) (el_node _).pure
    (fun pre' hp' hs' hl' => by
     have := ih kn (z : Int) sz s pre' (some ()) (by simp) hp' hs' (by rw [hl', hsz]; simp [hUl, hWl]; omega) kl hsn (by simpa using k2) (by omega) hle
     rw [hra, hrec]
     simpa [pR] using this)
   have hcall := hcall.perm (H2 := ⟨25, [[(24, .cells (ints (L ++ [(sz : Int)]))), (19, .cells [.int .i64 (sz : Int)]), (5, .cells (U ++ .slc 24 0 (L.length + 1) (.rest 1) :: W)), (1, .cells (bls s)), (3, .cells [.slc 5 0 sz (.rest 7)]), (2, .cells [aNodes t]), (4, .cells [.nilS])], []]⟩)
    (H2' := ⟨26, [[(25, .cells (U ++ .slc 24 0 (L.length + 1) (.rest 1) :: W ++ flatAV (ra.1.map aNode))), (1, .cells (bls ra.2)), (24, .cells (ints (L ++ [(sz : Int)]))), (19, .cells [.int .i64 (sz : Int)]), (3, .cells [.slc 5 0 sz (.rest 7)]), (2, .cells [aNodes t]), (4, .cells [.nilS])], []]⟩) rfl rfl
    (by
     simp only [Heap.ents, List.flatten_cons, List.flatten_nil, List.append_nil]
     exact (List.perm_append_comm (l₁ := [_, _]) (l₂ := [_, _])).append_right _) (by simp only [Heap.ents, List.flatten_cons, List.flatten_nil, List.append_nil]; exact List.Perm.refl _)
   repeat apply wq
   refine wps_region (callOKF [⟨29, _, _, _, _, hcall⟩]) ?_
   simp [zS, callF, aTree, prom_top]
   repeat apply wq
   refine wps_region callOK ?_
   simp [zS, hac]
   rw [← hra] at hx hsU
   have eW : flatAV ((D ++ ra.1).map aNode) = W ++ flatAV (ra.1.map aNode) := by rw [List.map_append, flat_append, hWe]
   have eS : z + 1 + (D ++ ra.1).length = sz + ra.1.length := by rw [List.length_append]; omega
   refine hB _ (j + 1, L ++ [(sz : Int)], D ++ ra.1, ra.2) (by simp only; omega) ⟨by simp only; omega, by simp; omega, by simpa using hsU.1, by simp; omega, ?_⟩ ⟨[(25, 5), (24, 6), (1, 1), (2, 2), (3, 3), (4, 4)], [], rfl, rfl, rfl, by simp [fitL, fitV, lookN, pureV, pureL], ?_⟩
   ·simp only
    rw [eS, hx]
    simp
   ·simp only
    rw [eS, eW]
    refine put_fitL (.inl (lA_ne (by simp)).symm) hUp (pure_app hW (el_node _).pure) (by simp) ?_ ?_ ?_ ?_ ?_ ?_ <;> simp [Heap.get, getFs, getF]
  ·rw [if_neg hA] at hx
   have lenT : ∀ H, lenA Tryz.prog H 22 (aNodes t) = some t.length := fun H => by simp [lenA]
   by_cases q0 : 0 ≤ k
   ·by_cases q1 : k < (t.length : Int)
    ·obtain ⟨kn, rfl⟩ : ∃ kn : Nat, k = (kn : Int) := ⟨k.toNat, by omega⟩
     simp only [Int.toNat_natCast] at hA
     have kl : kn < t.length := by omega
     have hks : s.getD kn true = s[kn]'(by omega) := by simp [List.getD, show kn < s.length by omega]
     have hgb := getB (s := s) (i := kn) (by omega)
     have k2 : s.getD kn true = true := by
      cases hq : s.getD kn true with
      | true => rfl
      | false => exact absurd ⟨q0, q1, hq⟩ hA
     rw [← hks, k2] at hgb
     have hxk : indexAddrA Tryz.prog 51 (.slc 1 0 t.length (.ex t.length)) (.int .i64 (kn : Int)) = some (.ptr 1 kn) := by simp [indexAddrA, idx_nat kl]
     repeat apply wq
     refine wps_region callOK ?_
     simp [zS, q0, q1, lenT, hxk, hgb]
     repeat apply wq
     refine wps_cf rfl ?_
     repeat apply wq
     refine wps_skip ?_
     simp
     repeat apply wq
     refine wps_region callOK ?_
     simp [zS, hac]
     refine hB _ (j + 1, L, D, s) (by simp only; omega) ⟨by simp only; omega, by simp only; omega, hsn, hDu, hx⟩ ⟨[(5, 5), (6, 6), (1, 1), (2, 2), (3, 3), (4, 4)], [], rfl, rfl, rfl, by simp [fitL, fitV, lookN, pureV, pureL], ?_⟩
     exact put_fitL (.inl rfl) hUp hW (by simp) (by simp [Heap.get, getFs, getF]) (by simp [Heap.get, getFs, getF]) (by simp [Heap.get, getFs, getF]) (by simp [Heap.get, getFs, getF]) (by simp [Heap.get, getFs, getF]) (fun hL => by rw [lF_ne hL]; simp [Heap.get, getFs, getF])
    ·repeat apply wq
     refine wps_region callOK ?_
     simp [zS, q0, q1, lenT]
     repeat apply wq
     refine wps_cf rfl ?_
     repeat apply wq
     refine wps_skip ?_
     simp
     repeat apply wq
     refine wps_region callOK ?_
     simp [zS, hac]
     refine hB _ (j + 1, L, D, s) (by simp only; omega) ⟨by simp only; omega, by simp only; omega, hsn, hDu, hx⟩ ⟨[(5, 5), (6, 6), (1, 1), (2, 2), (3, 3), (4, 4)], [], rfl, rfl, rfl, by simp [fitL, fitV, lookN, pureV, pureL], ?_⟩
     exact put_fitL (.inl rfl) hUp hW (by simp) (by simp [Heap.get, getFs, getF]) (by simp [Heap.get, getFs, getF]) (by simp [Heap.get, getFs, getF]) (by simp [Heap.get, getFs, getF]) (by simp [Heap.get, getFs, getF]) (fun hL => by rw [lF_ne hL]; simp [Heap.get, getFs, getF])
   ·repeat apply wq
    refine wps_region callOK ?_
    simp [zS, q0, lenT]
    repeat apply wq
    refine wps_cf rfl ?_
    repeat apply wq
    refine wps_skip ?_
    simp
    repeat apply wq
    refine wps_region callOK ?_
    simp [zS, hac]
    refine hB _ (j + 1, L, D, s) (by simp only; omega) ⟨by simp only; omega, by simp only; omega, hsn, hDu, hx⟩ ⟨[(5, 5), (6, 6), (1, 1), (2, 2), (3, 3), (4, 4)], [], rfl, rfl, rfl, by simp [fitL, fitV, lookN, pureV, pureL], ?_⟩
    exact put_fitL (.inl rfl) hUp hW (by simp) (by simp [Heap.get, getFs, getF]) (by simp [Heap.get, getFs, getF]) (by simp [Heap.get, getFs, getF]) (by simp [Heap.get, getFs, getF]) (by simp [Heap.get, getFs, getF]) (fun hL => by rw [lF_ne hL]; simp [Heap.get, getFs, getF])
 ·have hc : ¬ (j : Int) < (K.length : Int) := by omega
  rw [List.drop_eq_nil_of_le (by omega)] at hx
  simp only [putL, List.append_nil] at hx
  repeat apply wq
  refine wps_region callOK ?_
  simp [zS, hix, gk, lenI, hc]
  repeat apply wq
  refine wps_cf (by simp [opnd, St.get, h]) ?_
  repeat apply wq
  refine wps_exit ?_
  simp
  repeat apply wq
  refine wps_region callOK ?_
  simp [zS, prom_top]
  repeat apply wq
  refine wps_ret ?_
  simp [retVal, Tryz.f29, oneOr, thenQ, blockQ]
  rw [hx]
  obtain ⟨H', hH'⟩ : ∃ H' : Heap, H' = ⟨7, [[(5, .cells (U ++ lA 6 L :: flatAV (D.map aNode))), (1, .cells (bls s)), (3, .cells [.slc 5 0 (z + 1 + D.length) (.rest 7)]), (2, .cells [aNodes t]), (4, .cells [.slc 5 0 (z + 1 + D.length) (.rest 7)])], lF 6 L]⟩ := ⟨_, rfl⟩
  have hend := put_fitE (sz := z + 1 + D.length) (s := s) (L := L) (x := x) (up := up) (D := D) (H := H') hp (by rw [hU] at hH'; rw [hH']; simp [Heap.get, getFs, getF]) (by rw [hH']; simp [Heap.get, getFs, getF]) (fun hL => by rw [hH', lF_ne hL]; simp [Heap.get, getFs, getF])
  have hrd : readCells H' 4 0 1 = some [.slc 5 0 (z + 1 + D.length) (.rest 7)] := by rw [hH']; simp [readCells, Heap.get, getFs, getF, subL, takeL]
  rw [← hH', hrd]
  simp
  have e1 : z + (D.length + 1) = z + 1 + D.length := by omega
  rw [e1]
  simpa using hend
def tidyT (t : Tr) : Tr := (putP t.length t 0 (-1) 0 (List.replicate t.length false)).1
theorem unsB_rep : ∀ (n : Nat), unsB (List.replicate n false) = n
 | 0 => rfl
 | n + 1 => by
  have := unsB_rep n
  simp only [unsB, List.replicate_succ, List.count_cons] at this ⊢
  simp
theorem tidy_at {T : List (Entry Tryz.prog)} (t : Tr) (ht : okT t) (hne : t ≠ []) :
  CallAt (ctx T) 10 [aTree t] ⟨0, []⟩ (aTree (tidyT t)) ⟨0, []⟩ := by
 have hpos : 0 < t.length := List.length_pos_iff.2 hne
 have htl := ht.ok.1
 have hz : ¬ (t.length : Int) = 0 := by omega
 have lenT : ∀ H, lenA Tryz.prog H 22 (aNodes t) = some t.length := fun H => by simp [lenA]
 have hput := put_at (T := T) t ht t.length 0 (-1) 0 (List.replicate t.length false) [] none (fun _ => ⟨rfl, rfl⟩) rfl rfl rfl hpos (by simp) (by simp [List.getD, hpos]) (by rw [unsB_rep]; omega) (by rw [unsB_rep]; omega)
 obtain ⟨a, ha⟩ : ∃ a, a = putP t.length t 0 (-1) 0 (List.replicate t.length false) := ⟨_, rfl⟩
 have hTt : tidyT t = a.1 := by rw [ha]; rfl
 have e0 : ((0 : Nat) : Int) = 0 := rfl
 rw [e0, ← ha] at hput
 have hb := pure_bls (List.replicate t.length false)
 have hb' := pure_bls a.2
 have hf : FitH 0 [(7, 1)] [] ⟨10, [[(7, .cells (bls (List.replicate t.length false))), (1, .cells [.nilS]), (0, .cells [aNodes t])]]⟩ ⟨2, [[(1, .cells (bls (List.replicate t.length false)))]]⟩ := {
  nd1 := by simp
  nd2 := by simp
  nd3 := by simp [Heap.ents]
  lt := by simp
  idn := by simp
  num := by simp
  src := by
   intro e he
   simp [Heap.ents] at he
   subst he
   exact ⟨7, .cells (bls (List.replicate t.length false)), by simp, by simp [Heap.get, getFs, getF], fitL_pure hb⟩
  frz := fun x h => by cases h }
 have hcall := CallAt.framed (H' := ⟨11, [[(10, .cells (flatAV (a.1.map aNode))), (7, .cells (bls a.2)), (1, .cells [.nilS]), (0, .cells [aNodes t])]]⟩) (args := [aTree t, .int .i64 0, .int .i64 (-1), .agg [.nilS], .slc 7 0 t.length (.ex t.length)]) hput hf (by
  have ht : fitV [(7, 1)] [] (aTree t) (aTree t) := fitV_pure (by simp)
  simp [pR, fitL, fitV, lookN, ht, pureV]) (by
  refine ⟨by simp, fun _ _ => by simp [Heap.ents], ?_⟩
  intro e he
  have hc := renL_pure (outN [(7, 1)] 10 2) (el_node a.1).pure
  have hs' := renL_pure (outN [(7, 1)] 10 2) hb'
  simp [Heap.ents] at he
  rcases he with rfl | rfl | rfl | rfl
  ·exact .inl ⟨(2, .cells (flatAV (a.1.map aNode))), by simp [Heap.ents], by simp [renB, hc]; simp [outN, lookR]⟩
  ·exact .inl ⟨(1, .cells (bls a.2)), by simp [Heap.ents], by simp [renB, hs']; simp [outN, lookR]⟩
  ·exact .inr ⟨by simp [Heap.ents], by simp⟩
  ·exact .inr ⟨by simp [Heap.ents], by simp⟩) (by simp)
 simp only [renV, renL, outN, lookR] at hcall
 clear hput hf
 refine callAt_body (fn := Tryz.f10) (s0 := ⟨[0, 1, 2], [aTree t, .undef, .undef], [], 15, ⟨0, [] :: []⟩⟩) Tryz.func10 rfl rfl rfl ?_
 repeat apply wq
 refine wps_region callOK ?_
 simp [zS]
 repeat apply wq
 refine wps_region callOK ?_
 simp [zS, lenT, hz]
 repeat apply wq
 refine wps_cf (by simp [opnd, St.get, hz, hne]) ?_
 repeat apply wq
 refine wps_skip ?_
 simp
 have hms := msBool (n := t.length) (by omega)
 have bld : buildA Tryz.prog 24 [] = some (.agg [.nilS]) := rfl
 repeat apply wq
 refine wps_drawn mixed (callOKF [⟨29, _, _, _, _, hcall⟩]) (by decide +kernel) fun B_ hB_ => ?_
 have d_0_6 : ahead B_ 0 6 = true := by rw [hB_]; decide +kernel
 have d_0_7 : ahead B_ 0 7 = true := by rw [hB_]; decide +kernel
 have d_3_6 : ahead B_ 3 6 = true := by rw [hB_]; decide +kernel
 have d_3_7 : ahead B_ 3 7 = true := by rw [hB_]; decide +kernel
 have d_4_6 : ahead B_ 4 6 = true := by rw [hB_]; decide +kernel
 have d_4_7 : ahead B_ 4 7 = true := by rw [hB_]; decide +kernel
 have d_5_6 : ahead B_ 5 6 = true := by rw [hB_]; decide +kernel
 have d_5_7 : ahead B_ 5 7 = true := by rw [hB_]; decide +kernel
 have d_6_0 : ahead B_ 6 0 = false := by rw [hB_]; decide +kernel
 have d_6_3 : ahead B_ 6 3 = false := by rw [hB_]; decide +kernel
 have d_6_4 : ahead B_ 6 4 = false := by rw [hB_]; decide +kernel
 have d_7_0 : ahead B_ 7 0 = false := by rw [hB_]; decide +kernel
 have d_7_3 : ahead B_ 7 3 = false := by rw [hB_]; decide +kernel
 have d_7_4 : ahead B_ 7 4 = false := by rw [hB_]; decide +kernel
 apply drawE B_
 simp [zS, mkBlk, guardA, clsOf, reserve, freshenAll, wantedBy, unwantedBy, Heap.lay, ontoF, evE_c, evE_n, putE_s, putX_s, valE_s, redE_s, actE_s, layE_s, gateE_t, gateE_f, clsF_a, clsF_l, clsF_r, clsF_p, clsE_l, clsE_a, clsE_p, clsE_r, d_0_6, d_0_7, d_3_6, d_3_7, d_4_6, d_4_7, d_5_6, d_5_7, d_6_0, d_6_3, d_6_4, d_7_0, d_7_3, d_7_4, callF, lenT, hms, prom_top, bld, aTree]
 exact rfl
 refine ⟨_, rfl, ?_, ?_⟩
 simp [zS, reserve, freshenAll, sameRecs, sameAll, sameAt, d_0_6, d_0_7, d_3_6, d_3_7, d_4_6, d_4_7, d_5_6, d_5_7, d_6_0, d_6_3, d_6_4, d_7_0, d_7_3, d_7_4, callF, lenT, hms, prom_top, bld, aTree]
 simp [allPend, Heap.lay, ontoF, thenQ]
 repeat apply wq
 refine wps_ret ?_
 simp [retVal, Tryz.f10, oneOr]
 have el := el_node a.1
 have hl := el.len
 rw [List.length_map] at hl
 have hsub : subL 0 (a.1.length * 7) (flatAV (a.1.map aNode)) = some (flatAV (a.1.map aNode)) := by
  unfold subL
  rw [List.drop_zero, ← hl, takeL_all]
 have hpf := el.pure
 have hsz := el.size
 rw [hTt]
 show ∃ vs, _ ∧ ∃ σ Φ, fitV σ Φ _ (.agg [.fslc 7 (a.1.map aNode)]) ∧ _
 have hml : (a.1.map aNode).length = a.1.length := by simp
 generalize hM : a.1.map aNode = M at *
 generalize hF : flatAV M = F at *
 simp [readCells, Heap.get, getFs, getF, subL, takeL]
 refine ⟨[], [(10, F)], ?_, ?_⟩
 ·simp only [fitV, fitL, lookC, if_true]
  exact .inl ⟨.inl ⟨F, rfl, by rw [hsub, hF], hml, hsz⟩, trivial⟩
 ·exact {
   nd1 := by simp
   nd2 := by simp
   nd3 := by simp [Heap.ents]
   lt := by simp
   idn := by simp
   num := by simp
   src := by intro e he; simp [Heap.ents] at he
   frz := fun y hy => by
    simp at hy; subst hy
    exact ⟨F, by simp [Heap.get, getFs, getF], fitL_pure hpf, hpf⟩ }
theorem c10 {T : List (Entry Tryz.prog)} (t : Tr) (h : okT t) (hne : t ≠ []) : CallAt (ctx T) 10 [aTree t] ⟨0, []⟩ (aTree (tidyT t)) ⟨0, []⟩ := by
 exact tidy_at t h hne
theorem inj_10 (x y : Tr) (h : (fun z : Tr => ([aTree z] : List AV)) x = (fun z : Tr => ([aTree z] : List AV)) y) : x = y := by
 simp only [List.cons.injEq, and_true] at h
 exact inj_aTree h
noncomputable def e10 : Entry Tryz.prog := mkE 10 [[7]] (fun z : Tr => [aTree z]) (fun z => (okT z) ∧ (z ≠ [])) (fun z => aTree (tidyT z)) fun z h => c10 (T := [])  z h.1 h.2
theorem k10 {T : List (Entry Tryz.prog)} (hT : findE 10 T = some e10.g) (t : Tr) (h : okT t) (hne : t ≠ []) (H : Heap) : callL (ctx T) (.fn 10) [aTree t] H = some (aTree (tidyT t), H) :=
 mkE_pure hT inj_10 (t) ⟨h, hne⟩ (by simp [pureL, pureV, thawA_ok]) (by simp [thawA_ok]) H
theorem right_kd {t : Tr} (h : rightB t = true) : ∀ n, n ∈ t → ∀ k, k ∈ n.kids → 0 ≤ k ∧ k < (t.length : Int) := by
 intro n hn k hk
 obtain ⟨i, hi, rfl⟩ := List.getElem_of_mem hn
 have hok : okNd t i = true := by
  cases hb : okNd t i with
  | true => rfl
  | false => rw [rightB_no hi hb] at h; cases h
 have hnd : nodeAt t (i : Int) = t[i] := nodeAt_get hi
 simp only [okNd, Bool.and_eq_true, Bool.not_eq_true'] at hok
 have := hok.2.2
 rw [hnd] at this
 have h1 := List.any_eq_false.1 this k hk
 simp only [badC, Bool.or_eq_true, decide_eq_true_eq, not_or] at h1
 omega
theorem right_ne {t : Tr} (h : rightB t = true) : t ≠ [] := by
 rintro rfl
 simp [rightB] at h
theorem right_ok {t : Tr} (h : rightB t = true) (ht : okTr t) (hn : ∀ n, n ∈ t → okN n) : okT t := ⟨ht, hn, right_kd h⟩
theorem fit_one {t : Tr} {H : Heap} (h : H.get 0 = some (.cells [aNodes t])) : FitH 0 [(0, 0)] [] H ⟨1, [[(0, .cells [aNodes t])]]⟩ where
 nd1 := by simp
 nd2 := by simp
 nd3 := by simp [Heap.ents]
 lt := by simp
 idn := by simp
 num := by simp
 src := by
  intro e he
  have hN := pure_aNodes t
  simp [Heap.ents] at he
  subst he
  exact ⟨0, .cells [aNodes t], by simp, h, fitL_pure (by simp [pureL])⟩
 frz := fun x h => by cases h
def kidsL (rec : List Nd → Int → Bool) (t : Tr) (P : List Nd) : List Int → Bool → Int → Bool
 | [], _, _ => true
 | k :: r, fst, last =>
  if (nodeAt t k).kind = 1 then (decide ((nodeAt t k).data = []) && mayB P (nodeAt t k) && attrsB (nodeAt t k) && rec (P ++ [nodeAt t k]) k) && kidsL rec t P r false 1
  else if (nodeAt t k).kind = 2 then (!decide (last = 2) && charsB P (nodeAt t k).data && namelessB (nodeAt t k) && !(fst && lfB (nodeAt t k).data && elB (parentN P) [112, 114, 101, 32, 116, 101, 120, 116, 97, 114, 101, 97])) && kidsL rec t P r false 2
  else false
def kidsF : Nat → Tr → List Nd → Int → Bool
 | 0, _, _, _ => false
 | f + 1, t, P, i => kidsL (kidsF f t) t P (nodeAt t i).kids true (-1)
def fits : Nat → Tr → Int → Prop
 | 0, _, _ => False
 | f + 1, t, i => ∀ k, k ∈ (nodeAt t i).kids → (nodeAt t k).kind = 1 → fits f t k
def kH (t : Tr) : Option (List Nd) → Heap
 | none => ⟨3, [[]]⟩
 | some P => ⟨3, [kR t 2 (some P)]⟩
theorem flat_self {σ : List (Nat × Nat)} {Φ : List (Nat × List AV)} (P : List Nd) : fitL σ Φ (flatAV (P.map aNode)) (flatAV (P.map aNode)) := fitL_pure (pure_flat P)
theorem call_kids {C : Ctx} {f : FuncId} {t : Tr} {Q : List Nd} {k : Int} {b : Bool} {x y : List AV} (h : CallAt C f [.ptr 0 0, .int .i64 k] ⟨2, [kR t 1 (some Q)]⟩ (.bool b) (kH t (some Q))) :
  CallAt C f [.ptr 0 0, .int .i64 k] ⟨33, [[(27, .cells x), (3, .cells y)], [(32, .cells (flatAV (Q.map aNode))), (0, .cells [aNodes t, .slc 32 0 Q.length (.rest 7)])]]⟩ (.bool b)
   ⟨34, [[(27, .cells x), (3, .cells y)], [(33, .cells (flatAV (Q.map aNode))), (0, .cells [aNodes t, .slc 33 0 Q.length (.rest 7)])]]⟩ := by
 have hf : FitH 0 [(0, 0), (32, 1)] [] ⟨33, [[(27, .cells x), (3, .cells y)], [(32, .cells (flatAV (Q.map aNode))), (0, .cells [aNodes t, .slc 32 0 Q.length (.rest 7)])]]⟩ ⟨2, [kR t 1 (some Q)]⟩ := {
  nd1 := by simp
  nd2 := by simp
  nd3 := by simp [kR, Heap.ents]
  lt := by simp
  idn := by simp
  num := by simp
  src := by
   intro e he
   simp [kR, Heap.ents] at he
   rcases he with rfl | rfl
   ·exact ⟨32, .cells (flatAV (Q.map aNode)), by simp, by simp [Heap.get, getFs, getF], flat_self Q⟩
   ·exact ⟨0, .cells [aNodes t, .slc 32 0 Q.length (.rest 7)], by simp, by simp [Heap.get, getFs, getF], by simp [fitB, fitL, fitV, lookN, pureV, pureL]⟩
  frz := fun x h => by cases h }
 have := h.framed (H' := ⟨34, [[(27, .cells x), (3, .cells y)], [(33, .cells (flatAV (Q.map aNode))), (0, .cells [aNodes t, .slc 33 0 Q.length (.rest 7)])]]⟩) (args := [.ptr 0 0, .int .i64 k]) hf (by simp [fitL, fitV, lookN, pureV]) ?_ (by simp [kH])
 ·simpa [renV] using this
 ·refine ⟨by simp [kH], by simp [Heap.ents], ?_⟩
  intro e he
  have hN := renV_pure (outN [(0, 0), (32, 1)] 33 2) (pure_aNodes t)
  have hQ := renL_pure (outN [(0, 0), (32, 1)] 33 2) (pure_flat Q)
  simp [Heap.ents] at he
  rcases he with rfl | rfl | rfl | rfl
  ·exact .inr ⟨by simp [Heap.ents], by simp⟩
  ·exact .inr ⟨by simp [Heap.ents], by simp⟩
  ·exact .inl ⟨(2, .cells (flatAV (Q.map aNode))), by simp [kH, kR, Heap.ents], by simp [renB, hQ]; simp [outN, lookR]⟩
  ·exact .inl ⟨(0, .cells [aNodes t, .slc 2 0 Q.length (.rest 7)]), by simp [kH, kR, Heap.ents], by simp [renB, renL, hN, renV]; simp [outN, lookR]⟩
section
variable {t : Tr} {n : Nat} {o : Option (List Nd)} {f : List (Nat × Blk)}
theorem rd_t (hf : getF 0 f = none) : readVar Tryz.prog ⟨n, [f, kR t 2 o]⟩ 22 (.ptr 0 0) = some (aNodes t) := by
 simp [kget0 (t := t) (k := 2) (o := o) (n := n) (by omega) hf]
theorem rd_p (hf : getF 0 f = none) : readVar Tryz.prog ⟨n, [f, kR t 2 o]⟩ 22 (.ptr 0 1) = some (pV 2 o) := by
 simp [kget0 (t := t) (k := 2) (o := o) (n := n) (by omega) hf]
def sgK : Option (List Nd) → List (Nat × Nat)
 | none => [(0, 0)]
 | some _ => [(1, 2), (0, 0)]
theorem sgK_0 : lookN 0 (sgK o) = some 0 := by cases o <;> simp [sgK, lookN]
theorem fitK_in : FitH 2 (sgK o) [] ⟨2, [[], kR t 1 o]⟩ ⟨3, [[], kR t 2 o]⟩ := by
 cases o with
 | none => exact {
   nd1 := by simp [sgK]
   nd2 := by simp [sgK]
   nd3 := by simp [kR, Heap.ents]
   lt := by simp [sgK]
   idn := by simp [sgK]
   num := by simp
   src := by
    intro e he
    simp [kR, Heap.ents] at he
    subst he
    exact ⟨0, .cells [aNodes t, .nilS], by simp [sgK], by simp [kR, Heap.get, getFs, getF], by simp [fitB, fitL, fitV]⟩
   frz := fun x h => by cases h }
 | some P => exact {
   nd1 := by simp [sgK]
   nd2 := by simp [sgK]
   nd3 := by simp [kR, Heap.ents]
   lt := by simp [sgK]
   idn := by simp [sgK]
   num := by simp
   src := by
    intro e he
    simp [kR, Heap.ents] at he
    rcases he with rfl | rfl
    ·exact ⟨1, .cells (flatAV (P.map aNode)), by simp [sgK], by simp [kR, Heap.get, getFs, getF], flat_self P⟩
    ·exact ⟨0, .cells [aNodes t, .slc 1 0 P.length (.rest 7)], by simp [sgK], by simp [kR, Heap.get, getFs, getF], by simp [fitB, fitL, fitV, lookN, sgK]⟩
   frz := fun x h => by cases h }
theorem fit_rnd (hf : ∀ i, i < 3 → getF i f = none) : FitH 2 [(2, 2), (0, 0)] [] ⟨n, [f, kR t 2 o]⟩ ⟨3, [[], kR t 2 o]⟩ where
 nd1 := by simp
 nd2 := by simp
 nd3 := by cases o <;> simp [kR, Heap.ents]
 lt := by simp
 idn := by simp
 num := by simp
 src := by
  intro e he
  have h0 := hf 0 (by omega)
  have h2 := hf 2 (by omega)
  cases o with
  | none =>
   simp [kR, Heap.ents] at he
   subst he
   exact ⟨0, .cells [aNodes t, .nilS], by simp, by simp [kR, Heap.get, getFs, getF, h0], by simp [fitB, fitL, fitV]⟩
  | some P =>
   simp [kR, Heap.ents] at he
   rcases he with rfl | rfl
   ·exact ⟨2, .cells (flatAV (P.map aNode)), by simp, by simp [kR, Heap.get, getFs, getF, h2], flat_self P⟩
   ·exact ⟨0, .cells [aNodes t, .slc 2 0 P.length (.rest 7)], by simp, by simp [kR, Heap.get, getFs, getF, h0], by simp [fitB, fitL, fitV, lookN]⟩
 frz := fun x h => by cases h
theorem fit_cut {P : List Nd} {A B : Nat × Blk} {m' : Nat} {g : List (List (Nat × Blk))} (hg : g.flatten = kR t 2 (some P)) (hm : 3 ≤ m') (hA : 33 ≠ A.1 ∧ A.1 ≠ 0) (hB : 33 ≠ B.1 ∧ B.1 ≠ 0) : FitH 2 [(33, 2), (0, 0)] [] ⟨n, [[A, B], [(33, .cells (flatAV (P.map aNode))), (0, .cells [aNodes t, .slc 33 0 P.length (.rest 7)])]]⟩ ⟨m', g⟩ where
 nd1 := by simp
 nd2 := by simp
 nd3 := by simp only [Heap.ents, hg]; simp [kR]
 lt := by simp; omega
 idn := by simp
 num := by simp; omega
 src := by
  intro e he
  have a1 : Nat.beq A.1 0 = false := beqN_ne hA.2
  have a2 : Nat.beq A.1 33 = false := beqN_ne (fun e => hA.1 e.symm)
  have b1 : Nat.beq B.1 0 = false := beqN_ne hB.2
  have b2 : Nat.beq B.1 33 = false := beqN_ne (fun e => hB.1 e.symm)
  simp only [Heap.ents, hg] at he
  simp [kR] at he
  rcases he with rfl | rfl
  ·exact ⟨33, .cells (flatAV (P.map aNode)), by simp, by simp [Heap.get, getFs, getF, a1, a2, b1, b2], flat_self P⟩
  ·exact ⟨0, .cells [aNodes t, .slc 33 0 P.length (.rest 7)], by simp, by simp [Heap.get, getFs, getF, a1, a2, b1, b2], by simp [fitB, fitL, fitV, lookN]⟩
 frz := fun x h => by cases h
theorem fitK_out (hf : ∀ i, i < 3 → getF i f = none) {o' : Option (List Nd)} (ho : o' = o ∨ o = none) : ∃ σ, FitH 2 σ [] ⟨n, [f, kR t 2 o']⟩ (kH t o) := by
 cases o with
 | none => exact ⟨[], {
   nd1 := by simp
   nd2 := by simp
   nd3 := by simp [kH, Heap.ents]
   lt := by simp
   idn := by simp
   num := by simp [kH]
   src := by intro e he; simp [kH, Heap.ents] at he
   frz := fun x h => by cases h }⟩
 | some P =>
  rcases ho with rfl | h
  ·exact ⟨_, (fit_rnd hf).fsV (by simp)⟩
  ·cases h
theorem fitK_cut {P : List Nd} {A B : Nat × Blk} (ho : some P = o ∨ o = none) (hA : 33 ≠ A.1 ∧ A.1 ≠ 0) (hB : 33 ≠ B.1 ∧ B.1 ≠ 0) : ∃ σ, FitH 2 σ [] ⟨n, [[A, B], [(33, .cells (flatAV (P.map aNode))), (0, .cells [aNodes t, .slc 33 0 P.length (.rest 7)])]]⟩ (kH t o) := by
 rcases ho with rfl | rfl
 ·exact ⟨_, fit_cut (m' := 3) (g := [kR t 2 (some P)]) (by simp) (by omega) hA hB⟩
 ·exact ⟨[], {
   nd1 := by simp
   nd2 := by simp
   nd3 := by simp [kH, Heap.ents]
   lt := by simp
   idn := by simp
   num := by simp [kH]
   src := by intro e he; simp [kH, Heap.ents] at he
   frz := fun x h => by cases h }⟩
end
end Go.Proofs.YtgpjifeeneeiaaaGreatDoor