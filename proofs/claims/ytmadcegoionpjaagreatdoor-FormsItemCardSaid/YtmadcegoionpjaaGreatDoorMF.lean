/- The order's walk: what it gives to each round. No condition. -/
import Derived.Test.YtmadcegoionpjaaGreatDoorME
import Derived.Test.YtmadcegoionpjaaGreatDoorMD
namespace Go.Proofs.YtmadcegoionpjaaGreatDoor
set_option linter.unusedSimpArgs false
set_option linter.unusedVariables false

/-- the walk's list; when each node was gone into, and left; the count -/
structure Wk where
  l : List Int
  inn : List Int
  out : List Int
  c : Int
def negs (I : List Int) : Nat := I.countP fun x => decide (x < 0)
def kl (n : Nat) (g : Nat → Wk → Wk) : List Int → Wk → Wk
  | [], w => w
  | k :: r, w => if 0 ≤ k ∧ k < (n : Int) ∧ w.inn.getD k.toNat 0 < 0 then kl n g r (g k.toNat w) else kl n g r w
def into (i : Nat) (w : Wk) : Wk := ⟨w.l ++ [(i : Int)], w.inn.set i w.c, w.out, w.c + 1⟩
def outof (i : Nat) (w : Wk) : Wk := ⟨w.l, w.inn, w.out.set i w.c, w.c + 1⟩
def vis (n : Nat) (ks : Nat → List Int) : Nat → Nat → Wk → Wk
  | 0, _, w => w
  | f + 1, i, w => outof i (kl n (vis n ks f) (ks i) (into i w))
structure WOK (n K : Nat) (w : Wk) : Prop where
  li : w.inn.length = n
  lo : w.out.length = n
  c0 : 0 ≤ w.c
  cb : w.c + 2 * (negs w.inn : Int) ≤ 2 * K
  lb : w.l.length + negs w.inn ≤ K
theorem negs_set {I : List Int} {i : Nat} {c : Int} (h : i < I.length) (hi : I.getD i 0 < 0) (hc : 0 ≤ c) : negs (I.set i c) + 1 = negs I := by
  induction I generalizing i with
  | nil => simp at h
  | cons x r ih =>
    cases i with
    | zero =>
      have hx : x < 0 := by simpa using hi
      have hc' : ¬ c < 0 := by omega
      simp [negs, List.countP_cons, hx, hc']
    | succ j =>
      have := ih (i := j) (by simpa using h) (by simpa using hi)
      simp only [negs, List.set_cons_succ, List.countP_cons] at this ⊢
      omega
theorem WOK.into {n K i : Nat} {w : Wk} (h : WOK n K w) (hi : i < n) (hn : w.inn.getD i 0 < 0) : WOK n K (into i w) ∧ negs (into i w).inn + 1 = negs w.inn ∧ (into i w).c + 2 * (negs (into i w).inn : Int) + 1 ≤ 2 * K := by
  have e := negs_set (I := w.inn) (by rw [h.li]; exact hi) hn h.c0
  have h1 := h.cb
  have h2 := h.lb
  have h3 := h.c0
  refine ⟨⟨by simp [Go.Proofs.YtmadcegoionpjaaGreatDoor.into, h.li], h.lo, ?_, ?_, ?_⟩, e, ?_⟩ <;> simp only [Go.Proofs.YtmadcegoionpjaaGreatDoor.into, List.length_append, List.length_singleton] <;> omega
def Low (n K : Nat) (b : Int) (w : Wk) : Prop := WOK n K w ∧ w.c + 2 * (negs w.inn : Int) + b ≤ 2 * K
theorem kl_ok {n K f : Nat} {g : Nat → Wk → Wk} (hg : ∀ b i w, 0 ≤ b → Low n K b w → i < n → w.inn.getD i 0 < 0 → negs w.inn ≤ f → Low n K b (g i w) ∧ negs (g i w).inn ≤ negs w.inn) (b : Int) (hb : 0 ≤ b) :
    ∀ (ks : List Int) (w : Wk), Low n K b w → negs w.inn ≤ f → Low n K b (kl n g ks w) ∧ negs (kl n g ks w).inn ≤ negs w.inn
  | [], w, h, _ => ⟨h, Nat.le_refl _⟩
  | k :: r, w, h, hf => by
    unfold kl
    split
    · rename_i hk
      obtain ⟨h1, h2⟩ := hg b k.toNat w hb h (by omega) hk.2.2 hf
      obtain ⟨h3, h4⟩ := kl_ok hg b hb r _ h1 (by omega)
      exact ⟨h3, by omega⟩
    · exact kl_ok hg b hb r w h hf
theorem vis_ok {n K : Nat} {ks : Nat → List Int} : ∀ (f : Nat) (b : Int) (i : Nat) (w : Wk), 0 ≤ b → Low n K b w → i < n → w.inn.getD i 0 < 0 → negs w.inn ≤ f → Low n K b (vis n ks f i w) ∧ negs (vis n ks f i w).inn < negs w.inn
  | 0, b, i, w, hb, h, hi, hn, hf => by
    have e := negs_set (I := w.inn) (by rw [h.1.li]; exact hi) hn h.1.c0
    omega
  | f + 1, b, i, w, hb, h, hi, hn, hf => by
    obtain ⟨h1, h2, h3⟩ := h.1.into hi hn
    have hl : Low n K (b + 1) (into i w) := ⟨h1, by have := h.2; simp only [into] at h2 ⊢; omega⟩
    obtain ⟨h4, h5⟩ := kl_ok (n := n) (K := K) (f := f) (g := vis n ks f) (fun b' i' w' hb' h' hi' hn' hf' => let ⟨x, y⟩ := vis_ok f b' i' w' hb' h' hi' hn' hf'; ⟨x, Nat.le_of_lt y⟩) (b + 1) (by omega) (ks i) (into i w) hl (by omega)
    unfold vis
    refine ⟨⟨⟨h4.1.li, by simp [outof, h4.1.lo], ?_, ?_, ?_⟩, ?_⟩, ?_⟩
    · have := h4.1.c0; simp only [outof]; omega
    · have := h4.2; simp only [outof]; omega
    · exact h4.1.lb
    · have := h4.2; simp only [outof]; omega
    · simp only [outof]; omega

/-! ### The machine -/
abbrev Cfg := List (Nat × Nat) × List Bool × List Int
def stp (n : Nat) (ks : Nat → List Int) : Cfg → Option Cfg
  | ([], _, _) => none
  | ((i, j) :: p, s, a) => match (ks i)[j]? with
    | none => some (p, s, a)
    | some k => if 0 ≤ k ∧ k < (n : Int) ∧ s.getD k.toNat true = false then some ((k.toNat, 0) :: (i, j + 1) :: p, s.set k.toNat true, a ++ [k]) else some ((i, j + 1) :: p, s, a)
inductive Reach (n : Nat) (ks : Nat → List Int) : Cfg → Cfg → Prop where
  | refl (c : Cfg) : Reach n ks c c
  | step {c d e : Cfg} (h : stp n ks c = some d) (r : Reach n ks d e) : Reach n ks c e
theorem Reach.trans {n : Nat} {ks : Nat → List Int} {c d e : Cfg} (h : Reach n ks c d) (r : Reach n ks d e) : Reach n ks c e := by
  induction h with
  | refl => exact r
  | step h _ ih => exact .step h (ih r)
theorem Reach.one {n : Nat} {ks : Nat → List Int} {c d e : Cfg} (r : Reach n ks c d) (h : stp n ks d = some e) : Reach n ks c e := r.trans (.step h (.refl _))
theorem Reach.det {n : Nat} {ks : Nat → List Int} {c a b : Cfg} (h : Reach n ks c a) (r : Reach n ks c b) (ha : stp n ks a = none) (hb : stp n ks b = none) : a = b := by
  induction h with
  | refl =>
    cases r with
    | refl => rfl
    | step h2 r2 => rw [ha] at h2; cases h2
  | step h _ ih =>
    cases r with
    | refl => rw [hb] at h; cases h
    | step h2 r2 => rw [h] at h2; cases h2; exact ih r2 ha
def seenOf (I : List Int) : List Bool := I.map fun x => decide (0 ≤ x)
theorem seen_get {I : List Int} {i : Nat} (h : i < I.length) : ((seenOf I).getD i true = false) ↔ I.getD i 0 < 0 := by
  simp only [seenOf, List.getD_eq_getElem?_getD, List.getElem?_map, List.getElem?_eq_getElem h, Option.map_some, Option.getD_some, decide_eq_false_iff_not]
  omega
theorem seen_set {I : List Int} {i : Nat} {c : Int} (hc : 0 ≤ c) : seenOf (I.set i c) = (seenOf I).set i true := by
  simp [seenOf, List.map_set, hc]
theorem reach_kl {n K f i : Nat} {ks : Nat → List Int} {p : List (Nat × Nat)} (hg : ∀ p i w, Low n K 0 w → i < n → w.inn.getD i 0 < 0 → negs w.inn ≤ f → Reach n ks ((i, 0) :: p, (seenOf w.inn).set i true, w.l ++ [(i : Int)]) (p, seenOf (vis n ks f i w).inn, (vis n ks f i w).l)) :
    ∀ (r : List Int) (j : Nat) (w : Wk), j ≤ (ks i).length → (ks i).drop j = r → Low n K 0 w → negs w.inn ≤ f → Reach n ks ((i, j) :: p, seenOf w.inn, w.l) ((i, (ks i).length) :: p, seenOf (kl n (vis n ks f) r w).inn, (kl n (vis n ks f) r w).l)
  | [], j, w, hj, hr, h, hf => by
    have : j = (ks i).length := by have := congrArg List.length hr; simp at this; omega
    subst this
    exact .refl _
  | k :: r, j, w, hj, hr, h, hf => by
    have hlt : j < (ks i).length := by have := congrArg List.length hr; simp at this; omega
    have hk : (ks i)[j]? = some k := by
      have := List.drop_eq_getElem_cons hlt
      rw [this] at hr
      simp only [List.cons.injEq] at hr
      rw [List.getElem?_eq_getElem hlt, hr.1]
    have hr' : (ks i).drop (j + 1) = r := by
      have := List.drop_eq_getElem_cons hlt
      rw [this] at hr
      simp only [List.cons.injEq] at hr
      exact hr.2
    unfold kl
    split
    · rename_i hc
      have hkn : k.toNat < n := by omega
      have e : ((k.toNat : Nat) : Int) = k := by omega
      have hs : (seenOf w.inn).getD k.toNat true = false := (seen_get (by rw [h.1.li]; exact hkn)).2 hc.2.2
      obtain ⟨h1, h2⟩ := vis_ok (ks := ks) f 0 k.toNat w (Int.le_refl 0) h hkn hc.2.2 hf
      have r1 := hg ((i, j + 1) :: p) k.toNat w h hkn hc.2.2 hf
      rw [e] at r1
      refine .step (d := ((k.toNat, 0) :: (i, j + 1) :: p, (seenOf w.inn).set k.toNat true, w.l ++ [k])) ?_ (r1.trans (reach_kl hg r (j + 1) _ (by omega) hr' h1 (by omega)))
      simp only [stp, hk]
      rw [if_pos ⟨hc.1, hc.2.1, hs⟩]
    · rename_i hc
      refine .step (d := ((i, j + 1) :: p, seenOf w.inn, w.l)) ?_ (reach_kl hg r (j + 1) w (by omega) hr' h hf)
      simp only [stp, hk]
      rw [if_neg]
      intro hx
      exact hc ⟨hx.1, hx.2.1, (seen_get (by rw [h.1.li]; omega)).1 hx.2.2⟩
theorem reach_vis {n K : Nat} {ks : Nat → List Int} : ∀ (f : Nat) (p : List (Nat × Nat)) (i : Nat) (w : Wk), Low n K 0 w → i < n → w.inn.getD i 0 < 0 → negs w.inn ≤ f →
    Reach n ks ((i, 0) :: p, (seenOf w.inn).set i true, w.l ++ [(i : Int)]) (p, seenOf (vis n ks f i w).inn, (vis n ks f i w).l)
  | 0, p, i, w, h, hi, hn, hf => by
    have e := negs_set (I := w.inn) (by rw [h.1.li]; exact hi) hn h.1.c0
    omega
  | f + 1, p, i, w, h, hi, hn, hf => by
    obtain ⟨h1, h2, h3⟩ := h.1.into hi hn
    have hl : Low n K 0 (into i w) := ⟨h1, by have := h.2; simp only [into] at h2 ⊢; omega⟩
    have r1 := reach_kl (p := p) (i := i) (fun p i w a b c d => reach_vis (K := K) f p i w a b c d) (ks i) 0 (into i w) (Nat.zero_le _) rfl hl (by omega)
    simp only [into, seen_set h.1.c0] at r1
    refine r1.one ?_
    simp [stp, vis, outof, into]
/-- all nodes, in order -/
def w0 (n : Nat) : Wk := ⟨[], List.replicate n (-1), List.replicate n (-1), 0⟩
def orderOf (n : Nat) (ks : Nat → List Int) : List Int := if n = 0 then [] else (vis n ks n 0 (w0 n)).l
theorem negs_rep (n : Nat) : negs (List.replicate n (-1)) = n := by simp [negs, List.countP_replicate]
theorem w0_ok (n : Nat) : Low n n 0 (w0 n) := by
  refine ⟨⟨by simp [w0], by simp [w0], by simp [w0], ?_, ?_⟩, ?_⟩ <;> simp [w0, negs_rep]
theorem seen_w0 (n : Nat) : seenOf (w0 n).inn = List.replicate n false := by simp [seenOf, w0]
theorem reach_order {n : Nat} {ks : Nat → List Int} (hn : 0 < n) : ∃ s, Reach n ks ([(0, 0)], (List.replicate n false).set 0 true, [0]) ([], s, orderOf n ks) := by
  have h := reach_vis (K := n) (ks := ks) n [] 0 (w0 n) (w0_ok n) hn (by simp [w0, List.getD_eq_getElem?_getD, hn]) (by simp [w0, negs_rep])
  rw [seen_w0] at h
  refine ⟨seenOf (vis n ks n 0 (w0 n)).inn, ?_⟩
  simpa [orderOf, Nat.ne_of_gt hn, w0] using h
theorem order_end {n : Nat} {ks : Nat → List Int} (hn : 0 < n) {s : List Bool} {a : List Int} (h : Reach n ks ([(0, 0)], (List.replicate n false).set 0 true, [0]) ([], s, a)) : a = orderOf n ks := by
  obtain ⟨s2, h2⟩ := reach_order (ks := ks) hn
  have := h.det h2 rfl rfl
  simp at this
  exact this.2
end Go.Proofs.YtmadcegoionpjaaGreatDoor
namespace Go.Proofs.YtmadcegoionpjaaGreatDoor
set_option linter.unusedSimpArgs false
set_option linter.unusedVariables false
open Go Go.RowKit
set_option maxRecDepth 100000

/-- the cells of a row of ints (not reducible: simp would push the map through) -/
def ints (L : List Int) : List AV := L.map aInt
@[simp] theorem ints_nil : ints [] = [] := rfl
theorem ints_ne {L : List Int} (h : L ≠ []) : ints L ≠ [] := by simpa [ints] using h
theorem ne_ints {L : List Int} (h : ints L ≠ []) : L ≠ [] := by simpa [ints] using h
@[simp] theorem len_ints (L : List Int) : (ints L).length = L.length := by simp [ints]
theorem el_int (L : List Int) : Elems 1 (ints L) := .map (sz := 1) (f := aInt) (by decide) (fun x => ⟨rfl, rfl, fun _ => rfl, fun h => absurd rfl h⟩) L
@[simp] theorem flat_ints (L : List Int) : flatAV (ints L) = ints L := by
  unfold ints
  induction L with
  | nil => rfl
  | cons x r ih => simp only [List.map_cons, flatAV, ih]; rfl
@[simp] theorem pure_ints (L : List Int) : pureL (ints L) = true := by have := (el_int L).pure; rwa [flat_ints] at this
theorem sub1 {L : List Int} {i : Nat} (h : i < L.length) : subL i 1 (ints L) = some [.int .i64 L[i]] := by
  have := sub_at (el_int L) (i := i) (by simpa using h)
  rw [flat_ints] at this
  simpa [ints, aInt, AV.cells] using this
theorem lay1 {L : List Int} {i : Nat} {v : Int} (h : i < L.length) : layL [.int .i64 v] i (ints L) = some (ints (L.set i v)) := by
  have := lay_at (el_int L) (i := i) (by simpa using h) (e := aInt v) rfl
  have e : (ints L).set i (aInt v) = ints (L.set i v) := by simp [ints, List.map_set]
  rw [flat_ints, e, flat_ints] at this
  simpa [aInt, AV.cells] using this
theorem atI {L : List Int} {i : Nat} (h : i < L.length) : indexAddrA Tryz.prog 25 (aInts L) (.int .i64 (i : Int)) = some (.fptr [.int .i64 L[i]] 0) := by
  simp [indexAddrA, aInts, idx_nat h, getL_map h, aInt, AV.cells]
theorem atN {t : Tr} {i : Nat} (h : i < t.length) : indexAddrA Tryz.prog 22 (aNodes t) (.int .i64 (i : Int)) = some (.fptr (t[i]).cs 0) := by
  simp [indexAddrA, aNodes, idx_nat h, getL_map h]
theorem lenI {H : Heap} {L : List Int} : lenA Tryz.prog H 25 (aInts L) = some L.length := by simp [lenA, aInts]
theorem lenN {H : Heap} {t : Tr} : lenA Tryz.prog H 22 (aNodes t) = some t.length := by simp [lenA, aNodes]
def kidsOf (t : Tr) (i : Nat) : List Int := (t[i]?.map Nd.kids).getD []
theorem kidsOf_at {t : Tr} {i : Nat} (h : i < t.length) : t[i].kids = kidsOf t i := by simp [kidsOf, h]
def lA (b : Nat) (L : List Int) : AV := ownV b 1 (ints L)
def lF (b : Nat) (L : List Int) : List (Nat × Blk) := ownF b (ints L)
theorem lA_ne {b : Nat} {L : List Int} (h : L ≠ []) : lA b L = .slc b 0 L.length (.rest 1) := by rw [lA, ownV_ne (ints_ne h)]; simp
theorem lF_ne {b : Nat} {L : List Int} (h : L ≠ []) : lF b L = [(b, .cells (ints L))] := by rw [lF, ownF_ne (ints_ne h), flat_ints]
/-- one more at the end of a list of another frame -/
theorem app_l {m t b : Nat} {L : List Int} {v : Int} {g1 g : List (Nat × Blk)} (hr : L.length ≤ 1000000000) (h1 : ∀ e, e ∈ (t, Blk.cells [AV.int .i64 v]) :: g1 → e.1 ≠ b) (h2 : ∀ e, e ∈ g → e.1 ≠ b) :
    appendA Tryz.prog ⟨m, [(t, .cells [.int .i64 v]) :: g1, lF b L ++ g]⟩ 3 (lA b L) (.slc t 0 1 (.ex 1)) = some (.slc m 0 (L.length + 1) (.rest 1), ⟨m + 1, [(m, .cells (ints (L ++ [v]))) :: (t, .cells [.int .i64 v]) :: g1, g]⟩) := by
  have miss : ∀ (l : List (Nat × Blk)), (∀ e, e ∈ l → e.1 ≠ b) → getF b l = none := by
    intro l
    induction l with
    | nil => intro _; rfl
    | cons x r ih =>
      intro h
      unfold getF
      rw [beqN_ne (h x (by simp))]
      exact ih fun e he => h e (by simp [he])
  have hm1 := miss _ h1
  have hg := miss _ h2
  have hdrop : Heap.drop ⟨m, [(t, .cells [.int .i64 v]) :: g1, lF b L ++ g]⟩ b = ⟨m, [(t, .cells [.int .i64 v]) :: g1, g]⟩ := by
    simp only [Heap.drop, killFs, hm1]
    cases L with
    | nil => simp [lF, ownF, hg]
    | cons x r => simp [lF, ownF, ints, getF, killF]
  have h := own_append (P := Tryz.prog) (H := ⟨m, [(t, .cells [.int .i64 v]) :: g1, lF b L ++ g]⟩) (elem := 3) (b := b) (n := 0) (es := ints L) (cs := [.int .i64 v]) (x := .slc t 0 1 (.ex 1)) szT3 byT3 zeT3 rfl (by omega) (by omega) rfl
    (by simp [srcCells, readCells, Heap.get, getFs, getF, Blk.rd, subL, takeL]) rfl rfl (el_int L) (by simp; omega) (fun hne => by
      have hL : L ≠ [] := ne_ints hne
      simp only [Heap.get, getFs, hm1, lF_ne hL, flat_ints]
      simp [getF]) (fun he => by
      have hL : L = [] := by simpa [ints] using he
      subst hL
      rw [hdrop]; rfl) (by intro cs; rfl)
  have e : ints L ++ [.int .i64 v] = ints (L ++ [v]) := by simp [ints, aInt]
  rw [hdrop, flat_ints, e] at h
  simpa [lA, Heap.new, pushF] using h
end Go.Proofs.YtmadcegoionpjaaGreatDoor
namespace Go.Proofs.YtmadcegoionpjaaGreatDoor
set_option linter.unusedSimpArgs false
set_option linter.unusedVariables false
open Go Go.RowKit
set_option maxRecDepth 100000

/-- blocks of plain cells stay, with other numbers -/
theorem FitH.rows {n : Nat} {σ : List (Nat × Nat)} {H H' : Heap} (nd1 : (σ.map (·.1)).Nodup) (nd2 : (σ.map (·.2)).Nodup) (nd3 : (H'.ents.map (·.1)).Nodup) (lt : ∀ x, x ∈ σ → x.2 < H'.n) (idn : ∀ x, x ∈ σ → x.1 < n ∨ x.2 < n → x.1 = x.2) (num : n ≤ H'.n)
    (src : ∀ e, e ∈ H'.ents → ∃ b cs, (b, e.1) ∈ σ ∧ H.get b = some (.cells cs) ∧ e.2 = .cells cs ∧ pureL cs = true) : FitH n σ [] H H' where
  nd1 := by simpa using nd1
  nd2 := nd2
  nd3 := nd3
  lt := lt
  idn := idn
  num := num
  src := fun e he => by
    obtain ⟨b, cs, h1, h2, h3, h4⟩ := src e he
    exact ⟨b, _, h1, h2, by rw [h3]; exact fitL_pure h4⟩
  frz := fun x h => by cases h
def hW (L I O : List Int) : Heap := ⟨3, [lF 2 L ++ [(0, .cells (ints I)), (1, .cells (ints O))]]⟩
def hW' (L I O : List Int) : Heap := ⟨4, [lF 3 L ++ [(0, .cells (ints I)), (1, .cells (ints O))]]⟩
/-- in the loop -/
def hL (t : Tr) (L I O : List Int) : Heap := ⟨5, [[(4, .cells (ints L)), (3, .cells [aNodes t])], [(0, .cells (ints I)), (1, .cells (ints O))]]⟩
theorem fit_in {t : Tr} {L I O : List Int} {m a : Nat} {f : List (Nat × Blk)} (ha : getF a f = some (.cells (ints L))) (h3 : getF 3 f = some (.cells [aNodes t])) (h0 : getF 0 f = none) (h1 : getF 1 f = none) (ha4 : 3 < a) :
    FitH 3 [(a, 4), (3, 3), (0, 0), (1, 1)] [] ⟨m, [f, [(0, .cells (ints I)), (1, .cells (ints O))]]⟩ (hL t L I O) := by
  refine .rows (by simp; omega) (by simp) (by simp [hL, Heap.ents]) (by simp [hL]) (by simp; omega) (by simp [hL]) ?_
  intro e he
  simp [hL, Heap.ents] at he
  rcases he with rfl | rfl | rfl | rfl
  · exact ⟨a, _, by simp, by simp [Heap.get, getFs, ha], rfl, pure_ints _⟩
  · exact ⟨3, _, by simp, by simp [Heap.get, getFs, h3], rfl, by simp [pureL]⟩
  · exact ⟨0, _, by simp, by simp [Heap.get, getFs, h0, getF], rfl, pure_ints _⟩
  · exact ⟨1, _, by simp, by simp [Heap.get, getFs, h1, getF], rfl, pure_ints _⟩
theorem fit_out {t : Tr} {L I O : List Int} (hne : L ≠ []) : FitH 3 [(4, 3), (0, 0), (1, 1)] [] (hL t L I O) (hW' L I O) := by
  refine .rows (by simp) (by simp) (by simp [hW', lF_ne hne, Heap.ents]) (by simp [hW']) (by simp) (by simp [hW']) ?_
  intro e he
  simp [hW', lF_ne hne, Heap.ents] at he
  rcases he with rfl | rfl | rfl
  · exact ⟨4, _, by simp, by simp [hL, Heap.get, getFs, getF], rfl, pure_ints _⟩
  · exact ⟨0, _, by simp, by simp [hL, Heap.get, getFs, getF], rfl, pure_ints _⟩
  · exact ⟨1, _, by simp, by simp [hL, Heap.get, getFs, getF], rfl, pure_ints _⟩
/-- the call of one walk in another -/
theorem call_in {t : Tr} {f : FuncId} {C : Ctx} {n i : Nat} {L I O L' I' O' : List Int} {c c' : Int} (hne : L ≠ []) (hne' : L' ≠ [])
    (h : CallAt C f [aTree t, .int .i64 i, lA 2 L, .slc 0 0 n (.ex n), .slc 1 0 n (.ex n), .int .i64 c] (hW L I O) (.tup [lA 3 L', .int .i64 c']) (hW' L' I' O')) :
    CallAt C f [aTree t, .int .i64 i, .slc 4 0 L.length (.rest 1), .slc 0 0 n (.ex n), .slc 1 0 n (.ex n), .int .i64 c] (hL t L I O) (.tup [.slc 5 0 L'.length (.rest 1), .int .i64 c'])
      ⟨6, [[(5, .cells (ints L')), (3, .cells [aNodes t])], [(0, .cells (ints I')), (1, .cells (ints O'))]]⟩ := by
  have hf : FitH 0 [(4, 2), (0, 0), (1, 1)] [] (hL t L I O) (hW L I O) := by
    refine .rows (by simp) (by simp) (by simp [hW, lF_ne hne, Heap.ents]) (by simp [hW]) (by simp) (by simp [hW]) ?_
    intro e he
    simp [hW, lF_ne hne, Heap.ents] at he
    rcases he with rfl | rfl | rfl
    · exact ⟨4, _, by simp, by simp [hL, Heap.get, getFs, getF], rfl, pure_ints _⟩
    · exact ⟨0, _, by simp, by simp [hL, Heap.get, getFs, getF], rfl, pure_ints _⟩
    · exact ⟨1, _, by simp, by simp [hL, Heap.get, getFs, getF], rfl, pure_ints _⟩
  have := h.framed (H := hL t L I O) (H' := ⟨6, [[(5, .cells (ints L')), (3, .cells [aNodes t])], [(0, .cells (ints I')), (1, .cells (ints O'))]]⟩) (σ := [(4, 2), (0, 0), (1, 1)])
    (args := [aTree t, .int .i64 i, .slc 4 0 L.length (.rest 1), .slc 0 0 n (.ex n), .slc 1 0 n (.ex n), .int .i64 c]) hf ?_ ?_ (by simp [hW, hW'])
  · simpa [lA_ne hne', renV, renL, outN, lookR, hL, hW] using this
  · rw [lA_ne hne]
    simp [fitL, fitV, lookN, fitV_pure, pureV]
  · refine ⟨by simp [hL, hW, hW'], by simp [Heap.ents], ?_⟩
    intro e he
    have hI : renL (outN [(4, 2), (0, 0), (1, 1)] 5 3) (ints I') = ints I' := renL_pure _ (pure_ints _)
    have hO : renL (outN [(4, 2), (0, 0), (1, 1)] 5 3) (ints O') = ints O' := renL_pure _ (pure_ints _)
    have hL' : renL (outN [(4, 2), (0, 0), (1, 1)] 5 3) (ints L') = ints L' := renL_pure _ (pure_ints _)
    simp [Heap.ents] at he
    rcases he with rfl | rfl | rfl | rfl
    · exact .inl ⟨(3, .cells (ints L')), by simp [hW', lF_ne hne', Heap.ents], by simp [hL, hW, renB, hL']; simp [outN, lookR]⟩
    · exact .inr ⟨by simp [hL, Heap.ents], by simp⟩
    · exact .inl ⟨(0, .cells (ints I')), by simp [hW', lF_ne hne', Heap.ents], by simp [hL, hW, renB, hI]; simp [outN, lookR]⟩
    · exact .inl ⟨(1, .cells (ints O')), by simp [hW', lF_ne hne', Heap.ents], by simp [hL, hW, renB, hO]; simp [outN, lookR]⟩
theorem get1 {L : List Int} {i : Nat} (h : i < L.length) : getL (ints L) i = some (.int .i64 L[i]) := by simp [ints, getL_map h, aInt]
theorem ixI {b n i : Nat} {cap : Cap} (h : i < n) : indexAddrA Tryz.prog 25 (.slc b 0 n cap) (.int .i64 (i : Int)) = some (.ptr b i) := by
  simp [indexAddrA, idx_nat h]
theorem vis_ne {n : Nat} {ks : Nat → List Int} : ∀ (f i : Nat) (w : Wk), w.l ≠ [] → (vis n ks f i w).l ≠ []
  | 0, _, w, h => h
  | f + 1, i, w, h => by
    have hk : ∀ (r : List Int) (w : Wk), w.l ≠ [] → (kl n (vis n ks f) r w).l ≠ [] := by
      intro r
      induction r with
      | nil => intro w h; exact h
      | cons k r ih =>
        intro w h
        unfold kl
        split
        · exact ih _ (vis_ne f _ _ h)
        · exact ih _ h
    exact hk (ks i) (into i w) (by simp [into])
theorem c122 {T : List (Entry Tryz.prog)} (t : Tr) {K : Nat} (hK : K ≤ 1000) (hkd : ∀ x, x ∈ t → x.kids.length ≤ 1000) : ∀ (f i : Nat) (w : Wk), Low t.length K 0 w → i < t.length → w.inn.getD i 0 < 0 → negs w.inn ≤ f →
    CallAt (ctx T) 122 [aTree t, .int .i64 i, lA 2 w.l, .slc 0 0 t.length (.ex t.length), .slc 1 0 t.length (.ex t.length), .int .i64 w.c] (hW w.l w.inn w.out)
      (.tup [lA 3 (vis t.length (kidsOf t) f i w).l, .int .i64 (vis t.length (kidsOf t) f i w).c]) (hW' (vis t.length (kidsOf t) f i w).l (vis t.length (kidsOf t) f i w).inn (vis t.length (kidsOf t) f i w).out)
  | 0, i, w, h, hi, hn, hf => by
    have e := negs_set (I := w.inn) (by rw [h.1.li]; exact hi) hn h.1.c0
    omega
  | f + 1, i, w, h, hi, hn, hf => by
    obtain ⟨g1, g2, g3⟩ := h.1.into hi hn
    have hlow : Low t.length K 0 (into i w) := ⟨g1, by omega⟩
    have hc := h.1.c0
    have hcb := h.1.cb
    have hlb := h.1.lb
    have hli := h.1.li
    have hlo := h.1.lo
    have hkl : (kidsOf t i).length ≤ 1000 := by rw [← kidsOf_at hi]; exact hkd _ (List.getElem_mem hi)
    have happ := app_l (m := 5) (t := 4) (b := 2) (L := w.l) (v := (i : Int)) (g1 := [(3, .cells [aNodes t])]) (g := [(0, .cells (ints w.inn)), (1, .cells (ints w.out))]) (by omega) (by simp) (by simp)
    unfold hW
    refine callAt_body (fn := Tryz.f122) (s0 := ⟨[0, 1, 2, 3, 4, 5, 6, 12, 13, 14, 15], [aTree t, .int .i64 i, lA 2 w.l, .slc 0 0 t.length (.ex t.length), .slc 1 0 t.length (.ex t.length), .int .i64 w.c, .undef, .undef, .undef, .undef, .undef], [], 79, ⟨3, [] :: [lF 2 w.l ++ [(0, .cells (ints w.inn)), (1, .cells (ints w.out))]]⟩⟩) Tryz.func122 rfl rfl rfl ?_
    repeat refine wps_seq ?_
    refine wps_region callOK ?_
    simp [ofV, ofV1, mkC_P, writeVar, writeCells, readCells, allSingle, AV.single, getFs, getF, setFs, setF, Heap.get, Heap.set, Heap.new, Heap.kill, killF, pushF, Heap.ready, refs, sliceParts, fillA, replL, aTree]
    repeat refine wps_seq ?_
    refine wps_region callOK ?_
    simp [ofV, ofV1, mkC_P, writeVar, writeCells, readCells, allSingle, AV.single, getFs, getF, setFs, setF, Heap.get, Heap.set, Heap.new, Heap.kill, killF, pushF, Heap.ready, refs, sliceParts, fillA, replL, happ]
    have hst := lay1 (L := w.inn) (i := i) (v := w.c) (by omega)
    repeat refine wps_seq ?_
    refine wps_region callOK ?_
    simp [ofV, ofV1, mkC_P, writeVar, writeCells, readCells, allSingle, AV.single, getFs, getF, setFs, setF, Heap.get, Heap.set, Heap.new, Heap.kill, killF, pushF, Heap.ready, refs, sliceParts, fillA, replL, ixI hi, hst]
    repeat refine wps_seq ?_
    refine wps_region callOK ?_
    simp [ofV, ofV1, mkC_P, writeVar, writeCells, readCells, allSingle, AV.single, getFs, getF, setFs, setF, Heap.get, Heap.set, Heap.new, Heap.kill, killF, pushF, Heap.ready, refs, sliceParts, fillA, replL, wr_small (show -1000000000000 ≤ w.c + 1 by omega) (show w.c + 1 ≤ 1000000000000 by omega)]
    repeat refine wps_seq ?_
    refine wps_region callOK ?_
    simp [ofV, ofV1, mkC_P, writeVar, writeCells, readCells, allSingle, AV.single, getFs, getF, setFs, setF, Heap.get, Heap.set, Heap.new, Heap.kill, killF, pushF, Heap.ready, refs, sliceParts, fillA, replL]
    obtain ⟨w2, hw2⟩ : ∃ w2, w2 = kl t.length (vis t.length (kidsOf t) f) (kidsOf t i) (into i w) := ⟨_, rfl⟩
    have hvis : vis t.length (kidsOf t) (f + 1) i w = outof i w2 := by rw [hw2]; rfl
    rw [hvis]
    have hb0 : 0 ≤ (0 : Int) := Int.le_refl 0
    repeat refine wps_seq ?_
    refine wps_block (wps_loop' (fun x : Nat × Wk => (⟨[0, 1, 2, 3, 4, 5, 6, 12, 13, 14, 15], [aTree t, .int .i64 i, .slc 4 0 x.2.l.length (.rest 1), .slc 0 0 t.length (.ex t.length), .slc 1 0 t.length (.ex t.length), .int .i64 x.2.c, .ptr 3 0, .undef, .undef, .int .i64 x.1, .undef], [], 79, hL t x.2.l x.2.inn x.2.out⟩ : St))
      (fun x => x.1 ≤ (kidsOf t i).length ∧ x.2.l ≠ [] ∧ Low t.length K 1 x.2 ∧ negs x.2.inn ≤ f ∧ kl t.length (vis t.length (kidsOf t) f) ((kidsOf t i).drop x.1) x.2 = w2) (fun x => (kidsOf t i).length - x.1) [(5, 4), (3, 3), (0, 0), (1, 1)] [] (0, into i w)
      ⟨Nat.zero_le _, by simp [into], ⟨g1, g3⟩, by show negs (into i w).inn ≤ f; omega, hw2.symm⟩
      ⟨rfl, rfl, rfl, by simp [fitL, fitV, lookN, pureV, into, aTree, pureL], fit_in (t := t) (L := w.l ++ [(i : Int)]) (I := w.inn.set i w.c) (O := w.out) (m := 6) (a := 5) (f := [(5, .cells (ints (w.l ++ [(i : Int)]))), (4, .cells [.int .i64 i]), (3, .cells [aNodes t])]) rfl rfl rfl rfl (by omega)⟩ ?_)
    rintro ⟨j, x⟩ ⟨hj, hne, hx, hfx, hk⟩ B hB
    simp only at hj hne hx hfx hk
    have xli := hx.1.li
    have xlo := hx.1.lo
    have xc0 := hx.1.c0
    have xcb := hx.2
    have hget : ∀ m, (hm : m < t.length) → x.inn[m]'(by omega) = x.inn.getD m 0 := fun m hm => by rw [List.getD_eq_getElem?_getD, List.getElem?_eq_getElem (by omega), Option.getD_some]
    repeat refine wps_seq ?_
    refine wps_region callOK ?_
    simp [ofV, ofV1, mkC_P, writeVar, writeCells, readCells, allSingle, AV.single, getFs, getF, setFs, setF, Heap.get, Heap.set, Heap.new, Heap.kill, killF, pushF, Heap.ready, refs, sliceParts, fillA, replL, hL, atN hi, lenI, kidsOf_at hi, Nd.cs]
    repeat refine wps_seq ?_
    refine wps_cond rfl (fun h => ?_) fun h => ?_
    · simp at h
      repeat refine wps_seq ?_
      refine wps_skip ?_
      simp
      repeat refine wps_seq ?_
      refine wps_block ?_
      obtain ⟨k, hkj⟩ : ∃ k, k = (kidsOf t i)[j] := ⟨_, rfl⟩
      have hdrop : (kidsOf t i).drop j = k :: (kidsOf t i).drop (j + 1) := by rw [List.drop_eq_getElem_cons h, hkj]
      rw [hdrop] at hk
      unfold kl at hk
      repeat refine wps_seq ?_
      refine wps_region callOK ?_
      simp [ofV, ofV1, mkC_P, writeVar, writeCells, readCells, allSingle, AV.single, getFs, getF, setFs, setF, Heap.get, Heap.set, Heap.new, Heap.kill, killF, pushF, Heap.ready, refs, sliceParts, fillA, replL, hL, atN hi, kidsOf_at hi, Nd.cs, atI h, ← hkj]
      by_cases h0 : 0 ≤ k
      · obtain ⟨m, rfl⟩ := Int.eq_ofNat_of_zero_le h0
        by_cases h1 : m < t.length
        · have hgm := hget m h1
          by_cases h2 : x.inn.getD m 0 < 0
          · rw [if_pos ⟨h0, by omega, h2⟩] at hk
            have h2' : x.inn[m]'(by omega) < 0 := by rw [hgm]; exact h2
            repeat refine wps_seq ?_
            refine wps_region callOK ?_
            simp [ofV, ofV1, mkC_P, writeVar, writeCells, readCells, allSingle, AV.single, getFs, getF, setFs, setF, Heap.get, Heap.set, Heap.new, Heap.kill, killF, pushF, Heap.ready, refs, sliceParts, fillA, replL, hL, h1, lenN, ixI h1, get1 (show m < x.inn.length by omega), h2']
            repeat refine wps_seq ?_
            refine wps_cond (t := true) rfl (fun _ => ?_) fun h => by cases h
            have hx0 : Low t.length K 0 x := ⟨hx.1, by have := hx.2; omega⟩
            have ih := c122 (T := T) t hK hkd f m x hx0 h1 h2 hfx
            obtain ⟨q1, q2⟩ := vis_ok (ks := kidsOf t) f 1 m x (by omega) hx h1 h2 hfx
            have hkm : (Int.toNat (m : Int)) = m := by simp
            rw [hkm] at hk
            have hny := vis_ne (n := t.length) (ks := kidsOf t) f m x hne
            obtain ⟨y, hy⟩ : ∃ y, y = vis t.length (kidsOf t) f m x := ⟨_, rfl⟩
            rw [← hy] at ih q1 q2 hk hny
            have hcall := call_in hne hny ih
            repeat refine wps_seq ?_
            refine wps_region (callOKF [⟨122, _, _, _, _, hcall⟩]) ?_
            simp [ofV, ofV1, mkC_P, writeVar, writeCells, readCells, allSingle, AV.single, getFs, getF, setFs, setF, Heap.get, Heap.set, Heap.new, Heap.kill, killF, pushF, Heap.ready, refs, sliceParts, fillA, replL, callF, hL, aTree]
            repeat refine wps_seq ?_
            refine wps_region callOK ?_
            simp [ofV, ofV1, mkC_P, writeVar, writeCells, readCells, allSingle, AV.single, getFs, getF, setFs, setF, Heap.get, Heap.set, Heap.new, Heap.kill, killF, pushF, Heap.ready, refs, sliceParts, fillA, replL, add_one (show j ≤ 1000000000 by omega)]
            exact hB _ (j + 1, y) (by simp; omega) ⟨by simp; omega, hny, q1, by simp only; omega, hk⟩ ⟨[(5, 4), (3, 3), (0, 0), (1, 1)], [], rfl, rfl, rfl, by simp [fitL, fitV, lookN, pureV, aTree, pureL], fit_in (t := t) (L := y.l) (I := y.inn) (O := y.out) (m := 6) (a := 5) (f := [(5, .cells (ints y.l)), (3, .cells [aNodes t])]) rfl rfl rfl rfl (by omega)⟩
          · rw [if_neg (fun hx => h2 hx.2.2)] at hk
            have h2' : ¬ x.inn[m]'(by omega) < 0 := by rw [hgm]; exact h2
            repeat refine wps_seq ?_
            refine wps_region callOK ?_
            simp [ofV, ofV1, mkC_P, writeVar, writeCells, readCells, allSingle, AV.single, getFs, getF, setFs, setF, Heap.get, Heap.set, Heap.new, Heap.kill, killF, pushF, Heap.ready, refs, sliceParts, fillA, replL, hL, h1, lenN, ixI h1, get1 (show m < x.inn.length by omega), h2']
            repeat refine wps_seq ?_
            refine wps_cond (t := false) rfl (fun h => by cases h) fun _ => ?_
            repeat refine wps_seq ?_
            refine wps_skip ?_
            simp
            repeat refine wps_seq ?_
            refine wps_region callOK ?_
            simp [ofV, ofV1, mkC_P, writeVar, writeCells, readCells, allSingle, AV.single, getFs, getF, setFs, setF, Heap.get, Heap.set, Heap.new, Heap.kill, killF, pushF, Heap.ready, refs, sliceParts, fillA, replL, add_one (show j ≤ 1000000000 by omega)]
            exact hB _ (j + 1, x) (by simp; omega) ⟨by simp; omega, hne, hx, hfx, hk⟩ ⟨[(4, 4), (3, 3), (0, 0), (1, 1)], [], rfl, rfl, rfl, by simp [fitL, fitV, lookN, pureV, aTree, pureL], fit_in (t := t) (L := x.l) (I := x.inn) (O := x.out) (m := 5) (a := 4) (f := [(4, .cells (ints x.l)), (3, .cells [aNodes t])]) rfl rfl rfl rfl (by omega)⟩
        · rw [if_neg (fun hx => h1 (by omega))] at hk
          repeat refine wps_seq ?_
          refine wps_region callOK ?_
          simp [ofV, ofV1, mkC_P, writeVar, writeCells, readCells, allSingle, AV.single, getFs, getF, setFs, setF, Heap.get, Heap.set, Heap.new, Heap.kill, killF, pushF, Heap.ready, refs, sliceParts, fillA, replL, hL, h1, lenN]
          repeat refine wps_seq ?_
          refine wps_cond (t := false) rfl (fun h => by cases h) fun _ => ?_
          repeat refine wps_seq ?_
          refine wps_skip ?_
          simp
          repeat refine wps_seq ?_
          refine wps_region callOK ?_
          simp [ofV, ofV1, mkC_P, writeVar, writeCells, readCells, allSingle, AV.single, getFs, getF, setFs, setF, Heap.get, Heap.set, Heap.new, Heap.kill, killF, pushF, Heap.ready, refs, sliceParts, fillA, replL, add_one (show j ≤ 1000000000 by omega)]
          exact hB _ (j + 1, x) (by simp; omega) ⟨by simp; omega, hne, hx, hfx, hk⟩ ⟨[(4, 4), (3, 3), (0, 0), (1, 1)], [], rfl, rfl, rfl, by simp [fitL, fitV, lookN, pureV, aTree, pureL], fit_in (t := t) (L := x.l) (I := x.inn) (O := x.out) (m := 5) (a := 4) (f := [(4, .cells (ints x.l)), (3, .cells [aNodes t])]) rfl rfl rfl rfl (by omega)⟩
      · rw [if_neg (fun hx => h0 hx.1)] at hk
        repeat refine wps_seq ?_
        refine wps_region callOK ?_
        simp [ofV, ofV1, mkC_P, writeVar, writeCells, readCells, allSingle, AV.single, getFs, getF, setFs, setF, Heap.get, Heap.set, Heap.new, Heap.kill, killF, pushF, Heap.ready, refs, sliceParts, fillA, replL, hL, h0]
        repeat refine wps_seq ?_
        refine wps_cond (t := false) rfl (fun h => by cases h) fun _ => ?_
        repeat refine wps_seq ?_
        refine wps_skip ?_
        simp
        repeat refine wps_seq ?_
        refine wps_region callOK ?_
        simp [ofV, ofV1, mkC_P, writeVar, writeCells, readCells, allSingle, AV.single, getFs, getF, setFs, setF, Heap.get, Heap.set, Heap.new, Heap.kill, killF, pushF, Heap.ready, refs, sliceParts, fillA, replL, add_one (show j ≤ 1000000000 by omega)]
        exact hB _ (j + 1, x) (by simp; omega) ⟨by simp; omega, hne, hx, hfx, hk⟩ ⟨[(4, 4), (3, 3), (0, 0), (1, 1)], [], rfl, rfl, rfl, by simp [fitL, fitV, lookN, pureV, aTree, pureL], fit_in (t := t) (L := x.l) (I := x.inn) (O := x.out) (m := 5) (a := 4) (f := [(4, .cells (ints x.l)), (3, .cells [aNodes t])]) rfl rfl rfl rfl (by omega)⟩
    · simp at h
      repeat refine wps_seq ?_
      refine wps_exit ?_
      simp
      have hjl : j = (kidsOf t i).length := by omega
      rw [hjl, List.drop_length] at hk
      have hk2 : x = w2 := hk
      subst hk2
      have hst := lay1 (L := x.out) (i := i) (v := x.c) (by omega)
      repeat refine wps_seq ?_
      refine wps_region callOK ?_
      simp [ofV, ofV1, mkC_P, writeVar, writeCells, readCells, allSingle, AV.single, getFs, getF, setFs, setF, Heap.get, Heap.set, Heap.new, Heap.kill, killF, pushF, Heap.ready, refs, sliceParts, fillA, replL, hL, ixI hi, hst]
      repeat refine wps_seq ?_
      refine wps_region callOK ?_
      simp [ofV, ofV1, mkC_P, writeVar, writeCells, readCells, allSingle, AV.single, getFs, getF, setFs, setF, Heap.get, Heap.set, Heap.new, Heap.kill, killF, pushF, Heap.ready, refs, sliceParts, fillA, replL, wr_small (show -1000000000000 ≤ x.c + 1 by omega) (show x.c + 1 ≤ 1000000000000 by omega)]
      repeat refine wps_seq ?_
      refine wps_ret ?_
      simp [retVal, Tryz.f122, oneOr]
      refine ⟨[(4, 3), (0, 0), (1, 1)], [], ?_, fit_out (t := t) (L := x.l) (I := x.inn) (O := x.out.set i x.c) hne⟩
      simp [outof, lA_ne hne, fitV, fitL, lookN, pureV]
end Go.Proofs.YtmadcegoionpjaaGreatDoor
namespace Go.Proofs.YtmadcegoionpjaaGreatDoor
set_option linter.unusedSimpArgs false
set_option linter.unusedVariables false
open Go Go.RowKit
set_option maxRecDepth 100000

theorem repl_ints : ∀ (n : Nat), replL [.int .i64 0] n = ints (List.replicate n 0)
  | 0 => rfl
  | n + 1 => by simp only [replL, repl_ints n, List.replicate_succ, ints, List.map_cons]; rfl
theorem blt_t {a b : Nat} (h : a < b) : Nat.blt a b = true := by simpa using h
theorem msInt {n : Nat} (h : n ≤ 1000000) : msB Tryz.prog 25 (.int .i64 (n : Int)) (.int .i64 (n : Int)) = some (fun b => .slc b 0 n (.ex n), .cells (ints (List.replicate n 0))) := by
  have h1 : idx (n : Int) 17592186044416 = some n := idx_nat (by omega)
  have h2 : idx (n : Int) (Nat.succ n) = some n := idx_nat (by omega)
  have h3 : roomOK n 8 = true := by simp [roomOK]; omega
  have hz : zeroOf Tryz.prog 3 = some (.int .i64 0) := zeT3
  have hs : sizeT Tryz.prog 3 = some 1 := szT3
  have hb : bytesT Tryz.prog 3 = some 8 := byT3
  simp only [msB, Tryz.underlying25, Option.bind_some, hs, hb, h1, h2, h3, hz]
  simp [AV.cells, repl_ints]
theorem fit_ints {σ : List (Nat × Nat)} {Φ : List (Nat × List AV)} {b n : Nat} {cap : Cap} {L : List Int} (h : lookC b Φ = some (ints L)) (hn : n = L.length) : fitV σ Φ (.slc b 0 n cap) (aInts L) := by
  subst hn
  simp only [aInts, fitV]
  refine .inl ⟨ints L, h, ?_, by simp, (el_int L).size⟩
  have := sub_pre (el_int L) (k := L.length) (by simp)
  rw [flat_ints, List.take_of_length_le (by simp)] at this
  exact this
theorem vis_ne1 {n : Nat} {ks : Nat → List Int} (f i : Nat) (w : Wk) : (vis n ks (f + 1) i w).l ≠ [] := by
  have hk : ∀ (r : List Int) (w : Wk), w.l ≠ [] → (kl n (vis n ks f) r w).l ≠ [] := by
    intro r
    induction r with
    | nil => intro w h; exact h
    | cons k r ih =>
      intro w h
      unfold kl
      split
      · exact ih _ (vis_ne f _ _ h)
      · exact ih _ h
  exact hk (ks i) (into i w) (by simp [into])
def hA (t : Tr) (I O : List Int) : Heap := ⟨3, [[(2, .cells (ints O)), (1, .cells (ints I)), (0, .cells [aNodes t])]]⟩
theorem fit_A {t : Tr} {I O : List Int} {m a b : Nat} {f : List (Nat × Blk)} (ha : getF a f = some (.cells (ints O))) (hb : getF b f = some (.cells (ints I))) (h0 : getF 0 f = some (.cells [aNodes t])) (hab : a ≠ b) (ha0 : a ≠ 0) (hb0 : b ≠ 0) :
    FitH 0 [(a, 2), (b, 1), (0, 0)] [] ⟨m, [f]⟩ (hA t I O) := by
  refine .rows (by simp [hab, ha0, hb0]) (by simp) (by simp [hA, Heap.ents]) (by simp [hA]) (by simp) (by simp [hA]) ?_
  intro e he
  simp [hA, Heap.ents] at he
  rcases he with rfl | rfl | rfl
  · exact ⟨a, _, by simp, by simp [Heap.get, getFs, ha], rfl, pure_ints _⟩
  · exact ⟨b, _, by simp, by simp [Heap.get, getFs, hb], rfl, pure_ints _⟩
  · exact ⟨0, _, by simp, by simp [Heap.get, getFs, h0], rfl, by simp [pureL]⟩
/-- the call of the walk, from the root -/
theorem call_all {t : Tr} {f : FuncId} {C : Ctx} {n : Nat} {I O L' I' O' : List Int} {c c' : Int} (hne' : L' ≠ [])
    (h : CallAt C f [aTree t, .int .i64 0, lA 2 [], .slc 0 0 n (.ex n), .slc 1 0 n (.ex n), .int .i64 c] (hW [] I O) (.tup [lA 3 L', .int .i64 c']) (hW' L' I' O')) :
    CallAt C f [aTree t, .int .i64 0, .nilS, .slc 1 0 n (.ex n), .slc 2 0 n (.ex n), .int .i64 c] (hA t I O) (.tup [.slc 3 0 L'.length (.rest 1), .int .i64 c'])
      ⟨4, [[(3, .cells (ints L')), (2, .cells (ints O')), (1, .cells (ints I')), (0, .cells [aNodes t])]]⟩ := by
  have hf : FitH 0 [(1, 0), (2, 1)] [] (hA t I O) (hW [] I O) := by
    refine .rows (by simp) (by simp) (by simp [hW, lF, ownF, Heap.ents]) (by simp [hW]) (by simp) (by simp [hW]) ?_
    intro e he
    simp [hW, lF, ownF, Heap.ents] at he
    rcases he with rfl | rfl
    · exact ⟨1, _, by simp, by simp [hA, Heap.get, getFs, getF], rfl, pure_ints _⟩
    · exact ⟨2, _, by simp, by simp [hA, Heap.get, getFs, getF], rfl, pure_ints _⟩
  have := h.framed (H := hA t I O) (H' := ⟨4, [[(3, .cells (ints L')), (2, .cells (ints O')), (1, .cells (ints I')), (0, .cells [aNodes t])]]⟩) (σ := [(1, 0), (2, 1)])
    (args := [aTree t, .int .i64 0, .nilS, .slc 1 0 n (.ex n), .slc 2 0 n (.ex n), .int .i64 c]) hf ?_ ?_ (by simp [hW, hW'])
  · simpa [lA_ne hne', renV, renL, outN, lookR, hA, hW] using this
  · simp [lA, ownV, fitL, fitV, lookN, fitV_pure, pureV]
  · refine ⟨by simp [hA, hW, hW'], by simp [Heap.ents], ?_⟩
    intro e he
    have hI : renL (outN [(1, 0), (2, 1)] 3 3) (ints I') = ints I' := renL_pure _ (pure_ints _)
    have hO : renL (outN [(1, 0), (2, 1)] 3 3) (ints O') = ints O' := renL_pure _ (pure_ints _)
    have hL' : renL (outN [(1, 0), (2, 1)] 3 3) (ints L') = ints L' := renL_pure _ (pure_ints _)
    simp [Heap.ents] at he
    rcases he with rfl | rfl | rfl | rfl
    · exact .inl ⟨(3, .cells (ints L')), by simp [hW', lF_ne hne', Heap.ents], by simp [hA, hW, renB, hL']; simp [outN, lookR]⟩
    · exact .inl ⟨(1, .cells (ints O')), by simp [hW', lF_ne hne', Heap.ents], by simp [hA, hW, renB, hO]; simp [outN, lookR]⟩
    · exact .inl ⟨(0, .cells (ints I')), by simp [hW', lF_ne hne', Heap.ents], by simp [hA, hW, renB, hI]; simp [outN, lookR]⟩
    · exact .inr ⟨by simp [hA, Heap.ents], by simp⟩
def finW (n : Nat) (ks : Nat → List Int) : Wk := if n = 0 then w0 0 else vis n ks n 0 (w0 n)
theorem c87 {T : List (Entry Tryz.prog)} (t : Tr) (hn : t.length ≤ 1000) (hkd : ∀ x, x ∈ t → x.kids.length ≤ 1000) :
    CallAt (ctx T) 87 [aTree t] ⟨0, []⟩ (.tup [aInts (orderOf t.length (kidsOf t)), aInts (finW t.length (kidsOf t)).inn, aInts (finW t.length (kidsOf t)).out]) ⟨0, []⟩ := by
  refine callAt_body (fn := Tryz.f87) (s0 := ⟨[0, 1, 2, 3, 4, 5, 6, 7, 8], [aTree t, .undef, .undef, .undef, .undef, .undef, .undef, .undef, .undef], [], 42, ⟨0, [[]]⟩⟩) Tryz.func87 rfl rfl rfl ?_
  repeat refine wps_seq ?_
  refine wps_region callOK ?_
  simp [ofV, ofV1, mkC_P, writeVar, writeCells, readCells, allSingle, AV.single, getFs, getF, setFs, setF, Heap.get, Heap.set, Heap.new, Heap.kill, killF, pushF, Heap.ready, refs, sliceParts, fillA, replL, aTree]
  repeat refine wps_seq ?_
  refine wps_drawn mixed callOK (by decide +kernel) fun B_ hB_ => ?_
  simp [ofV, ofV1, mkC_P, writeVar, writeCells, readCells, allSingle, AV.single, getFs, getF, setFs, setF, Heap.get, Heap.set, Heap.new, Heap.kill, killF, pushF, Heap.ready, refs, sliceParts, fillA, replL, mkBlk, guardA, evalD, stepD, clsOf, reserve, freshenAll, sameRecs, sameAll, sameAt, allPend, Heap.lay, ontoF, wantedBy, unwantedBy, lenN, msInt (show t.length ≤ 1000000 by omega)]
  repeat refine wps_seq ?_
  refine wps_region callOK ?_
  simp [ofV, ofV1, mkC_P, writeVar, writeCells, readCells, allSingle, AV.single, getFs, getF, setFs, setF, Heap.get, Heap.set, Heap.new, Heap.kill, killF, pushF, Heap.ready, refs, sliceParts, fillA, replL]
  repeat refine wps_seq ?_
  refine wps_block (wps_loop' (fun x : Nat × List Int × List Int => (⟨[0, 1, 2, 3, 4, 5, 6, 7, 8], [aTree t, .ptr 0 0, .undef, .undef, .undef, .slc 1 0 t.length (.ex t.length), .slc 2 0 t.length (.ex t.length), .int .i64 x.1, .undef], [], 42, hA t x.2.1 x.2.2⟩ : St))
    (fun x => x.1 ≤ t.length ∧ x.2.1.length = t.length ∧ x.2.2.length = t.length ∧ x.2.1.take x.1 = List.replicate x.1 (-1) ∧ x.2.2.take x.1 = List.replicate x.1 (-1)) (fun x => t.length - x.1) [(8, 2), (4, 1), (0, 0)] [] (0, List.replicate t.length 0, List.replicate t.length 0)
    ⟨Nat.zero_le _, by simp, by simp, by simp, by simp⟩
    ⟨rfl, rfl, rfl, by simp [fitL, fitV, lookN, pureV, aTree, pureL], fit_A (by simp [getF]) (by simp [getF]) (by simp [getF]) (by omega) (by omega) (by omega)⟩ ?_)
  rintro ⟨i, I, O⟩ ⟨hi, hI, hO, hti, hto⟩ B hB
  simp only at hi hI hO hti hto
  repeat refine wps_seq ?_
  refine wps_region callOK ?_
  simp [ofV, ofV1, mkC_P, writeVar, writeCells, readCells, allSingle, AV.single, getFs, getF, setFs, setF, Heap.get, Heap.set, Heap.new, Heap.kill, killF, pushF, Heap.ready, refs, sliceParts, fillA, replL, hA, lenA]
  repeat refine wps_seq ?_
  refine wps_cond rfl (fun h => ?_) fun h => ?_
  · simp at h
    repeat refine wps_seq ?_
    refine wps_skip ?_
    simp
    repeat refine wps_seq ?_
    refine wps_block ?_
    have l1 := lay1 (L := I) (i := i) (v := -1) (by omega)
    have l2 := lay1 (L := O) (i := i) (v := -1) (by omega)
    repeat refine wps_seq ?_
    refine wps_region callOK ?_
    simp [ofV, ofV1, mkC_P, writeVar, writeCells, readCells, allSingle, AV.single, getFs, getF, setFs, setF, Heap.get, Heap.set, Heap.new, Heap.kill, killF, pushF, Heap.ready, refs, sliceParts, fillA, replL, ixI h, l1, l2]
    repeat refine wps_seq ?_
    refine wps_region callOK ?_
    simp [ofV, ofV1, mkC_P, writeVar, writeCells, readCells, allSingle, AV.single, getFs, getF, setFs, setF, Heap.get, Heap.set, Heap.new, Heap.kill, killF, pushF, Heap.ready, refs, sliceParts, fillA, replL, add_one (show i ≤ 1000000000 by omega)]
    refine hB _ (i + 1, I.set i (-1), O.set i (-1)) (by simp; omega) ⟨by simp; omega, by simp [hI], by simp [hO], ?_, ?_⟩ ⟨[(2, 2), (1, 1), (0, 0)], [], rfl, rfl, rfl, by simp [fitL, fitV, lookN, pureV, aTree, pureL], fit_A (by simp [getF]) (by simp [getF]) (by simp [getF]) (by omega) (by omega) (by omega)⟩
    · simp only
      rw [List.take_succ_eq_append_getElem (by simp; omega), List.take_set_of_le (Nat.le_refl _), hti, List.replicate_succ']; simp
    · simp only
      rw [List.take_succ_eq_append_getElem (by simp; omega), List.take_set_of_le (Nat.le_refl _), hto, List.replicate_succ']; simp
  · simp at h
    have hin : i = t.length := by omega
    subst hin
    rw [List.take_of_length_le (by omega)] at hti hto
    subst hti hto
    repeat refine wps_seq ?_
    refine wps_exit ?_
    simp
    repeat refine wps_seq ?_
    refine wps_region callOK ?_
    simp [ofV, ofV1, mkC_P, writeVar, writeCells, readCells, allSingle, AV.single, getFs, getF, setFs, setF, Heap.get, Heap.set, Heap.new, Heap.kill, killF, pushF, Heap.ready, refs, sliceParts, fillA, replL]
    by_cases hz : t.length = 0
    · have ht : t = [] := List.length_eq_zero_iff.1 hz
      subst ht
      repeat refine wps_seq ?_
      refine wps_region callOK ?_
      simp [ofV, ofV1, mkC_P, writeVar, writeCells, readCells, allSingle, AV.single, getFs, getF, setFs, setF, Heap.get, Heap.set, Heap.new, Heap.kill, killF, pushF, Heap.ready, refs, sliceParts, fillA, replL, lenA]
      repeat refine wps_seq ?_
      refine wps_cond (t := false) rfl (fun h => by cases h) fun _ => ?_
      repeat refine wps_seq ?_
      refine wps_skip ?_
      simp
      repeat refine wps_seq ?_
      refine wps_region callOK ?_
      simp [ofV, ofV1, mkC_P, writeVar, writeCells, readCells, allSingle, AV.single, getFs, getF, setFs, setF, Heap.get, Heap.set, Heap.new, Heap.kill, killF, pushF, Heap.ready, refs, sliceParts, fillA, replL]
      repeat refine wps_seq ?_
      refine wps_ret ?_
      simp [retVal, Tryz.f87, oneOr]
      exact ⟨[], [], by simp [fitV, fitL, aInts, orderOf, finW, w0], FitH.empty⟩
    · have hpos : 0 < t.length := by omega
      have hr : negs (w0 t.length).inn ≤ t.length := by simp [w0, negs_rep]
      have hw := c122 (T := T) t hn hkd t.length 0 (w0 t.length) (w0_ok _) (by omega) (by simp [w0, List.getD_eq_getElem?_getD, Nat.pos_of_ne_zero hz]) hr
      obtain ⟨m, hm⟩ : ∃ m, t.length = m + 1 := ⟨t.length - 1, by omega⟩
      have hny : (vis t.length (kidsOf t) t.length 0 (w0 t.length)).l ≠ [] := by
        have := vis_ne1 (n := t.length) (ks := kidsOf t) m 0 (w0 t.length)
        rw [← hm] at this; exact this
      have hvo : orderOf t.length (kidsOf t) = (vis t.length (kidsOf t) t.length 0 (w0 t.length)).l := by simp [orderOf, hz]
      have hfo : finW t.length (kidsOf t) = vis t.length (kidsOf t) t.length 0 (w0 t.length) := by simp [finW, hz]
      obtain ⟨y1, y2⟩ := vis_ok (ks := kidsOf t) t.length 0 0 (w0 t.length) (by omega) (w0_ok _) (by omega) (by simp [w0, List.getD_eq_getElem?_getD, Nat.pos_of_ne_zero hz]) hr
      rw [hvo, hfo]
      obtain ⟨y, hy⟩ : ∃ y, y = vis t.length (kidsOf t) t.length 0 (w0 t.length) := ⟨_, rfl⟩
      rw [← hy] at hw hny y1 ⊢
      have hcall := call_all (t := t) hny hw
      simp only [w0] at hcall
      repeat refine wps_seq ?_
      refine wps_region callOK ?_
      simp [ofV, ofV1, mkC_P, writeVar, writeCells, readCells, allSingle, AV.single, getFs, getF, setFs, setF, Heap.get, Heap.set, Heap.new, Heap.kill, killF, pushF, Heap.ready, refs, sliceParts, fillA, replL, lenA, hpos]
      repeat refine wps_seq ?_
      refine wps_cond (t := true) rfl (fun _ => ?_) fun h => by cases h
      repeat refine wps_seq ?_
      refine wps_region (callOKF [⟨122, _, _, _, _, hcall⟩]) ?_
      simp [ofV, ofV1, mkC_P, writeVar, writeCells, readCells, allSingle, AV.single, getFs, getF, setFs, setF, Heap.get, Heap.set, Heap.new, Heap.kill, killF, pushF, Heap.ready, refs, sliceParts, fillA, replL, callF, hA, aTree]
      repeat refine wps_seq ?_
      refine wps_region callOK ?_
      simp [ofV, ofV1, mkC_P, writeVar, writeCells, readCells, allSingle, AV.single, getFs, getF, setFs, setF, Heap.get, Heap.set, Heap.new, Heap.kill, killF, pushF, Heap.ready, refs, sliceParts, fillA, replL]
      repeat refine wps_seq ?_
      refine wps_ret ?_
      simp [retVal, Tryz.f87, oneOr]
      refine ⟨[], [(3, ints y.l), (1, ints y.inn), (2, ints y.out)], ?_, .froze (by simp) fun x hx => ?_⟩
      · simp only [fitV, fitL]
        exact .inl ⟨fit_ints (σ := []) (cap := .rest 1) (by simp [lookC]) rfl, fit_ints (σ := []) (cap := .ex t.length) (by simp [lookC]) y1.1.li.symm, fit_ints (σ := []) (cap := .ex t.length) (by simp [lookC]) y1.1.lo.symm, trivial⟩
      · simp at hx
        rcases hx with rfl | rfl | rfl
        · exact ⟨_, by simp [Heap.get, getFs, getF], fitL_pure (pure_ints _), pure_ints _⟩
        · exact ⟨_, by simp [Heap.get, getFs, getF], fitL_pure (pure_ints _), pure_ints _⟩
        · exact ⟨_, by simp [Heap.get, getFs, getF], fitL_pure (pure_ints _), pure_ints _⟩
def okTr (t : Tr) : Prop := t.length ≤ 1000 ∧ ∀ x, x ∈ t → x.kids.length ≤ 1000 ∧ x.attrs.length ≤ 1000
def smallTr (t : Tr) : Prop := t.length ≤ 50 ∧ okTr t
noncomputable def e87 : Entry Tryz.prog := mkE 87 [[]] (fun t : Tr => [aTree t]) okTr (fun t => .tup [aInts (orderOf t.length (kidsOf t)), aInts (finW t.length (kidsOf t)).inn, aInts (finW t.length (kidsOf t)).out]) fun t ht => c87 (T := []) t ht.1 fun x hx => (ht.2 x hx).1
@[simp] theorem ok_aTree (t : Tr) : okV (aTree t) = true := by simp [aTree, aNodes, okV, pureV, pureL]
theorem th_aTree (H : Heap) (t : Tr) : thawA H [] (aTree t) = some (aTree t) := thawA_ok (by simp)
theorem injT (x y : Tr) (h : [aTree x] = [aTree y]) : x = y := by simp at h; exact inj_aTree h
theorem k87 {T : List (Entry Tryz.prog)} (hT : findE 87 T = some e87.g) {t : Tr} (ht : okTr t) (H : Heap) : callL (ctx T) (.fn 87) [aTree t] H = some (.tup [aInts (orderOf t.length (kidsOf t)), aInts (finW t.length (kidsOf t)).inn, aInts (finW t.length (kidsOf t)).out], H) :=
  mkE_pure hT injT t ht (by simp [pureL]) (by simp [thawL, th_aTree]) H
theorem c77 {T : List (Entry Tryz.prog)} (hA : findE 87 T = some e87.g) (t : Tr) (ht : okTr t) : CallAt (ctx T) 77 [aTree t] ⟨0, []⟩ (aInts (orderOf t.length (kidsOf t))) ⟨0, []⟩ := by
  have hk := fun H => k87 hA ht H
  simp only [aTree] at hk
  refine callAt_body (fn := Tryz.f77) (s0 := ⟨[0, 1, 2, 3], [aTree t, .undef, .undef, .undef], [], 13, ⟨0, [[]]⟩⟩) Tryz.func77 rfl rfl rfl ?_
  (repeat (first
    | (refine wps_seq ?_)
    | (refine wps_block ?_)
    | (refine wps_label ?_; simp only [thenQ, blockQ])
    | ((refine wps_region callOK ?_); simp [ofV, ofV1, mkC_P, writeVar, writeCells, readCells, allSingle, AV.single, getFs, getF, setFs, setF, Heap.get, Heap.set, Heap.new, Heap.kill, killF, pushF, Heap.ready, refs, sliceParts, fillA, replL, aTree, hk])
    | (refine wps_cond (t := true) rfl (fun _ => ?_) (fun h => by cases h))
    | (refine wps_cond (t := false) rfl (fun h => by cases h) (fun _ => ?_))
    | ((refine wps_skip ?_); simp only [thenQ, blockQ])
    | ((refine wps_exit ?_); simp [thenQ, blockQ])))
  repeat refine wps_seq ?_
  refine wps_ret ?_
  simp [retVal, Tryz.f77, oneOr, thenQ, blockQ]
  exact ⟨[], [], FitH.empty⟩
noncomputable def e77 : Entry Tryz.prog := mkE 77 [[]] (fun t : Tr => [aTree t]) okTr (fun t => aInts (orderOf t.length (kidsOf t))) fun t ht => c77 (T := [e87]) rfl t ht
theorem k77 {T : List (Entry Tryz.prog)} (hT : findE 77 T = some e77.g) {t : Tr} (ht : okTr t) (H : Heap) : callL (ctx T) (.fn 77) [aTree t] H = some (aInts (orderOf t.length (kidsOf t)), H) :=
  mkE_pure hT injT t ht (by simp [pureL]) (by simp [thawL, th_aTree]) H
end Go.Proofs.YtmadcegoionpjaaGreatDoor
namespace Go.Proofs.YtmadcegoionpjaaGreatDoor
set_option linter.unusedSimpArgs false
set_option linter.unusedVariables false
open Go Go.RowKit
set_option maxRecDepth 100000

/-- a round's contract -/
structure FactY (C : Ctx) where
  b : Nat
  args : List AV
  H : Heap
  v : AV
  H' : Heap
  ok : YieldAt C b args H v H'
open Classical in
noncomputable def callY {C : Ctx} : List (FactY C) → CallE → CallE
  | [], call, c, args, H => call c args H
  | x :: r, call, c, args, H => if c = .yl x.b ∧ args = x.args ∧ H = x.H then some (x.v, x.H') else callY r call c args H
theorem callY_ok {C : Ctx} {call : CallE} (hc : CallOK C call) : ∀ (l : List (FactY C)), CallOK C (callY l call)
  | [] => hc
  | x :: r => {
    fn := fun f args H v H' h => by
      unfold callY at h
      split at h
      · rename_i hx
        cases hx.1
      · exact (callY_ok hc r).fn f args H v H' h
    yl := fun b args H v H' h => by
      unfold callY at h
      split at h
      · rename_i hx
        obtain ⟨hf, rfl, rfl⟩ := hx
        simp only [Option.some.injEq, Prod.mk.injEq] at h
        obtain ⟨rfl, rfl⟩ := h
        cases hf
        exact x.ok
      · exact (callY_ok hc r).yl b args H v H' h }
theorem callOKY {T : List (Entry Tryz.prog)} (l : List (FactY (ctx T))) : CallOK (ctx T) (callY l (callL (ctx T))) := callY_ok callOK l

/-! ### Rows of frames, rows of bools -/
def frs : List (Nat × Nat) → List AV
  | [] => []
  | p :: r => .int .i64 (p.1 : Int) :: .int .i64 (p.2 : Int) :: frs r
theorem pure_frs : ∀ (l : List (Nat × Nat)), pureL (frs l) = true
  | [] => rfl
  | p :: r => by simp only [frs, pureL, pureV, pure_frs r]; rfl
theorem sng_frs : ∀ (l : List (Nat × Nat)), allSingle (frs l) = true
  | [] => rfl
  | p :: r => by simp only [frs, allSingle, AV.single, sng_frs r]
theorem len_frs : ∀ (l : List (Nat × Nat)), (frs l).length = l.length * 2
  | [] => rfl
  | p :: r => by simp only [frs, List.length_cons, len_frs r]; omega
theorem frs_app : ∀ (l m : List (Nat × Nat)), frs (l ++ m) = frs l ++ frs m
  | [], m => rfl
  | p :: r, m => by simp only [List.cons_append, frs, frs_app r m]
theorem two_s (n : Nat) : (n + 1) * 2 = Nat.succ (Nat.succ (n * 2)) := by omega
theorem getFr0 {i j : Nat} {G : List (Nat × Nat)} : ∀ (pre : List (Nat × Nat)), getL (frs (pre ++ (i, j) :: G)) (pre.length * 2) = some (.int .i64 (i : Int))
  | [] => rfl
  | p :: r => by
    rw [List.length_cons, two_s]
    exact getFr0 r
theorem getFr1 {i j : Nat} {G : List (Nat × Nat)} : ∀ (pre : List (Nat × Nat)), getL (frs (pre ++ (i, j) :: G)) (pre.length * 2 + 1) = some (.int .i64 (j : Int))
  | [] => rfl
  | p :: r => by
    rw [List.length_cons, two_s]
    exact getFr1 r
theorem layFr {i j v : Nat} {G : List (Nat × Nat)} : ∀ (pre : List (Nat × Nat)), layL [.int .i64 (v : Int)] (pre.length * 2 + 1) (frs (pre ++ (i, j) :: G)) = some (frs (pre ++ (i, v) :: G))
  | [] => rfl
  | p :: r => by
    have h := layFr (i := i) (j := j) (v := v) (G := G) r
    rw [List.length_cons, two_s]
    show ((layL _ (r.length * 2 + 1) (frs (r ++ (i, j) :: G))).bind fun r' => some (_ :: r')).bind (fun r' => some (_ :: r')) = _
    rw [h]; rfl
theorem layApp {k : Nat} {g : Nat × Nat} {G : List (Nat × Nat)} : ∀ (l : List (Nat × Nat)), layL [.int .i64 (k : Int), .int .i64 0] (l.length * 2) (frs (l ++ g :: G)) = some (frs (l ++ (k, 0) :: G))
  | [] => rfl
  | p :: r => by
    have h := layApp (k := k) (g := g) (G := G) r
    rw [List.length_cons, two_s]
    show ((layL _ (r.length * 2) (frs (r ++ g :: G))).bind fun r' => some (_ :: r')).bind (fun r' => some (_ :: r')) = _
    rw [h]; rfl
theorem subFr (l : List (Nat × Nat)) : subL 0 (l.length * 2) (frs l) = some (frs l) := by
  show takeL _ _ = _
  rw [List.drop_zero, takeL_front (by rw [len_frs]; exact Nat.le_refl _), ← len_frs l, List.take_length]
def bls (s : List Bool) : List AV := s.map AV.bool
theorem pure_bls (s : List Bool) : pureL (bls s) = true := by
  unfold bls
  induction s with
  | nil => rfl
  | cons x r ih => simp only [List.map_cons, pureL, pureV, ih]; rfl
theorem getB {s : List Bool} {i : Nat} (h : i < s.length) : getL (bls s) i = some (.bool s[i]) := by simp [bls, getL_map h]
theorem layB : ∀ {s : List Bool} {i : Nat}, i < s.length → layL [.bool true] i (bls s) = some (bls (s.set i true))
  | [], i, h => absurd h (Nat.not_lt_zero i)
  | x :: r, 0, h => rfl
  | x :: r, i + 1, h => by
    show ((layL _ i (bls r)).bind fun r' => some (_ :: r')) = _
    rw [layB (s := r) (by simpa using h)]; rfl
theorem repl_bls : ∀ (n : Nat), replL [.bool false] n = bls (List.replicate n false)
  | 0 => rfl
  | n + 1 => by simp only [replL, repl_bls n, List.replicate_succ, bls, List.map_cons]; rfl
theorem msBool {n : Nat} (h : n ≤ 1000000) : msB Tryz.prog 100 (.int .i64 (n : Int)) (.int .i64 (n : Int)) = some (fun b => .slc b 0 n (.ex n), .cells (bls (List.replicate n false))) := by
  have h1 : idx (n : Int) 17592186044416 = some n := idx_nat (by omega)
  have h2 : idx (n : Int) (Nat.succ n) = some n := idx_nat (by omega)
  have hz : zeroOf Tryz.prog 4 = some (.bool false) := zeT4
  have hs : sizeT Tryz.prog 4 = some 1 := szT4
  have hb : bytesT Tryz.prog 4 = some 1 := byT4
  have h3 : roomOK n 1 = true := by simp [roomOK]; omega
  simp only [msB, Tryz.underlying100, Option.bind_some, hs, hb, h1, h2, h3, hz]
  simp [AV.cells, repl_bls]
theorem ixB {b n i : Nat} {cap : Cap} (h : i < n) : indexAddrA Tryz.prog 100 (.slc b 0 n cap) (.int .i64 (i : Int)) = some (.ptr b i) := by simp [indexAddrA, idx_nat h]
theorem ixF {b n i : Nat} {cap : Cap} (h : i < n) : indexAddrA Tryz.prog 156 (.slc b 0 n cap) (.int .i64 (i : Int)) = some (.ptr b (i * 2)) := by simp [indexAddrA, idx_nat h]

/-! ### The count -/
def cnt : Nat → Nat
  | 0 => 4607182418800017408
  | n + 1 => ((FloatKind.f64.format.add (cnt n) 4607182418800017408).getD 0)
def cntOK : Nat → Nat → Nat → Bool
  | 0, _, _ => true
  | n + 1, k, c => match FloatKind.f64.format.add c 4607182418800017408 with
    | some r => cntOK n (k + 1) r
    | none => false
theorem cntOK_spec : ∀ (n k c : Nat), c = cnt k → cntOK n k c = true → ∀ i, k ≤ i → i < k + n → FloatKind.f64.format.add (cnt i) 4607182418800017408 = some (cnt (i + 1))
  | 0, k, c, _, _, i, h1, h2 => by omega
  | n + 1, k, c, hc, h, i, h1, h2 => by
    unfold cntOK at h
    cases hr : FloatKind.f64.format.add c 4607182418800017408 with
    | none => rw [hr] at h; cases h
    | some r =>
      rw [hr] at h
      have hk : cnt (k + 1) = r := by show Option.getD _ 0 = r; rw [← hc, hr]; rfl
      by_cases hi : i = k
      · subst hi; rw [← hc, hr, hk]
      · exact cntOK_spec n (k + 1) r hk.symm h i (by omega) (by omega)
theorem cnt_add {i : Nat} (h : i < 120) : FloatKind.f64.format.add (cnt i) 4607182418800017408 = some (cnt (i + 1)) :=
  cntOK_spec 120 0 _ rfl (by decide +kernel) i (Nat.zero_le _) (by omega)
end Go.Proofs.YtmadcegoionpjaaGreatDoor
namespace Go.Proofs.YtmadcegoionpjaaGreatDoor
set_option linter.unusedSimpArgs false
set_option linter.unusedVariables false
open Go Go.RowKit
set_option maxRecDepth 100000

def stepV (node up : Int) (c : Nat) (left : Bool) : AV := .agg [.int .i64 node, .int .i64 up, .float .f64 c, .bool left]
/-- behind the first round, in the loop: the rows of the path, of those that are seen; the list; the range's record, the cell of the list, the tree's box -/
def hR (t : Tr) (LB : Blk) (m k : Nat) (f : List (Nat × Blk)) (L : List Int) : Heap := ⟨m, [f, [(k, .cells (ints L)), (2, LB), (1, .cells [.slc k 0 L.length (.rest 1)]), (0, .cells [aNodes t])]]⟩
def h0R (t : Tr) (LB : Blk) : Heap := ⟨3, [[], [(2, LB), (1, .cells [.nilS]), (0, .cells [aNodes t])]]⟩
def fR (P : List (Nat × Nat)) (s : List Bool) : List (Nat × Blk) := [(6, .cells (frs P)), (5, .cells (bls s))]
structure Rounds (T : List (Entry Tryz.prog)) (t : Tr) (LB : Blk) : Prop where
  fit : ∀ σ, lookN 0 σ = some 0 → lookN 1 σ = some 1 → fitB σ [] LB LB
  first : YieldAt (ctx T) 2 [stepV 0 (-1) 0 false] (h0R t LB) (.bool true) ⟨4, [[], [(3, .cells (ints [0])), (2, LB), (1, .cells [.slc 3 0 1 (.rest 1)]), (0, .cells [aNodes t])]]⟩
  leave : ∀ (m : Nat) (_ : m = 17) (P : List (Nat × Nat)) (s : List Bool) (L : List Int) (node up : Int) (c : Nat), L.length ≤ 1000000 → YieldAt (ctx T) 2 [stepV node up c true] (hR t LB m 4 (fR P s) L) (.bool true) (hR t LB m 4 (fR P s) L)
  enter : ∀ (m : Nat) (_ : m = 30) (P : List (Nat × Nat)) (s : List Bool) (L : List Int) (node up : Int) (c : Nat), L.length ≤ 1000000 → L ≠ [] → YieldAt (ctx T) 2 [stepV node up c false] (hR t LB m 4 (fR P s) L) (.bool true) (hR t LB (m + 1) m (fR P s) (L ++ [node]))
theorem fit_R {t : Tr} {LB : Blk} (hLB : ∀ σ, lookN 0 σ = some 0 → lookN 1 σ = some 1 → fitB σ [] LB LB) {m a b k : Nat} {f : List (Nat × Blk)} {P : List (Nat × Nat)} {s : List Bool} {L : List Int}
    (ha : getF a f = some (.cells (frs P))) (hb : getF b f = some (.cells (bls s))) (hk : getF k f = none) (h0 : getF 0 f = none) (h1 : getF 1 f = none) (h2 : getF 2 f = none)
    (a3 : 2 < a) (b3 : 2 < b) (k3 : 2 < k) (hab : a ≠ b) (hak : a ≠ k) (hbk : b ≠ k) :
    FitH 3 [(a, 6), (b, 5), (k, 4), (2, 2), (1, 1), (0, 0)] [] (hR t LB m k f L) (hR t LB 7 4 (fR P s) L) where
  nd1 := by simp; omega
  nd2 := by simp
  nd3 := by simp [hR, fR, Heap.ents]
  lt := by simp [hR]
  idn := by simp; omega
  num := by simp [hR]
  src := by
    intro e he
    simp [hR, fR, Heap.ents] at he
    rcases he with rfl | rfl | rfl | rfl | rfl | rfl
    · exact ⟨a, .cells (frs P), by simp, by simp [hR, Heap.get, getFs, ha], fitL_pure (pure_frs _)⟩
    · exact ⟨b, .cells (bls s), by simp, by simp [hR, Heap.get, getFs, hb], fitL_pure (pure_bls _)⟩
    · exact ⟨k, .cells (ints L), by simp, by simp [hR, Heap.get, getFs, hk, getF], fitL_pure (pure_ints _)⟩
    · refine ⟨2, LB, by simp, ?_, hLB _ ?_ ?_⟩
      · have : Nat.beq k 2 = false := beqN_ne (by omega)
        simp [hR, Heap.get, getFs, h2, getF, this]
      · have e1 : ¬ a = 0 := by omega
        have e2 : ¬ b = 0 := by omega
        have e3 : ¬ k = 0 := by omega
        simp [lookN, e1, e2, e3]
      · have e1 : ¬ a = 1 := by omega
        have e2 : ¬ b = 1 := by omega
        have e3 : ¬ k = 1 := by omega
        simp [lookN, e1, e2, e3]
    · refine ⟨1, .cells [.slc k 0 L.length (.rest 1)], by simp, ?_, ?_⟩
      · have : Nat.beq k 1 = false := beqN_ne (by omega)
        simp [hR, Heap.get, getFs, h1, getF, this]
      · simp [fitB, fitL, fitV, lookN, hak, hbk]
    · refine ⟨0, .cells [aNodes t], by simp, ?_, fitL_pure (by simp [pureL])⟩
      have : Nat.beq k 0 = false := beqN_ne (by omega)
      simp [hR, Heap.get, getFs, h0, getF, this]
  frz := fun x h => by cases h
theorem fit_end {t : Tr} {LB : Blk} (hLB : ∀ σ, lookN 0 σ = some 0 → lookN 1 σ = some 1 → fitB σ [] LB LB) {m : Nat} {f : List (Nat × Blk)} {L : List Int} (h4 : getF 4 f = none) (h0 : getF 0 f = none) (h1 : getF 1 f = none) (h2 : getF 2 f = none) :
    FitH 3 [(4, 3), (2, 2), (1, 1), (0, 0)] [] (hR t LB m 4 f L) ⟨4, [[(3, .cells (ints L)), (2, LB), (1, .cells [.slc 3 0 L.length (.rest 1)]), (0, .cells [aNodes t])]]⟩ where
  nd1 := by simp
  nd2 := by simp
  nd3 := by simp [Heap.ents]
  lt := by simp
  idn := by simp
  num := by simp
  src := by
    intro e he
    simp [Heap.ents] at he
    rcases he with rfl | rfl | rfl | rfl
    · exact ⟨4, .cells (ints L), by simp, by simp [hR, Heap.get, getFs, h4, getF], fitL_pure (pure_ints _)⟩
    · exact ⟨2, LB, by simp, by simp [hR, Heap.get, getFs, h2, getF], hLB _ (by simp [lookN]) (by simp [lookN])⟩
    · exact ⟨1, .cells [.slc 4 0 L.length (.rest 1)], by simp, by simp [hR, Heap.get, getFs, h1, getF], by simp [fitB, fitL, fitV, lookN]⟩
    · exact ⟨0, .cells [aNodes t], by simp, by simp [hR, Heap.get, getFs, h0, getF], fitL_pure (by simp [pureL])⟩
  frz := fun x h => by cases h
/-- the state of the loop: the path (its bottom first), what stands behind it in the row, the seen ones, the list, the count -/
structure Ls where
  P : List (Nat × Nat)
  G : List (Nat × Nat)
  cap : Cap
  s : List Bool
  a : List Int
  c : Nat
def unseen (s : List Bool) : Nat := s.countP fun x => !x
def sm : List (Nat × Nat) → Nat
  | [] => 0
  | p :: r => (1001 - p.2) + sm r
theorem sm_app : ∀ (l m : List (Nat × Nat)), sm (l ++ m) = sm l + sm m
  | [], m => by simp [sm]
  | p :: r, m => by simp only [List.cons_append, sm, sm_app r m]; omega
def cap1 (x : Ls) : Prop := x.cap = .rest 2 ∨ (x.cap = .ex 1 ∧ x.P.length + x.G.length = 1)
structure Lok (t : Tr) (x : Ls) : Prop where
  cap : cap1 x
  s : x.s.length = t.length
  a : x.a ≠ []
  r : Reach t.length (kidsOf t) ([(0, 0)], (List.replicate t.length false).set 0 true, [0]) (x.P.reverse, x.s, x.a)
  p : ∀ e, e ∈ x.P → e.1 < t.length ∧ e.2 ≤ 1000
  pu : x.P.length + unseen x.s ≤ t.length
  au : x.a.length + unseen x.s ≤ t.length
  cu : x.c + 2 * unseen x.s + x.P.length ≤ 2 * t.length
theorem bS1 {x : Int} : buildA Tryz.prog 122 [(1, .int .i64 x)] = some (.agg [.int .i64 0, .int .i64 x, .float .f64 0, .bool false]) := by kernel_rfl
theorem bS2 {x : Int} {c : Nat} {b : Bool} : buildA Tryz.prog 122 [(0, .int .i64 x), (2, .float .f64 c), (3, .bool b)] = some (.agg [.int .i64 x, .int .i64 0, .float .f64 c, .bool b]) := by kernel_rfl
theorem bS3 {x u : Int} {c : Nat} : buildA Tryz.prog 122 [(0, .int .i64 x), (1, .int .i64 u), (2, .float .f64 c)] = some (.agg [.int .i64 x, .int .i64 u, .float .f64 c, .bool false]) := by kernel_rfl
theorem bF0 : buildA Tryz.prog 155 [] = some (.agg [.int .i64 0, .int .i64 0]) := by kernel_rfl
theorem bF1 {x : Int} : buildA Tryz.prog 155 [(0, .int .i64 x)] = some (.agg [.int .i64 x, .int .i64 0]) := by kernel_rfl
theorem callY_hit {C : Ctx} {b : Nat} {args : List AV} {H H' : Heap} {v : AV} {ok : YieldAt C b args H v H'} {r : List (FactY C)} {call : CallE} : callY (⟨b, args, H, v, H', ok⟩ :: r) call (.yl b) args H = some (v, H') := by simp [callY]
theorem unseen_set : ∀ {s : List Bool} {i : Nat}, i < s.length → s.getD i true = false → unseen (s.set i true) + 1 = unseen s
  | [], i, h, _ => absurd h (Nat.not_lt_zero i)
  | x :: r, 0, h, hx => by
    have hx' : x = false := by simpa using hx
    subst hx'
    simp [unseen, List.countP_cons]
  | x :: r, i + 1, h, hx => by
    have := unseen_set (s := r) (i := i) (by simpa using h) (by simpa using hx)
    simp only [unseen, List.set_cons_succ, List.countP_cons] at this ⊢
    omega
theorem unseen_rep (n : Nat) : unseen (List.replicate n false) = n := by simp [unseen, List.countP_replicate]
theorem mkBool {H : Heap} {n : Nat} (h : n ≤ 1000000) : makeSliceA Tryz.prog H 100 (.int .i64 (n : Int)) (.int .i64 (n : Int)) = some (.slc H.n 0 n (.ex n), H.new (.cells (bls (List.replicate n false)))) := by
  unfold makeSliceA
  rw [msBool h]; rfl
theorem slPath {H : Heap} {cs : List AV} {q kn : Nat} {cap : Cap} (hb : H.get 6 = some (.cells cs)) (hl : cs.length = kn * 2) (hq : q + 1 ≤ kn) (hc : cap = .rest 2 ∨ (cap = .ex 1 ∧ kn = 1)) :
    sliceA Tryz.prog H 156 (.slc 6 0 (q + 1) cap) none (some (.int .i64 (q : Int))) none = some (.slc 6 0 q cap) := by
  have hs : sizeT Tryz.prog 155 = some 2 := szT155
  have hk : knownCells H 6 = some (kn * 2) := by simp [knownCells, hb, Blk.rd, hl]
  simp only [sliceA, hiOK, Tryz.underlying156, Option.bind_some, hs]
  have e2 : kn * 2 / 2 = kn := by omega
  rcases hc with rfl | ⟨rfl, rfl⟩
  · have hi1 : idx (q : Int) (Nat.succ kn) = some q := idx_nat (by omega)
    have hn : Nat.ble (kn * 2) 0 = false := by cases kn with
      | zero => omega
      | succ m => rfl
    simp only [sliceBlk, hk, Option.bind_some, bound, Nat.beq_refl, Nat.sub_zero, e2, hi1, Nat.zero_mul, hn, Nat.add_zero]
  · have hq0 : q = 0 := by omega
    subst hq0
    simp only [sliceBlk, hk, Option.bind_some]
    rfl
/-- the frames that the path's row lies in -/
def hP (n : Nat) (f0 : List (Nat × Blk)) (m : Int) (s : List Bool) (R : List AV) (top : List (Nat × Blk)) : Heap := ⟨n, [top ++ ((31, .cells [.int .i64 m, .int .i64 0]) :: ((6, .cells R) :: [(5, .cells (bls s))])), f0]⟩
theorem app0 {n : Nat} (h : n ≤ 1000) : roomOK (n + 1) 16 = true := by simp [roomOK]; omega
theorem appP1 {l G : List (Nat × Nat)} {g : Nat × Nat} {m : Nat} {s : List Bool} {f0 : List (Nat × Blk)} (hl : l.length ≤ 1000) :
    appendA Tryz.prog ⟨32, [[(31, .cells [.int .i64 (m : Int), .int .i64 0]), (6, .cells (frs (l ++ g :: G))), (5, .cells (bls s))], f0]⟩ 155 (.slc 6 0 l.length (.rest 2)) (.slc 31 0 1 (.ex 1)) =
      some (.slc 6 0 (l.length + 1) (.rest 2), ⟨32, [[(31, .cells [.int .i64 (m : Int), .int .i64 0]), (6, .cells (frs (l ++ (m, 0) :: G))), (5, .cells (bls s))], f0]⟩) := by
  have hs : sizeT Tryz.prog 155 = some 2 := szT155
  have hb : bytesT Tryz.prog 155 = some 16 := byT155
  have hz : zeroOf Tryz.prog 155 = some (.agg [.int .i64 0, .int .i64 0]) := zeT155
  have hble : Nat.ble (0 + (l.length + 1) * 2) (frs (l ++ g :: G)).length = true := by rw [len_frs]; simp; omega
  have hlay := layApp (k := m) (g := g) (G := G) l
  simp only [appendA, hs, hb, hz, Option.bind_some]
  simp [srcLen, srcCells, readCells, Heap.get, getFs, getF, Blk.rd, subL, takeL, AV.cells, app0 hl, allSingle, AV.single, knownCells]
  rw [show (Nat.ble ((l.length + 1) * 2) (frs (l ++ g :: G)).length) = true by simpa using hble]
  simp [writeCells, Heap.get, getFs, getF, Blk.wt, hlay, Heap.ready, refs, Heap.set, setFs, setF, Blk.re]
  rfl
theorem appP2 {l : List (Nat × Nat)} {m : Nat} {s : List Bool} {f0 : List (Nat × Blk)} (hl : l.length ≤ 1000) :
    appendA Tryz.prog ⟨32, [[(31, .cells [.int .i64 (m : Int), .int .i64 0]), (6, .cells (frs l)), (5, .cells (bls s))], f0]⟩ 155 (.slc 6 0 l.length (.rest 2)) (.slc 31 0 1 (.ex 1)) =
      some (.slc 32 0 (l.length + 1) (.rest 2), ⟨33, [[(32, .cells (frs (l ++ [(m, 0)]))), (31, .cells [.int .i64 (m : Int), .int .i64 0]), (5, .cells (bls s))], f0]⟩) := by
  have hs : sizeT Tryz.prog 155 = some 2 := szT155
  have hb : bytesT Tryz.prog 155 = some 16 := byT155
  have hz : zeroOf Tryz.prog 155 = some (.agg [.int .i64 0, .int .i64 0]) := zeT155
  have hble : Nat.ble ((l.length + 1) * 2) (frs l).length = false := by
    rw [len_frs]
    cases h : Nat.ble ((l.length + 1) * 2) (l.length * 2) with
    | false => rfl
    | true => have := Nat.le_of_ble_eq_true h; omega
  have hbeq : Nat.beq (l.length * 2) (frs l).length = true := by rw [len_frs]; exact Nat.beq_refl _
  have hsub : takeL (l.length * 2) (frs l) = some (frs l) := by have := subFr l; simpa [subL] using this
  simp only [appendA, hs, hb, hz, Option.bind_some]
  simp [srcLen, srcCells, readCells, Heap.get, getFs, getF, Blk.rd, subL, takeL, AV.cells, app0 hl, allSingle, AV.single, knownCells]
  rw [hble]
  simp [hbeq, hsub, goOn, Heap.drop, killFs, killF, getF, Heap.new, pushF, frs_app, frs]
  rfl
theorem appP3 {l : List (Nat × Nat)} {m : Nat} {s : List Bool} {f0 : List (Nat × Blk)} (hl : l.length = 1) :
    appendA Tryz.prog ⟨32, [[(31, .cells [.int .i64 (m : Int), .int .i64 0]), (6, .cells (frs l)), (5, .cells (bls s))], f0]⟩ 155 (.slc 6 0 l.length (.ex 1)) (.slc 31 0 1 (.ex 1)) =
      some (.slc 32 0 (l.length + 1) (.rest 2), ⟨33, [[(32, .cells (frs (l ++ [(m, 0)]))), (31, .cells [.int .i64 (m : Int), .int .i64 0]), (6, .cells (frs l)), (5, .cells (bls s))], f0]⟩) := by
  have hs : sizeT Tryz.prog 155 = some 2 := szT155
  have hb : bytesT Tryz.prog 155 = some 16 := byT155
  have hz : zeroOf Tryz.prog 155 = some (.agg [.int .i64 0, .int .i64 0]) := zeT155
  obtain ⟨p, rfl⟩ := List.length_eq_one_iff.1 hl
  simp only [appendA, hs, hb, hz, Option.bind_some]
  rfl
theorem FitH.eqL {n : Nat} {σ : List (Nat × Nat)} {Φ : List (Nat × List AV)} {H1 H2 H' : Heap} (h : H1 = H2) (f : FitH n σ Φ H2 H') : FitH n σ Φ H1 H' := h ▸ f
theorem cnt_bin {c : Nat} (h : c < 120) : binA Tryz.prog .add 120 (.float .f64 (cnt c)) (.float .f64 4607182418800017408) = some (.float .f64 (cnt (c + 1))) := by
  simp [binA, floatOp, cnt_add h]
theorem sub_one {q : Nat} (h : q ≤ 1000000000) : wr .i64 (((q + 1 : Nat) : Int) - 1) = some (q : Int) := by
  rw [wr_small (by omega) (by omega)]; simp
theorem c126 {T : List (Entry Tryz.prog)} (t : Tr) (hn : t.length ≤ 50) (hpos : 0 < t.length) (hkd : ∀ x, x ∈ t → x.kids.length ≤ 1000) (LB : Blk) (hR0 : Rounds T t LB) :
    CallAt (ctx T) 126 [.yld 2, .fptr [aNodes t] 0] ⟨3, [[(2, LB), (1, .cells [.nilS]), (0, .cells [aNodes t])]]⟩ (.tup [])
      ⟨4, [[(3, .cells (ints (orderOf t.length (kidsOf t)))), (2, LB), (1, .cells [.slc 3 0 (orderOf t.length (kidsOf t)).length (.rest 1)]), (0, .cells [aNodes t])]]⟩ := by
  have h1 := hR0.first
  simp only [h0R, stepV] at h1
  refine callAt_body (fn := Tryz.f126) (s0 := ⟨[0, 1, 3, 4, 5, 6, 7, 8, 9], [.yld 2, .fptr [aNodes t] 0, .undef, .undef, .undef, .undef, .undef, .undef, .undef], [], 118, ⟨3, [] :: [[(2, LB), (1, .cells [.nilS]), (0, .cells [aNodes t])]]⟩⟩) Tryz.func126 rfl rfl rfl ?_
  repeat refine wps_seq ?_
  refine wps_region (callOKY [⟨2, _, _, _, _, h1⟩]) ?_
  simp [ofV, ofV1, mkC_P, writeVar, writeCells, readCells, allSingle, AV.single, getFs, getF, setFs, setF, Heap.get, Heap.set, Heap.new, Heap.kill, killF, pushF, Heap.ready, refs, sliceParts, fillA, replL, lenN, bS1, callY_hit, (show ¬ t.length = 0 by omega)]
  repeat refine wps_seq ?_
  refine wps_cond (t := false) rfl (fun h => by cases h) fun _ => ?_
  repeat refine wps_seq ?_
  refine wps_skip ?_
  simp
  repeat refine wps_seq ?_
  refine wps_region callOK ?_
  simp [ofV, ofV1, mkC_P, writeVar, writeCells, readCells, allSingle, AV.single, getFs, getF, setFs, setF, Heap.get, Heap.set, Heap.new, Heap.kill, killF, pushF, Heap.ready, refs, sliceParts, fillA, replL, lenN, mkBool (show t.length ≤ 1000000 by omega)]
  have ix0 : ∀ b cap, indexAddrA Tryz.prog 100 (.slc b 0 t.length cap) (.int .i64 0) = some (.ptr b 0) := fun b cap => by simpa using ixB (b := b) (cap := cap) hpos
  have ly0 : layL [.bool true] 0 (bls (List.replicate t.length false)) = some (bls ((List.replicate t.length false).set 0 true)) := layB (by simpa using hpos)
  repeat refine wps_seq ?_
  refine wps_region callOK ?_
  simp [ofV, ofV1, mkC_P, writeVar, writeCells, readCells, allSingle, AV.single, getFs, getF, setFs, setF, Heap.get, Heap.set, Heap.new, Heap.kill, killF, pushF, Heap.ready, refs, sliceParts, fillA, replL, ix0, ly0]
  repeat refine wps_seq ?_
  refine wps_region callOK ?_
  simp [ofV, ofV1, mkC_P, writeVar, writeCells, readCells, allSingle, AV.single, getFs, getF, setFs, setF, Heap.get, Heap.set, Heap.new, Heap.kill, killF, pushF, Heap.ready, refs, sliceParts, fillA, replL]
  repeat refine wps_seq ?_
  refine wps_region callOK ?_
  simp [ofV, ofV1, mkC_P, writeVar, writeCells, readCells, allSingle, AV.single, getFs, getF, setFs, setF, Heap.get, Heap.set, Heap.new, Heap.kill, killF, pushF, Heap.ready, refs, sliceParts, fillA, replL, bF0]
  have hu0 := unseen_set (s := List.replicate t.length false) (i := 0) (by simpa using hpos) (by simp [List.getD_eq_getElem?_getD, hpos])
  rw [unseen_rep] at hu0
  repeat refine wps_seq ?_
  refine wps_block (wps_loop' (fun x : Ls => (⟨[0, 1, 3, 4, 5, 6, 7, 8, 9], [.yld 2, .fptr [aNodes t] 0, .slc 5 0 t.length (.ex t.length), .float .f64 (cnt x.c), .slc 6 0 x.P.length x.cap, .undef, .undef, .undef, .undef], [], 118, hR t LB 7 4 (fR (x.P ++ x.G) x.s) x.a⟩ : St))
    (Lok t) (fun x => unseen x.s * 1002 + sm x.P) [(5, 6), (4, 5), (3, 4), (2, 2), (1, 1), (0, 0)] [] ⟨[(0, 0)], [], .ex 1, (List.replicate t.length false).set 0 true, [0], 0⟩
    ⟨.inr ⟨rfl, rfl⟩, by simp, by simp, .refl _, by simp; omega, by simp; omega, by simp; omega, by simp; omega⟩
    ⟨rfl, rfl, rfl, by simp [fitL, fitV, lookN, pureV, pureL, cnt], fit_R (t := t) (LB := LB) hR0.fit (m := 6) (a := 5) (b := 4) (k := 3) (P := [(0, 0)]) (s := (List.replicate t.length false).set 0 true) (L := [0]) (f := [(5, .cells [.int .i64 0, .int .i64 0]), (4, .cells (bls ((List.replicate t.length false).set 0 true)))]) rfl rfl rfl rfl rfl rfl (by omega) (by omega) (by omega) (by omega) (by omega) (by omega)⟩ ?_)
  rintro ⟨P, G, cap, s, a, c⟩ hx B hB
  have hcap := hx.cap
  have hs := hx.s
  have ha := hx.a
  have hr := hx.r
  have hpp := hx.p
  have hpu := hx.pu
  have hau := hx.au
  have hcu := hx.cu
  simp only [cap1] at hcap hs ha hr hpp hpu hau hcu
  rcases List.eq_nil_or_concat P with rfl | ⟨pre, ⟨i, j⟩, rfl⟩
  · repeat refine wps_seq ?_
    refine wps_region callOK ?_
    simp [ofV, ofV1, mkC_P, writeVar, writeCells, readCells, allSingle, AV.single, getFs, getF, setFs, setF, Heap.get, Heap.set, Heap.new, Heap.kill, killF, pushF, Heap.ready, refs, sliceParts, fillA, replL, hR, fR, lenA]
    repeat refine wps_seq ?_
    refine wps_cond (t := false) rfl (fun h => by cases h) fun _ => ?_
    repeat refine wps_seq ?_
    refine wps_exit ?_
    simp
    have hae : a = orderOf t.length (kidsOf t) := order_end hpos hr
    rw [← hae]
    exact ⟨[], rfl, [(4, 3), (2, 2), (1, 1), (0, 0)], [], by simp [oneOr, fitV, fitL], fit_end (t := t) (LB := LB) hR0.fit (m := 7) (f := fR G s) (L := a) rfl rfl rfl rfl⟩
  · have hij := hpp (i, j) (by simp)
    have hi : i < t.length := hij.1
    have hj : j ≤ 1000 := hij.2
    simp only [List.concat_eq_append, List.length_append, List.length_singleton] at hcap hpu hcu
    have hpl : pre.length ≤ 1000 := by omega
    have hw : wr .i64 (pre.length : Int) = some (pre.length : Int) := wr_small (by omega) (by omega)
    repeat refine wps_seq ?_
    refine wps_region callOK ?_
    simp [ofV, ofV1, mkC_P, writeVar, writeCells, readCells, allSingle, AV.single, getFs, getF, setFs, setF, Heap.get, Heap.set, Heap.new, Heap.kill, killF, pushF, Heap.ready, refs, sliceParts, fillA, replL, hR, fR, lenA]
    repeat refine wps_seq ?_
    refine wps_cond rfl (fun h => ?_) fun h => ?_
    · repeat refine wps_seq ?_
      refine wps_skip ?_
      simp
      repeat refine wps_seq ?_
      refine wps_block ?_
      repeat refine wps_seq ?_
      refine wps_region callOK ?_
      simp [ofV, ofV1, mkC_P, writeVar, writeCells, readCells, allSingle, AV.single, getFs, getF, setFs, setF, Heap.get, Heap.set, Heap.new, Heap.kill, killF, pushF, Heap.ready, refs, sliceParts, fillA, replL, lenA, hw, ixF (show pre.length < pre.length + 1 by omega)]
      repeat refine wps_seq ?_
      refine wps_drawn mixed callOK (by decide +kernel) fun B_ hB_ => ?_
      simp [ofV, ofV1, mkC_P, writeVar, writeCells, readCells, allSingle, AV.single, getFs, getF, setFs, setF, Heap.get, Heap.set, Heap.new, Heap.kill, killF, pushF, Heap.ready, refs, sliceParts, fillA, replL, mkBlk, guardA, evalD, stepD, clsOf, reserve, freshenAll, sameRecs, sameAll, sameAt, allPend, Heap.lay, ontoF, wantedBy, unwantedBy, getFr0, atN hi, Nd.cs, kidsOf_at hi]
      repeat refine wps_seq ?_
      refine wps_region callOK ?_
      simp [ofV, ofV1, mkC_P, writeVar, writeCells, readCells, allSingle, AV.single, getFs, getF, setFs, setF, Heap.get, Heap.set, Heap.new, Heap.kill, killF, pushF, Heap.ready, refs, sliceParts, fillA, replL, getFr1, lenI]
      simp only [List.concat_eq_append, List.reverse_append, List.reverse_cons, List.reverse_nil, List.nil_append, List.singleton_append] at hr
      by_cases hjk : j < (kidsOf t i).length
      · obtain ⟨k, hkj⟩ : ∃ k, k = (kidsOf t i)[j] := ⟨_, rfl⟩
        have hk? : (kidsOf t i)[j]? = some k := by rw [List.getElem?_eq_getElem hjk, hkj]
        have hkl : (kidsOf t i).length ≤ 1000 := by rw [← kidsOf_at hi]; exact hkd _ (List.getElem_mem hi)
        repeat refine wps_seq ?_
        refine wps_cond (t := false) (by simp [opnd, St.get]; omega) (fun h => by cases h) fun _ => ?_
        repeat refine wps_seq ?_
        refine wps_skip ?_
        simp
        repeat refine wps_seq ?_
        refine wps_drawn mixed callOK (by decide +kernel) fun B_ hB_ => ?_
        simp [ofV, ofV1, mkC_P, writeVar, writeCells, readCells, allSingle, AV.single, getFs, getF, setFs, setF, Heap.get, Heap.set, Heap.new, Heap.kill, killF, pushF, Heap.ready, refs, sliceParts, fillA, replL, mkBlk, guardA, evalD, stepD, clsOf, reserve, freshenAll, sameRecs, sameAll, sameAt, allPend, Heap.lay, ontoF, wantedBy, unwantedBy, getFr0, getFr1, atI hjk, ← hkj]
        have hly : layL [.int .i64 ((j : Int) + 1)] (pre.length * 2 + 1) (frs (pre ++ (i, j) :: G)) = some (frs (pre ++ (i, j + 1) :: G)) := by simpa using layFr (i := i) (j := j) (v := j + 1) (G := G) pre
        repeat refine wps_seq ?_
        refine wps_region callOK ?_
        simp [ofV, ofV1, mkC_P, writeVar, writeCells, readCells, allSingle, AV.single, getFs, getF, setFs, setF, Heap.get, Heap.set, Heap.new, Heap.kill, killF, pushF, Heap.ready, refs, sliceParts, fillA, replL, getFr1, add_one (show j ≤ 1000000000 by omega), hly]
        have skipit : ∀ (hst : stp t.length (kidsOf t) ((i, j) :: pre.reverse, s, a) = some ((i, j + 1) :: pre.reverse, s, a)), Lok t ⟨pre ++ [(i, j + 1)], G, cap, s, a, c⟩ := fun hst =>
          ⟨by simpa [cap1] using hcap, hs, ha, by simpa using hr.one hst, fun e he => by
            rcases List.mem_append.1 he with he | he
            · exact hpp e (by simp [he])
            · simp at he; subst he; exact ⟨hi, by omega⟩, by simpa using hpu, hau, by simpa using hcu⟩
        by_cases h0 : k < 0
        · have hst : stp t.length (kidsOf t) ((i, j) :: pre.reverse, s, a) = some ((i, j + 1) :: pre.reverse, s, a) := by
            simp only [stp, hk?]; rw [if_neg (fun hx => by omega)]
          repeat refine wps_seq ?_
          refine wps_region callOK ?_
          simp [ofV, ofV1, mkC_P, writeVar, writeCells, readCells, allSingle, AV.single, getFs, getF, setFs, setF, Heap.get, Heap.set, Heap.new, Heap.kill, killF, pushF, Heap.ready, refs, sliceParts, fillA, replL, h0]
          repeat refine wps_seq ?_
          refine wps_cond (t := true) rfl (fun _ => ?_) fun h => by cases h
          repeat refine wps_seq ?_
          refine wps_exit ?_
          simp
          exact hB _ ⟨pre ++ [(i, j + 1)], G, cap, s, a, c⟩ (by simp only [List.concat_eq_append, sm_app, sm]; omega) (skipit hst) ⟨[(6, 6), (5, 5), (4, 4), (2, 2), (1, 1), (0, 0)], [], rfl, rfl, rfl, by simp [fitL, fitV, lookN, pureV, pureL], fit_R (t := t) (LB := LB) hR0.fit (m := 30) (a := 6) (b := 5) (k := 4) (P := pre ++ [(i, j + 1)] ++ G) (s := s) (L := a) (f := [(6, .cells (frs (pre ++ (i, j + 1) :: G))), (5, .cells (bls s))]) (by simp [getF]) rfl rfl rfl rfl rfl (by omega) (by omega) (by omega) (by omega) (by omega) (by omega)⟩
        · obtain ⟨m, rfl⟩ := Int.eq_ofNat_of_zero_le (show 0 ≤ k by omega)
          by_cases h1 : m < t.length
          · have h1' : ¬ t.length ≤ m := by omega
            by_cases h2 : s.getD m true = false
            · have h2' : s[m]'(by omega) = false := by rw [List.getD_eq_getElem?_getD, List.getElem?_eq_getElem (by omega), Option.getD_some] at h2; exact h2
              repeat refine wps_seq ?_
              refine wps_region callOK ?_
              simp [ofV, ofV1, mkC_P, writeVar, writeCells, readCells, allSingle, AV.single, getFs, getF, setFs, setF, Heap.get, Heap.set, Heap.new, Heap.kill, killF, pushF, Heap.ready, refs, sliceParts, fillA, replL, lenN, (show ¬ ((m : Int) < 0) by omega), h1', ixB h1, getB (show m < s.length by omega), h2']
              repeat refine wps_seq ?_
              refine wps_cond (t := false) rfl (fun h => by cases h) fun _ => ?_
              repeat refine wps_seq ?_
              refine wps_skip ?_
              simp
              have hlb := layB (s := s) (i := m) (by omega)
              repeat refine wps_seq ?_
              refine wps_region callOK ?_
              simp [ofV, ofV1, mkC_P, writeVar, writeCells, readCells, allSingle, AV.single, getFs, getF, setFs, setF, Heap.get, Heap.set, Heap.new, Heap.kill, killF, pushF, Heap.ready, refs, sliceParts, fillA, replL, ixB h1, hlb]
              have hy := hR0.enter 30 (by omega) (pre ++ (i, j + 1) :: G) (s.set m true) a m i (cnt c) (by omega) ha
              simp only [hR, fR, stepV] at hy
              repeat refine wps_seq ?_
              refine wps_region (callOKY [⟨2, _, _, _, _, hy⟩]) ?_
              simp [ofV, ofV1, mkC_P, writeVar, writeCells, readCells, allSingle, AV.single, getFs, getF, setFs, setF, Heap.get, Heap.set, Heap.new, Heap.kill, killF, pushF, Heap.ready, refs, sliceParts, fillA, replL, bS3, callY_hit]
              repeat refine wps_seq ?_
              refine wps_cond (t := false) rfl (fun h => by cases h) fun _ => ?_
              repeat refine wps_seq ?_
              refine wps_skip ?_
              simp
              repeat refine wps_seq ?_
              refine wps_region callOK ?_
              simp [ofV, ofV1, mkC_P, writeVar, writeCells, readCells, allSingle, AV.single, getFs, getF, setFs, setF, Heap.get, Heap.set, Heap.new, Heap.kill, killF, pushF, Heap.ready, refs, sliceParts, fillA, replL, cnt_bin (show c < 120 by omega)]
              have hus := unseen_set (s := s) (i := m) (by omega) h2
              have hst : stp t.length (kidsOf t) ((i, j) :: pre.reverse, s, a) = some ((m, 0) :: (i, j + 1) :: pre.reverse, s.set m true, a ++ [(m : Int)]) := by
                simp only [stp, hk?]
                rw [if_pos ⟨by omega, by omega, by simpa using h2⟩]
                simp
              have hok : ∀ G' cap', (cap' = .rest 2) → Lok t ⟨pre ++ [(i, j + 1)] ++ [(m, 0)], G', cap', s.set m true, a ++ [(m : Int)], c + 1⟩ := fun G' cap' hc' =>
                ⟨.inl hc', by simp [hs], by simp, by simpa using hr.one hst, fun e he => by
                  simp only [List.mem_append, List.mem_singleton] at he
                  rcases he with (he | he) | he
                  · exact hpp e (by simp [he])
                  · subst he; exact ⟨hi, by omega⟩
                  · subst he; exact ⟨h1, Nat.zero_le _⟩, by simp; omega, by simp; omega, by simp; omega⟩
              have hme : unseen (s.set m true) * 1002 + sm (pre ++ [(i, j + 1)] ++ [(m, 0)]) < unseen s * 1002 + sm (pre.concat (i, j)) := by
                simp only [List.concat_eq_append, sm_app, sm]; omega
              have hcap2 : cap = .rest 2 ∨ (cap = .ex 1 ∧ pre.length + 1 + G.length = 1) := hcap
              rcases hcap2 with hc | ⟨hc, hc1⟩
              · subst hc
                cases G with
                | cons g G' =>
                  have hap := appP1 (l := pre ++ [(i, j + 1)]) (G := G') (g := g) (m := m) (s := s.set m true) (f0 := [(30, .cells (ints (a ++ [(m : Int)]))), (2, LB), (1, .cells [.slc 30 0 (a.length + 1) (.rest 1)]), (0, .cells [aNodes t])]) (by simp; omega)
                  simp only [List.length_append, List.length_singleton, List.append_assoc, List.singleton_append] at hap
                  repeat refine wps_seq ?_
                  refine wps_region callOK ?_
                  simp [ofV, ofV1, mkC_P, writeVar, writeCells, readCells, allSingle, AV.single, getFs, getF, setFs, setF, Heap.get, Heap.set, Heap.new, Heap.kill, killF, pushF, Heap.ready, refs, sliceParts, fillA, replL, bF1, hap]
                  exact hB _ ⟨pre ++ [(i, j + 1)] ++ [(m, 0)], G', .rest 2, s.set m true, a ++ [(m : Int)], c + 1⟩ hme (hok _ _ rfl) ⟨[(6, 6), (5, 5), (30, 4), (2, 2), (1, 1), (0, 0)], [], rfl, rfl, rfl, by simp [fitL, fitV, lookN, pureV, pureL], FitH.eqL (by simp [hR]) (fit_R (t := t) (LB := LB) hR0.fit (m := 32) (a := 6) (b := 5) (k := 30) (P := pre ++ [(i, j + 1)] ++ [(m, 0)] ++ G') (s := s.set m true) (L := a ++ [(m : Int)]) (f := [(31, .cells [.int .i64 (m : Int), .int .i64 0]), (6, .cells (frs (pre ++ (i, j + 1) :: (m, 0) :: G'))), (5, .cells (bls (s.set m true)))]) (by simp [getF]) rfl rfl rfl rfl rfl (by omega) (by omega) (by omega) (by omega) (by omega) (by omega))⟩
                | nil =>
                  have hap := appP2 (l := pre ++ [(i, j + 1)]) (m := m) (s := s.set m true) (f0 := [(30, .cells (ints (a ++ [(m : Int)]))), (2, LB), (1, .cells [.slc 30 0 (a.length + 1) (.rest 1)]), (0, .cells [aNodes t])]) (by simp; omega)
                  simp only [List.length_append, List.length_singleton, List.append_assoc, List.singleton_append] at hap
                  repeat refine wps_seq ?_
                  refine wps_region callOK ?_
                  simp [ofV, ofV1, mkC_P, writeVar, writeCells, readCells, allSingle, AV.single, getFs, getF, setFs, setF, Heap.get, Heap.set, Heap.new, Heap.kill, killF, pushF, Heap.ready, refs, sliceParts, fillA, replL, bF1, hap]
                  exact hB _ ⟨pre ++ [(i, j + 1)] ++ [(m, 0)], [], .rest 2, s.set m true, a ++ [(m : Int)], c + 1⟩ hme (hok _ _ rfl) ⟨[(32, 6), (5, 5), (30, 4), (2, 2), (1, 1), (0, 0)], [], rfl, rfl, rfl, by simp [fitL, fitV, lookN, pureV, pureL], FitH.eqL (by simp [hR]) (fit_R (t := t) (LB := LB) hR0.fit (m := 33) (a := 32) (b := 5) (k := 30) (P := pre ++ [(i, j + 1)] ++ [(m, 0)] ++ []) (s := s.set m true) (L := a ++ [(m : Int)]) (f := [(32, .cells (frs (pre ++ [(i, j + 1), (m, 0)]))), (31, .cells [.int .i64 (m : Int), .int .i64 0]), (5, .cells (bls (s.set m true)))]) (by simp [getF]) rfl rfl rfl rfl rfl (by omega) (by omega) (by omega) (by omega) (by omega) (by omega))⟩
              · have hG : G = [] := List.length_eq_zero_iff.1 (by omega)
                have hpre : pre = [] := List.length_eq_zero_iff.1 (by omega)
                subst hc hG hpre
                have hap := appP3 (l := [(i, j + 1)]) (m := m) (s := s.set m true) (f0 := [(30, .cells (ints (a ++ [(m : Int)]))), (2, LB), (1, .cells [.slc 30 0 (a.length + 1) (.rest 1)]), (0, .cells [aNodes t])]) rfl
                simp only [List.length_append, List.length_singleton, List.append_assoc, List.singleton_append] at hap
                repeat refine wps_seq ?_
                refine wps_region callOK ?_
                simp [ofV, ofV1, mkC_P, writeVar, writeCells, readCells, allSingle, AV.single, getFs, getF, setFs, setF, Heap.get, Heap.set, Heap.new, Heap.kill, killF, pushF, Heap.ready, refs, sliceParts, fillA, replL, bF1, hap]
                exact hB _ ⟨[] ++ [(i, j + 1)] ++ [(m, 0)], [], .rest 2, s.set m true, a ++ [(m : Int)], c + 1⟩ hme (hok _ _ rfl) ⟨[(32, 6), (5, 5), (30, 4), (2, 2), (1, 1), (0, 0)], [], rfl, rfl, rfl, by simp [fitL, fitV, lookN, pureV, pureL], FitH.eqL (by simp [hR]) (fit_R (t := t) (LB := LB) hR0.fit (m := 33) (a := 32) (b := 5) (k := 30) (P := [] ++ [(i, j + 1)] ++ [(m, 0)] ++ []) (s := s.set m true) (L := a ++ [(m : Int)]) (f := [(32, .cells (frs [(i, j + 1), (m, 0)])), (31, .cells [.int .i64 (m : Int), .int .i64 0]), (6, .cells (frs [(i, j + 1)])), (5, .cells (bls (s.set m true)))]) (by simp [getF]) rfl rfl rfl rfl rfl (by omega) (by omega) (by omega) (by omega) (by omega) (by omega))⟩
            · have h2s : s.getD m true = true := by cases hh : s.getD m true with
                | true => rfl
                | false => exact absurd hh h2
              have h2' : s[m]'(by omega) = true := by rw [List.getD_eq_getElem?_getD, List.getElem?_eq_getElem (by omega), Option.getD_some] at h2s; exact h2s
              have hst : stp t.length (kidsOf t) ((i, j) :: pre.reverse, s, a) = some ((i, j + 1) :: pre.reverse, s, a) := by
                simp only [stp, hk?]; rw [if_neg (fun hx => h2 (by simpa using hx.2.2))]
              repeat refine wps_seq ?_
              refine wps_region callOK ?_
              simp [ofV, ofV1, mkC_P, writeVar, writeCells, readCells, allSingle, AV.single, getFs, getF, setFs, setF, Heap.get, Heap.set, Heap.new, Heap.kill, killF, pushF, Heap.ready, refs, sliceParts, fillA, replL, lenN, (show ¬ ((m : Int) < 0) by omega), h1', ixB h1, getB (show m < s.length by omega), h2']
              repeat refine wps_seq ?_
              refine wps_cond (t := true) rfl (fun _ => ?_) fun h => by cases h
              repeat refine wps_seq ?_
              refine wps_exit ?_
              simp
              exact hB _ ⟨pre ++ [(i, j + 1)], G, cap, s, a, c⟩ (by simp only [List.concat_eq_append, sm_app, sm]; omega) (skipit hst) ⟨[(6, 6), (5, 5), (4, 4), (2, 2), (1, 1), (0, 0)], [], rfl, rfl, rfl, by simp [fitL, fitV, lookN, pureV, pureL], fit_R (t := t) (LB := LB) hR0.fit (m := 30) (a := 6) (b := 5) (k := 4) (P := pre ++ [(i, j + 1)] ++ G) (s := s) (L := a) (f := [(6, .cells (frs (pre ++ (i, j + 1) :: G))), (5, .cells (bls s))]) (by simp [getF]) rfl rfl rfl rfl rfl (by omega) (by omega) (by omega) (by omega) (by omega) (by omega)⟩
          · have h1' : t.length ≤ m := by omega
            have hst : stp t.length (kidsOf t) ((i, j) :: pre.reverse, s, a) = some ((i, j + 1) :: pre.reverse, s, a) := by
              simp only [stp, hk?]; rw [if_neg (fun hx => by omega)]
            repeat refine wps_seq ?_
            refine wps_region callOK ?_
            simp [ofV, ofV1, mkC_P, writeVar, writeCells, readCells, allSingle, AV.single, getFs, getF, setFs, setF, Heap.get, Heap.set, Heap.new, Heap.kill, killF, pushF, Heap.ready, refs, sliceParts, fillA, replL, lenN, (show ¬ ((m : Int) < 0) by omega), h1']
            repeat refine wps_seq ?_
            refine wps_cond (t := true) rfl (fun _ => ?_) fun h => by cases h
            repeat refine wps_seq ?_
            refine wps_exit ?_
            simp
            exact hB _ ⟨pre ++ [(i, j + 1)], G, cap, s, a, c⟩ (by simp only [List.concat_eq_append, sm_app, sm]; omega) (skipit hst) ⟨[(6, 6), (5, 5), (4, 4), (2, 2), (1, 1), (0, 0)], [], rfl, rfl, rfl, by simp [fitL, fitV, lookN, pureV, pureL], fit_R (t := t) (LB := LB) hR0.fit (m := 30) (a := 6) (b := 5) (k := 4) (P := pre ++ [(i, j + 1)] ++ G) (s := s) (L := a) (f := [(6, .cells (frs (pre ++ (i, j + 1) :: G))), (5, .cells (bls s))]) (by simp [getF]) rfl rfl rfl rfl rfl (by omega) (by omega) (by omega) (by omega) (by omega) (by omega)⟩
      · have hy := hR0.leave 17 (by omega) (pre ++ (i, j) :: G) s a i 0 (cnt c) (by omega)
        simp only [hR, fR, stepV] at hy
        repeat refine wps_seq ?_
        refine wps_cond (t := true) (by simp [opnd, St.get]; omega) (fun _ => ?_) fun h => by cases h
        repeat refine wps_seq ?_
        refine wps_region (callOKY [⟨2, _, _, _, _, hy⟩]) ?_
        simp [ofV, ofV1, mkC_P, writeVar, writeCells, readCells, allSingle, AV.single, getFs, getF, setFs, setF, Heap.get, Heap.set, Heap.new, Heap.kill, killF, pushF, Heap.ready, refs, sliceParts, fillA, replL, getFr0, bS2, callY_hit]
        repeat refine wps_seq ?_
        refine wps_cond (t := false) rfl (fun h => by cases h) fun _ => ?_
        repeat refine wps_seq ?_
        refine wps_skip ?_
        simp
        have hc2 : cap = .rest 2 ∨ (cap = .ex 1 ∧ pre.length + 1 + G.length = 1) := hcap
        have hsl : ∀ m, sliceA Tryz.prog ⟨m, [[(6, .cells (frs (pre ++ (i, j) :: G))), (5, .cells (bls s))], [(4, .cells (ints a)), (2, LB), (1, .cells [.slc 4 0 a.length (.rest 1)]), (0, .cells [aNodes t])]]⟩ 156 (.slc 6 0 (pre.length + 1) cap) none (some (.int .i64 (pre.length : Int))) none = some (.slc 6 0 pre.length cap) := fun m =>
          slPath (cs := frs (pre ++ (i, j) :: G)) (kn := pre.length + 1 + G.length) (by simp [Heap.get, getFs, getF]) (by rw [len_frs]; simp; omega) (by omega) hc2
        repeat refine wps_seq ?_
        refine wps_region callOK ?_
        simp [ofV, ofV1, mkC_P, writeVar, writeCells, readCells, allSingle, AV.single, getFs, getF, setFs, setF, Heap.get, Heap.set, Heap.new, Heap.kill, killF, pushF, Heap.ready, refs, sliceParts, fillA, replL, lenA, hw, opndO, hsl]
        repeat refine wps_seq ?_
        refine wps_region callOK ?_
        simp [ofV, ofV1, mkC_P, writeVar, writeCells, readCells, allSingle, AV.single, getFs, getF, setFs, setF, Heap.get, Heap.set, Heap.new, Heap.kill, killF, pushF, Heap.ready, refs, sliceParts, fillA, replL, cnt_bin (show c < 120 by omega)]
        repeat refine wps_seq ?_
        refine wps_exit ?_
        simp
        refine hB _ ⟨pre, (i, j) :: G, cap, s, a, c + 1⟩ ?_ ⟨?_, hs, ha, ?_, fun e he => hpp e (by simp [he]), by simp only; omega, hau, by simp only; omega⟩ ⟨[(6, 6), (5, 5), (4, 4), (2, 2), (1, 1), (0, 0)], [], rfl, rfl, rfl, by simp [fitL, fitV, lookN, pureV, pureL], fit_R (t := t) (LB := LB) hR0.fit (m := 17) (a := 6) (b := 5) (k := 4) (P := pre ++ (i, j) :: G) (s := s) (L := a) (f := fR (pre ++ (i, j) :: G) s) rfl rfl rfl rfl rfl rfl (by omega) (by omega) (by omega) (by omega) (by omega) (by omega)⟩
        · simp only [List.concat_eq_append, sm_app, sm]; omega
        · simp only [cap1, List.length_cons]; rcases hc2 with h | ⟨h, h'⟩
          · exact .inl h
          · exact .inr ⟨h, by omega⟩
        · refine hr.one ?_
          have : (kidsOf t i)[j]? = none := List.getElem?_eq_none (by omega)
          simp [stp, this]
    · simp at h
end Go.Proofs.YtmadcegoionpjaaGreatDoor
