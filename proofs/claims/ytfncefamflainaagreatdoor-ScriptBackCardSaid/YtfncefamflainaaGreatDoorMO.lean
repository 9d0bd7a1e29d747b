/- What a line does to a policy, among other rows. No condition. -/
import Derived.Test.YtfncefamflainaaGreatDoorMJ
import Derived.Test.YtfncefamflainaaGreatDoorMN
import Derived.Test.YtfncefamflainaaGreatDoorMK
namespace Go.Proofs.YtfncefamflainaaGreatDoor
set_option linter.unusedSimpArgs false
set_option linter.unusedVariables false
open Go Go.RowKit
set_option maxRecDepth 100000
section
variable {ρ ρ' : Place} {H H' : Heap} {w w' : World} {b : Nat} {k k' : Blk}
end
theorem fitL_app {σ : List (Nat × Nat)} {Φ : List (Nat × List AV)} : ∀ {a a' b b' : List AV}, fitL σ Φ a a' → fitL σ Φ b b' → fitL σ Φ (a ++ b) (a' ++ b')
 | [], [], _, _, _, h => h
 | x :: a, y :: a', b, b', h, k => by
  simp only [List.cons_append, fitL] at h ⊢
  exact ⟨h.1, fitL_app h.2 k⟩
 | [], _ :: _, _, _, h, _ => by simp [fitL] at h
 | _ :: _, [], _, _, h, _ => by simp [fitL] at h
section
variable {C : Ctx} {f : FuncId} {args : List AV} {v : AV} {H : Heap} {bt nb n n' : Nat} {cap cap' : Cap} {pre post cs cs' : List AV}
end
abbrev strA (L : List Str) : List AV := L.map AV.str
theorem elS (L : List Str) : Elems 1 (strA L) := el_str L
theorem flatS : ∀ (L : List Str), flatAV (strA L) = strA L
 | [] => rfl
 | x :: r => by
  show (AV.str x).cells ++ flatAV (strA r) = _
  rw [flatS r]; rfl
def VF (pb : Nat) (pre : List AV) (k : Nat) (L : List Str) (post : List AV) (g : List (Nat × Blk)) : List (Nat × Blk) := (pb, .cells (pre ++ ownV k 1 (strA L) :: post)) :: (ownF k (strA L) ++ g)
structure Vok (m pb : Nat) (pre : List AV) (k : Nat) (L : List Str) (post : List AV) (g : List (Nat × Blk)) : Prop where
 lp : pb < m
 lk : k < m ∧ k ∉ pb :: g.map (·.1)
 lg : ∀ e, e ∈ g → e.1 < m
 nd : (pb :: g.map (·.1)).Nodup
 sg : ∀ e, e ∈ g → SelfB m e.2
 sp : ∀ σ, Idl m σ → fitL σ [] pre pre
 sq : ∀ σ, Idl m σ → fitL σ [] post post
 s1 : allSingle pre = true
 s2 : allSingle post = true
section
variable {m n pb k : Nat} {pre post : List AV} {L : List Str} {g f : List (Nat × Blk)}
theorem VF_p : getF pb (VF pb pre k L post g) = some (.cells (pre ++ ownV k 1 (strA L) :: post)) := by simp [VF, getF]
theorem getF_none {b : Nat} : ∀ {l : List (Nat × Blk)}, b ∉ l.map (·.1) → getF b l = none
 | [], _ => rfl
 | e :: r, h => by
  simp only [List.map_cons, List.mem_cons, not_or] at h
  unfold getF
  rw [beqN_ne fun x => h.1 x.symm]
  exact getF_none h.2
theorem Vok.k_p (h : Vok m pb pre k L post g) : Nat.beq pb k = false := beqN_ne fun e => h.lk.2 (by simp [e])
theorem VF_k (h : Vok m pb pre k L post g) (hne : L ≠ []) : getF k (VF pb pre k L post g) = some (.cells (strA L)) := by
 have hs : strA L ≠ [] := by simpa using hne
 unfold VF getF
 rw [h.k_p, ownF_ne hs, flatS]
 simp [getF]
theorem getF_of {l : List (Nat × Blk)} (nd : (l.map (·.1)).Nodup) {e : Nat × Blk} (he : e ∈ l) : getF e.1 l = some e.2 := by
 have := get_of_mem (fs := [l]) (b := e.1) (k := e.2) (by simpa using nd) (by simpa using he)
 simp only [getFs] at this
 revert this
 cases getF e.1 l with
 | none => intro h; cases h
 | some x => intro h; exact h
theorem app_V (h : Vok m pb pre k L post g) {t : Nat} {x : Str} (hf : ∀ i, i < m → getF i f = none) (ht : getF t f = some (.cells [.str x])) (hl : L.length + 1 ≤ 1000000000) :
  appendA Tryz.prog ⟨n, [f, VF pb pre k L post g]⟩ 9 (ownV k 1 (strA L)) (.slc t 0 1 (.ex 1)) =
   some (.slc n 0 (L.length + 1) (.rest 1), ⟨n + 1, [(n, .cells (strA (L ++ [x]))) :: f, (pb, .cells (pre ++ ownV k 1 (strA L) :: post)) :: g]⟩) := by
 have hd : Heap.drop ⟨n, [f, VF pb pre k L post g]⟩ k = ⟨n, [f, (pb, .cells (pre ++ ownV k 1 (strA L) :: post)) :: g]⟩ := by
  have h1 : getF k f = none := hf k h.lk.1
  have h2 := h.lk.2
  simp only [List.mem_cons, not_or] at h2
  unfold Heap.drop
  simp only
  unfold killFs
  rw [h1]
  simp only
  unfold killFs
  unfold VF getF
  rw [h.k_p]
  cases L with
  | nil =>
   simp only [List.map_nil, ownF, List.nil_append]
   rw [getF_none h2.2]
   simp [killFs]
  | cons y r =>
   rw [ownF_ne (by simp)]
   simp [getF, killF, h.k_p]
 have := own_append (P := Tryz.prog) (H := ⟨n, [f, VF pb pre k L post g]⟩) (elem := 9) (b := k) (sz := 1) (by_ := 16) (n := 0) (es := strA L) (x := .slc t 0 1 (.ex 1)) (cs := [.str x]) (z := .str []) szT9 byT9 zeT9 rfl (by omega) (by omega) rfl
  (by simp [srcCells, readCells, Heap.get, getFs, ht, subL, takeL]) rfl rfl (elS L) (by simp; omega)
  (fun hne => by
   have hL : L ≠ [] := by simpa using hne
   simp only [Heap.get, getFs]
   rw [hf k h.lk.1, VF_k h hL, flatS])
  (fun he => by
   have hL : L = [] := by simpa using he
   subst hL
   rw [hd]
   rfl) (fun cs => rfl)
 rw [hd, flatS] at this
 simpa [Heap.new, pushF] using this
theorem fit_V {c : Nat} {H : Heap} {L' : List Str} (h : Vok m pb pre k L post g) (hc : m ≤ c) (hne : L' ≠ []) (hp : H.get pb = some (.cells (pre ++ .slc c 0 L'.length (.rest 1) :: post))) (hk : H.get c = some (.cells (strA L')))
  (hg : ∀ e, e ∈ g → H.get e.1 = some e.2) : FitH m ((c, m) :: idn m) [] H ⟨m + 1, [VF pb pre m L' post g]⟩ := by
 have idl := idl_cons (m := m) (k := c) (k' := m) hc
 have hs : strA L' ≠ [] := by simpa using hne
 have nd := h.nd
 rw [List.nodup_cons] at nd
 refine ⟨?_, ?_, ?_, ?_, ?_, by show m ≤ m + 1; omega, ?_, fun x h => by cases h⟩
 ·simp only [List.map_nil, List.append_nil, List.map_cons, List.nodup_cons]
  refine ⟨?_, idn_nd m⟩
  simp [idn]; omega
 ·simp only [List.map_cons, List.nodup_cons]
  refine ⟨?_, idn_nd2 m⟩
  simp [idn]
 ·simp only [Heap.ents, List.flatten_cons, List.flatten_nil, List.append_nil, VF, ownF_ne hs, List.map_cons, List.map_append, List.map_nil, List.cons_append, List.nil_append, List.nodup_cons, List.mem_cons, not_or]
  refine ⟨⟨by have := h.lp; omega, nd.1⟩, ?_, nd.2⟩
  intro hx
  obtain ⟨e, he, hx⟩ := List.mem_map.1 hx
  have := h.lg e he; omega
 ·intro x hx
  rcases List.mem_cons.1 hx with rfl | hx
  ·exact Nat.lt_succ_self m
  ·obtain ⟨i, hi, rfl⟩ := List.mem_map.1 hx
   have : i < m := by simpa using hi
   show i < m + 1; omega
 ·intro x hx hlt
  rcases List.mem_cons.1 hx with rfl | hx
  ·simp at hlt
  ·obtain ⟨i, hi, rfl⟩ := List.mem_map.1 hx
   rfl
 ·intro e he
  simp only [Heap.ents, List.flatten_cons, List.flatten_nil, List.append_nil, VF, ownF_ne hs, List.cons_append, List.nil_append, List.mem_cons] at he
  rcases he with rfl | rfl | he
  ·refine ⟨pb, _, List.mem_cons_of_mem _ (idn_mem h.lp), hp, ?_⟩
   show fitL _ _ _ _
   rw [ownV_ne hs]
   refine fitL_app (h.sp _ idl) ?_
   simp only [fitL]
   exact ⟨by simp [fitV, lookN], h.sq _ idl⟩
  ·refine ⟨c, _, List.mem_cons_self, hk, ?_⟩
   show fitL _ _ _ _
   rw [flatS]
   exact fitL_pure (by rw [← flatS]; exact (elS L').pure)
  ·exact ⟨e.1, e.2, List.mem_cons_of_mem _ (idn_mem (h.lg e he)), hg e he, h.sg e he _ idl⟩
theorem Vok.next (h : Vok m pb pre k L post g) (x : Str) : Vok (m + 1) pb pre m (L ++ [x]) post g where
 lp := by have := h.lp; omega
 lk := ⟨Nat.lt_succ_self m, fun hx => by
  rcases List.mem_cons.1 hx with hx | hx
  ·have := h.lp; omega
  ·obtain ⟨e, he, hx⟩ := List.mem_map.1 hx
   have := h.lg e he; omega⟩
 lg := fun e he => by have := h.lg e he; omega
 nd := h.nd
 sg := fun e he => (h.sg e he).mono (Nat.le_succ m)
 sp := fun σ hσ => h.sp σ fun i hi => hσ i (by omega)
 sq := fun σ hσ => h.sq σ fun i hi => hσ i (by omega)
 s1 := h.s1
 s2 := h.s2
theorem lay_one {pre post : List AV} {u v : AV} : layL [v] pre.length (pre ++ u :: post) = some (pre ++ v :: post) := by
 have := layL_app (a := pre) (b := [u]) (b' := [v]) (c := post) rfl
 simpa using this
theorem refs_strs : ∀ (L : List Str), refsB (.cells (strA L)) = []
 | [] => rfl
 | x :: r => by
  have := refs_strs r
  simp only [refsB] at this ⊢
  rw [show strA (x :: r) = .str x :: strA r from rfl, List.flatMap_cons, this]
  rfl
theorem prom_V (h : Vok m pb pre k L post g) {c : Nat} {L' : List Str} {u : AV} (hc : m ≤ c) (hf : ∀ i, i < m → getF i f = none) :
  promote pb [c] [] [(c, .cells (strA L')) :: f, (pb, .cells (pre ++ u :: post)) :: g] = [f, (c, .cells (strA L')) :: (pb, .cells (pre ++ u :: post)) :: g] := by
 have hcp : Nat.beq c pb = false := beqN_ne (by have := h.lp; omega)
 have g1 : getF pb f = none := hf pb h.lp
 have pr := prom2 (wb := pb) (c := c) (k := .cells (strA L')) (x := (c, .cells (strA L'))) (f1 := f) (f2 := (pb, .cells (pre ++ u :: post)) :: g) (kb := .cells (pre ++ u :: post)) (by simp [getF, hcp, g1]) (by simp [getF]) (by simp [getF]) (refs_strs _)
 have hk : killF c ((c, Blk.cells (strA L')) :: f) = f := by simp [killF]
 rwa [hk] at pr
end
def ptrs4 (b : Nat) : List AV := [.ptr b 1, .ptr b 2, .ptr b 3, .ptr b 4]
def ptrs5 (b : Nat) : List AV := [.ptr b 5, .ptr b 6, .ptr b 7, .ptr b 8, .ptr b 9]
theorem fit_two2 {n a b : Nat} {H : Heap} {f : List (Nat × Blk)} {fs : List (List (Nat × Blk))} {A B : List AV} (ha : n ≤ a) (hb : n ≤ b) (hab : a ≠ b) (hS : ∀ e, e ∈ (f :: fs).flatten → e.1 < n ∧ SelfB n e.2) (nd : ((f :: fs).flatten.map (·.1)).Nodup)
  (gA : H.get a = some (.cells A)) (gB : H.get b = some (.cells B)) (hg : ∀ e, e ∈ (f :: fs).flatten → H.get e.1 = some e.2) (sA : SelfB n (.cells A)) (sB : SelfB n (.cells B)) :
  FitH n ((a, n) :: (b, n + 1) :: idn n) [] H ⟨n + 2, ((n, .cells A) :: (n + 1, .cells B) :: f) :: fs⟩ := by
 have idl : Idl n ((a, n) :: (b, n + 1) :: idn n) := fun i hi => by
  have h1 : ¬ a = i := by omega
  have h2 : ¬ b = i := by omega
  simp [lookN, h1, h2, lookN_idn hi]
 refine ⟨?_, ?_, ?_, ?_, ?_, by show n ≤ n + 2; omega, ?_, fun x h => by cases h⟩
 ·simp only [List.map_nil, List.append_nil, List.map_cons, List.nodup_cons, List.mem_cons, not_or]
  refine ⟨⟨hab, ?_⟩, ?_, idn_nd n⟩
  ·simp [idn]; omega
  ·simp [idn]; omega
 ·simp only [List.map_cons, List.nodup_cons, List.mem_cons, not_or]
  refine ⟨⟨by omega, ?_⟩, ?_, idn_nd2 n⟩
  ·simp [idn]
  ·simp [idn]
 ·simp only [Heap.ents, List.flatten_cons, List.cons_append, List.map_cons, List.nodup_cons, List.mem_cons, not_or] at nd ⊢
  refine ⟨⟨by omega, ?_⟩, ?_, nd⟩ <;>
  ·intro hx
   obtain ⟨e, he, hx⟩ := List.mem_map.1 hx
   have := (hS e (by simpa using he)).1
   omega
 ·intro x hx
  simp only [List.mem_cons] at hx
  rcases hx with rfl | rfl | hx
  ·show n < n + 2; omega
  ·show n + 1 < n + 2; omega
  ·obtain ⟨i, hi, rfl⟩ := List.mem_map.1 hx
   have : i < n := by simpa using hi
   show i < n + 2; omega
 ·intro x hx hlt
  simp only [List.mem_cons] at hx
  rcases hx with rfl | rfl | hx
  ·simp at hlt
  ·simp only at hlt; omega
  ·obtain ⟨i, hi, rfl⟩ := List.mem_map.1 hx
   rfl
 ·intro e he
  simp only [Heap.ents, List.flatten_cons, List.cons_append, List.mem_cons] at he
  rcases he with rfl | rfl | he
  ·exact ⟨a, _, List.mem_cons_self, gA, sA _ idl⟩
  ·exact ⟨b, _, List.mem_cons_of_mem _ List.mem_cons_self, gB, sB _ idl⟩
  ·have he : e ∈ (f :: fs).flatten := by simpa using he
   exact ⟨e.1, e.2, List.mem_cons_of_mem _ (List.mem_cons_of_mem _ (idn_mem (hS e he).1)), hg e he, (hS e he).2 _ idl⟩
theorem c27h {T : List (Entry Tryz.prog)} {n pb : Nat} {f : List (Nat × Blk)} {fs : List (List (Nat × Blk))} (hp : pb < n) (hS : ∀ e, e ∈ (f :: fs).flatten → e.1 < n ∧ SelfB n e.2) (nd : ((f :: fs).flatten.map (·.1)).Nodup) :
  CallAt (ctx T) 27 [.ptr pb 0] ⟨n, f :: fs⟩ (.tup [.slc n 0 4 (.ex 4), .slc (n + 1) 0 4 (.ex 4)]) ⟨n + 2, ((n, .cells (ptrs4 pb)) :: (n + 1, .cells (strA headsL)) :: f) :: fs⟩ := by
 refine callAt_body (fn := Tryz.f27) (s0 := ⟨[0, 2, 3], [.ptr pb 0, .undef, .undef], [], 18, ⟨n, [] :: f :: fs⟩⟩) Tryz.func27 rfl rfl rfl ?_
 repeat apply wq
 refine wps_region callOK ?_
 simp [zS]
 repeat apply wq
 refine wps_drawA mixed callOK (by decide +kernel) rfl fun B_ hB_ => ?_
 simp [zS, mkBlk, guardA, clsOf, wantedBy, unwantedBy, allPend, Heap.lay, ontoF, evalA_c, evalA_n, putA_s, valA_s, actA_s, layA_s, gateA_t, gateA_f, clsA_l, clsA_a, clsA_p, clsA_r, offA_a, offA_l, offA_p, offA_r, ]
 refine ⟨_, _, ⟨rfl, rfl⟩, ?_⟩
 simp [allPend, Heap.lay, ontoF, thenQ]
 repeat apply wq
 refine wps_ret ?_
 simp [retVal, Tryz.f27, oneOr]
 refine ⟨(n + 12, n) :: (n + 13, n + 1) :: idn n, [], ?_, fit_two2 (H := ⟨n + 16, [(n + 13, .cells (strA headsL)), (n + 12, .cells (ptrs4 pb))] :: f :: fs⟩) (by omega) (by omega) (by omega) hS nd ?_ ?_ ?_ ?_ ?_⟩
 ·simp [fitV, fitL, lookN]
 ·simp only [Heap.get, getFs, getF]
  rw [beqN_ne (show n + 13 ≠ n + 12 by omega)]
  simp
 ·simp [Heap.get, getFs, getF]
 ·intro e he
  have h1 := (hS e he).1
  have h2 := get_of_mem (fs := f :: fs) (b := e.1) (k := e.2) nd he
  simp only [Heap.get] at h2 ⊢
  unfold getFs
  simp only [getF]
  rw [beqN_ne (show n + 12 ≠ e.1 by omega), beqN_ne (show n + 13 ≠ e.1 by omega)]
  exact h2
 ·intro σ hσ
  have := hσ pb hp
  simp [fitB, fitL, fitV, ptrs4, this]
 ·intro σ hσ
  exact fitL_pure (by rw [← flatS]; exact (elS headsL).pure)
theorem c28h {T : List (Entry Tryz.prog)} {n pb : Nat} {f : List (Nat × Blk)} {fs : List (List (Nat × Blk))} (hp : pb < n) (hS : ∀ e, e ∈ (f :: fs).flatten → e.1 < n ∧ SelfB n e.2) (nd : ((f :: fs).flatten.map (·.1)).Nodup) :
  CallAt (ctx T) 28 [.ptr pb 0] ⟨n, f :: fs⟩ (.tup [.slc n 0 5 (.ex 5), .slc (n + 1) 0 5 (.ex 5)]) ⟨n + 2, ((n, .cells (ptrs5 pb)) :: (n + 1, .cells (strA namesL)) :: f) :: fs⟩ := by
 refine callAt_body (fn := Tryz.f28) (s0 := ⟨[0, 2, 3], [.ptr pb 0, .undef, .undef], [], 21, ⟨n, [] :: f :: fs⟩⟩) Tryz.func28 rfl rfl rfl ?_
 repeat apply wq
 refine wps_region callOK ?_
 simp [zS]
 repeat apply wq
 refine wps_drawA mixed callOK (by decide +kernel) rfl fun B_ hB_ => ?_
 simp [zS, mkBlk, guardA, clsOf, wantedBy, unwantedBy, allPend, Heap.lay, ontoF, evalA_c, evalA_n, putA_s, valA_s, actA_s, layA_s, gateA_t, gateA_f, clsA_l, clsA_a, clsA_p, clsA_r, offA_a, offA_l, offA_p, offA_r, ]
 refine ⟨_, _, ⟨rfl, rfl⟩, ?_⟩
 simp [allPend, Heap.lay, ontoF, thenQ]
 repeat apply wq
 refine wps_ret ?_
 simp [retVal, Tryz.f28, oneOr]
 refine ⟨(n + 15, n) :: (n + 16, n + 1) :: idn n, [], ?_, fit_two2 (H := ⟨n + 19, [(n + 16, .cells (strA namesL)), (n + 15, .cells (ptrs5 pb))] :: f :: fs⟩) (by omega) (by omega) (by omega) hS nd ?_ ?_ ?_ ?_ ?_⟩
 ·simp [fitV, fitL, lookN]
 ·simp only [Heap.get, getFs, getF]
  rw [beqN_ne (show n + 16 ≠ n + 15 by omega)]
  simp
 ·simp [Heap.get, getFs, getF]
 ·intro e he
  have h1 := (hS e he).1
  have h2 := get_of_mem (fs := f :: fs) (b := e.1) (k := e.2) nd he
  simp only [Heap.get] at h2 ⊢
  unfold getFs
  simp only [getF]
  rw [beqN_ne (show n + 15 ≠ e.1 by omega), beqN_ne (show n + 16 ≠ e.1 by omega)]
  exact h2
 ·intro σ hσ
  have := hσ pb hp
  simp [fitB, fitL, fitV, ptrs5, this]
 ·intro σ hσ
  exact fitL_pure (by rw [← flatS]; exact (elS namesL).pure)
structure Rows0 (m : Nat) (F : List (Nat × Blk)) : Prop where
 all : ∀ e, e ∈ F → e.1 < m ∧ SelfB m e.2
 nd : (F.map (·.1)).Nodup
theorem Vok.rows {m pb k : Nat} {pre post : List AV} {L : List Str} {g : List (Nat × Blk)} (h : Vok m pb pre k L post g) : Rows0 m (VF pb pre k L post g) where
 all := fun e he => by
  simp only [VF, List.mem_cons, List.mem_append] at he
  rcases he with rfl | he | he
  ·refine ⟨h.lp, fun σ hσ => ?_⟩
   refine fitL_app (h.sp σ hσ) ?_
   simp only [fitL]
   refine ⟨?_, h.sq σ hσ⟩
   by_cases hL : L = []
   ·subst hL; simp [ownV, fitV]
   ·rw [ownV_ne (by simpa using hL)]
    simp [fitV, hσ k h.lk.1]
  ·by_cases hL : L = []
   ·subst hL; simp [ownF] at he
   ·rw [ownF_ne (by simpa using hL)] at he
    simp at he
    subst he
    exact ⟨h.lk.1, fun σ hσ => fitL_pure (elS L).pure⟩
  ·exact ⟨h.lg e he, h.sg e he⟩
 nd := by
  have nd := h.nd
  have hk := h.lk.2
  simp only [List.mem_cons, not_or] at hk
  rw [List.nodup_cons] at nd
  by_cases hL : L = []
  ·subst hL
   simpa [VF, ownF] using nd
  ·simp only [VF, ownF_ne (b := k) (es := strA L) (by simpa using hL), List.cons_append, List.nil_append, List.map_cons, List.nodup_cons, List.mem_cons, not_or]
   exact ⟨⟨fun e => hk.1 e.symm, nd.1⟩, hk.2, nd.2⟩
section
variable {T : List (Entry Tryz.prog)} {n m pb : Nat} {F : List (Nat × Blk)} {w x : Str} {Q : Out → St → Prop}
abbrev tops (m pb : Nat) : List (Nat × Blk) := [(m + 2, .cells (ptrs5 pb)), (m + 3, .cells (strA namesL)), (m, .cells (ptrs4 pb)), (m + 1, .cells (strA headsL))]
theorem l1 (hp : pb < m) (hF : Rows0 m F) : CallAt (ctx T) 27 [.ptr pb 0] ⟨m, [[], F]⟩ (.tup [.slc m 0 4 (.ex 4), .slc (m + 1) 0 4 (.ex 4)]) ⟨m + 2, [[(m, .cells (ptrs4 pb)), (m + 1, .cells (strA headsL))], F]⟩ :=
 c27h (f := []) (fs := [F]) hp (by simpa using hF.all) (by simpa using hF.nd)
theorem l2 (hp : pb < m) (hF : Rows0 m F) : CallAt (ctx T) 28 [.ptr pb 0] ⟨m + 2, [[(m, .cells (ptrs4 pb)), (m + 1, .cells (strA headsL))], F]⟩ (.tup [.slc (m + 2) 0 5 (.ex 5), .slc (m + 2 + 1) 0 5 (.ex 5)]) ⟨m + 2 + 2, [tops m pb, F]⟩ := by
 refine c28h (n := m + 2) (f := [(m, .cells (ptrs4 pb)), (m + 1, .cells (strA headsL))]) (fs := [F]) (by omega) ?_ ?_
 ·intro e he
  simp only [List.flatten_cons, List.flatten_nil, List.append_nil, List.cons_append, List.nil_append, List.mem_cons] at he
  rcases he with rfl | rfl | he
  ·exact ⟨by show m < m + 2; omega, fun σ hσ => by have := hσ pb (by omega); simp [fitB, fitL, fitV, ptrs4, this]⟩
  ·exact ⟨by show m + 1 < m + 2; omega, fun σ hσ => fitL_pure (by rw [← flatS]; exact (elS headsL).pure)⟩
  ·exact ⟨by have := (hF.all e he).1; omega, (hF.all e he).2.mono (by omega)⟩
 ·simp only [List.flatten_cons, List.flatten_nil, List.append_nil, List.cons_append, List.nil_append, List.map_cons, List.nodup_cons, List.mem_cons, not_or]
  have key : ∀ i, m ≤ i → i ∉ F.map (·.1) := fun i hi hx => by
   obtain ⟨e, he, hx⟩ := List.mem_map.1 hx
   have := (hF.all e he).1
   omega
  exact ⟨⟨by omega, key _ (Nat.le_refl _)⟩, key _ (by omega), hF.nd⟩
theorem idx_at (hI : findE 45 T = some e45.g) {b : Nat} {L : List Str} {len : Nat} (hl : L.length = len) (hsm : L.length ≤ 1000000) {cap : Cap} {H : Heap} (h : H.get b = some (.cells (strA L))) (x : Str) :
  callL (ctx T) (.fn 45) [.slc b 0 len cap, .str x] H = some (.int .i64 (idxFrom (fun y => decide (x = y)) L 0), H) := by
 subst hl
 have ht := thawA_slc (H := H) (sz := 1) (r := []) (b := b) (cap := cap) (es := strA L) (elS L) (by rw [flatS]; exact h)
 simp only [List.length_map] at ht
 exact mkE_scalar hI injSS (L, x) hsm rfl (by simp [ht])
theorem get_tops (hF : Rows0 m F) : Heap.get ⟨n, [tops m pb, F]⟩ (m + 1) = some (.cells (strA headsL)) ∧ Heap.get ⟨n, [tops m pb, F]⟩ (m + 3) = some (.cells (strA namesL)) ∧ Heap.get ⟨n, [tops m pb, F]⟩ m = some (.cells (ptrs4 pb)) ∧ Heap.get ⟨n, [tops m pb, F]⟩ (m + 2) = some (.cells (ptrs5 pb)) := by
 refine ⟨?_, ?_, ?_, ?_⟩ <;> simp only [Heap.get, getFs, getF]
 ·rw [beqN_ne (show m + 2 ≠ m + 1 by omega), beqN_ne (show m + 3 ≠ m + 1 by omega), beqN_ne (show m ≠ m + 1 by omega)]
  simp
 ·rw [beqN_ne (show m + 2 ≠ m + 3 by omega)]
  simp
 ·rw [beqN_ne (show m + 2 ≠ m by omega), beqN_ne (show m + 3 ≠ m by omega)]
  simp
 ·simp
theorem tops_low {i : Nat} (hi : i < m) : getF i (tops m pb) = none := getF_none (by simp; omega)
end
theorem cA21 {T : List (Entry Tryz.prog)} (hI : findE 45 T = some e45.g) {m pb k : Nat} {pre post : List AV} {L : List Str} {g : List (Nat × Blk)} (h : Vok m pb pre k L post g) {w : Str} {i : Nat} (h4 : i < 4)
  (hw : idxFrom (fun y => decide (w = y)) headsL 0 = (i : Int)) (hpre : pre.length = i + 1) (hl : L.length + 1 ≤ 1000000000) (x : Str) :
  CallAt (ctx T) 21 [.ptr pb 0, .str w, .str x] ⟨m, [VF pb pre k L post g]⟩ (.tup []) ⟨m + 1, [VF pb pre m (L ++ [x]) post g]⟩ := by
 have hF := h.rows
 have g4 := get_tops (n := m + 4) (pb := pb) hF
 have ki1 := idx_at hI (b := m + 1) (L := headsL) (len := 4) rfl (by decide) (cap := .ex 4) g4.1 w
 have ki2 := idx_at hI (b := m + 3) (L := namesL) (len := 5) rfl (by decide) (cap := .ex 5) g4.2.1 w
 rw [hw] at ki1
 obtain ⟨k0, hk0⟩ : ∃ k0, k0 = idxFrom (fun y => decide (w = y)) namesL 0 := ⟨_, rfl⟩
 rw [← hk0] at ki2
 have c0 : (0 : Int) ≤ (i : Int) := by omega
 refine callAt_body (fn := Tryz.f21) (s0 := ⟨[0, 1, 2, 6, 7, 8, 9, 10, 11], [.ptr pb 0, .str w, .str x, .undef, .undef, .undef, .undef, .undef, .undef], [], 73, ⟨m, [] :: [VF pb pre k L post g]⟩⟩) Tryz.func21 rfl rfl rfl ?_
 repeat apply wq
 repeat apply wq
 refine wps_region (callOKF [⟨27, _, _, _, _, l1 h.lp hF⟩]) ?_
 simp [zS, callF]
 repeat apply wq
 refine wps_region (callOKF [⟨28, _, _, _, _, l2 h.lp hF⟩]) ?_
 simp [zS, callF]
 repeat apply wq
 refine wps_region callOK ?_
 simp [zS, ki1, ki2]
 repeat apply wq
 refine wps_block ?_
 repeat apply wq
 refine wps_region callOK ?_
 simp [zS, c0]
 repeat apply wq
 refine wps_ct (by simp [opnd, St.get, zS]) ?_
 have ix : indexAddrA Tryz.prog 56 (.slc m 0 4 (.ex 4)) (.int .i64 (i : Int)) = some (.ptr m i) := by simp [indexAddrA, idx_nat h4]
 have gp : getL (ptrs4 pb) i = some (.ptr pb (i + 1)) := match i, h4 with
  | 0, _ => rfl
  | 1, _ => rfl
  | 2, _ => rfl
  | 3, _ => rfl
 have rd1 : ∀ n, readVar Tryz.prog ⟨n, [tops m pb, VF pb pre k L post g]⟩ 59 (.ptr m i) = some (.ptr pb (i + 1)) := fun n => by
  have := (get_tops (n := n) (pb := pb) hF).2.2.1
  simp [this, gp]
 have rd2 : ∀ n, readVar Tryz.prog ⟨n, [tops m pb, VF pb pre k L post g]⟩ 22 (.ptr pb (i + 1)) = some (ownV k 1 (strA L)) := fun n => by
  have : Heap.get ⟨n, [tops m pb, VF pb pre k L post g]⟩ pb = some (.cells (pre ++ ownV k 1 (strA L) :: post)) := by
   simp only [Heap.get, getFs]
   rw [tops_low h.lp, VF_p]
  have e : getL (pre ++ ownV k 1 (strA L) :: post) (i + 1) = some (ownV k 1 (strA L)) := by
   rw [getL_get (by simp; omega), List.getElem_append_right (by omega)]
   simp [hpre]
  simp [this, e]
 have hfl : ∀ i, i < m → getF i ((m + 4 + 11, .cells [.str x]) :: tops m pb) = none := fun i hi => by
  unfold getF
  rw [beqN_ne (show m + 4 + 11 ≠ i by omega)]
  exact tops_low hi
 have happ := app_V (n := m + 4 + 15) (f := (m + 4 + 11, .cells [.str x]) :: tops m pb) h (t := m + 4 + 11) (x := x) hfl (by simp [getF]) hl
 have pr := prom_V (f := (m + 4 + 11, .cells [.str x]) :: tops m pb) h (c := m + 4 + 15) (L' := L ++ [x]) (u := ownV k 1 (strA L)) (by omega) hfl
 have hly : layL [.slc (m + 4 + 15) 0 (L.length + 1) (.rest 1)] (i + 1) (pre ++ ownV k 1 (strA L) :: post) = some (pre ++ .slc (m + 4 + 15) 0 (L.length + 1) (.rest 1) :: post) := hpre ▸ lay_one
 have hfit := fit_V (L' := L ++ [x]) (c := m + 4 + 15) (H := ⟨m + 4 + 15 + 1, [(m + 4 + 11, .cells [.str x]) :: tops m pb, (m + 4 + 15, .cells (strA (L ++ [x]))) :: (pb, .cells (pre ++ .slc (m + 4 + 15) 0 (L ++ [x]).length (.rest 1) :: post)) :: g]⟩) h (by omega) (by simp)
  (by
   simp only [Heap.get, getFs]
   rw [hfl pb h.lp]
   simp only
   unfold getF
   rw [beqN_ne (show m + 4 + 15 ≠ pb by have := h.lp; omega)]
   simp [getF])
  (by
   simp only [Heap.get, getFs]
   rw [getF_none (l := (m + 4 + 11, .cells [.str x]) :: tops m pb) (by simp; omega)]
   simp [getF])
  (fun e he => by
   have := h.lg e he
   simp only [Heap.get, getFs]
   rw [hfl e.1 this]
   simp only
   have nd := h.nd
   rw [List.nodup_cons] at nd
   have e1 : pb ≠ e.1 := fun x => nd.1 (List.mem_map.2 ⟨e, he, x.symm⟩)
   unfold getF
   rw [beqN_ne (show m + 4 + 15 ≠ e.1 by omega)]
   simp only
   unfold getF
   rw [beqN_ne e1]
   simp only
   rw [getF_of nd.2 he])
 have hlen : (L ++ [x]).length = L.length + 1 := by simp
 rw [hlen] at hfit
 obtain ⟨R, hR⟩ : ∃ R, R = strA (L ++ [x]) := ⟨_, rfl⟩
 rw [← hR] at happ pr hfit
 have q1 : Nat.beq (m + 4 + 15) pb = false := beqN_ne (by have := h.lp; omega)
 have q2 : Nat.beq (m + 4 + 11) pb = false := beqN_ne (by have := h.lp; omega)
 have q3 : Nat.beq (m + 2) pb = false := beqN_ne (by have := h.lp; omega)
 have q4 : Nat.beq (m + 3) pb = false := beqN_ne (by have := h.lp; omega)
 have q5 : Nat.beq m pb = false := beqN_ne (by have := h.lp; omega)
 have q6 : Nat.beq (m + 1) pb = false := beqN_ne (by have := h.lp; omega)
 have r1 : Nat.beq (m + 4 + 15) m = false := beqN_ne (by omega)
 have r2 : Nat.beq (m + 4 + 11) m = false := beqN_ne (by omega)
 have r3 : Nat.beq (m + 2) m = false := beqN_ne (by omega)
 have r4 : Nat.beq (m + 3) m = false := beqN_ne (by omega)
 repeat apply wq
 refine wps_drawn mixed callOK (by decide +kernel) fun B_ hB_ => ?_
 have d_3_12 : ahead B_ 3 12 = false := by rw [hB_]; decide +kernel
 have d_3_14 : ahead B_ 3 14 = true := by rw [hB_]; decide +kernel
 have d_7_12 : ahead B_ 7 12 = true := by rw [hB_]; decide +kernel
 have d_7_14 : ahead B_ 7 14 = true := by rw [hB_]; decide +kernel
 have d_9_12 : ahead B_ 9 12 = true := by rw [hB_]; decide +kernel
 have d_9_14 : ahead B_ 9 14 = true := by rw [hB_]; decide +kernel
 have d_11_12 : ahead B_ 11 12 = true := by rw [hB_]; decide +kernel
 have d_11_14 : ahead B_ 11 14 = true := by rw [hB_]; decide +kernel
 have d_12_3 : ahead B_ 12 3 = false := by rw [hB_]; decide +kernel
 have d_12_7 : ahead B_ 12 7 = false := by rw [hB_]; decide +kernel
 have d_12_9 : ahead B_ 12 9 = false := by rw [hB_]; decide +kernel
 have d_14_3 : ahead B_ 14 3 = false := by rw [hB_]; decide +kernel
 have d_14_7 : ahead B_ 14 7 = false := by rw [hB_]; decide +kernel
 have d_14_9 : ahead B_ 14 9 = false := by rw [hB_]; decide +kernel
 simp [zS, mkBlk, guardA, evalD, stepD, clsOf, reserve, freshenAll, sameRecs, sameAll, sameAt, allPend, Heap.lay, ontoF, wantedBy, unwantedBy, d_3_12, d_3_14, d_7_12, d_7_14, d_9_12, d_9_14, d_11_12, d_11_14, d_12_3, d_12_7, d_12_9, d_14_3, d_14_7, d_14_9, ix, rd1, rd2, happ, q1, q2, q3, q4, q5, q6, pr, hly, r1, r2, r3, r4, gp]
 refine ⟨_, rfl, _, _, ?_, hfit⟩
 simp [oneOr, fitV, fitL]
theorem fit_R {m pb : Nat} {H : Heap} {cs : List AV} {g : List (Nat × Blk)} (hp : pb < m) (hF : Rows0 m ((pb, .cells cs) :: g)) (h1 : H.get pb = some (.cells cs)) (h2 : ∀ e, e ∈ g → H.get e.1 = some e.2) : FitH m (idn m) [] H ⟨m + 1, [(pb, .cells cs) :: g]⟩ := by
 refine ⟨by simpa using idn_nd m, idn_nd2 m, by simpa [Heap.ents] using hF.nd, ?_, ?_, by show m ≤ m + 1; omega, ?_, fun x h => by cases h⟩
 ·intro x hx
  obtain ⟨i, hi, rfl⟩ := List.mem_map.1 hx
  have : i < m := by simpa using hi
  show i < m + 1; omega
 ·intro x hx hlt
  obtain ⟨i, hi, rfl⟩ := List.mem_map.1 hx
  rfl
 ·intro e he
  have he : e ∈ (pb, Blk.cells cs) :: g := by simpa [Heap.ents] using he
  obtain ⟨l1, l2⟩ := hF.all e he
  refine ⟨e.1, e.2, idn_mem l1, ?_, l2 _ (idl_idn m)⟩
  rcases List.mem_cons.1 he with rfl | he
  ·exact h1
  ·exact h2 e he
def atoiN (x : Str) : Int := match Lib.atoiAll x with
 | .ok v => v
 | .range => Lib.atoiSat x
 | _ => 0
theorem atoiA_n (x : Str) : ∃ e, atoiA x = .tup [.int .i64 (atoiN x), e] := by
 unfold atoiA atoiN
 cases Lib.atoiAll x <;> exact ⟨_, rfl⟩
theorem k46 {T : List (Entry Tryz.prog)} (hT : findE 46 T = some e46.g) {x : Str} (hx : x.length ≤ 1000000) (H : Heap) : callL (ctx T) (.fn 46) [.str x] H = some (atoiA x, H) :=
 mkE_pure hT inj_str1 x hx rfl (by simp) H
theorem cB21 {T : List (Entry Tryz.prog)} (hI : findE 45 T = some e45.g) {m pb : Nat} {pre post : List AV} {u : AV} {g : List (Nat × Blk)} (hp : pb < m) (hF : Rows0 m ((pb, .cells (pre ++ u :: post)) :: g)) (hA : findE 46 T = some e46.g) {w : Str} {i : Nat} (h5 : i < 5)
  (hw : idxFrom (fun y => decide (w = y)) headsL 0 = -1) (hk : idxFrom (fun y => decide (w = y)) namesL 0 = (i : Int)) (hpre : pre.length = i + 5) (x : Str) (hx : x.length ≤ 1000000) (hF' : Rows0 m ((pb, .cells (pre ++ .int .i64 (atoiN x) :: post)) :: g)) :
  CallAt (ctx T) 21 [.ptr pb 0, .str w, .str x] ⟨m, [(pb, .cells (pre ++ u :: post)) :: g]⟩ (.tup []) ⟨m + 1, [(pb, .cells (pre ++ .int .i64 (atoiN x) :: post)) :: g]⟩ := by
 have c0 : (0 : Int) ≤ (i : Int) := by omega
 have ka := fun H => k46 hA hx H
 obtain ⟨e, he⟩ := atoiA_n x
 rw [he] at ka
 generalize atoiN x = v at *
 have ix : indexAddrA Tryz.prog 60 (.slc (m + 2) 0 5 (.ex 5)) (.int .i64 (i : Int)) = some (.ptr (m + 2) i) := by simp [indexAddrA, idx_nat h5]
 have gp : getL (ptrs5 pb) i = some (.ptr pb (i + 5)) := match i, h5 with
  | 0, _ => rfl
  | 1, _ => rfl
  | 2, _ => rfl
  | 3, _ => rfl
  | 4, _ => rfl
 have hly : layL [.int .i64 v] (i + 5) (pre ++ u :: post) = some (pre ++ .int .i64 v :: post) := hpre ▸ lay_one
 have e3 : m + 2 + 1 = m + 3 := rfl
 have hF := hF
 have g4 := get_tops (n := m + 4) (pb := pb) hF
 have ki1 := idx_at hI (b := m + 1) (L := headsL) (len := 4) rfl (by decide) (cap := .ex 4) g4.1 w
 have ki2 := idx_at hI (b := m + 3) (L := namesL) (len := 5) rfl (by decide) (cap := .ex 5) g4.2.1 w
 rw [hw] at ki1
 rw [hk] at ki2
 have q3 : Nat.beq (m + 2) pb = false := beqN_ne (by omega)
 have q4 : Nat.beq (m + 3) pb = false := beqN_ne (by omega)
 have q5 : Nat.beq m pb = false := beqN_ne (by omega)
 have q6 : Nat.beq (m + 1) pb = false := beqN_ne (by omega)
 refine callAt_body (fn := Tryz.f21) (s0 := ⟨[0, 1, 2, 6, 7, 8, 9, 10, 11], [.ptr pb 0, .str w, .str x, .undef, .undef, .undef, .undef, .undef, .undef], [], 73, ⟨m, [] :: [(pb, .cells (pre ++ u :: post)) :: g]⟩⟩) Tryz.func21 rfl rfl rfl ?_
 repeat apply wq
 repeat apply wq
 refine wps_region (callOKF [⟨27, _, _, _, _, l1 hp hF⟩]) ?_
 simp [zS, callF]
 repeat apply wq
 refine wps_region (callOKF [⟨28, _, _, _, _, l2 hp hF⟩]) ?_
 simp [zS, callF]
 repeat apply wq
 refine wps_region callOK ?_
 simp [zS, ki1, ki2]
 repeat apply wq
 refine wps_block ?_
 repeat apply wq
 refine wps_region callOK ?_
 simp [zS]
 repeat apply wq
 refine wps_cf (by simp [opnd, St.get, zS]) ?_
 repeat apply wq
 refine wps_region callOK ?_
 simp [zS, c0]
 repeat apply wq
 refine wps_ct (by simp [opnd, St.get, zS]) ?_
 repeat apply wq
 refine wps_drawn mixed callOK (by decide +kernel) fun B_ hB_ => ?_
 have d_3_5 : ahead B_ 3 5 = false := by rw [hB_]; decide +kernel
 have d_3_10 : ahead B_ 3 10 = true := by rw [hB_]; decide +kernel
 have d_5_3 : ahead B_ 5 3 = false := by rw [hB_]; decide +kernel
 have d_10_3 : ahead B_ 10 3 = false := by rw [hB_]; decide +kernel
 simp [zS, mkBlk, guardA, evalD, stepD, clsOf, reserve, freshenAll, sameRecs, sameAll, sameAt, allPend, Heap.lay, ontoF, wantedBy, unwantedBy, d_3_5, d_3_10, d_5_3, d_10_3, ix, ka, gp, hly, q3, q4, q5, q6]
 refine ⟨_, rfl, ?_⟩
 refine ⟨idn m, [], by simp [oneOr, fitV, fitL], fit_R hp hF' ?_ fun e he => ?_⟩
 ·simp [Heap.get, getFs, getF, q3, q4, q5, q6]
 have h1 := (hF.all e (by simp [he])).1
 have e1 : pb ≠ e.1 := fun x => by
  have nd := hF.nd
  rw [List.map_cons, List.nodup_cons] at nd
  exact nd.1 (List.mem_map.2 ⟨e, he, x.symm⟩)
 have nd := hF.nd
 rw [List.map_cons, List.nodup_cons] at nd
 simp only [Heap.get, getFs]
 rw [tops_low h1]
 simp only
 unfold getF
 rw [beqN_ne e1]
 simp only
 rw [getF_of nd.2 he]
theorem cC21 {T : List (Entry Tryz.prog)} (hI : findE 45 T = some e45.g) {m pb : Nat} {post : List AV} {u : AV} {g : List (Nat × Blk)} (hp : pb < m) (hF : Rows0 m ((pb, .cells (u :: post)) :: g)) (x : Str) (hF' : Rows0 m ((pb, .cells (.str x :: post)) :: g)) :
  CallAt (ctx T) 21 [.ptr pb 0, .str [112, 114, 101, 102, 105, 120], .str x] ⟨m, [(pb, .cells (u :: post)) :: g]⟩ (.tup []) ⟨m + 1, [(pb, .cells (.str x :: post)) :: g]⟩ := by
 obtain ⟨w, hw0⟩ : ∃ w : Str, w = [112, 114, 101, 102, 105, 120] := ⟨_, rfl⟩
 have hw : idxFrom (fun y => decide (w = y)) headsL 0 = -1 := by rw [hw0]; decide
 have hk : idxFrom (fun y => decide (w = y)) namesL 0 = -1 := by rw [hw0]; decide
 have hF := hF
 have g4 := get_tops (n := m + 4) (pb := pb) hF
 have ki1 := idx_at hI (b := m + 1) (L := headsL) (len := 4) rfl (by decide) (cap := .ex 4) g4.1 w
 have ki2 := idx_at hI (b := m + 3) (L := namesL) (len := 5) rfl (by decide) (cap := .ex 5) g4.2.1 w
 rw [hw] at ki1
 rw [hk] at ki2
 have q3 : Nat.beq (m + 2) pb = false := beqN_ne (by omega)
 have q4 : Nat.beq (m + 3) pb = false := beqN_ne (by omega)
 have q5 : Nat.beq m pb = false := beqN_ne (by omega)
 have q6 : Nat.beq (m + 1) pb = false := beqN_ne (by omega)
 rw [hw0] at ki1 ki2
 refine callAt_body (fn := Tryz.f21) (s0 := ⟨[0, 1, 2, 6, 7, 8, 9, 10, 11], [.ptr pb 0, .str [112, 114, 101, 102, 105, 120], .str x, .undef, .undef, .undef, .undef, .undef, .undef], [], 73, ⟨m, [] :: [(pb, .cells (u :: post)) :: g]⟩⟩) Tryz.func21 rfl rfl rfl ?_
 repeat apply wq
 repeat apply wq
 refine wps_region (callOKF [⟨27, _, _, _, _, l1 hp hF⟩]) ?_
 simp [zS, callF]
 repeat apply wq
 refine wps_region (callOKF [⟨28, _, _, _, _, l2 hp hF⟩]) ?_
 simp [zS, callF]
 repeat apply wq
 refine wps_region callOK ?_
 simp [zS, ki1, ki2]
 repeat apply wq
 refine wps_block ?_
 repeat apply wq
 refine wps_region callOK ?_
 simp [zS]
 repeat apply wq
 refine wps_cf (by simp [opnd, St.get, zS]) ?_
 repeat apply wq
 refine wps_region callOK ?_
 simp [zS]
 repeat apply wq
 refine wps_cf (by simp [opnd, St.get, zS]) ?_
 repeat apply wq
 refine wps_region callOK ?_
 simp [zS]
 repeat apply wq
 refine wps_ct (by simp [opnd, St.get, zS]) ?_
 repeat apply wq
 refine wps_region callOK ?_
 simp [zS, q3, q4, q5, q6, layL, overL]
 simp [retVal, Tryz.f21, oneOr]
 refine ⟨idn m, [], by simp [fitV, fitL], fit_R hp hF' ?_ fun e he => ?_⟩
 ·simp [Heap.get, getFs, getF, q3, q4, q5, q6]
 have h1 := (hF.all e (by simp [he])).1
 have e1 : pb ≠ e.1 := fun x => by
  have nd := hF.nd
  rw [List.map_cons, List.nodup_cons] at nd
  exact nd.1 (List.mem_map.2 ⟨e, he, x.symm⟩)
 have nd := hF.nd
 rw [List.map_cons, List.nodup_cons] at nd
 simp only [Heap.get, getFs]
 rw [tops_low h1]
 simp only
 unfold getF
 rw [beqN_ne e1]
 simp only
 rw [getF_of nd.2 he]
theorem cD21 {T : List (Entry Tryz.prog)} (hI : findE 45 T = some e45.g) {m pb : Nat} {pre post : List AV} {u : AV} {g : List (Nat × Blk)} (hp : pb < m) (hF : Rows0 m ((pb, .cells (pre ++ u :: post)) :: g)) (hpre : pre.length = 10) (x : Str) (hF' : Rows0 m ((pb, .cells (pre ++ .bool (decide (x = jYes)) :: post)) :: g)) :
  CallAt (ctx T) 21 [.ptr pb 0, .str [117, 110, 99, 104, 97, 110, 103, 101, 100], .str x] ⟨m, [(pb, .cells (pre ++ u :: post)) :: g]⟩ (.tup []) ⟨m + 1, [(pb, .cells (pre ++ .bool (decide (x = jYes)) :: post)) :: g]⟩ := by
 obtain ⟨w, hw0⟩ : ∃ w : Str, w = [117, 110, 99, 104, 97, 110, 103, 101, 100] := ⟨_, rfl⟩
 have hw : idxFrom (fun y => decide (w = y)) headsL 0 = -1 := by rw [hw0]; decide
 have hk : idxFrom (fun y => decide (w = y)) namesL 0 = -1 := by rw [hw0]; decide
 have hly : layL [.bool (decide (x = [121, 101, 115]))] 10 (pre ++ u :: post) = some (pre ++ .bool (decide (x = jYes)) :: post) := hpre ▸ lay_one
 have hF := hF
 have g4 := get_tops (n := m + 4) (pb := pb) hF
 have ki1 := idx_at hI (b := m + 1) (L := headsL) (len := 4) rfl (by decide) (cap := .ex 4) g4.1 w
 have ki2 := idx_at hI (b := m + 3) (L := namesL) (len := 5) rfl (by decide) (cap := .ex 5) g4.2.1 w
 rw [hw] at ki1
 rw [hk] at ki2
 have q3 : Nat.beq (m + 2) pb = false := beqN_ne (by omega)
 have q4 : Nat.beq (m + 3) pb = false := beqN_ne (by omega)
 have q5 : Nat.beq m pb = false := beqN_ne (by omega)
 have q6 : Nat.beq (m + 1) pb = false := beqN_ne (by omega)
 rw [hw0] at ki1 ki2
 refine callAt_body (fn := Tryz.f21) (s0 := ⟨[0, 1, 2, 6, 7, 8, 9, 10, 11], [.ptr pb 0, .str [117, 110, 99, 104, 97, 110, 103, 101, 100], .str x, .undef, .undef, .undef, .undef, .undef, .undef], [], 73, ⟨m, [] :: [(pb, .cells (pre ++ u :: post)) :: g]⟩⟩) Tryz.func21 rfl rfl rfl ?_
 repeat apply wq
 repeat apply wq
 refine wps_region (callOKF [⟨27, _, _, _, _, l1 hp hF⟩]) ?_
 simp [zS, callF]
 repeat apply wq
 refine wps_region (callOKF [⟨28, _, _, _, _, l2 hp hF⟩]) ?_
 simp [zS, callF]
 repeat apply wq
 refine wps_region callOK ?_
 simp [zS, ki1, ki2]
 repeat apply wq
 refine wps_block ?_
 repeat apply wq
 refine wps_region callOK ?_
 simp [zS]
 repeat apply wq
 refine wps_cf (by simp [opnd, St.get, zS]) ?_
 repeat apply wq
 refine wps_region callOK ?_
 simp [zS]
 repeat apply wq
 refine wps_cf (by simp [opnd, St.get, zS]) ?_
 repeat apply wq
 refine wps_region callOK ?_
 simp [zS]
 repeat apply wq
 refine wps_cf (by simp [opnd, St.get, zS]) ?_
 repeat apply wq
 refine wps_region callOK ?_
 simp [zS]
 repeat apply wq
 refine wps_ct (by simp [opnd, St.get, zS]) ?_
 repeat apply wq
 refine wps_region callOK ?_
 simp [zS, q3, q4, q5, q6, hly]
 simp [retVal, Tryz.f21, oneOr]
 refine ⟨idn m, [], by simp [fitV, fitL], fit_R hp hF' ?_ fun e he => ?_⟩
 ·simp [Heap.get, getFs, getF, q3, q4, q5, q6]
 have h1 := (hF.all e (by simp [he])).1
 have e1 : pb ≠ e.1 := fun x => by
  have nd := hF.nd
  rw [List.map_cons, List.nodup_cons] at nd
  exact nd.1 (List.mem_map.2 ⟨e, he, x.symm⟩)
 have nd := hF.nd
 rw [List.map_cons, List.nodup_cons] at nd
 simp only [Heap.get, getFs]
 rw [tops_low h1]
 simp only
 unfold getF
 rw [beqN_ne e1]
 simp only
 rw [getF_of nd.2 he]
theorem cE21 {T : List (Entry Tryz.prog)} (hI : findE 45 T = some e45.g) {m pb : Nat} {cs : List AV} {g : List (Nat × Blk)} (hp : pb < m) (hF : Rows0 m ((pb, .cells (cs)) :: g)) {w : Str} (hw : idxFrom (fun y => decide (w = y)) headsL 0 = -1) (hk : idxFrom (fun y => decide (w = y)) namesL 0 = -1) (h1 : w ≠ jPrefix) (h2 : w ≠ jUnchanged) (x : Str) :
  CallAt (ctx T) 21 [.ptr pb 0, .str w, .str x] ⟨m, [(pb, .cells cs) :: g]⟩ (.tup []) ⟨m + 1, [(pb, .cells cs) :: g]⟩ := by
 have hF' := hF
 have c1 : ¬ w = [112, 114, 101, 102, 105, 120] := h1
 have c2 : ¬ w = [117, 110, 99, 104, 97, 110, 103, 101, 100] := h2
 have hF := hF
 have g4 := get_tops (n := m + 4) (pb := pb) hF
 have ki1 := idx_at hI (b := m + 1) (L := headsL) (len := 4) rfl (by decide) (cap := .ex 4) g4.1 w
 have ki2 := idx_at hI (b := m + 3) (L := namesL) (len := 5) rfl (by decide) (cap := .ex 5) g4.2.1 w
 rw [hw] at ki1
 rw [hk] at ki2
 have q3 : Nat.beq (m + 2) pb = false := beqN_ne (by omega)
 have q4 : Nat.beq (m + 3) pb = false := beqN_ne (by omega)
 have q5 : Nat.beq m pb = false := beqN_ne (by omega)
 have q6 : Nat.beq (m + 1) pb = false := beqN_ne (by omega)
 refine callAt_body (fn := Tryz.f21) (s0 := ⟨[0, 1, 2, 6, 7, 8, 9, 10, 11], [.ptr pb 0, .str w, .str x, .undef, .undef, .undef, .undef, .undef, .undef], [], 73, ⟨m, [] :: [(pb, .cells (cs)) :: g]⟩⟩) Tryz.func21 rfl rfl rfl ?_
 repeat apply wq
 repeat apply wq
 refine wps_region (callOKF [⟨27, _, _, _, _, l1 hp hF⟩]) ?_
 simp [zS, callF]
 repeat apply wq
 refine wps_region (callOKF [⟨28, _, _, _, _, l2 hp hF⟩]) ?_
 simp [zS, callF]
 repeat apply wq
 refine wps_region callOK ?_
 simp [zS, ki1, ki2]
 repeat apply wq
 refine wps_block ?_
 repeat apply wq
 refine wps_region callOK ?_
 simp [zS]
 repeat apply wq
 refine wps_cf (by simp [opnd, St.get, zS]) ?_
 repeat apply wq
 refine wps_region callOK ?_
 simp [zS]
 repeat apply wq
 refine wps_cf (by simp [opnd, St.get, zS]) ?_
 repeat apply wq
 refine wps_region callOK ?_
 simp [zS, c1]
 repeat apply wq
 refine wps_cf (by simp [opnd, St.get, zS, c1]) ?_
 repeat apply wq
 refine wps_region callOK ?_
 simp [zS, c2]
 repeat apply wq
 refine wps_cf (by simp [opnd, St.get, zS, c2]) ?_
 repeat apply wq
 refine wps_skip ?_
 simp [retVal, Tryz.f21, oneOr]
 refine ⟨idn m, [], by simp [fitV, fitL], fit_R hp hF' ?_ fun e he => ?_⟩
 ·simp [Heap.get, getFs, getF, q3, q4, q5, q6]
 have h1 := (hF.all e (by simp [he])).1
 have e1 : pb ≠ e.1 := fun x => by
  have nd := hF.nd
  rw [List.map_cons, List.nodup_cons] at nd
  exact nd.1 (List.mem_map.2 ⟨e, he, x.symm⟩)
 have nd := hF.nd
 rw [List.map_cons, List.nodup_cons] at nd
 simp only [Heap.get, getFs]
 rw [tops_low h1]
 simp only
 unfold getF
 rw [beqN_ne e1]
 simp only
 rw [getF_of nd.2 he]
def numStep (n : Int) (c : UInt8) : Int := 10 * n + c.toNat - 48
def numR (x : Str) : Int := (x.take 9).foldl numStep 0
theorem num_le (x : Str) : ∀ i, -6 * (10 : Int) ^ i + 6 ≤ (x.take i).foldl numStep 0 ∧ (x.take i).foldl numStep 0 ≤ 23 * 10 ^ i - 23
 | 0 => by simp
 | i + 1 => by
  have ih := num_le x i
  have hp : (1 : Int) ≤ 10 ^ i := by
   have : (0 : Nat) < 10 ^ i := Nat.pow_pos (by omega)
   have e : ((10 ^ i : Nat) : Int) = (10 : Int) ^ i := by simp
   omega
  have hs : (10 : Int) ^ (i + 1) = 10 * 10 ^ i := by rw [Int.pow_succ]; omega
  by_cases h : i < x.length
  ·rw [List.take_succ_eq_append_getElem h, List.foldl_append]
   simp only [List.foldl_cons, List.foldl_nil, numStep]
   have hc := x[i].toNat_lt
   rw [hs]
   generalize (10 : Int) ^ i = P at *
   generalize List.foldl numStep 0 (List.take i x) = v at *
   omega
  ·rw [List.take_of_length_le (by omega)] at ih ⊢
   rw [hs]
   omega
theorem num_step {x : Str} {i : Nat} (h : i < x.length) : (x.take (i + 1)).foldl numStep 0 = 10 * (x.take i).foldl numStep 0 + x[i].toNat - 48 := by
 rw [List.take_succ_eq_append_getElem h, List.foldl_append]
 rfl
theorem c47 {T : List (Entry Tryz.prog)} (x : Str) : CallAt (ctx T) 47 [.str x] ⟨0, []⟩ (.int .i64 (numR x)) ⟨0, []⟩ := by
 refine callAt_body (fn := Tryz.f47) (s0 := ⟨[0, 2, 3, 4], [.str x, .undef, .undef, .undef], [], 24, ⟨0, [[]]⟩⟩) Tryz.func47 rfl rfl rfl ?_
 repeat apply wq
 refine wps_region callOK ?_
 simp [zS]
 repeat apply wq
 refine wps_region callOK ?_
 simp [zS]
 repeat apply wq
 refine wps_region callOK ?_
 simp [zS]
 repeat apply wq
 refine wps_block (wps_loop' (fun i : Nat => (⟨[0, 2, 3, 4], [.str x, .int .i64 0, .int .i64 ((x.take i).foldl numStep 0), .int .i64 (i : Int)], [], 24, ⟨0, [[]]⟩⟩ : St))
  (fun i => i ≤ x.length ∧ i ≤ 9) (fun i => 9 - i) [] [] 0 (by omega) ⟨rfl, rfl, rfl, by simp [fitL, fitV, pureV, pureL], FitH.nothing⟩ ?_)
 rintro i ⟨hi, h9⟩ B hB
 have end_ : ¬ (i < x.length ∧ i < 9) → (x.take i).foldl numStep 0 = numR x := fun hn => by
  unfold numR
  by_cases g : i < 9
  ·rw [List.take_of_length_le (by omega), List.take_of_length_le (by omega)]
  ·have : i = 9 := by omega
   subst this; rfl
 by_cases h : i < x.length
 ·have hc : (i : Int) < (x.length : Int) := by omega
  by_cases g : i < 9
  ·have gc : (i : Int) < 9 := by omega
   repeat apply wq
   refine wps_region callOK ?_
   simp [zS, hc, gc]
   repeat apply wq
   refine wps_ct (by simp [opnd, St.get, zS, h, g]) ?_
   repeat apply wq
   refine wps_skip ?_
   simp
   repeat apply wq
   refine wps_block ?_
   have hb := num_le x i
   have hp : (10 : Int) ^ i ≤ 1000000000 := by
    have h1 : 10 ^ i ≤ 10 ^ 9 := Nat.pow_le_pow_right (by omega) (by omega)
    have e : ((10 ^ i : Nat) : Int) = (10 : Int) ^ i := by simp
    omega
   have hs := num_step h
   obtain ⟨v, hv⟩ : ∃ v, v = (x.take i).foldl numStep 0 := ⟨_, rfl⟩
   obtain ⟨N, hN⟩ : ∃ N, N = (x.take (i + 1)).foldl numStep 0 := ⟨_, rfl⟩
   rw [← hv] at hs hb ⊢
   rw [← hN] at hs
   have hcn := x[i].toNat_lt
   have hcv : convA Tryz.prog ⟨0, [[]]⟩ 5 3 (.int .u8 (x[i].toNat : Int)) = some (.int .i64 (x[i].toNat : Int), ⟨0, [[]]⟩) := by
    have hw : ∀ n : Fin 256, IntKind.wrap .i64 (n.val : Int) = (n.val : Int) := by decide +kernel
    have hw2 := hw ⟨x[i].toNat, hcn⟩
    simp only at hw2
    simp [convA, hw2]
   have w1 : wr .i64 (10 * v) = some (10 * v) := wr_small (by omega) (by omega)
   have w2 : wr .i64 (10 * v + (x[i].toNat : Int)) = some (10 * v + (x[i].toNat : Int)) := wr_small (by omega) (by omega)
   have w3 : wr .i64 (10 * v + (x[i].toNat : Int) - 48) = some N := by rw [hs]; exact wr_small (by omega) (by omega)
   repeat apply wq
   refine wps_region callOK ?_
   simp [zS, ixStr h, hcv, w1, w2, w3]
   repeat apply wq
   refine wps_region callOK ?_
   simp [zS, add_one (show i ≤ 1000000000 by omega)]
   exact hB _ (i + 1) (by omega) (by omega) ⟨[], [], ⟨rfl, rfl, rfl, by simp [fitL, fitV, pureV, pureL, hN], FitH.nothing⟩⟩
  ·have gc : ¬ (i : Int) < 9 := by omega
   repeat apply wq
   refine wps_region callOK ?_
   simp [zS, hc, gc]
   repeat apply wq
   refine wps_cf (by simp [opnd, St.get, zS, h, g]) ?_
   repeat apply wq
   refine wps_exit ?_
   simp
   rw [end_ (by omega)]
   repeat apply wq
   refine wps_region callOK ?_
   simp [zS]
   repeat apply wq
   refine wps_ret ?_
   simp [retVal, Tryz.f47, oneOr, thenQ, blockQ]
   exact ends_pure rfl (by rfl)
 ·have hc : ¬ (i : Int) < (x.length : Int) := by omega
  repeat apply wq
  refine wps_region callOK ?_
  simp [zS, hc]
  repeat apply wq
  refine wps_cf (by simp [opnd, St.get, zS, h]) ?_
  repeat apply wq
  refine wps_exit ?_
  simp
  rw [end_ (by omega)]
  repeat apply wq
  refine wps_region callOK ?_
  simp [zS]
  repeat apply wq
  refine wps_ret ?_
  simp [retVal, Tryz.f47, oneOr, thenQ, blockQ]
  exact ends_pure rfl (by rfl)
noncomputable def e47 : Entry Tryz.prog := mkE 47 [[]] (fun x : Str => [.str x]) (fun _ => True) (fun x => .int .i64 (numR x)) fun x _ => c47 (T := []) x
theorem k47 {T : List (Entry Tryz.prog)} (hT : findE 47 T = some e47.g) (x : Str) (H : Heap) : callL (ctx T) (.fn 47) [.str x] H = some (.int .i64 (numR x), H) :=
 mkE_scalar hT inj_str x trivial rfl (by simp)
theorem cA022 {T : List (Entry Tryz.prog)} {m pb k : Nat} {pre post : List AV} {L : List Str} {g : List (Nat × Blk)} (h : Vok m pb pre k L post g) (hpre : pre.length = 1) (hl : L.length + 1 ≤ 1000000000) (x : Str) :
  CallAt (ctx T) 22 [.ptr pb 0, .str [114, 101, 115, 101, 114, 118, 101, 100], .str x] ⟨m, [VF pb pre k L post g]⟩ (.tup []) ⟨m + 1, [VF pb pre m (L ++ [x]) post g]⟩ := by
 have rd2 : ∀ n, readVar Tryz.prog ⟨n, [[], VF pb pre k L post g]⟩ 22 (.ptr pb 1) = some (ownV k 1 (strA L)) := fun n => by
  have : Heap.get ⟨n, [[], VF pb pre k L post g]⟩ pb = some (.cells (pre ++ ownV k 1 (strA L) :: post)) := by
   simp only [Heap.get, getFs, getF, VF_p]
  have e : getL (pre ++ ownV k 1 (strA L) :: post) 1 = some (ownV k 1 (strA L)) := by
   rw [getL_get (by simp; omega), List.getElem_append_right (by omega)]
   simp [hpre]
  simp [this, e]
 have hfl : ∀ i, i < m → getF i [(m, .cells [.str x])] = none := fun i hi => by
  unfold getF
  rw [beqN_ne (show m ≠ i by omega)]
  rfl
 have happ := app_V (n := m + 1) (f := [(m, .cells [.str x])]) h (t := m) (x := x) hfl (by simp [getF]) hl
 have pr := prom_V (f := [(m, .cells [.str x])]) h (c := m + 1) (L' := L ++ [x]) (u := ownV k 1 (strA L)) (by omega) hfl
 have hly : layL [.slc (m + 1) 0 (L.length + 1) (.rest 1)] 1 (pre ++ ownV k 1 (strA L) :: post) = some (pre ++ .slc (m + 1) 0 (L.length + 1) (.rest 1) :: post) := hpre ▸ lay_one
 have hfit := fit_V (L' := L ++ [x]) (c := m + 1) (H := ⟨m + 1 + 1, [[(m, .cells [.str x])], (m + 1, .cells (strA (L ++ [x]))) :: (pb, .cells (pre ++ .slc (m + 1) 0 (L ++ [x]).length (.rest 1) :: post)) :: g]⟩) h (by omega) (by simp)
  (by
   simp only [Heap.get, getFs]
   rw [hfl pb h.lp]
   simp only
   unfold getF
   rw [beqN_ne (show m + 1 ≠ pb by have := h.lp; omega)]
   simp [getF])
  (by
   simp only [Heap.get, getFs]
   rw [getF_none (l := [(m, .cells [.str x])]) (by simp)]
   simp [getF])
  (fun e he => by
   have := h.lg e he
   simp only [Heap.get, getFs]
   rw [hfl e.1 this]
   simp only
   have nd := h.nd
   rw [List.nodup_cons] at nd
   have e1 : pb ≠ e.1 := fun x => nd.1 (List.mem_map.2 ⟨e, he, x.symm⟩)
   unfold getF
   rw [beqN_ne (show m + 1 ≠ e.1 by omega)]
   simp only
   unfold getF
   rw [beqN_ne e1]
   simp only
   rw [getF_of nd.2 he])
 have hlen : (L ++ [x]).length = L.length + 1 := by simp
 rw [hlen] at hfit
 obtain ⟨R, hR⟩ : ∃ R, R = strA (L ++ [x]) := ⟨_, rfl⟩
 rw [← hR] at happ pr hfit
 have q1 : Nat.beq (m + 1) pb = false := beqN_ne (by have := h.lp; omega)
 have q5 : Nat.beq m pb = false := beqN_ne (by have := h.lp; omega)
 refine callAt_body (fn := Tryz.f22) (s0 := ⟨[0, 1, 2], [.ptr pb 0, .str [114, 101, 115, 101, 114, 118, 101, 100], .str x], [], 102, ⟨m, [] :: [VF pb pre k L post g]⟩⟩) Tryz.func22 rfl rfl rfl ?_
 repeat apply wq
 repeat apply wq
 refine wps_region callOK ?_
 simp [zS]
 repeat apply wq
 refine wps_cf (by simp [opnd, St.get, zS]) ?_
 repeat apply wq
 refine wps_region callOK ?_
 simp [zS]
 repeat apply wq
 refine wps_ct (by simp [opnd, St.get, zS]) ?_
 repeat apply wq
 refine wps_region callOK ?_
 simp [zS, rd2, happ, q1, q5, pr, hly]
 simp [retVal, Tryz.f22, oneOr]
 refine ⟨_, _, ?_, hfit⟩
 simp [fitV, fitL]
theorem cA122 {T : List (Entry Tryz.prog)} {m pb k : Nat} {pre post : List AV} {L : List Str} {g : List (Nat × Blk)} (h : Vok m pb pre k L post g) (hpre : pre.length = 2) (hl : L.length + 1 ≤ 1000000000) (x : Str) :
  CallAt (ctx T) 22 [.ptr pb 0, .str [101, 108, 101, 109], .str x] ⟨m, [VF pb pre k L post g]⟩ (.tup []) ⟨m + 1, [VF pb pre m (L ++ [x]) post g]⟩ := by
 have rd2 : ∀ n, readVar Tryz.prog ⟨n, [[], VF pb pre k L post g]⟩ 22 (.ptr pb 2) = some (ownV k 1 (strA L)) := fun n => by
  have : Heap.get ⟨n, [[], VF pb pre k L post g]⟩ pb = some (.cells (pre ++ ownV k 1 (strA L) :: post)) := by
   simp only [Heap.get, getFs, getF, VF_p]
  have e : getL (pre ++ ownV k 1 (strA L) :: post) 2 = some (ownV k 1 (strA L)) := by
   rw [getL_get (by simp; omega), List.getElem_append_right (by omega)]
   simp [hpre]
  simp [this, e]
 have hfl : ∀ i, i < m → getF i [(m, .cells [.str x])] = none := fun i hi => by
  unfold getF
  rw [beqN_ne (show m ≠ i by omega)]
  rfl
 have happ := app_V (n := m + 1) (f := [(m, .cells [.str x])]) h (t := m) (x := x) hfl (by simp [getF]) hl
 have pr := prom_V (f := [(m, .cells [.str x])]) h (c := m + 1) (L' := L ++ [x]) (u := ownV k 1 (strA L)) (by omega) hfl
 have hly : layL [.slc (m + 1) 0 (L.length + 1) (.rest 1)] 2 (pre ++ ownV k 1 (strA L) :: post) = some (pre ++ .slc (m + 1) 0 (L.length + 1) (.rest 1) :: post) := hpre ▸ lay_one
 have hfit := fit_V (L' := L ++ [x]) (c := m + 1) (H := ⟨m + 1 + 1, [[(m, .cells [.str x])], (m + 1, .cells (strA (L ++ [x]))) :: (pb, .cells (pre ++ .slc (m + 1) 0 (L ++ [x]).length (.rest 1) :: post)) :: g]⟩) h (by omega) (by simp)
  (by
   simp only [Heap.get, getFs]
   rw [hfl pb h.lp]
   simp only
   unfold getF
   rw [beqN_ne (show m + 1 ≠ pb by have := h.lp; omega)]
   simp [getF])
  (by
   simp only [Heap.get, getFs]
   rw [getF_none (l := [(m, .cells [.str x])]) (by simp)]
   simp [getF])
  (fun e he => by
   have := h.lg e he
   simp only [Heap.get, getFs]
   rw [hfl e.1 this]
   simp only
   have nd := h.nd
   rw [List.nodup_cons] at nd
   have e1 : pb ≠ e.1 := fun x => nd.1 (List.mem_map.2 ⟨e, he, x.symm⟩)
   unfold getF
   rw [beqN_ne (show m + 1 ≠ e.1 by omega)]
   simp only
   unfold getF
   rw [beqN_ne e1]
   simp only
   rw [getF_of nd.2 he])
 have hlen : (L ++ [x]).length = L.length + 1 := by simp
 rw [hlen] at hfit
 obtain ⟨R, hR⟩ : ∃ R, R = strA (L ++ [x]) := ⟨_, rfl⟩
 rw [← hR] at happ pr hfit
 have q1 : Nat.beq (m + 1) pb = false := beqN_ne (by have := h.lp; omega)
 have q5 : Nat.beq m pb = false := beqN_ne (by have := h.lp; omega)
 refine callAt_body (fn := Tryz.f22) (s0 := ⟨[0, 1, 2], [.ptr pb 0, .str [101, 108, 101, 109], .str x], [], 102, ⟨m, [] :: [VF pb pre k L post g]⟩⟩) Tryz.func22 rfl rfl rfl ?_
 repeat apply wq
 repeat apply wq
 refine wps_region callOK ?_
 simp [zS]
 repeat apply wq
 refine wps_cf (by simp [opnd, St.get, zS]) ?_
 repeat apply wq
 refine wps_region callOK ?_
 simp [zS]
 repeat apply wq
 refine wps_cf (by simp [opnd, St.get, zS]) ?_
 repeat apply wq
 refine wps_region callOK ?_
 simp [zS]
 repeat apply wq
 refine wps_ct (by simp [opnd, St.get, zS]) ?_
 repeat apply wq
 refine wps_region callOK ?_
 simp [zS, rd2, happ, q1, q5, pr, hly]
 simp [retVal, Tryz.f22, oneOr]
 refine ⟨_, _, ?_, hfit⟩
 simp [fitV, fitL]
theorem cA222 {T : List (Entry Tryz.prog)} {m pb k : Nat} {pre post : List AV} {L : List Str} {g : List (Nat × Blk)} (h : Vok m pb pre k L post g) (hpre : pre.length = 3) (hl : L.length + 1 ≤ 1000000000) (x : Str) :
  CallAt (ctx T) 22 [.ptr pb 0, .str [97, 116, 116, 114], .str x] ⟨m, [VF pb pre k L post g]⟩ (.tup []) ⟨m + 1, [VF pb pre m (L ++ [x]) post g]⟩ := by
 have rd2 : ∀ n, readVar Tryz.prog ⟨n, [[], VF pb pre k L post g]⟩ 22 (.ptr pb 3) = some (ownV k 1 (strA L)) := fun n => by
  have : Heap.get ⟨n, [[], VF pb pre k L post g]⟩ pb = some (.cells (pre ++ ownV k 1 (strA L) :: post)) := by
   simp only [Heap.get, getFs, getF, VF_p]
  have e : getL (pre ++ ownV k 1 (strA L) :: post) 3 = some (ownV k 1 (strA L)) := by
   rw [getL_get (by simp; omega), List.getElem_append_right (by omega)]
   simp [hpre]
  simp [this, e]
 have hfl : ∀ i, i < m → getF i [(m, .cells [.str x])] = none := fun i hi => by
  unfold getF
  rw [beqN_ne (show m ≠ i by omega)]
  rfl
 have happ := app_V (n := m + 1) (f := [(m, .cells [.str x])]) h (t := m) (x := x) hfl (by simp [getF]) hl
 have pr := prom_V (f := [(m, .cells [.str x])]) h (c := m + 1) (L' := L ++ [x]) (u := ownV k 1 (strA L)) (by omega) hfl
 have hly : layL [.slc (m + 1) 0 (L.length + 1) (.rest 1)] 3 (pre ++ ownV k 1 (strA L) :: post) = some (pre ++ .slc (m + 1) 0 (L.length + 1) (.rest 1) :: post) := hpre ▸ lay_one
 have hfit := fit_V (L' := L ++ [x]) (c := m + 1) (H := ⟨m + 1 + 1, [[(m, .cells [.str x])], (m + 1, .cells (strA (L ++ [x]))) :: (pb, .cells (pre ++ .slc (m + 1) 0 (L ++ [x]).length (.rest 1) :: post)) :: g]⟩) h (by omega) (by simp)
  (by
   simp only [Heap.get, getFs]
   rw [hfl pb h.lp]
   simp only
   unfold getF
   rw [beqN_ne (show m + 1 ≠ pb by have := h.lp; omega)]
   simp [getF])
  (by
   simp only [Heap.get, getFs]
   rw [getF_none (l := [(m, .cells [.str x])]) (by simp)]
   simp [getF])
  (fun e he => by
   have := h.lg e he
   simp only [Heap.get, getFs]
   rw [hfl e.1 this]
   simp only
   have nd := h.nd
   rw [List.nodup_cons] at nd
   have e1 : pb ≠ e.1 := fun x => nd.1 (List.mem_map.2 ⟨e, he, x.symm⟩)
   unfold getF
   rw [beqN_ne (show m + 1 ≠ e.1 by omega)]
   simp only
   unfold getF
   rw [beqN_ne e1]
   simp only
   rw [getF_of nd.2 he])
 have hlen : (L ++ [x]).length = L.length + 1 := by simp
 rw [hlen] at hfit
 obtain ⟨R, hR⟩ : ∃ R, R = strA (L ++ [x]) := ⟨_, rfl⟩
 rw [← hR] at happ pr hfit
 have q1 : Nat.beq (m + 1) pb = false := beqN_ne (by have := h.lp; omega)
 have q5 : Nat.beq m pb = false := beqN_ne (by have := h.lp; omega)
 refine callAt_body (fn := Tryz.f22) (s0 := ⟨[0, 1, 2], [.ptr pb 0, .str [97, 116, 116, 114], .str x], [], 102, ⟨m, [] :: [VF pb pre k L post g]⟩⟩) Tryz.func22 rfl rfl rfl ?_
 repeat apply wq
 repeat apply wq
 refine wps_region callOK ?_
 simp [zS]
 repeat apply wq
 refine wps_cf (by simp [opnd, St.get, zS]) ?_
 repeat apply wq
 refine wps_region callOK ?_
 simp [zS]
 repeat apply wq
 refine wps_cf (by simp [opnd, St.get, zS]) ?_
 repeat apply wq
 refine wps_region callOK ?_
 simp [zS]
 repeat apply wq
 refine wps_cf (by simp [opnd, St.get, zS]) ?_
 repeat apply wq
 refine wps_region callOK ?_
 simp [zS]
 repeat apply wq
 refine wps_ct (by simp [opnd, St.get, zS]) ?_
 repeat apply wq
 refine wps_region callOK ?_
 simp [zS, rd2, happ, q1, q5, pr, hly]
 simp [retVal, Tryz.f22, oneOr]
 refine ⟨_, _, ?_, hfit⟩
 simp [fitV, fitL]
theorem cA322 {T : List (Entry Tryz.prog)} {m pb k : Nat} {pre post : List AV} {L : List Str} {g : List (Nat × Blk)} (h : Vok m pb pre k L post g) (hpre : pre.length = 4) (hl : L.length + 1 ≤ 1000000000) (x : Str) :
  CallAt (ctx T) 22 [.ptr pb 0, .str [115, 99, 104, 101, 109, 101], .str x] ⟨m, [VF pb pre k L post g]⟩ (.tup []) ⟨m + 1, [VF pb pre m (L ++ [x]) post g]⟩ := by
 have rd2 : ∀ n, readVar Tryz.prog ⟨n, [[], VF pb pre k L post g]⟩ 22 (.ptr pb 4) = some (ownV k 1 (strA L)) := fun n => by
  have : Heap.get ⟨n, [[], VF pb pre k L post g]⟩ pb = some (.cells (pre ++ ownV k 1 (strA L) :: post)) := by
   simp only [Heap.get, getFs, getF, VF_p]
  have e : getL (pre ++ ownV k 1 (strA L) :: post) 4 = some (ownV k 1 (strA L)) := by
   rw [getL_get (by simp; omega), List.getElem_append_right (by omega)]
   simp [hpre]
  simp [this, e]
 have hfl : ∀ i, i < m → getF i [(m, .cells [.str x])] = none := fun i hi => by
  unfold getF
  rw [beqN_ne (show m ≠ i by omega)]
  rfl
 have happ := app_V (n := m + 1) (f := [(m, .cells [.str x])]) h (t := m) (x := x) hfl (by simp [getF]) hl
 have pr := prom_V (f := [(m, .cells [.str x])]) h (c := m + 1) (L' := L ++ [x]) (u := ownV k 1 (strA L)) (by omega) hfl
 have hly : layL [.slc (m + 1) 0 (L.length + 1) (.rest 1)] 4 (pre ++ ownV k 1 (strA L) :: post) = some (pre ++ .slc (m + 1) 0 (L.length + 1) (.rest 1) :: post) := hpre ▸ lay_one
 have hfit := fit_V (L' := L ++ [x]) (c := m + 1) (H := ⟨m + 1 + 1, [[(m, .cells [.str x])], (m + 1, .cells (strA (L ++ [x]))) :: (pb, .cells (pre ++ .slc (m + 1) 0 (L ++ [x]).length (.rest 1) :: post)) :: g]⟩) h (by omega) (by simp)
  (by
   simp only [Heap.get, getFs]
   rw [hfl pb h.lp]
   simp only
   unfold getF
   rw [beqN_ne (show m + 1 ≠ pb by have := h.lp; omega)]
   simp [getF])
  (by
   simp only [Heap.get, getFs]
   rw [getF_none (l := [(m, .cells [.str x])]) (by simp)]
   simp [getF])
  (fun e he => by
   have := h.lg e he
   simp only [Heap.get, getFs]
   rw [hfl e.1 this]
   simp only
   have nd := h.nd
   rw [List.nodup_cons] at nd
   have e1 : pb ≠ e.1 := fun x => nd.1 (List.mem_map.2 ⟨e, he, x.symm⟩)
   unfold getF
   rw [beqN_ne (show m + 1 ≠ e.1 by omega)]
   simp only
   unfold getF
   rw [beqN_ne e1]
   simp only
   rw [getF_of nd.2 he])
 have hlen : (L ++ [x]).length = L.length + 1 := by simp
 rw [hlen] at hfit
 obtain ⟨R, hR⟩ : ∃ R, R = strA (L ++ [x]) := ⟨_, rfl⟩
 rw [← hR] at happ pr hfit
 have q1 : Nat.beq (m + 1) pb = false := beqN_ne (by have := h.lp; omega)
 have q5 : Nat.beq m pb = false := beqN_ne (by have := h.lp; omega)
 refine callAt_body (fn := Tryz.f22) (s0 := ⟨[0, 1, 2], [.ptr pb 0, .str [115, 99, 104, 101, 109, 101], .str x], [], 102, ⟨m, [] :: [VF pb pre k L post g]⟩⟩) Tryz.func22 rfl rfl rfl ?_
 repeat apply wq
 repeat apply wq
 refine wps_region callOK ?_
 simp [zS]
 repeat apply wq
 refine wps_cf (by simp [opnd, St.get, zS]) ?_
 repeat apply wq
 refine wps_region callOK ?_
 simp [zS]
 repeat apply wq
 refine wps_cf (by simp [opnd, St.get, zS]) ?_
 repeat apply wq
 refine wps_region callOK ?_
 simp [zS]
 repeat apply wq
 refine wps_cf (by simp [opnd, St.get, zS]) ?_
 repeat apply wq
 refine wps_region callOK ?_
 simp [zS]
 repeat apply wq
 refine wps_cf (by simp [opnd, St.get, zS]) ?_
 repeat apply wq
 refine wps_region callOK ?_
 simp [zS]
 repeat apply wq
 refine wps_ct (by simp [opnd, St.get, zS]) ?_
 repeat apply wq
 refine wps_region callOK ?_
 simp [zS, rd2, happ, q1, q5, pr, hly]
 simp [retVal, Tryz.f22, oneOr]
 refine ⟨_, _, ?_, hfit⟩
 simp [fitV, fitL]
theorem cB022 {T : List (Entry Tryz.prog)} {m pb : Nat} {pre post : List AV} {u : AV} {g : List (Nat × Blk)} (hp : pb < m) (hF : Rows0 m ((pb, .cells (pre ++ u :: post)) :: g)) (hA : findE 47 T = some e47.g) (hpre : pre.length = 5) (x : Str) (hF' : Rows0 m ((pb, .cells (pre ++ .int .i64 (numR x) :: post)) :: g)) :
  CallAt (ctx T) 22 [.ptr pb 0, .str [98, 121, 116, 101, 115], .str x] ⟨m, [(pb, .cells (pre ++ u :: post)) :: g]⟩ (.tup []) ⟨m + 1, [(pb, .cells (pre ++ .int .i64 (numR x) :: post)) :: g]⟩ := by
 have ka := fun H => k47 hA x H
 generalize numR x = v at *
 have hly : layL [.int .i64 v] 5 (pre ++ u :: post) = some (pre ++ .int .i64 v :: post) := hpre ▸ lay_one
 refine callAt_body (fn := Tryz.f22) (s0 := ⟨[0, 1, 2], [.ptr pb 0, .str [98, 121, 116, 101, 115], .str x], [], 102, ⟨m, [] :: [(pb, .cells (pre ++ u :: post)) :: g]⟩⟩) Tryz.func22 rfl rfl rfl ?_
 repeat apply wq
 repeat apply wq
 refine wps_region callOK ?_
 simp [zS]
 repeat apply wq
 refine wps_cf (by simp [opnd, St.get, zS]) ?_
 repeat apply wq
 refine wps_region callOK ?_
 simp [zS]
 repeat apply wq
 refine wps_cf (by simp [opnd, St.get, zS]) ?_
 repeat apply wq
 refine wps_region callOK ?_
 simp [zS]
 repeat apply wq
 refine wps_cf (by simp [opnd, St.get, zS]) ?_
 repeat apply wq
 refine wps_region callOK ?_
 simp [zS]
 repeat apply wq
 refine wps_cf (by simp [opnd, St.get, zS]) ?_
 repeat apply wq
 refine wps_region callOK ?_
 simp [zS]
 repeat apply wq
 refine wps_cf (by simp [opnd, St.get, zS]) ?_
 repeat apply wq
 refine wps_region callOK ?_
 simp [zS]
 repeat apply wq
 refine wps_ct (by simp [opnd, St.get, zS]) ?_
 repeat apply wq
 refine wps_region callOK ?_
 simp [zS, ka, hly]
 simp [retVal, Tryz.f22, oneOr]
 refine ⟨idn m, [], by simp [fitV, fitL], fit_R hp hF' ?_ fun e he => ?_⟩
 ·simp [Heap.get, getFs, getF]
 have h1 := (hF.all e (by simp [he])).1
 have e1 : pb ≠ e.1 := fun x => by
  have nd := hF.nd
  rw [List.map_cons, List.nodup_cons] at nd
  exact nd.1 (List.mem_map.2 ⟨e, he, x.symm⟩)
 have nd := hF.nd
 rw [List.map_cons, List.nodup_cons] at nd
 simp only [Heap.get, getFs, getF]
 rw [beqN_ne e1]
 simp only
 rw [getF_of nd.2 he]
theorem cB122 {T : List (Entry Tryz.prog)} {m pb : Nat} {pre post : List AV} {u : AV} {g : List (Nat × Blk)} (hp : pb < m) (hF : Rows0 m ((pb, .cells (pre ++ u :: post)) :: g)) (hA : findE 47 T = some e47.g) (hpre : pre.length = 6) (x : Str) (hF' : Rows0 m ((pb, .cells (pre ++ .int .i64 (numR x) :: post)) :: g)) :
  CallAt (ctx T) 22 [.ptr pb 0, .str [110, 111, 100, 101, 115], .str x] ⟨m, [(pb, .cells (pre ++ u :: post)) :: g]⟩ (.tup []) ⟨m + 1, [(pb, .cells (pre ++ .int .i64 (numR x) :: post)) :: g]⟩ := by
 have ka := fun H => k47 hA x H
 generalize numR x = v at *
 have hly : layL [.int .i64 v] 6 (pre ++ u :: post) = some (pre ++ .int .i64 v :: post) := hpre ▸ lay_one
 refine callAt_body (fn := Tryz.f22) (s0 := ⟨[0, 1, 2], [.ptr pb 0, .str [110, 111, 100, 101, 115], .str x], [], 102, ⟨m, [] :: [(pb, .cells (pre ++ u :: post)) :: g]⟩⟩) Tryz.func22 rfl rfl rfl ?_
 repeat apply wq
 repeat apply wq
 refine wps_region callOK ?_
 simp [zS]
 repeat apply wq
 refine wps_cf (by simp [opnd, St.get, zS]) ?_
 repeat apply wq
 refine wps_region callOK ?_
 simp [zS]
 repeat apply wq
 refine wps_cf (by simp [opnd, St.get, zS]) ?_
 repeat apply wq
 refine wps_region callOK ?_
 simp [zS]
 repeat apply wq
 refine wps_cf (by simp [opnd, St.get, zS]) ?_
 repeat apply wq
 refine wps_region callOK ?_
 simp [zS]
 repeat apply wq
 refine wps_cf (by simp [opnd, St.get, zS]) ?_
 repeat apply wq
 refine wps_region callOK ?_
 simp [zS]
 repeat apply wq
 refine wps_cf (by simp [opnd, St.get, zS]) ?_
 repeat apply wq
 refine wps_region callOK ?_
 simp [zS]
 repeat apply wq
 refine wps_cf (by simp [opnd, St.get, zS]) ?_
 repeat apply wq
 refine wps_region callOK ?_
 simp [zS]
 repeat apply wq
 refine wps_ct (by simp [opnd, St.get, zS]) ?_
 repeat apply wq
 refine wps_region callOK ?_
 simp [zS, ka, hly]
 simp [retVal, Tryz.f22, oneOr]
 refine ⟨idn m, [], by simp [fitV, fitL], fit_R hp hF' ?_ fun e he => ?_⟩
 ·simp [Heap.get, getFs, getF]
 have h1 := (hF.all e (by simp [he])).1
 have e1 : pb ≠ e.1 := fun x => by
  have nd := hF.nd
  rw [List.map_cons, List.nodup_cons] at nd
  exact nd.1 (List.mem_map.2 ⟨e, he, x.symm⟩)
 have nd := hF.nd
 rw [List.map_cons, List.nodup_cons] at nd
 simp only [Heap.get, getFs, getF]
 rw [beqN_ne e1]
 simp only
 rw [getF_of nd.2 he]
theorem cB222 {T : List (Entry Tryz.prog)} {m pb : Nat} {pre post : List AV} {u : AV} {g : List (Nat × Blk)} (hp : pb < m) (hF : Rows0 m ((pb, .cells (pre ++ u :: post)) :: g)) (hA : findE 47 T = some e47.g) (hpre : pre.length = 7) (x : Str) (hF' : Rows0 m ((pb, .cells (pre ++ .int .i64 (numR x) :: post)) :: g)) :
  CallAt (ctx T) 22 [.ptr pb 0, .str [100, 101, 101, 112], .str x] ⟨m, [(pb, .cells (pre ++ u :: post)) :: g]⟩ (.tup []) ⟨m + 1, [(pb, .cells (pre ++ .int .i64 (numR x) :: post)) :: g]⟩ := by
 have ka := fun H => k47 hA x H
 generalize numR x = v at *
 have hly : layL [.int .i64 v] 7 (pre ++ u :: post) = some (pre ++ .int .i64 v :: post) := hpre ▸ lay_one
 refine callAt_body (fn := Tryz.f22) (s0 := ⟨[0, 1, 2], [.ptr pb 0, .str [100, 101, 101, 112], .str x], [], 102, ⟨m, [] :: [(pb, .cells (pre ++ u :: post)) :: g]⟩⟩) Tryz.func22 rfl rfl rfl ?_
 repeat apply wq
 repeat apply wq
 refine wps_region callOK ?_
 simp [zS]
 repeat apply wq
 refine wps_cf (by simp [opnd, St.get, zS]) ?_
 repeat apply wq
 refine wps_region callOK ?_
 simp [zS]
 repeat apply wq
 refine wps_cf (by simp [opnd, St.get, zS]) ?_
 repeat apply wq
 refine wps_region callOK ?_
 simp [zS]
 repeat apply wq
 refine wps_cf (by simp [opnd, St.get, zS]) ?_
 repeat apply wq
 refine wps_region callOK ?_
 simp [zS]
 repeat apply wq
 refine wps_cf (by simp [opnd, St.get, zS]) ?_
 repeat apply wq
 refine wps_region callOK ?_
 simp [zS]
 repeat apply wq
 refine wps_cf (by simp [opnd, St.get, zS]) ?_
 repeat apply wq
 refine wps_region callOK ?_
 simp [zS]
 repeat apply wq
 refine wps_cf (by simp [opnd, St.get, zS]) ?_
 repeat apply wq
 refine wps_region callOK ?_
 simp [zS]
 repeat apply wq
 refine wps_cf (by simp [opnd, St.get, zS]) ?_
 repeat apply wq
 refine wps_region callOK ?_
 simp [zS]
 repeat apply wq
 refine wps_ct (by simp [opnd, St.get, zS]) ?_
 repeat apply wq
 refine wps_region callOK ?_
 simp [zS, ka, hly]
 simp [retVal, Tryz.f22, oneOr]
 refine ⟨idn m, [], by simp [fitV, fitL], fit_R hp hF' ?_ fun e he => ?_⟩
 ·simp [Heap.get, getFs, getF]
 have h1 := (hF.all e (by simp [he])).1
 have e1 : pb ≠ e.1 := fun x => by
  have nd := hF.nd
  rw [List.map_cons, List.nodup_cons] at nd
  exact nd.1 (List.mem_map.2 ⟨e, he, x.symm⟩)
 have nd := hF.nd
 rw [List.map_cons, List.nodup_cons] at nd
 simp only [Heap.get, getFs, getF]
 rw [beqN_ne e1]
 simp only
 rw [getF_of nd.2 he]
theorem cB322 {T : List (Entry Tryz.prog)} {m pb : Nat} {pre post : List AV} {u : AV} {g : List (Nat × Blk)} (hp : pb < m) (hF : Rows0 m ((pb, .cells (pre ++ u :: post)) :: g)) (hA : findE 47 T = some e47.g) (hpre : pre.length = 8) (x : Str) (hF' : Rows0 m ((pb, .cells (pre ++ .int .i64 (numR x) :: post)) :: g)) :
  CallAt (ctx T) 22 [.ptr pb 0, .str [97, 116, 116, 114, 115], .str x] ⟨m, [(pb, .cells (pre ++ u :: post)) :: g]⟩ (.tup []) ⟨m + 1, [(pb, .cells (pre ++ .int .i64 (numR x) :: post)) :: g]⟩ := by
 have ka := fun H => k47 hA x H
 generalize numR x = v at *
 have hly : layL [.int .i64 v] 8 (pre ++ u :: post) = some (pre ++ .int .i64 v :: post) := hpre ▸ lay_one
 refine callAt_body (fn := Tryz.f22) (s0 := ⟨[0, 1, 2], [.ptr pb 0, .str [97, 116, 116, 114, 115], .str x], [], 102, ⟨m, [] :: [(pb, .cells (pre ++ u :: post)) :: g]⟩⟩) Tryz.func22 rfl rfl rfl ?_
 repeat apply wq
 repeat apply wq
 refine wps_region callOK ?_
 simp [zS]
 repeat apply wq
 refine wps_cf (by simp [opnd, St.get, zS]) ?_
 repeat apply wq
 refine wps_region callOK ?_
 simp [zS]
 repeat apply wq
 refine wps_cf (by simp [opnd, St.get, zS]) ?_
 repeat apply wq
 refine wps_region callOK ?_
 simp [zS]
 repeat apply wq
 refine wps_cf (by simp [opnd, St.get, zS]) ?_
 repeat apply wq
 refine wps_region callOK ?_
 simp [zS]
 repeat apply wq
 refine wps_cf (by simp [opnd, St.get, zS]) ?_
 repeat apply wq
 refine wps_region callOK ?_
 simp [zS]
 repeat apply wq
 refine wps_cf (by simp [opnd, St.get, zS]) ?_
 repeat apply wq
 refine wps_region callOK ?_
 simp [zS]
 repeat apply wq
 refine wps_cf (by simp [opnd, St.get, zS]) ?_
 repeat apply wq
 refine wps_region callOK ?_
 simp [zS]
 repeat apply wq
 refine wps_cf (by simp [opnd, St.get, zS]) ?_
 repeat apply wq
 refine wps_region callOK ?_
 simp [zS]
 repeat apply wq
 refine wps_cf (by simp [opnd, St.get, zS]) ?_
 repeat apply wq
 refine wps_region callOK ?_
 simp [zS]
 repeat apply wq
 refine wps_ct (by simp [opnd, St.get, zS]) ?_
 repeat apply wq
 refine wps_region callOK ?_
 simp [zS, ka, hly]
 simp [retVal, Tryz.f22, oneOr]
 refine ⟨idn m, [], by simp [fitV, fitL], fit_R hp hF' ?_ fun e he => ?_⟩
 ·simp [Heap.get, getFs, getF]
 have h1 := (hF.all e (by simp [he])).1
 have e1 : pb ≠ e.1 := fun x => by
  have nd := hF.nd
  rw [List.map_cons, List.nodup_cons] at nd
  exact nd.1 (List.mem_map.2 ⟨e, he, x.symm⟩)
 have nd := hF.nd
 rw [List.map_cons, List.nodup_cons] at nd
 simp only [Heap.get, getFs, getF]
 rw [beqN_ne e1]
 simp only
 rw [getF_of nd.2 he]
theorem cB422 {T : List (Entry Tryz.prog)} {m pb : Nat} {pre post : List AV} {u : AV} {g : List (Nat × Blk)} (hp : pb < m) (hF : Rows0 m ((pb, .cells (pre ++ u :: post)) :: g)) (hA : findE 47 T = some e47.g) (hpre : pre.length = 9) (x : Str) (hF' : Rows0 m ((pb, .cells (pre ++ .int .i64 (numR x) :: post)) :: g)) :
  CallAt (ctx T) 22 [.ptr pb 0, .str [108, 111, 111, 107, 117, 112, 115], .str x] ⟨m, [(pb, .cells (pre ++ u :: post)) :: g]⟩ (.tup []) ⟨m + 1, [(pb, .cells (pre ++ .int .i64 (numR x) :: post)) :: g]⟩ := by
 have ka := fun H => k47 hA x H
 generalize numR x = v at *
 have hly : layL [.int .i64 v] 9 (pre ++ u :: post) = some (pre ++ .int .i64 v :: post) := hpre ▸ lay_one
 refine callAt_body (fn := Tryz.f22) (s0 := ⟨[0, 1, 2], [.ptr pb 0, .str [108, 111, 111, 107, 117, 112, 115], .str x], [], 102, ⟨m, [] :: [(pb, .cells (pre ++ u :: post)) :: g]⟩⟩) Tryz.func22 rfl rfl rfl ?_
 repeat apply wq
 repeat apply wq
 refine wps_region callOK ?_
 simp [zS]
 repeat apply wq
 refine wps_cf (by simp [opnd, St.get, zS]) ?_
 repeat apply wq
 refine wps_region callOK ?_
 simp [zS]
 repeat apply wq
 refine wps_cf (by simp [opnd, St.get, zS]) ?_
 repeat apply wq
 refine wps_region callOK ?_
 simp [zS]
 repeat apply wq
 refine wps_cf (by simp [opnd, St.get, zS]) ?_
 repeat apply wq
 refine wps_region callOK ?_
 simp [zS]
 repeat apply wq
 refine wps_cf (by simp [opnd, St.get, zS]) ?_
 repeat apply wq
 refine wps_region callOK ?_
 simp [zS]
 repeat apply wq
 refine wps_cf (by simp [opnd, St.get, zS]) ?_
 repeat apply wq
 refine wps_region callOK ?_
 simp [zS]
 repeat apply wq
 refine wps_cf (by simp [opnd, St.get, zS]) ?_
 repeat apply wq
 refine wps_region callOK ?_
 simp [zS]
 repeat apply wq
 refine wps_cf (by simp [opnd, St.get, zS]) ?_
 repeat apply wq
 refine wps_region callOK ?_
 simp [zS]
 repeat apply wq
 refine wps_cf (by simp [opnd, St.get, zS]) ?_
 repeat apply wq
 refine wps_region callOK ?_
 simp [zS]
 repeat apply wq
 refine wps_cf (by simp [opnd, St.get, zS]) ?_
 repeat apply wq
 refine wps_region callOK ?_
 simp [zS]
 repeat apply wq
 refine wps_ct (by simp [opnd, St.get, zS]) ?_
 repeat apply wq
 refine wps_region callOK ?_
 simp [zS, ka, hly]
 simp [retVal, Tryz.f22, oneOr]
 refine ⟨idn m, [], by simp [fitV, fitL], fit_R hp hF' ?_ fun e he => ?_⟩
 ·simp [Heap.get, getFs, getF]
 have h1 := (hF.all e (by simp [he])).1
 have e1 : pb ≠ e.1 := fun x => by
  have nd := hF.nd
  rw [List.map_cons, List.nodup_cons] at nd
  exact nd.1 (List.mem_map.2 ⟨e, he, x.symm⟩)
 have nd := hF.nd
 rw [List.map_cons, List.nodup_cons] at nd
 simp only [Heap.get, getFs, getF]
 rw [beqN_ne e1]
 simp only
 rw [getF_of nd.2 he]
theorem cC22 {T : List (Entry Tryz.prog)} {m pb : Nat} {post : List AV} {u : AV} {g : List (Nat × Blk)} (hp : pb < m) (hF : Rows0 m ((pb, .cells (u :: post)) :: g)) (x : Str) (hF' : Rows0 m ((pb, .cells (.str x :: post)) :: g)) :
  CallAt (ctx T) 22 [.ptr pb 0, .str [112, 114, 101, 102, 105, 120], .str x] ⟨m, [(pb, .cells (u :: post)) :: g]⟩ (.tup []) ⟨m + 1, [(pb, .cells (.str x :: post)) :: g]⟩ := by
 refine callAt_body (fn := Tryz.f22) (s0 := ⟨[0, 1, 2], [.ptr pb 0, .str [112, 114, 101, 102, 105, 120], .str x], [], 102, ⟨m, [] :: [(pb, .cells (u :: post)) :: g]⟩⟩) Tryz.func22 rfl rfl rfl ?_
 repeat apply wq
 repeat apply wq
 refine wps_region callOK ?_
 simp [zS]
 repeat apply wq
 refine wps_ct (by simp [opnd, St.get, zS]) ?_
 repeat apply wq
 refine wps_region callOK ?_
 simp [zS, layL, overL]
 simp [retVal, Tryz.f22, oneOr]
 refine ⟨idn m, [], by simp [fitV, fitL], fit_R hp hF' ?_ fun e he => ?_⟩
 ·simp [Heap.get, getFs, getF]
 have h1 := (hF.all e (by simp [he])).1
 have e1 : pb ≠ e.1 := fun x => by
  have nd := hF.nd
  rw [List.map_cons, List.nodup_cons] at nd
  exact nd.1 (List.mem_map.2 ⟨e, he, x.symm⟩)
 have nd := hF.nd
 rw [List.map_cons, List.nodup_cons] at nd
 simp only [Heap.get, getFs, getF]
 rw [beqN_ne e1]
 simp only
 rw [getF_of nd.2 he]
theorem cD22 {T : List (Entry Tryz.prog)} {m pb : Nat} {pre post : List AV} {u : AV} {g : List (Nat × Blk)} (hp : pb < m) (hF : Rows0 m ((pb, .cells (pre ++ u :: post)) :: g)) (hpre : pre.length = 10) (x : Str) (hF' : Rows0 m ((pb, .cells (pre ++ .bool (decide (x = jYes)) :: post)) :: g)) :
  CallAt (ctx T) 22 [.ptr pb 0, .str [117, 110, 99, 104, 97, 110, 103, 101, 100], .str x] ⟨m, [(pb, .cells (pre ++ u :: post)) :: g]⟩ (.tup []) ⟨m + 1, [(pb, .cells (pre ++ .bool (decide (x = jYes)) :: post)) :: g]⟩ := by
 have hly : layL [.bool (decide (x = [121, 101, 115]))] 10 (pre ++ u :: post) = some (pre ++ .bool (decide (x = jYes)) :: post) := hpre ▸ lay_one
 refine callAt_body (fn := Tryz.f22) (s0 := ⟨[0, 1, 2], [.ptr pb 0, .str [117, 110, 99, 104, 97, 110, 103, 101, 100], .str x], [], 102, ⟨m, [] :: [(pb, .cells (pre ++ u :: post)) :: g]⟩⟩) Tryz.func22 rfl rfl rfl ?_
 repeat apply wq
 repeat apply wq
 refine wps_region callOK ?_
 simp [zS]
 repeat apply wq
 refine wps_cf (by simp [opnd, St.get, zS]) ?_
 repeat apply wq
 refine wps_region callOK ?_
 simp [zS]
 repeat apply wq
 refine wps_cf (by simp [opnd, St.get, zS]) ?_
 repeat apply wq
 refine wps_region callOK ?_
 simp [zS]
 repeat apply wq
 refine wps_cf (by simp [opnd, St.get, zS]) ?_
 repeat apply wq
 refine wps_region callOK ?_
 simp [zS]
 repeat apply wq
 refine wps_cf (by simp [opnd, St.get, zS]) ?_
 repeat apply wq
 refine wps_region callOK ?_
 simp [zS]
 repeat apply wq
 refine wps_cf (by simp [opnd, St.get, zS]) ?_
 repeat apply wq
 refine wps_region callOK ?_
 simp [zS]
 repeat apply wq
 refine wps_cf (by simp [opnd, St.get, zS]) ?_
 repeat apply wq
 refine wps_region callOK ?_
 simp [zS]
 repeat apply wq
 refine wps_cf (by simp [opnd, St.get, zS]) ?_
 repeat apply wq
 refine wps_region callOK ?_
 simp [zS]
 repeat apply wq
 refine wps_cf (by simp [opnd, St.get, zS]) ?_
 repeat apply wq
 refine wps_region callOK ?_
 simp [zS]
 repeat apply wq
 refine wps_cf (by simp [opnd, St.get, zS]) ?_
 repeat apply wq
 refine wps_region callOK ?_
 simp [zS]
 repeat apply wq
 refine wps_cf (by simp [opnd, St.get, zS]) ?_
 repeat apply wq
 refine wps_region callOK ?_
 simp [zS]
 repeat apply wq
 refine wps_ct (by simp [opnd, St.get, zS]) ?_
 repeat apply wq
 refine wps_region callOK ?_
 simp [zS, hly]
 simp [retVal, Tryz.f22, oneOr]
 refine ⟨idn m, [], by simp [fitV, fitL], fit_R hp hF' ?_ fun e he => ?_⟩
 ·simp [Heap.get, getFs, getF]
 have h1 := (hF.all e (by simp [he])).1
 have e1 : pb ≠ e.1 := fun x => by
  have nd := hF.nd
  rw [List.map_cons, List.nodup_cons] at nd
  exact nd.1 (List.mem_map.2 ⟨e, he, x.symm⟩)
 have nd := hF.nd
 rw [List.map_cons, List.nodup_cons] at nd
 simp only [Heap.get, getFs, getF]
 rw [beqN_ne e1]
 simp only
 rw [getF_of nd.2 he]
theorem cE22 {T : List (Entry Tryz.prog)} {m pb : Nat} {cs : List AV} {g : List (Nat × Blk)} (hp : pb < m) (hF : Rows0 m ((pb, .cells (cs)) :: g)) {w : Str} (h0 : w ≠ jPrefix) (h1 : w ≠ jReserved) (h2 : w ≠ jElem) (h3 : w ≠ jAttr) (h4 : w ≠ jScheme) (h5 : w ≠ jBytes) (h6 : w ≠ jNodes) (h7 : w ≠ jDeep) (h8 : w ≠ jAttrs) (h9 : w ≠ jLookups) (h10 : w ≠ jUnchanged) (x : Str) :
  CallAt (ctx T) 22 [.ptr pb 0, .str w, .str x] ⟨m, [(pb, .cells cs) :: g]⟩ (.tup []) ⟨m + 1, [(pb, .cells cs) :: g]⟩ := by
 have hF' := hF
 have c0 : ¬ w = [112, 114, 101, 102, 105, 120] := h0
 have c1 : ¬ w = [114, 101, 115, 101, 114, 118, 101, 100] := h1
 have c2 : ¬ w = [101, 108, 101, 109] := h2
 have c3 : ¬ w = [97, 116, 116, 114] := h3
 have c4 : ¬ w = [115, 99, 104, 101, 109, 101] := h4
 have c5 : ¬ w = [98, 121, 116, 101, 115] := h5
 have c6 : ¬ w = [110, 111, 100, 101, 115] := h6
 have c7 : ¬ w = [100, 101, 101, 112] := h7
 have c8 : ¬ w = [97, 116, 116, 114, 115] := h8
 have c9 : ¬ w = [108, 111, 111, 107, 117, 112, 115] := h9
 have c10 : ¬ w = [117, 110, 99, 104, 97, 110, 103, 101, 100] := h10
 refine callAt_body (fn := Tryz.f22) (s0 := ⟨[0, 1, 2], [.ptr pb 0, .str w, .str x], [], 102, ⟨m, [] :: [(pb, .cells cs) :: g]⟩⟩) Tryz.func22 rfl rfl rfl ?_
 repeat apply wq
 repeat apply wq
 refine wps_region callOK ?_
 simp [zS, c0]
 repeat apply wq
 refine wps_cf (by simp [opnd, St.get, zS, c0]) ?_
 repeat apply wq
 refine wps_region callOK ?_
 simp [zS, c1]
 repeat apply wq
 refine wps_cf (by simp [opnd, St.get, zS, c1]) ?_
 repeat apply wq
 refine wps_region callOK ?_
 simp [zS, c2]
 repeat apply wq
 refine wps_cf (by simp [opnd, St.get, zS, c2]) ?_
 repeat apply wq
 refine wps_region callOK ?_
 simp [zS, c3]
 repeat apply wq
 refine wps_cf (by simp [opnd, St.get, zS, c3]) ?_
 repeat apply wq
 refine wps_region callOK ?_
 simp [zS, c4]
 repeat apply wq
 refine wps_cf (by simp [opnd, St.get, zS, c4]) ?_
 repeat apply wq
 refine wps_region callOK ?_
 simp [zS, c5]
 repeat apply wq
 refine wps_cf (by simp [opnd, St.get, zS, c5]) ?_
 repeat apply wq
 refine wps_region callOK ?_
 simp [zS, c6]
 repeat apply wq
 refine wps_cf (by simp [opnd, St.get, zS, c6]) ?_
 repeat apply wq
 refine wps_region callOK ?_
 simp [zS, c7]
 repeat apply wq
 refine wps_cf (by simp [opnd, St.get, zS, c7]) ?_
 repeat apply wq
 refine wps_region callOK ?_
 simp [zS, c8]
 repeat apply wq
 refine wps_cf (by simp [opnd, St.get, zS, c8]) ?_
 repeat apply wq
 refine wps_region callOK ?_
 simp [zS, c9]
 repeat apply wq
 refine wps_cf (by simp [opnd, St.get, zS, c9]) ?_
 repeat apply wq
 refine wps_region callOK ?_
 simp [zS, c10]
 repeat apply wq
 refine wps_cf (by simp [opnd, St.get, zS, c10]) ?_
 repeat apply wq
 refine wps_skip ?_
 simp [retVal, Tryz.f22, oneOr]
 refine ⟨idn m, [], by simp [fitV, fitL], fit_R hp hF' ?_ fun e he => ?_⟩
 ·simp [Heap.get, getFs, getF]
 have h1 := (hF.all e (by simp [he])).1
 have e1 : pb ≠ e.1 := fun x => by
  have nd := hF.nd
  rw [List.map_cons, List.nodup_cons] at nd
  exact nd.1 (List.mem_map.2 ⟨e, he, x.symm⟩)
 have nd := hF.nd
 rw [List.map_cons, List.nodup_cons] at nd
 simp only [Heap.get, getFs, getF]
 rw [beqN_ne e1]
 simp only
 rw [getF_of nd.2 he]
def takeV (num : Str → Int) (q : PolR) (w x : Str) : PolR :=
 if w = jPrefix then { q with pre := x } else if w = jReserved then { q with res := q.res ++ [x] } else if w = jElem then { q with els := q.els ++ [x] } else if w = jAttr then { q with ats := q.ats ++ [x] }
 else if w = jScheme then { q with sch := q.sch ++ [x] } else if w = jBytes then { q with byt := num x } else if w = jNodes then { q with nod := num x } else if w = jDeep then { q with dep := num x }
 else if w = jAttrs then { q with per := num x } else if w = jLookups then { q with loo := num x } else if w = jUnchanged then { q with unc := decide (x = jYes) } else q
structure Ks where
 a : Nat
 b : Nat
 c : Nat
 d : Nat
def polO (q : PolR) (ks : Ks) : List AV := [.str q.pre, ownV ks.a 1 (strA q.res), ownV ks.b 1 (strA q.els), ownV ks.c 1 (strA q.ats), ownV ks.d 1 (strA q.sch), .int .i64 q.byt, .int .i64 q.nod, .int .i64 q.dep, .int .i64 q.per, .int .i64 q.loo, .bool q.unc]
def polG (q : PolR) (ks : Ks) : List (Nat × Blk) := ownF ks.a (strA q.res) ++ (ownF ks.b (strA q.els) ++ (ownF ks.c (strA q.ats) ++ ownF ks.d (strA q.sch)))
def PF (pb : Nat) (q : PolR) (ks : Ks) : List (Nat × Blk) := (pb, .cells (polO q ks)) :: polG q ks
structure Pok (m pb : Nat) (ks : Ks) : Prop where
 lt : pb < m ∧ ks.a < m ∧ ks.b < m ∧ ks.c < m ∧ ks.d < m
 nd : [pb, ks.a, ks.b, ks.c, ks.d].Nodup
theorem ownF_keys (k : Nat) (es : List AV) : ((ownF k es).map (·.1)).Sublist [k] := by
 cases es with
 | nil => simp [ownF]
 | cons x r => simp [ownF]
theorem ownF_mem {k : Nat} {L : List Str} {e : Nat × Blk} (h : e ∈ ownF k (strA L)) : e.1 = k ∧ e.2 = .cells (strA L) := by
 cases L with
 | nil => simp [ownF] at h
 | cons x r =>
  rw [ownF_ne (by simp)] at h
  simp only [List.mem_singleton] at h
  subst h
  exact ⟨rfl, by rw [flatS]⟩
theorem self_strs (m : Nat) (L : List Str) : SelfB m (.cells (strA L)) := self_pure (by rw [← flatS]; exact (elS L).pure)
theorem fit_ownV {σ : List (Nat × Nat)} {k : Nat} {L : List Str} (h : lookN k σ = some k) : fitV σ [] (ownV k 1 (strA L)) (ownV k 1 (strA L)) := by
 cases L with
 | nil => simp [ownV, fitV]
 | cons x r => rw [ownV_ne (by simp)]; simp [fitV, h]
theorem single_ownV (k : Nat) (L : List Str) : (ownV k 1 (strA L)).single = true := by cases L <;> rfl
section
variable {m pb : Nat} {ks : Ks} {q : PolR}
theorem Pok.mem (h : Pok m pb ks) {e : Nat × Blk} (he : e ∈ polG q ks) : e.1 < m ∧ SelfB m e.2 := by
 obtain ⟨h0, h1, h2, h3, h4⟩ := h.lt
 simp only [polG, List.mem_append] at he
 rcases he with he | he | he | he <;>
 ·obtain ⟨e1, e2⟩ := ownF_mem he
  exact ⟨by omega, by rw [e2]; exact self_strs m _⟩
theorem polG_keys : ((polG q ks).map (·.1)).Sublist [ks.a, ks.b, ks.c, ks.d] := by
 simp only [polG, List.map_append]
 exact (ownF_keys _ _).append ((ownF_keys _ _).append ((ownF_keys _ _).append (ownF_keys _ _)))
theorem Pok.rows (h : Pok m pb ks) {cs : List AV} (hc : ∀ σ, Idl m σ → fitL σ [] cs cs) : Rows0 m ((pb, .cells cs) :: polG q ks) where
 all := fun e he => by
  rcases List.mem_cons.1 he with rfl | he
  ·exact ⟨h.lt.1, hc⟩
  ·exact h.mem he
 nd := by
  rw [List.map_cons]
  exact (List.Sublist.cons_cons pb polG_keys).nodup h.nd
theorem Pok.fit (h : Pok m pb ks) {σ : List (Nat × Nat)} (hs : Idl m σ) : fitV σ [] (ownV ks.a 1 (strA q.res)) (ownV ks.a 1 (strA q.res)) ∧ fitV σ [] (ownV ks.b 1 (strA q.els)) (ownV ks.b 1 (strA q.els)) ∧ fitV σ [] (ownV ks.c 1 (strA q.ats)) (ownV ks.c 1 (strA q.ats)) ∧ fitV σ [] (ownV ks.d 1 (strA q.sch)) (ownV ks.d 1 (strA q.sch)) :=
 ⟨fit_ownV (hs _ h.lt.2.1), fit_ownV (hs _ h.lt.2.2.1), fit_ownV (hs _ h.lt.2.2.2.1), fit_ownV (hs _ h.lt.2.2.2.2)⟩
theorem Pok.cells (h : Pok m pb ks) : ∀ σ, Idl m σ → fitL σ [] (polO q ks) (polO q ks) := fun σ hs => by
 obtain ⟨f1, f2, f3, f4⟩ := h.fit (q := q) hs
 simp only [polO, fitL, f1, f2, f3, f4, true_and, and_true]
 simp [fitV, pureV]
theorem Pok.next1 (h : Pok m pb ks) : Pok (m + 1) pb ks := ⟨by have := h.lt; omega, h.nd⟩
def preW0 (q : PolR) (ks : Ks) : List AV := [.str q.pre]
def postW0 (q : PolR) (ks : Ks) : List AV := [ownV ks.b 1 (strA q.els), ownV ks.c 1 (strA q.ats), ownV ks.d 1 (strA q.sch), .int .i64 q.byt, .int .i64 q.nod, .int .i64 q.dep, .int .i64 q.per, .int .i64 q.loo, .bool q.unc]
def grpW0 (q : PolR) (ks : Ks) : List (Nat × Blk) := ownF ks.b (strA q.els) ++ (ownF ks.c (strA q.ats) ++ ownF ks.d (strA q.sch))
theorem keysW0 : ((grpW0 q ks).map (·.1)).Sublist [ks.b, ks.c, ks.d] := by
 simp only [grpW0, List.map_append]
 exact (ownF_keys _ _).append ((ownF_keys _ _).append (ownF_keys _ _))
theorem permW0 : (PF pb q ks).Perm (VF pb (preW0 q ks) ks.a q.res (postW0 q ks) (grpW0 q ks)) := List.Perm.cons _ (List.Perm.refl _)
theorem Pok.v0 (h : Pok m pb ks) : Vok m pb (preW0 q ks) ks.a q.res (postW0 q ks) (grpW0 q ks) where
 lp := h.lt.1
 lk := ⟨by have := h.lt; omega, fun hx => by
  have nd := h.nd
  simp only [List.nodup_cons, List.mem_cons, List.not_mem_nil, or_false, not_or] at nd
  rcases List.mem_cons.1 hx with hx | hx
  ·omega
  ·have := keysW0.subset hx
   simp only [List.mem_cons, List.not_mem_nil, or_false] at this
   omega⟩
 lg := fun e he => by
  obtain ⟨h0, h1, h2, h3, h4⟩ := h.lt
  simp only [grpW0, List.mem_append] at he
  rcases he with he | he | he <;>
  ·obtain ⟨e1, e2⟩ := ownF_mem he
   omega
 nd := by
  have nd := h.nd
  refine (List.Sublist.cons_cons pb keysW0).nodup ?_
  simp only [List.nodup_cons, List.mem_cons, List.not_mem_nil, or_false, not_or, not_false_eq_true, List.nodup_nil, and_true] at nd ⊢
  omega
 sg := fun e he => by
  simp only [grpW0, List.mem_append] at he
  rcases he with he | he | he <;>
  ·obtain ⟨e1, e2⟩ := ownF_mem he
   rw [e2]; exact self_strs m _
 sp := fun σ hs => by
  obtain ⟨f1, f2, f3, f4⟩ := h.fit (q := q) hs
  simp only [preW0, fitL, f1, f2, f3, f4, true_and, and_true]
  simp [fitV, pureV]
 sq := fun σ hs => by
  obtain ⟨f1, f2, f3, f4⟩ := h.fit (q := q) hs
  simp only [postW0, fitL, f1, f2, f3, f4, true_and, and_true]
  simp [fitV, pureV]
 s1 := by simp only [preW0, allSingle, single_ownV]; rfl
 s2 := by simp only [postW0, allSingle, single_ownV]; rfl
theorem Pok.n0 (h : Pok m pb ks) : Pok (m + 1) pb { ks with a := m } := ⟨by have := h.lt; simp only; omega, by
  have nd := h.nd
  have := h.lt
  simp only [List.nodup_cons, List.mem_cons, List.not_mem_nil, or_false, not_or, not_false_eq_true, List.nodup_nil, and_true] at nd ⊢
  omega⟩
def preW1 (q : PolR) (ks : Ks) : List AV := [.str q.pre, ownV ks.a 1 (strA q.res)]
def postW1 (q : PolR) (ks : Ks) : List AV := [ownV ks.c 1 (strA q.ats), ownV ks.d 1 (strA q.sch), .int .i64 q.byt, .int .i64 q.nod, .int .i64 q.dep, .int .i64 q.per, .int .i64 q.loo, .bool q.unc]
def grpW1 (q : PolR) (ks : Ks) : List (Nat × Blk) := ownF ks.a (strA q.res) ++ (ownF ks.c (strA q.ats) ++ ownF ks.d (strA q.sch))
theorem keysW1 : ((grpW1 q ks).map (·.1)).Sublist [ks.a, ks.c, ks.d] := by
 simp only [grpW1, List.map_append]
 exact (ownF_keys _ _).append ((ownF_keys _ _).append (ownF_keys _ _))
theorem permW1 : (PF pb q ks).Perm (VF pb (preW1 q ks) ks.b q.els (postW1 q ks) (grpW1 q ks)) := List.Perm.cons _ (List.perm_append_comm_assoc _ _ _)
theorem Pok.v1 (h : Pok m pb ks) : Vok m pb (preW1 q ks) ks.b q.els (postW1 q ks) (grpW1 q ks) where
 lp := h.lt.1
 lk := ⟨by have := h.lt; omega, fun hx => by
  have nd := h.nd
  simp only [List.nodup_cons, List.mem_cons, List.not_mem_nil, or_false, not_or] at nd
  rcases List.mem_cons.1 hx with hx | hx
  ·omega
  ·have := keysW1.subset hx
   simp only [List.mem_cons, List.not_mem_nil, or_false] at this
   omega⟩
 lg := fun e he => by
  obtain ⟨h0, h1, h2, h3, h4⟩ := h.lt
  simp only [grpW1, List.mem_append] at he
  rcases he with he | he | he <;>
  ·obtain ⟨e1, e2⟩ := ownF_mem he
   omega
 nd := by
  have nd := h.nd
  refine (List.Sublist.cons_cons pb keysW1).nodup ?_
  simp only [List.nodup_cons, List.mem_cons, List.not_mem_nil, or_false, not_or, not_false_eq_true, List.nodup_nil, and_true] at nd ⊢
  omega
 sg := fun e he => by
  simp only [grpW1, List.mem_append] at he
  rcases he with he | he | he <;>
  ·obtain ⟨e1, e2⟩ := ownF_mem he
   rw [e2]; exact self_strs m _
 sp := fun σ hs => by
  obtain ⟨f1, f2, f3, f4⟩ := h.fit (q := q) hs
  simp only [preW1, fitL, f1, f2, f3, f4, true_and, and_true]
  simp [fitV, pureV]
 sq := fun σ hs => by
  obtain ⟨f1, f2, f3, f4⟩ := h.fit (q := q) hs
  simp only [postW1, fitL, f1, f2, f3, f4, true_and, and_true]
  simp [fitV, pureV]
 s1 := by simp only [preW1, allSingle, single_ownV]; rfl
 s2 := by simp only [postW1, allSingle, single_ownV]; rfl
theorem Pok.n1 (h : Pok m pb ks) : Pok (m + 1) pb { ks with b := m } := ⟨by have := h.lt; simp only; omega, by
  have nd := h.nd
  have := h.lt
  simp only [List.nodup_cons, List.mem_cons, List.not_mem_nil, or_false, not_or, not_false_eq_true, List.nodup_nil, and_true] at nd ⊢
  omega⟩
def preW2 (q : PolR) (ks : Ks) : List AV := [.str q.pre, ownV ks.a 1 (strA q.res), ownV ks.b 1 (strA q.els)]
def postW2 (q : PolR) (ks : Ks) : List AV := [ownV ks.d 1 (strA q.sch), .int .i64 q.byt, .int .i64 q.nod, .int .i64 q.dep, .int .i64 q.per, .int .i64 q.loo, .bool q.unc]
def grpW2 (q : PolR) (ks : Ks) : List (Nat × Blk) := ownF ks.a (strA q.res) ++ (ownF ks.b (strA q.els) ++ ownF ks.d (strA q.sch))
theorem keysW2 : ((grpW2 q ks).map (·.1)).Sublist [ks.a, ks.b, ks.d] := by
 simp only [grpW2, List.map_append]
 exact (ownF_keys _ _).append ((ownF_keys _ _).append (ownF_keys _ _))
theorem permW2 : (PF pb q ks).Perm (VF pb (preW2 q ks) ks.c q.ats (postW2 q ks) (grpW2 q ks)) := List.Perm.cons _ ((List.Perm.append_left _ (List.perm_append_comm_assoc _ _ _)).trans (List.perm_append_comm_assoc _ _ _))
theorem Pok.v2 (h : Pok m pb ks) : Vok m pb (preW2 q ks) ks.c q.ats (postW2 q ks) (grpW2 q ks) where
 lp := h.lt.1
 lk := ⟨by have := h.lt; omega, fun hx => by
  have nd := h.nd
  simp only [List.nodup_cons, List.mem_cons, List.not_mem_nil, or_false, not_or] at nd
  rcases List.mem_cons.1 hx with hx | hx
  ·omega
  ·have := keysW2.subset hx
   simp only [List.mem_cons, List.not_mem_nil, or_false] at this
   omega⟩
 lg := fun e he => by
  obtain ⟨h0, h1, h2, h3, h4⟩ := h.lt
  simp only [grpW2, List.mem_append] at he
  rcases he with he | he | he <;>
  ·obtain ⟨e1, e2⟩ := ownF_mem he
   omega
 nd := by
  have nd := h.nd
  refine (List.Sublist.cons_cons pb keysW2).nodup ?_
  simp only [List.nodup_cons, List.mem_cons, List.not_mem_nil, or_false, not_or, not_false_eq_true, List.nodup_nil, and_true] at nd ⊢
  omega
 sg := fun e he => by
  simp only [grpW2, List.mem_append] at he
  rcases he with he | he | he <;>
  ·obtain ⟨e1, e2⟩ := ownF_mem he
   rw [e2]; exact self_strs m _
 sp := fun σ hs => by
  obtain ⟨f1, f2, f3, f4⟩ := h.fit (q := q) hs
  simp only [preW2, fitL, f1, f2, f3, f4, true_and, and_true]
  simp [fitV, pureV]
 sq := fun σ hs => by
  obtain ⟨f1, f2, f3, f4⟩ := h.fit (q := q) hs
  simp only [postW2, fitL, f1, f2, f3, f4, true_and, and_true]
  simp [fitV, pureV]
 s1 := by simp only [preW2, allSingle, single_ownV]; rfl
 s2 := by simp only [postW2, allSingle, single_ownV]; rfl
theorem Pok.n2 (h : Pok m pb ks) : Pok (m + 1) pb { ks with c := m } := ⟨by have := h.lt; simp only; omega, by
  have nd := h.nd
  have := h.lt
  simp only [List.nodup_cons, List.mem_cons, List.not_mem_nil, or_false, not_or, not_false_eq_true, List.nodup_nil, and_true] at nd ⊢
  omega⟩
def preW3 (q : PolR) (ks : Ks) : List AV := [.str q.pre, ownV ks.a 1 (strA q.res), ownV ks.b 1 (strA q.els), ownV ks.c 1 (strA q.ats)]
def postW3 (q : PolR) (ks : Ks) : List AV := [.int .i64 q.byt, .int .i64 q.nod, .int .i64 q.dep, .int .i64 q.per, .int .i64 q.loo, .bool q.unc]
def grpW3 (q : PolR) (ks : Ks) : List (Nat × Blk) := ownF ks.a (strA q.res) ++ (ownF ks.b (strA q.els) ++ ownF ks.c (strA q.ats))
theorem keysW3 : ((grpW3 q ks).map (·.1)).Sublist [ks.a, ks.b, ks.c] := by
 simp only [grpW3, List.map_append]
 exact (ownF_keys _ _).append ((ownF_keys _ _).append (ownF_keys _ _))
theorem permW3 : (PF pb q ks).Perm (VF pb (preW3 q ks) ks.d q.sch (postW3 q ks) (grpW3 q ks)) := List.Perm.cons _ ((List.Perm.append_left _ ((List.Perm.append_left _ List.perm_append_comm).trans (List.perm_append_comm_assoc _ _ _))).trans (List.perm_append_comm_assoc _ _ _))
theorem Pok.v3 (h : Pok m pb ks) : Vok m pb (preW3 q ks) ks.d q.sch (postW3 q ks) (grpW3 q ks) where
 lp := h.lt.1
 lk := ⟨by have := h.lt; omega, fun hx => by
  have nd := h.nd
  simp only [List.nodup_cons, List.mem_cons, List.not_mem_nil, or_false, not_or] at nd
  rcases List.mem_cons.1 hx with hx | hx
  ·omega
  ·have := keysW3.subset hx
   simp only [List.mem_cons, List.not_mem_nil, or_false] at this
   omega⟩
 lg := fun e he => by
  obtain ⟨h0, h1, h2, h3, h4⟩ := h.lt
  simp only [grpW3, List.mem_append] at he
  rcases he with he | he | he <;>
  ·obtain ⟨e1, e2⟩ := ownF_mem he
   omega
 nd := by
  have nd := h.nd
  refine (List.Sublist.cons_cons pb keysW3).nodup ?_
  simp only [List.nodup_cons, List.mem_cons, List.not_mem_nil, or_false, not_or, not_false_eq_true, List.nodup_nil, and_true] at nd ⊢
  omega
 sg := fun e he => by
  simp only [grpW3, List.mem_append] at he
  rcases he with he | he | he <;>
  ·obtain ⟨e1, e2⟩ := ownF_mem he
   rw [e2]; exact self_strs m _
 sp := fun σ hs => by
  obtain ⟨f1, f2, f3, f4⟩ := h.fit (q := q) hs
  simp only [preW3, fitL, f1, f2, f3, f4, true_and, and_true]
  simp [fitV, pureV]
 sq := fun σ hs => by
  obtain ⟨f1, f2, f3, f4⟩ := h.fit (q := q) hs
  simp only [postW3, fitL, f1, f2, f3, f4, true_and, and_true]
  simp [fitV, pureV]
 s1 := by simp only [preW3, allSingle, single_ownV]; rfl
 s2 := by simp only [postW3, allSingle, single_ownV]; rfl
theorem Pok.n3 (h : Pok m pb ks) : Pok (m + 1) pb { ks with d := m } := ⟨by have := h.lt; simp only; omega, by
  have nd := h.nd
  have := h.lt
  simp only [List.nodup_cons, List.mem_cons, List.not_mem_nil, or_false, not_or, not_false_eq_true, List.nodup_nil, and_true] at nd ⊢
  omega⟩
end
structure Kin (m : Nat) (ks ks' : Ks) : Prop where
 a : ks'.a = ks.a ∨ ks'.a = m
 b : ks'.b = ks.b ∨ ks'.b = m
 c : ks'.c = ks.c ∨ ks'.c = m
 d : ks'.d = ks.d ∨ ks'.d = m
theorem kin0 {m : Nat} {ks : Ks} : Kin m ks ks := ⟨.inl rfl, .inl rfl, .inl rfl, .inl rfl⟩
structure TakeC (C : Ctx) (f : FuncId) (num : Str → Int) : Prop where
 at_ : ∀ (m pb : Nat) (ks : Ks) (q : PolR), Pok m pb ks → (q.res.length < 1000000 ∧ q.els.length < 1000000 ∧ q.ats.length < 1000000 ∧ q.sch.length < 1000000) → ∀ w x : Str, x.length ≤ 1000000 →
  ∃ ks', Pok (m + 1) pb ks' ∧ Kin m ks ks' ∧ CallAt C f [.ptr pb 0, .str w, .str x] ⟨m, [PF pb q ks]⟩ (.tup []) ⟨m + 1, [PF pb (takeV num q w x) ks']⟩
theorem take21 {T : List (Entry Tryz.prog)} (hI : findE 45 T = some e45.g) (hA : findE 46 T = some e46.g) : TakeC (ctx T) 21 atoiN := by
 refine ⟨fun m pb ks q h hl w x hx => ?_⟩
 have hp := h.lt.1
 by_cases c0 : w = jPrefix
 ·refine ⟨ks, h.next1, kin0, ?_⟩
  have e : takeV atoiN q w x = { q with pre := x } := by rw [takeV, if_pos c0]
  rw [e, c0]
  have hF := h.rows (q := q) (h.cells (q := q))
  have hF' := h.rows (q := { q with pre := x }) (h.cells (q := { q with pre := x }))
  exact cC21 hI hp hF x hF'
 by_cases c1 : w = jReserved
 ·refine ⟨{ ks with a := m }, h.n0, ⟨.inr rfl, .inl rfl, .inl rfl, .inl rfl⟩, ?_⟩
  have e : takeV atoiN q w x = { q with res := q.res ++ [x] } := by rw [takeV, if_neg c0, if_pos c1]
  rw [e]
  have hc := cA21 hI (w := w) (h.v0 (q := q)) (i := 0) (by omega) (by rw [c1]; decide) rfl (by omega) x
  exact hc.perm rfl rfl (by simpa [Heap.ents] using permW0) (by
   have := permW0 (pb := pb) (q := { q with res := q.res ++ [x] }) (ks := { ks with a := m })
   simpa [Heap.ents, preW0, postW0, grpW0] using this)
 by_cases c2 : w = jElem
 ·refine ⟨{ ks with b := m }, h.n1, ⟨.inl rfl, .inr rfl, .inl rfl, .inl rfl⟩, ?_⟩
  have e : takeV atoiN q w x = { q with els := q.els ++ [x] } := by rw [takeV, if_neg c0, if_neg c1, if_pos c2]
  rw [e]
  have hc := cA21 hI (w := w) (h.v1 (q := q)) (i := 1) (by omega) (by rw [c2]; decide) rfl (by omega) x
  exact hc.perm rfl rfl (by simpa [Heap.ents] using permW1) (by
   have := permW1 (pb := pb) (q := { q with els := q.els ++ [x] }) (ks := { ks with b := m })
   simpa [Heap.ents, preW1, postW1, grpW1] using this)
 by_cases c3 : w = jAttr
 ·refine ⟨{ ks with c := m }, h.n2, ⟨.inl rfl, .inl rfl, .inr rfl, .inl rfl⟩, ?_⟩
  have e : takeV atoiN q w x = { q with ats := q.ats ++ [x] } := by rw [takeV, if_neg c0, if_neg c1, if_neg c2, if_pos c3]
  rw [e]
  have hc := cA21 hI (w := w) (h.v2 (q := q)) (i := 2) (by omega) (by rw [c3]; decide) rfl (by omega) x
  exact hc.perm rfl rfl (by simpa [Heap.ents] using permW2) (by
   have := permW2 (pb := pb) (q := { q with ats := q.ats ++ [x] }) (ks := { ks with c := m })
   simpa [Heap.ents, preW2, postW2, grpW2] using this)
 by_cases c4 : w = jScheme
 ·refine ⟨{ ks with d := m }, h.n3, ⟨.inl rfl, .inl rfl, .inl rfl, .inr rfl⟩, ?_⟩
  have e : takeV atoiN q w x = { q with sch := q.sch ++ [x] } := by rw [takeV, if_neg c0, if_neg c1, if_neg c2, if_neg c3, if_pos c4]
  rw [e]
  have hc := cA21 hI (w := w) (h.v3 (q := q)) (i := 3) (by omega) (by rw [c4]; decide) rfl (by omega) x
  exact hc.perm rfl rfl (by simpa [Heap.ents] using permW3) (by
   have := permW3 (pb := pb) (q := { q with sch := q.sch ++ [x] }) (ks := { ks with d := m })
   simpa [Heap.ents, preW3, postW3, grpW3] using this)
 by_cases c5 : w = jBytes
 ·refine ⟨ks, h.next1, kin0, ?_⟩
  have e : takeV atoiN q w x = { q with byt := atoiN x } := by rw [takeV, if_neg c0, if_neg c1, if_neg c2, if_neg c3, if_neg c4, if_pos c5]
  rw [e]
  have hF := h.rows (q := q) (h.cells (q := q))
  have hF' := h.rows (q := { q with byt := atoiN x }) (h.cells (q := { q with byt := atoiN x }))
  exact cB21 (hI := hI) (w := w) (pre := [.str q.pre, ownV ks.a 1 (strA q.res), ownV ks.b 1 (strA q.els), ownV ks.c 1 (strA q.ats), ownV ks.d 1 (strA q.sch)]) (post := [.int .i64 q.nod, .int .i64 q.dep, .int .i64 q.per, .int .i64 q.loo, .bool q.unc]) hp hF hA (i := 0) (by omega) (by rw [c5]; decide) (by rw [c5]; decide) rfl x hx hF'
 by_cases c6 : w = jNodes
 ·refine ⟨ks, h.next1, kin0, ?_⟩
  have e : takeV atoiN q w x = { q with nod := atoiN x } := by rw [takeV, if_neg c0, if_neg c1, if_neg c2, if_neg c3, if_neg c4, if_neg c5, if_pos c6]
  rw [e]
  have hF := h.rows (q := q) (h.cells (q := q))
  have hF' := h.rows (q := { q with nod := atoiN x }) (h.cells (q := { q with nod := atoiN x }))
  exact cB21 (hI := hI) (w := w) (pre := [.str q.pre, ownV ks.a 1 (strA q.res), ownV ks.b 1 (strA q.els), ownV ks.c 1 (strA q.ats), ownV ks.d 1 (strA q.sch), .int .i64 q.byt]) (post := [.int .i64 q.dep, .int .i64 q.per, .int .i64 q.loo, .bool q.unc]) hp hF hA (i := 1) (by omega) (by rw [c6]; decide) (by rw [c6]; decide) rfl x hx hF'
 by_cases c7 : w = jDeep
 ·refine ⟨ks, h.next1, kin0, ?_⟩
  have e : takeV atoiN q w x = { q with dep := atoiN x } := by rw [takeV, if_neg c0, if_neg c1, if_neg c2, if_neg c3, if_neg c4, if_neg c5, if_neg c6, if_pos c7]
  rw [e]
  have hF := h.rows (q := q) (h.cells (q := q))
  have hF' := h.rows (q := { q with dep := atoiN x }) (h.cells (q := { q with dep := atoiN x }))
  exact cB21 (hI := hI) (w := w) (pre := [.str q.pre, ownV ks.a 1 (strA q.res), ownV ks.b 1 (strA q.els), ownV ks.c 1 (strA q.ats), ownV ks.d 1 (strA q.sch), .int .i64 q.byt, .int .i64 q.nod]) (post := [.int .i64 q.per, .int .i64 q.loo, .bool q.unc]) hp hF hA (i := 2) (by omega) (by rw [c7]; decide) (by rw [c7]; decide) rfl x hx hF'
 by_cases c8 : w = jAttrs
 ·refine ⟨ks, h.next1, kin0, ?_⟩
  have e : takeV atoiN q w x = { q with per := atoiN x } := by rw [takeV, if_neg c0, if_neg c1, if_neg c2, if_neg c3, if_neg c4, if_neg c5, if_neg c6, if_neg c7, if_pos c8]
  rw [e]
  have hF := h.rows (q := q) (h.cells (q := q))
  have hF' := h.rows (q := { q with per := atoiN x }) (h.cells (q := { q with per := atoiN x }))
  exact cB21 (hI := hI) (w := w) (pre := [.str q.pre, ownV ks.a 1 (strA q.res), ownV ks.b 1 (strA q.els), ownV ks.c 1 (strA q.ats), ownV ks.d 1 (strA q.sch), .int .i64 q.byt, .int .i64 q.nod, .int .i64 q.dep]) (post := [.int .i64 q.loo, .bool q.unc]) hp hF hA (i := 3) (by omega) (by rw [c8]; decide) (by rw [c8]; decide) rfl x hx hF'
 by_cases c9 : w = jLookups
 ·refine ⟨ks, h.next1, kin0, ?_⟩
  have e : takeV atoiN q w x = { q with loo := atoiN x } := by rw [takeV, if_neg c0, if_neg c1, if_neg c2, if_neg c3, if_neg c4, if_neg c5, if_neg c6, if_neg c7, if_neg c8, if_pos c9]
  rw [e]
  have hF := h.rows (q := q) (h.cells (q := q))
  have hF' := h.rows (q := { q with loo := atoiN x }) (h.cells (q := { q with loo := atoiN x }))
  exact cB21 (hI := hI) (w := w) (pre := [.str q.pre, ownV ks.a 1 (strA q.res), ownV ks.b 1 (strA q.els), ownV ks.c 1 (strA q.ats), ownV ks.d 1 (strA q.sch), .int .i64 q.byt, .int .i64 q.nod, .int .i64 q.dep, .int .i64 q.per]) (post := [.bool q.unc]) hp hF hA (i := 4) (by omega) (by rw [c9]; decide) (by rw [c9]; decide) rfl x hx hF'
 by_cases c10 : w = jUnchanged
 ·refine ⟨ks, h.next1, kin0, ?_⟩
  have e : takeV atoiN q w x = { q with unc := decide (x = jYes) } := by rw [takeV, if_neg c0, if_neg c1, if_neg c2, if_neg c3, if_neg c4, if_neg c5, if_neg c6, if_neg c7, if_neg c8, if_neg c9, if_pos c10]
  rw [e, c10]
  have hF := h.rows (q := q) (h.cells (q := q))
  have hF' := h.rows (q := { q with unc := decide (x = jYes) }) (h.cells (q := { q with unc := decide (x = jYes) }))
  exact cD21 (hI := hI) (pre := [.str q.pre, ownV ks.a 1 (strA q.res), ownV ks.b 1 (strA q.els), ownV ks.c 1 (strA q.ats), ownV ks.d 1 (strA q.sch), .int .i64 q.byt, .int .i64 q.nod, .int .i64 q.dep, .int .i64 q.per, .int .i64 q.loo]) (post := []) hp hF rfl x hF'
 refine ⟨ks, h.next1, kin0, ?_⟩
 have e : takeV atoiN q w x = q := by rw [takeV, if_neg c0, if_neg c1, if_neg c2, if_neg c3, if_neg c4, if_neg c5, if_neg c6, if_neg c7, if_neg c8, if_neg c9, if_neg c10]
 rw [e]
 have hF := h.rows (q := q) (h.cells (q := q))
 have i1 : idxFrom (fun y => decide (w = y)) headsL 0 = -1 := by simp [headsL, idxFrom, c1, c2, c3, c4]
 have i2 : idxFrom (fun y => decide (w = y)) namesL 0 = -1 := by simp [namesL, idxFrom, c5, c6, c7, c8, c9]
 exact cE21 hI hp hF i1 i2 c0 c10 x
theorem take22 {T : List (Entry Tryz.prog)} (hA : findE 47 T = some e47.g) : TakeC (ctx T) 22 numR := by
 refine ⟨fun m pb ks q h hl w x hx => ?_⟩
 have hp := h.lt.1
 by_cases c0 : w = jPrefix
 ·refine ⟨ks, h.next1, kin0, ?_⟩
  have e : takeV numR q w x = { q with pre := x } := by rw [takeV, if_pos c0]
  rw [e, c0]
  have hF := h.rows (q := q) (h.cells (q := q))
  have hF' := h.rows (q := { q with pre := x }) (h.cells (q := { q with pre := x }))
  exact cC22 hp hF x hF'
 by_cases c1 : w = jReserved
 ·refine ⟨{ ks with a := m }, h.n0, ⟨.inr rfl, .inl rfl, .inl rfl, .inl rfl⟩, ?_⟩
  have e : takeV numR q w x = { q with res := q.res ++ [x] } := by rw [takeV, if_neg c0, if_pos c1]
  rw [e]
  rw [c1]
  have hc := cA022 (T := T) (h.v0 (q := q)) rfl (by omega) x
  exact hc.perm rfl rfl (by simpa [Heap.ents] using permW0) (by
   have := permW0 (pb := pb) (q := { q with res := q.res ++ [x] }) (ks := { ks with a := m })
   simpa [Heap.ents, preW0, postW0, grpW0] using this)
 by_cases c2 : w = jElem
 ·refine ⟨{ ks with b := m }, h.n1, ⟨.inl rfl, .inr rfl, .inl rfl, .inl rfl⟩, ?_⟩
  have e : takeV numR q w x = { q with els := q.els ++ [x] } := by rw [takeV, if_neg c0, if_neg c1, if_pos c2]
  rw [e]
  rw [c2]
  have hc := cA122 (T := T) (h.v1 (q := q)) rfl (by omega) x
  exact hc.perm rfl rfl (by simpa [Heap.ents] using permW1) (by
   have := permW1 (pb := pb) (q := { q with els := q.els ++ [x] }) (ks := { ks with b := m })
   simpa [Heap.ents, preW1, postW1, grpW1] using this)
 by_cases c3 : w = jAttr
 ·refine ⟨{ ks with c := m }, h.n2, ⟨.inl rfl, .inl rfl, .inr rfl, .inl rfl⟩, ?_⟩
  have e : takeV numR q w x = { q with ats := q.ats ++ [x] } := by rw [takeV, if_neg c0, if_neg c1, if_neg c2, if_pos c3]
  rw [e]
  rw [c3]
  have hc := cA222 (T := T) (h.v2 (q := q)) rfl (by omega) x
  exact hc.perm rfl rfl (by simpa [Heap.ents] using permW2) (by
   have := permW2 (pb := pb) (q := { q with ats := q.ats ++ [x] }) (ks := { ks with c := m })
   simpa [Heap.ents, preW2, postW2, grpW2] using this)
 by_cases c4 : w = jScheme
 ·refine ⟨{ ks with d := m }, h.n3, ⟨.inl rfl, .inl rfl, .inl rfl, .inr rfl⟩, ?_⟩
  have e : takeV numR q w x = { q with sch := q.sch ++ [x] } := by rw [takeV, if_neg c0, if_neg c1, if_neg c2, if_neg c3, if_pos c4]
  rw [e]
  rw [c4]
  have hc := cA322 (T := T) (h.v3 (q := q)) rfl (by omega) x
  exact hc.perm rfl rfl (by simpa [Heap.ents] using permW3) (by
   have := permW3 (pb := pb) (q := { q with sch := q.sch ++ [x] }) (ks := { ks with d := m })
   simpa [Heap.ents, preW3, postW3, grpW3] using this)
 by_cases c5 : w = jBytes
 ·refine ⟨ks, h.next1, kin0, ?_⟩
  have e : takeV numR q w x = { q with byt := numR x } := by rw [takeV, if_neg c0, if_neg c1, if_neg c2, if_neg c3, if_neg c4, if_pos c5]
  rw [e, c5]
  have hF := h.rows (q := q) (h.cells (q := q))
  have hF' := h.rows (q := { q with byt := numR x }) (h.cells (q := { q with byt := numR x }))
  exact cB022 (pre := [.str q.pre, ownV ks.a 1 (strA q.res), ownV ks.b 1 (strA q.els), ownV ks.c 1 (strA q.ats), ownV ks.d 1 (strA q.sch)]) (post := [.int .i64 q.nod, .int .i64 q.dep, .int .i64 q.per, .int .i64 q.loo, .bool q.unc]) hp hF hA rfl x hF'
 by_cases c6 : w = jNodes
 ·refine ⟨ks, h.next1, kin0, ?_⟩
  have e : takeV numR q w x = { q with nod := numR x } := by rw [takeV, if_neg c0, if_neg c1, if_neg c2, if_neg c3, if_neg c4, if_neg c5, if_pos c6]
  rw [e, c6]
  have hF := h.rows (q := q) (h.cells (q := q))
  have hF' := h.rows (q := { q with nod := numR x }) (h.cells (q := { q with nod := numR x }))
  exact cB122 (pre := [.str q.pre, ownV ks.a 1 (strA q.res), ownV ks.b 1 (strA q.els), ownV ks.c 1 (strA q.ats), ownV ks.d 1 (strA q.sch), .int .i64 q.byt]) (post := [.int .i64 q.dep, .int .i64 q.per, .int .i64 q.loo, .bool q.unc]) hp hF hA rfl x hF'
 by_cases c7 : w = jDeep
 ·refine ⟨ks, h.next1, kin0, ?_⟩
  have e : takeV numR q w x = { q with dep := numR x } := by rw [takeV, if_neg c0, if_neg c1, if_neg c2, if_neg c3, if_neg c4, if_neg c5, if_neg c6, if_pos c7]
  rw [e, c7]
  have hF := h.rows (q := q) (h.cells (q := q))
  have hF' := h.rows (q := { q with dep := numR x }) (h.cells (q := { q with dep := numR x }))
  exact cB222 (pre := [.str q.pre, ownV ks.a 1 (strA q.res), ownV ks.b 1 (strA q.els), ownV ks.c 1 (strA q.ats), ownV ks.d 1 (strA q.sch), .int .i64 q.byt, .int .i64 q.nod]) (post := [.int .i64 q.per, .int .i64 q.loo, .bool q.unc]) hp hF hA rfl x hF'
 by_cases c8 : w = jAttrs
 ·refine ⟨ks, h.next1, kin0, ?_⟩
  have e : takeV numR q w x = { q with per := numR x } := by rw [takeV, if_neg c0, if_neg c1, if_neg c2, if_neg c3, if_neg c4, if_neg c5, if_neg c6, if_neg c7, if_pos c8]
  rw [e, c8]
  have hF := h.rows (q := q) (h.cells (q := q))
  have hF' := h.rows (q := { q with per := numR x }) (h.cells (q := { q with per := numR x }))
  exact cB322 (pre := [.str q.pre, ownV ks.a 1 (strA q.res), ownV ks.b 1 (strA q.els), ownV ks.c 1 (strA q.ats), ownV ks.d 1 (strA q.sch), .int .i64 q.byt, .int .i64 q.nod, .int .i64 q.dep]) (post := [.int .i64 q.loo, .bool q.unc]) hp hF hA rfl x hF'
 by_cases c9 : w = jLookups
 ·refine ⟨ks, h.next1, kin0, ?_⟩
  have e : takeV numR q w x = { q with loo := numR x } := by rw [takeV, if_neg c0, if_neg c1, if_neg c2, if_neg c3, if_neg c4, if_neg c5, if_neg c6, if_neg c7, if_neg c8, if_pos c9]
  rw [e, c9]
  have hF := h.rows (q := q) (h.cells (q := q))
  have hF' := h.rows (q := { q with loo := numR x }) (h.cells (q := { q with loo := numR x }))
  exact cB422 (pre := [.str q.pre, ownV ks.a 1 (strA q.res), ownV ks.b 1 (strA q.els), ownV ks.c 1 (strA q.ats), ownV ks.d 1 (strA q.sch), .int .i64 q.byt, .int .i64 q.nod, .int .i64 q.dep, .int .i64 q.per]) (post := [.bool q.unc]) hp hF hA rfl x hF'
 by_cases c10 : w = jUnchanged
 ·refine ⟨ks, h.next1, kin0, ?_⟩
  have e : takeV numR q w x = { q with unc := decide (x = jYes) } := by rw [takeV, if_neg c0, if_neg c1, if_neg c2, if_neg c3, if_neg c4, if_neg c5, if_neg c6, if_neg c7, if_neg c8, if_neg c9, if_pos c10]
  rw [e, c10]
  have hF := h.rows (q := q) (h.cells (q := q))
  have hF' := h.rows (q := { q with unc := decide (x = jYes) }) (h.cells (q := { q with unc := decide (x = jYes) }))
  exact cD22 (pre := [.str q.pre, ownV ks.a 1 (strA q.res), ownV ks.b 1 (strA q.els), ownV ks.c 1 (strA q.ats), ownV ks.d 1 (strA q.sch), .int .i64 q.byt, .int .i64 q.nod, .int .i64 q.dep, .int .i64 q.per, .int .i64 q.loo]) (post := []) hp hF rfl x hF'
 refine ⟨ks, h.next1, kin0, ?_⟩
 have e : takeV numR q w x = q := by rw [takeV, if_neg c0, if_neg c1, if_neg c2, if_neg c3, if_neg c4, if_neg c5, if_neg c6, if_neg c7, if_neg c8, if_neg c9, if_neg c10]
 rw [e]
 have hF := h.rows (q := q) (h.cells (q := q))
 exact cE22 hp hF c0 c1 c2 c3 c4 c5 c6 c7 c8 c9 c10 x
def kids_ (pb : Nat) (ks : Ks) : List Nat := [pb, ks.a, ks.b, ks.c, ks.d]
def idS (pb : Nat) (ks : Ks) : List (Nat × Nat) := (kids_ pb ks).map fun i => (i, i)
theorem idS_1 {pb : Nat} {ks : Ks} : (idS pb ks).map (·.1) = kids_ pb ks := by simp [idS, kids_]
theorem idS_2 {pb : Nat} {ks : Ks} : (idS pb ks).map (·.2) = kids_ pb ks := by simp [idS, kids_]
theorem idS_look {pb : Nat} {ks : Ks} (nd : (kids_ pb ks).Nodup) {i : Nat} (h : i ∈ kids_ pb ks) : lookN i (idS pb ks) = some i :=
 lookN_of (by rw [idS_1]; exact nd) (List.mem_map.2 ⟨i, h, rfl⟩)
theorem PF_keys {pb : Nat} {q : PolR} {ks : Ks} : ((PF pb q ks).map (·.1)).Sublist (kids_ pb ks) := List.Sublist.cons_cons pb polG_keys
theorem lookR_id : ∀ {l : List Nat} {i : Nat}, i ∈ l → lookR i (l.map fun i => (i, i)) = some i
 | [], _, h => by cases h
 | j :: r, i, h => by
  rw [List.map_cons]
  unfold lookR
  by_cases e : j = i
  ·simp [e]
  ·simp only [e, if_false]
   rcases List.mem_cons.1 h with h | h
   ·exact absurd h.symm e
   ·exact lookR_id h
theorem lookR_not : ∀ {l : List Nat} {i : Nat}, i ∉ l → lookR i (l.map fun i => (i, i)) = none
 | [], _, _ => rfl
 | j :: r, i, h => by
  simp only [List.mem_cons, not_or] at h
  rw [List.map_cons]
  unfold lookR
  have e : ¬ j = i := fun e => h.1 e.symm
  simp only [e, if_false]
  exact lookR_not h.2
theorem nodup_in {A : List (Nat × Blk)} {n pb : Nat} {q : PolR} {ks : Ks} (nd : (kids_ pb ks).Nodup) (hA : ∀ e, e ∈ A → e.1 < n ∧ e.1 ∉ kids_ pb ks) (ndA : (A.map (·.1)).Nodup) : ((A ++ PF pb q ks).map (·.1)).Nodup := by
 rw [List.map_append, List.nodup_append]
 refine ⟨ndA, PF_keys.nodup nd, fun a ha b hb e => ?_⟩
 obtain ⟨x, hx, rfl⟩ := List.mem_map.1 ha
 exact (hA x hx).2 (e ▸ PF_keys.subset hb)
theorem ren_ownV {τ : Nat → Nat} {k : Nat} {L : List Str} (h : τ k = k) : renV τ (ownV k 1 (strA L)) = ownV k 1 (strA L) := by
 cases L with
 | nil => rfl
 | cons x r => rw [ownV_ne (by simp)]; simp [renV, h]
theorem pure_strA (L : List Str) : pureL (strA L) = true := by rw [← flatS]; exact (elS L).pure
theorem ren_PF {τ : Nat → Nat} {pb : Nat} {q : PolR} {ks : Ks} (h : ∀ i, i ∈ kids_ pb ks → τ i = i) {e : Nat × Blk} (he : e ∈ PF pb q ks) : e = (τ e.1, renB τ e.2) := by
 have h1 : τ e.1 = e.1 := h _ (PF_keys.subset (List.mem_map.2 ⟨e, he, rfl⟩))
 rcases List.mem_cons.1 he with rfl | he
 ·have ha := ren_ownV (τ := τ) (L := q.res) (h ks.a (by simp [kids_]))
  have hb := ren_ownV (τ := τ) (L := q.els) (h ks.b (by simp [kids_]))
  have hc := ren_ownV (τ := τ) (L := q.ats) (h ks.c (by simp [kids_]))
  have hd := ren_ownV (τ := τ) (L := q.sch) (h ks.d (by simp [kids_]))
  simp only at h1
  simp only [h1, renB, polO, renL, ha, hb, hc, hd]
  simp [renV]
 ·obtain ⟨L, h2⟩ : ∃ L, e.2 = .cells (strA L) := by
   simp only [polG, List.mem_append] at he
   rcases he with he | he | he | he <;> exact ⟨_, (ownF_mem he).2⟩
  rw [h1, h2]
  simp only [renB, renL_pure _ (pure_strA L)]
  rw [← h2]
theorem fit_PF {σ : List (Nat × Nat)} {pb : Nat} {q : PolR} {ks : Ks} (h : ∀ i, i ∈ kids_ pb ks → lookN i σ = some i) {e : Nat × Blk} (he : e ∈ PF pb q ks) : fitB σ [] e.2 e.2 := by
 rcases List.mem_cons.1 he with rfl | he
 ·have ha := fit_ownV (L := q.res) (h ks.a (by simp [kids_]))
  have hb := fit_ownV (L := q.els) (h ks.b (by simp [kids_]))
  have hc := fit_ownV (L := q.ats) (h ks.c (by simp [kids_]))
  have hd := fit_ownV (L := q.sch) (h ks.d (by simp [kids_]))
  show fitL _ _ _ _
  simp only [polO, fitL, ha, hb, hc, hd, true_and, and_true]
  simp [fitV, pureV]
 ·obtain ⟨L, h2⟩ : ∃ L, e.2 = .cells (strA L) := by
   simp only [polG, List.mem_append] at he
   rcases he with he | he | he | he <;> exact ⟨_, (ownF_mem he).2⟩
  rw [h2]
  exact fitL_pure (pure_strA L)
theorem take_in {C : Ctx} {f : FuncId} {num : Str → Int} (hf : TakeC C f num) {m pb : Nat} {ks : Ks} {q : PolR} (h : Pok m pb ks) (hl : q.res.length < 1000000 ∧ q.els.length < 1000000 ∧ q.ats.length < 1000000 ∧ q.sch.length < 1000000) {A : List (Nat × Blk)}
  (hA : ∀ e, e ∈ A → e.1 < m ∧ e.1 ∉ kids_ pb ks) (ndA : (A.map (·.1)).Nodup) (w x : Str) (hx : x.length ≤ 1000000) :
  ∃ ks', Pok (m + 1) pb ks' ∧ (∀ e, e ∈ A → e.1 < m + 1 ∧ e.1 ∉ kids_ pb ks') ∧ CallAt C f [.ptr pb 0, .str w, .str x] ⟨m, [A ++ PF pb q ks]⟩ (.tup []) ⟨m + 1, [A ++ PF pb (takeV num q w x) ks']⟩ := by
 obtain ⟨ks', hk, kin, hc⟩ := hf.at_ m pb ks q h hl w x hx
 have low : ∀ i, i ∈ kids_ pb ks → i < m := fun i hi => by
  have := h.lt
  simp only [kids_, List.mem_cons, List.not_mem_nil, or_false] at hi
  omega
 have sub : ∀ i, i ∈ kids_ pb ks' → i ∈ kids_ pb ks ∨ i = m := fun i hi => by
  obtain ⟨a, b, c, d⟩ := kin
  simp only [kids_, List.mem_cons, List.not_mem_nil, or_false] at hi ⊢
  omega
 have hA' : ∀ e, e ∈ A → e.1 < m + 1 ∧ e.1 ∉ kids_ pb ks' := fun e he => by
  obtain ⟨l1, l2⟩ := hA e he
  refine ⟨by omega, fun hx => ?_⟩
  rcases sub _ hx with hx | hx
  ·exact l2 hx
  ·omega
 refine ⟨ks', hk, hA', ?_⟩
 have fit : FitH 0 (idS pb ks) [] ⟨m, [A ++ PF pb q ks]⟩ ⟨m, [PF pb q ks]⟩ := by
  have nd : (kids_ pb ks).Nodup := h.nd
  refine ⟨by simpa [idS_1] using nd, by rw [idS_2]; exact nd, by simpa [Heap.ents] using PF_keys.nodup nd, fun x hx => ?_, fun x hx h => absurd h (Nat.not_lt_zero _), Nat.zero_le _, fun e he => ?_, fun x h => by cases h⟩
  ·obtain ⟨i, hi, rfl⟩ := List.mem_map.1 hx
   exact low i hi
  ·have he : e ∈ PF pb q ks := by simpa [Heap.ents] using he
   refine ⟨e.1, e.2, List.mem_map.2 ⟨e.1, PF_keys.subset (List.mem_map.2 ⟨e, he, rfl⟩), rfl⟩, ?_, fit_PF (fun i hi => idS_look nd hi) he⟩
   have := get_of_mem (fs := [A ++ PF pb q ks]) (b := e.1) (k := e.2) (by simpa using nodup_in nd hA ndA) (by simp [he])
   exact this
 have hargs : fitL (idS pb ks) [] [.ptr pb 0, .str w, .str x] [.ptr pb 0, .str w, .str x] := by
  have := idS_look (pb := pb) (ks := ks) h.nd (i := pb) (by simp [kids_])
  simp [fitL, fitV, this, pureV]
 have out : ∀ i, i ∈ kids_ pb ks' → outN (idS pb ks) m m i = i := fun i hi => by
  unfold outN
  rcases sub i hi with h1 | h1
  ·rw [idS, lookR_id h1]
  ·subst h1
   rw [idS, lookR_not (fun hx => absurd (low _ hx) (Nat.lt_irrefl _))]
   simp
 have := hc.framed (H := ⟨m, [A ++ PF pb q ks]⟩) (H' := ⟨m + 1, [A ++ PF pb (takeV num q w x) ks']⟩) fit hargs ⟨by simp, fun _ _ => ?_, fun e he => ?_⟩ (by simp)
 ·simpa [renV, renL] using this
 ·simpa [Heap.ents] using nodup_in hk.nd hA' ndA
 ·have he : e ∈ A ++ PF pb (takeV num q w x) ks' := by simpa [Heap.ents] using he
  rcases List.mem_append.1 he with he | he
  ·refine .inr ⟨by simp [Heap.ents, he], fun x hx e1 => ?_⟩
   obtain ⟨i, hi, rfl⟩ := List.mem_map.1 hx
   exact (hA e he).2 (e1 ▸ hi)
  ·exact .inl ⟨e, by simpa [Heap.ents] using he, ren_PF out he⟩
end Go.Proofs.YtfncefamflainaaGreatDoor