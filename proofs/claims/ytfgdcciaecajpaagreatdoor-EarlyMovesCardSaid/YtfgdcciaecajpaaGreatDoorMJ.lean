/- Entries of stack.node, ref15.node. No condition. -/
import Derived.Test.YtfgdcciaecajpaaGreatDoorMI
import Derived.Test.YtfgdcciaecajpaaGreatDoorMF
namespace Go.Proofs.YtfgdcciaecajpaaGreatDoor
set_option linter.unusedSimpArgs false
set_option linter.unusedVariables false
open Go Go.RowKit
set_option maxRecDepth 100000
mutual
theorem fitV_more {σ : List (Nat × Nat)} {Φ : List (Nat × List AV)} : ∀ (a b : AV), fitV σ [] a b → fitV σ Φ a b
 | .undef, b, h => by cases b <;> simp_all [fitV, lookC]
 | .bool _, b, h => by cases b <;> simp_all [fitV, lookC]
 | .int _ _, b, h => by cases b <;> simp_all [fitV, lookC]
 | .float _ _, b, h => by cases b <;> simp_all [fitV, lookC]
 | .cplx _ _ _, b, h => by cases b <;> simp_all [fitV, lookC]
 | .str _, b, h => by cases b <;> simp_all [fitV, lookC]
 | .nilP, b, h => by cases b <;> simp_all [fitV, lookC]
 | .ptr _ _, b, h => by cases b <;> simp_all [fitV, lookC]
 | .fptr _ _, b, h => by cases b <;> simp_all [fitV, lookC]
 | .nilS, b, h => by cases b <;> simp_all [fitV, lookC]
 | .eslc, b, h => by cases b <;> simp_all [fitV, lookC]
 | .zslc, b, h => by cases b <;> simp_all [fitV, lookC]
 | .slc _ _ _ _, b, h => by cases b <;> simp_all [fitV, lookC]
 | .fslc _ _, b, h => by cases b <;> simp_all [fitV, lookC]
 | .xslc _ _, b, h => by cases b <;> simp_all [fitV, lookC]
 | .nilM, b, h => by cases b <;> simp_all [fitV, lookC]
 | .map _, b, h => by cases b <;> simp_all [fitV, lookC]
 | .nilF, b, h => by cases b <;> simp_all [fitV, lookC]
 | .nilI, b, h => by cases b <;> simp_all [fitV, lookC]
 | .iface _ _, b, h => by cases b <;> simp_all [fitV, lookC]
 | .yld _, b, h => by cases b <;> simp_all [fitV, lookC]
 | .zptr _ _, b, h => by cases b <;> simp_all [fitV, lookC]
 | .val _, b, h => by cases b <;> simp_all [fitV, lookC]
 | .agg xs, b, h => by
  cases b with
  | agg ys =>
   simp only [fitV] at h ⊢
   exact h.imp (fitL_more xs ys) id
  | undef => simp [fitV]
  | _ => simp [fitV] at h
 | .tup xs, b, h => by
  cases b with
  | tup ys =>
   simp only [fitV] at h ⊢
   exact h.imp (fitL_more xs ys) id
  | undef => simp [fitV]
  | _ => simp [fitV] at h
 | .func f x y, b, h => by
  cases b with
  | func f' x' y' =>
   simp only [fitV] at h ⊢
   exact h.imp (fun ⟨h1, h2, h3⟩ => ⟨h1, fitL_more x x' h2, fitL_more y y' h3⟩) id
  | undef => simp [fitV]
  | _ => simp [fitV] at h
theorem fitL_more {σ : List (Nat × Nat)} {Φ : List (Nat × List AV)} : ∀ (a b : List AV), fitL σ [] a b → fitL σ Φ a b
 | [], b, h => by simpa [fitL] using h
 | x :: r, [], h => by simp [fitL] at h
 | x :: r, y :: s, h => by
  simp only [fitL] at h ⊢
  exact ⟨fitV_more x y h.1, fitL_more r s h.2⟩
end
def setKids (t : Tr) (i : Nat) (K : List Int) : Tr := t.take i ++ { nodeAt t i with kids := K } :: t.drop (i + 1)
theorem setKids_len {t : Tr} {i : Nat} (h : i < t.length) (K : List Int) : (setKids t i K).length = t.length := by
 simp [setKids]; omega
def kidRow (t : Tr) (i : Nat) (v : AV) : List AV := (flatAV ((t.take i).map aNode) ++ [aInt (nodeAt t i).kind, aInt (nodeAt t i).space, .str (nodeAt t i).name, aAttrs (nodeAt t i).attrs, .str (nodeAt t i).data, aInt (nodeAt t i).up]) ++ [v] ++ flatAV ((t.drop (i + 1)).map aNode)
theorem lay_kids {t : Tr} {i : Nat} (h : i < t.length) (v : AV) : layL [v] (i * 7 + 6) (flatAV (t.map aNode)) = some (kidRow t i v) := by
 have hl : (flatAV ((t.take i).map aNode)).length = i * 7 := by rw [(el_node _).len]; simp; omega
 have e1 : flatAV (t.map aNode) = kidRow t i (aInts (nodeAt t i).kids) := by
  conv => lhs; rw [tree_split h]
  simp [flat_append, flatAV, Nd.cs, kidRow]
 rw [e1]
 have := layL_app (a := flatAV ((t.take i).map aNode) ++ [aInt (nodeAt t i).kind, aInt (nodeAt t i).space, .str (nodeAt t i).name, aAttrs (nodeAt t i).attrs, .str (nodeAt t i).data, aInt (nodeAt t i).up]) (b := [aInts (nodeAt t i).kids]) (b' := [v]) (c := flatAV ((t.drop (i + 1)).map aNode)) rfl
 rw [List.length_append, hl] at this
 exact this
section
variable {m n pb k sz : Nat} {pre post es : List AV} {g f : List (Nat × Blk)}
theorem VE_nd (h : Eok m pb pre k sz es post g) : ((VE pb pre k sz es post g).map (·.1)).Nodup := by
 have nd := h.nd
 rw [List.nodup_cons] at nd
 have hk := h.lk.2
 simp only [List.mem_cons, not_or] at hk
 unfold VE
 cases es with
 | nil => simpa [ownF] using nd
 | cons x r =>
  simp only [ownF, List.map_cons, List.cons_append, List.nil_append, List.nodup_cons, List.mem_cons, not_or]
  exact ⟨⟨fun e => hk.1 e.symm, nd.1⟩, hk.2, nd.2⟩
theorem VE_all (h : Eok m pb pre k sz es post g) : ∀ e, e ∈ VE pb pre k sz es post g → e.1 < m ∧ SelfB m e.2 := by
 intro e he
 unfold VE at he
 rw [List.mem_cons, List.mem_append] at he
 rcases he with rfl | he | he
 ·refine ⟨h.lp, fun σ hσ => ?_⟩
  show fitL _ _ _ _
  refine fitL_app (h.sp σ hσ) ?_
  simp only [fitL]
  refine ⟨?_, h.sq σ hσ⟩
  cases es with
  | nil => simp [ownV, fitV]
  | cons x r =>
   rw [ownV_ne (by simp)]
   simp [fitV, hσ k h.lk.1]
 ·cases es with
  | nil => cases he
  | cons x r =>
   simp only [ownF, List.mem_singleton] at he
   subst he
   exact ⟨h.lk.1, self_pure h.el.pure⟩
 ·exact ⟨h.lg e he, h.sg e he⟩
theorem fit_any {N : Nat} {H H' : Heap} (hN : N ≤ m) (nd : (H'.ents.map (·.1)).Nodup) (ha : ∀ e, e ∈ H'.ents → e.1 < m ∧ SelfB m e.2 ∧ H.get e.1 = some e.2) (hn : m ≤ H'.n) : FitH N (idn m) [] H H' where
 nd1 := by simpa using idn_nd m
 nd2 := idn_nd2 m
 nd3 := nd
 lt := fun x hx => by
  obtain ⟨i, hi, rfl⟩ := List.mem_map.1 hx
  have : i < m := by simpa using hi
  show i < H'.n; omega
 idn := fun x hx hlt => by
  obtain ⟨i, hi, rfl⟩ := List.mem_map.1 hx
  rfl
 num := Nat.le_trans hN hn
 src := fun e he => by
  obtain ⟨h1, h2, h3⟩ := ha e he
  exact ⟨e.1, e.2, idn_mem h1, h3, h2 _ (idl_idn m)⟩
 frz := fun x h => by cases h
theorem fit_VE1 {N m' : Nat} (h : Eok m pb pre k sz es post g) (hN : N ≤ m) (hm : m ≤ m') (hf : ∀ i, i < m → getF i f = none) : FitH N (idn m) [] ⟨n, [f, VE pb pre k sz es post g]⟩ ⟨m', [VE pb pre k sz es post g]⟩ := by
 refine fit_any hN (by simpa [Heap.ents] using VE_nd h) (fun e he => ?_) hm
 simp only [Heap.ents, List.flatten_cons, List.flatten_nil, List.append_nil, List.nil_append] at he
 obtain ⟨h1, h2⟩ := VE_all h e he
 refine ⟨h1, h2, ?_⟩
 simp only [Heap.get, getFs]
 rw [hf _ h1, gF_of (VE_nd h) he]
end
theorem get_kidsA {t : Tr} {i : Nat} (h : i < t.length) : getL (flatAV (t.map aNode)) (i * 7 + 6) = some (aInts (nodeAt t i).kids) := by
 have hl : (flatAV ((t.take i).map aNode)).length = i * 7 := by rw [(el_node _).len]; simp; omega
 have e1 : flatAV (t.map aNode) = (flatAV ((t.take i).map aNode) ++ [aInt (nodeAt t i).kind, aInt (nodeAt t i).space, .str (nodeAt t i).name, aAttrs (nodeAt t i).attrs, .str (nodeAt t i).data, aInt (nodeAt t i).up]) ++ (aInts (nodeAt t i).kids :: flatAV ((t.drop (i + 1)).map aNode)) := by
  conv => lhs; rw [tree_split h]
  simp [flat_append, flatAV, Nd.cs]
 have l6 : (flatAV ((t.take i).map aNode) ++ [aInt (nodeAt t i).kind, aInt (nodeAt t i).space, .str (nodeAt t i).name, aAttrs (nodeAt t i).attrs, .str (nodeAt t i).data, aInt (nodeAt t i).up]).length = i * 7 + 6 := by rw [List.length_append, hl]; rfl
 rw [e1, getL_get (by rw [List.length_append, l6]; simp), List.getElem_append_right (by omega)]
 simp only [l6, Nat.sub_self, List.getElem_cons_zero]
theorem get_up {t : Tr} {i : Nat} (h : i < t.length) : getL (flatAV (t.map aNode)) (i * 7 + 5) = some (.int .i64 (nodeAt t i).up) := by
 have hl : (flatAV ((t.take i).map aNode)).length = i * 7 := by rw [(el_node _).len]; simp; omega
 have e1 : flatAV (t.map aNode) = (flatAV ((t.take i).map aNode) ++ [aInt (nodeAt t i).kind, aInt (nodeAt t i).space, .str (nodeAt t i).name, aAttrs (nodeAt t i).attrs, .str (nodeAt t i).data]) ++ (aInt (nodeAt t i).up :: aInts (nodeAt t i).kids :: flatAV ((t.drop (i + 1)).map aNode)) := by
  conv => lhs; rw [tree_split h]
  simp [flat_append, flatAV, Nd.cs]
 have l6 : (flatAV ((t.take i).map aNode) ++ [aInt (nodeAt t i).kind, aInt (nodeAt t i).space, .str (nodeAt t i).name, aAttrs (nodeAt t i).attrs, .str (nodeAt t i).data]).length = i * 7 + 5 := by rw [List.length_append, hl]; rfl
 rw [e1, getL_get (by rw [List.length_append, l6]; simp), List.getElem_append_right (by omega)]
 simp only [l6, Nat.sub_self, List.getElem_cons_zero]
 rfl
theorem kidRow_set {t : Tr} {i : Nat} {K : List Int} : kidRow t i (aInts K) = flatAV ((setKids t i K).map aNode) := by simp [setKids, flat_append, flatAV, Nd.cs, aInt, kidRow]
theorem write_kidsP {m n pb k : Nat} {pre post : List AV} {g f : List (Nat × Blk)} {t : Tr} (h : Eok m pb pre k 7 (t.map aNode) post g) {i : Nat} (hi : i < t.length) (K : List Int) (hf : ∀ j, j < m → getF j f = none) :
  writeVar Tryz.prog ⟨n, [f, VE pb pre k 7 (t.map aNode) post g]⟩ 32 (.ptr k (i * 7 + 6)) (aInts K) = some ⟨n, [f, VE pb pre k 7 ((setKids t i K).map aNode) post g]⟩ := by
 have hne : t.map aNode ≠ [] := by
  intro e
  have := congrArg List.length e
  simp at this
  subst this
  simp at hi
 have hne' : (setKids t i K).map aNode ≠ [] := by simp [setKids]
 have hk : getF k f = none := hf k h.lk.1
 have hg : Heap.get ⟨n, [f, VE pb pre k 7 (t.map aNode) post g]⟩ k = some (.cells (flatAV (t.map aNode))) := by
  simp only [Heap.get, getFs]
  rw [hk, VE_k h hne]
 have hs : Heap.set ⟨n, [f, VE pb pre k 7 (t.map aNode) post g]⟩ k (.cells (flatAV ((setKids t i K).map aNode))) = some ⟨n, [f, VE pb pre k 7 ((setKids t i K).map aNode) post g]⟩ := by
  simp only [Heap.set, setFs]
  rw [sF_none hk]
  unfold VE
  rw [ownF_ne hne, ownF_ne hne', ownV_ne hne, ownV_ne hne']
  simp [setF, h.k_p, setKids_len hi]
 have hl := lay_kids hi (aInts K)
 rw [kidRow_set] at hl
 have rf : refs 6 (aInts K) = [] := refs_pure 6 _ (pure_aInts K)
 unfold writeVar
 simp [aInts] at hl rf ⊢
 simp [AV.cells, allSingle, AV.single, writeCells, hg, Blk.wt, hl, Heap.ready, rf, hs, Blk.re]
theorem ownV_mid (A D : List Int) (c : Int) (b : Nat) : ownV b 1 ((A ++ c :: D).map aInt) = .slc b 0 (A.length + D.length + 1) (.rest 1) := by
 rw [ownV_ne (by simp)]
 simp; omega
theorem ownH_mid (A D : List Int) (c : Int) (H : Heap) : ownH H ((A ++ c :: D).map aInt) = H.new (.cells (ints (A ++ c :: D))) := by
 rw [show (A ++ c :: D).map aInt = ints (A ++ c :: D) from rfl]
 obtain ⟨x, r, e⟩ : ∃ x r, ints (A ++ c :: D) = x :: r := by cases A <;> exact ⟨_, _, rfl⟩
 have := flat_ints (A ++ c :: D)
 rw [e] at this ⊢
 simp only [ownH, this]
def cutK (t : Tr) (i : Int) : Tr := if 0 ≤ placeT t i then setKids t (nodeAt t i).up.toNat ((nodeAt t (nodeAt t i).up).kids.eraseIdx (placeT t i).toNat) else t
def cutT (t : Tr) (i : Int) : Tr := if i ≠ 0 ∧ isB t i = true then setUp (cutK t i) i.toNat (-1) else cutK t i
theorem cutK_len (t : Tr) (i : Int) : (cutK t i).length = t.length := by
 unfold cutK
 split
 ·rename_i h
  unfold placeT at h
  split at h
  ·rename_i h2
   have := isB_iff.1 h2.2
   exact setKids_len (by omega) _
  ·omega
 ·rfl
theorem cutT_len (t : Tr) (i : Int) : (cutT t i).length = t.length := by
 unfold cutT
 split
 ·rename_i h
  have h2 := isB_iff.1 h.2
  have h3 := cutK_len t i
  rw [setUp_len (by omega), h3]
 ·exact cutK_len t i
theorem atP_split {L : List Int} {x : Int} {a : Nat} (h : atP L x = (a : Int)) : ∃ A D, L = A ++ x :: D ∧ A.length = a := by
 have hc := idx_cases (p := fun y => decide (y = x)) L 0
 rw [show idxFrom (fun y => decide (y = x)) L 0 = atP L x from rfl, h] at hc
 rcases hc with ⟨h1, _⟩ | ⟨i, hi, h1, h2, _⟩
 ·omega
 ·have : i = a := by omega
  subst this
  have h3 : L[i] = x := by simpa using h2
  refine ⟨L.take i, L.drop (i + 1), ?_, by simp; omega⟩
  rw [← h3, List.getElem_cons_drop, List.take_append_drop]
theorem c25G {T : List (Entry Tryz.prog)} (hP : findE 42 T = some e42G.g) (hS : findE 23 T = some e23.g) (hC : findE 27 T = some e27.g)
  {m pb k : Nat} {pre post : List AV} {g : List (Nat × Blk)} {t : Tr} (h : Eok m pb pre k 7 (t.map aNode) post g) (hne : t ≠ []) (hk : ∀ n, n ∈ t → n.kids.length ≤ 1000000) (i : Int) :
  CallAt (ctx T) 25 [.ptr pb pre.length, .int .i64 i] ⟨m, [VE pb pre k 7 (t.map aNode) post g]⟩ (.tup []) ⟨m, [VE pb pre k 7 ((cutT t i).map aNode) post g]⟩ := by
 have hne' : t.map aNode ≠ [] := by simpa using hne
 have nf : ∀ j, j < m → getF j ([] : List (Nat × Blk)) = none := fun _ _ => rfl
 have rdT := fun n => (rd_tree (n := n) h nf).1
 have rdN := fun n => (rd_tree (n := n) h nf).2
 have hkg : ∀ n, Heap.get ⟨n, [[], VE pb pre k 7 (t.map aNode) post g]⟩ k = some (.cells (flatAV (t.map aNode))) := fun n => by
  simp only [Heap.get, getFs]
  rw [nf k h.lk.1, VE_k h hne']
 have kp := fun n => q42G hP (thaw_tree hne (hkg n)) hk i
 by_cases hp : 0 ≤ placeT t i
 ·have hp0 := hp
  unfold placeT at hp
  split at hp
  case isFalse => omega
  rename_i hb
  obtain ⟨i0, i1⟩ := isB_iff.1 hb.1
  obtain ⟨u0, u1⟩ := isB_iff.1 hb.2
  have hpe : placeT t i = atP (nodeAt t (nodeAt t i).up).kids i := by unfold placeT; rw [if_pos hb]
  obtain ⟨I, rfl⟩ := Int.eq_ofNat_of_zero_le i0
  obtain ⟨u, hu⟩ := Int.eq_ofNat_of_zero_le u0
  obtain ⟨a, ha⟩ := Int.eq_ofNat_of_zero_le hp0
  obtain ⟨A, D, hAD, hA⟩ := atP_split (hpe.symm.trans ha)
  rw [hu] at hAD u1
  have hI : I < t.length := by omega
  have hU : u < t.length := by omega
  have hkU := hk _ (nodeAt_mem (t := t) (i := (u : Int)) (by omega) (by omega))
  rw [hAD] at hkU
  have ecut : cutK t (I : Int) = setKids t u (A ++ D) := by
   unfold cutK
   rw [if_pos hp0, hu, ha, hAD]
   simp only [Int.toNat_natCast]
   rw [erase_eq, ← hA, List.take_left' rfl, show A.length + 1 = (A ++ [(I : Int)]).length by simp, show A ++ (I : Int) :: D = (A ++ [(I : Int)]) ++ D by simp, List.drop_left]
  have gu := get_up hI
  have gk := get_kidsA hU
  rw [hu] at gu
  rw [hAD] at gk
  have ixI : indexAddrA Tryz.prog 29 (ownV k 7 (t.map aNode)) (.int .i64 (I : Int)) = some (.ptr k (I * 7)) := by
   rw [ownV_ne hne']
   simp [indexAddrA, idx_nat hI]
  have ixU : indexAddrA Tryz.prog 29 (ownV k 7 (t.map aNode)) (.int .i64 (u : Int)) = some (.ptr k (u * 7)) := by
   rw [ownV_ne hne']
   simp [indexAddrA, idx_nat hU]
  have rdU : ∀ n, readVar Tryz.prog ⟨n, [[], VE pb pre k 7 (t.map aNode) post g]⟩ 3 (.ptr k (I * 7 + 5)) = some (.int .i64 (u : Int)) := fun n => by
   simp [hkg, gu]
  have rdK : ∀ n, readVar Tryz.prog ⟨n, [[], VE pb pre k 7 (t.map aNode) post g]⟩ 32 (.ptr k (u * 7 + 6)) = some (aInts (A ++ (I : Int) :: D)) := fun n => by
   simp [hkg, gk]
  have kcl := fun H => k27 hC (L := A ++ (I : Int) :: D) hkU H
  simp only [ownV_mid, ownH_mid] at kcl
  have hw := fun n => write_kidsP (n := n) h hU (A ++ D) nf
  rw [ha] at kp
  obtain ⟨j, hj⟩ : ∃ j, j = a + 1 := ⟨_, rfl⟩
  have aj : wr .i64 ((a : Int) + 1) = some (j : Int) := by rw [hj]; exact add_one (by simp at hkU; omega)
  refine callAt_body (fn := Tryz.f25) (s0 := ⟨[0, 1, 4, 5], [.ptr pb pre.length, .int .i64 (I : Int), .undef, .undef], [], 54, ⟨m, [] :: [VE pb pre k 7 (t.map aNode) post g]⟩⟩) Tryz.func25 rfl rfl rfl ?_
  repeat apply wq
  repeat apply wq
  refine wps_region callOK ?_
  simp [zS, rdT, kp]
  repeat apply wq
  refine wps_region callOK ?_
  simp [zS]
  repeat apply wq
  refine wps_ct rfl ?_
  try refine wps_seq ?_
  repeat apply wq
  refine wps_drawn mixed callOK (by decide +kernel) fun B_ hB_ => ?_
  apply drawE B_
  simp [zS, mkBlk, guardA, clsOf, reserve, freshenAll, wantedBy, unwantedBy, Heap.lay, ontoF, evE_c, evE_n, putE_s, putX_s, valE_s, redE_s, actE_s, layE_s, gateE_t, gateE_f, clsF_a, clsF_l, clsF_r, clsF_p, clsE_l, clsE_a, clsE_p, clsE_r, rdN, ixI, ixU, rdU]
  exact rfl
  refine ⟨_, rfl, ?_, ?_⟩
  simp [zS, reserve, freshenAll, sameRecs, sameAll, sameAt, rdN, ixI, ixU, rdU]
  simp [allPend, Heap.lay, ontoF, thenQ]
  repeat apply wq
  refine wps_region (callOKF [⟨43, _, _, _, _, del_row (T := T) A D (I : Int) (i := a) (j := j) (N := A.length + D.length + 1) (b := m + 14) (n := m + 15) (g := []) (fs := [VE pb pre k 7 (t.map aNode) post g]) (by simp at hkU; omega) hA.symm hj rfl ?_⟩]) ?_
  ·intro e he
   have := VE_all h e (by simpa using he)
   omega
  simp [zS, callF, rdK, kcl, aj, hw]
  have hbI := hb.1
  have hX := h.mono (Nat.le_refl m) (el_node (setKids t u (A ++ D)))
  have lX : (setKids t u (A ++ D)).length = t.length := by rw [← ecut]; exact cutK_len t _
  have hXne : (setKids t u (A ++ D)) ≠ [] := by intro e; rw [e] at lX; exact hne (List.length_eq_zero_iff.1 lX.symm)
  have hXne' : (setKids t u (A ++ D)).map aNode ≠ [] := by simpa using hXne
  have hkgX : ∀ n, Heap.get ⟨n, [[], VE pb pre k 7 ((setKids t u (A ++ D)).map aNode) post g]⟩ k = some (.cells (flatAV ((setKids t u (A ++ D)).map aNode))) := fun n => by
   simp only [Heap.get, getFs]
   rw [nf k hX.lk.1, VE_k hX hXne']
  have rdTX := fun n => (rd_tree (n := n) hX nf).1
  have rdNX := fun n => (rd_tree (n := n) hX nf).2
  have ksX := fun n => q23 hS (thaw_tree hXne (hkgX n)) (I : Int)
  have bX : isB (setKids t u (A ++ D)) (I : Int) = isB t (I : Int) := by simp only [isB, lX]
  simp only [bX, hbI] at ksX
  have hJX : I < (setKids t u (A ++ D)).length := by have := (isB_iff.1 hbI).2; rw [lX]; omega
  have ixX : indexAddrA Tryz.prog 29 (ownV k 7 ((setKids t u (A ++ D)).map aNode)) (.int .i64 (I : Int)) = some (.ptr k (I * 7)) := by
   rw [ownV_ne hXne']
   have := idx_nat hJX
   simp [indexAddrA, this]
  by_cases hz : I = 0
  ·have ec : cutT t (I : Int) = setKids t u (A ++ D) := by unfold cutT; rw [if_neg (by simp [hz])]; exact ecut
   rw [ec]
   repeat apply wq
   refine wps_region callOK ?_
   simp [zS, hz]
   repeat apply wq
   refine wps_cf rfl ?_
   repeat apply wq
   refine wps_skip ?_
   simp
   refine ⟨[], rfl, _, _, by simp [oneOr, fitV, fitL, pureL], fit_VE1 hX (Nat.le_refl m) (Nat.le_refl m) fun _ _ => rfl⟩
  ·have ec : cutT t (I : Int) = setUp (setKids t u (A ++ D)) I (-1) := by unfold cutT; rw [if_pos ⟨by omega, hbI⟩, ecut]; rfl
   have hwX := fun n => write_up (n := n) hX hJX (-1) nf
   have hU2 := hX.mono (Nat.le_refl m) (el_node (setUp (setKids t u (A ++ D)) I (-1)))
   rw [ec]
   repeat apply wq
   refine wps_region callOK ?_
   simp [zS, rdTX, ksX, hz]
   repeat apply wq
   refine wps_ct rfl ?_
   repeat apply wq
   refine wps_region callOK ?_
   simp [zS, rdNX, ixX, hwX]
   refine ⟨[], rfl, _, _, by simp [oneOr, fitV, fitL, pureL], fit_VE1 hU2 (Nat.le_refl m) (Nat.le_refl m) fun _ _ => rfl⟩
 ·have ecut : cutK t i = t := by unfold cutK; rw [if_neg hp]
  have hp' : ¬ (0 : Int) ≤ placeT t i := hp
  refine callAt_body (fn := Tryz.f25) (s0 := ⟨[0, 1, 4, 5], [.ptr pb pre.length, .int .i64 i, .undef, .undef], [], 54, ⟨m, [] :: [VE pb pre k 7 (t.map aNode) post g]⟩⟩) Tryz.func25 rfl rfl rfl ?_
  repeat apply wq
  repeat apply wq
  refine wps_region callOK ?_
  simp [zS, rdT, kp]
  repeat apply wq
  refine wps_region callOK ?_
  simp [zS, hp]
  repeat apply wq
  refine wps_cf (by simp [opnd, St.get, hp]) ?_
  repeat apply wq
  refine wps_skip ?_
  simp
  rcases Bool.eq_false_or_eq_true (isB t i) with hbI | hbI
  ·obtain ⟨J, rfl⟩ := Int.eq_ofNat_of_zero_le (isB_iff.1 hbI).1
   have hX := h
   have hXne := hne
   have hXne' := hne'
   have hkgX := hkg
   have rdTX := rdT
   have rdNX := rdN
   have lX : t.length = t.length := rfl
   have ksX := fun n => q23 hS (thaw_tree hXne (hkgX n)) (J : Int)
   simp only [hbI] at ksX
   have hJX : J < (t).length := by have := (isB_iff.1 hbI).2; rw [lX]; omega
   have ixX : indexAddrA Tryz.prog 29 (ownV k 7 ((t).map aNode)) (.int .i64 (J : Int)) = some (.ptr k (J * 7)) := by
    rw [ownV_ne hXne']
    have := idx_nat hJX
    simp [indexAddrA, this]
   by_cases hz : J = 0
   ·have ec : cutT t (J : Int) = t := by unfold cutT; rw [if_neg (by simp [hz])]; exact ecut
    rw [ec]
    repeat apply wq
    refine wps_region callOK ?_
    simp [zS, hz]
    repeat apply wq
    refine wps_cf rfl ?_
    repeat apply wq
    refine wps_skip ?_
    simp
    refine ⟨[], rfl, _, _, by simp [oneOr, fitV, fitL, pureL], fit_VE1 hX (Nat.le_refl m) (Nat.le_refl m) fun _ _ => rfl⟩
   ·have ec : cutT t (J : Int) = setUp (t) J (-1) := by unfold cutT; rw [if_pos ⟨by omega, hbI⟩, ecut]; rfl
    have hwX := fun n => write_up (n := n) hX hJX (-1) nf
    have hU2 := hX.mono (Nat.le_refl m) (el_node (setUp (t) J (-1)))
    rw [ec]
    repeat apply wq
    refine wps_region callOK ?_
    simp [zS, rdTX, ksX, hz]
    repeat apply wq
    refine wps_ct rfl ?_
    repeat apply wq
    refine wps_region callOK ?_
    simp [zS, rdNX, ixX, hwX]
    refine ⟨[], rfl, _, _, by simp [oneOr, fitV, fitL, pureL], fit_VE1 hU2 (Nat.le_refl m) (Nat.le_refl m) fun _ _ => rfl⟩
  ·skip
   have hX := h
   have hXne := hne
   have hXne' := hne'
   have hkgX := hkg
   have rdTX := rdT
   have rdNX := rdN
   have lX : t.length = t.length := rfl
   have ksX := fun n => q23 hS (thaw_tree hXne (hkgX n)) i
   simp only [hbI] at ksX
   have ec : cutT t i = t := by unfold cutT; rw [if_neg (by simp [hbI])]; exact ecut
   rw [ec]
   by_cases hz : i = 0
   ·repeat apply wq
    refine wps_region callOK ?_
    simp [zS, hz]
    repeat apply wq
    refine wps_cf rfl ?_
    repeat apply wq
    refine wps_skip ?_
    simp
    refine ⟨[], rfl, _, _, by simp [oneOr, fitV, fitL, pureL], fit_VE1 hX (Nat.le_refl m) (Nat.le_refl m) fun _ _ => rfl⟩
   ·repeat apply wq
    refine wps_region callOK ?_
    simp [zS, rdTX, ksX, hz]
    repeat apply wq
    refine wps_cf rfl ?_
    repeat apply wq
    refine wps_skip ?_
    simp
    refine ⟨[], rfl, _, _, by simp [oneOr, fitV, fitL, pureL], fit_VE1 hX (Nat.le_refl m) (Nat.le_refl m) fun _ _ => rfl⟩
theorem own_heapA {n : Nat} {f : List (Nat × Blk)} {fs : List (List (Nat × Blk))} (es : List AV) : ownH ⟨n, f :: fs⟩ es = ⟨n + (if es = [] then 0 else 1), (ownF n es ++ f) :: fs⟩ := by
 cases es <;> simp [ownH, ownF, Heap.new, pushF]
def kidsLe (t : Tr) (b : Nat) : Prop := ∀ n, n ∈ t → n.kids.length ≤ b
theorem mem_nodeAt {t : Tr} {b : Nat} (h : kidsLe t b) (j : Int) : (nodeAt t j).kids.length ≤ b := by
 unfold nodeAt
 rw [List.getD_eq_getElem?_getD]
 cases hq : t[j.toNat]? with
 | none => exact Nat.zero_le _
 | some x => exact h x (List.mem_of_getElem? hq)
theorem setKids_le {t : Tr} {i b : Nat} {K : List Int} (h : kidsLe t b) (hK : K.length ≤ b) : kidsLe (setKids t i K) b := by
 intro n hn
 unfold setKids at hn
 rcases List.mem_append.1 hn with hn | hn
 ·exact h n (List.mem_of_mem_take hn)
 ·rcases List.mem_cons.1 hn with rfl | hn
  ·exact hK
  ·exact h n (List.mem_of_mem_drop hn)
theorem setUp_le {t : Tr} {i b : Nat} {u : Int} (h : kidsLe t b) : kidsLe (setUp t i u) b := by
 intro n hn
 unfold setUp at hn
 rcases List.mem_append.1 hn with hn | hn
 ·exact h n (List.mem_of_mem_take hn)
 ·rcases List.mem_cons.1 hn with rfl | hn
  ·exact mem_nodeAt h _
  ·exact h n (List.mem_of_mem_drop hn)
theorem cutT_le {t : Tr} {b : Nat} (h : kidsLe t b) (i : Int) : kidsLe (cutT t i) b := by
 have h1 : kidsLe (cutK t i) b := by
  unfold cutK
  split
  ·exact setKids_le h (Nat.le_trans (List.length_eraseIdx_le _ _) (mem_nodeAt h _))
  ·exact h
 unfold cutT
 split
 ·exact setUp_le h1
 ·exact h1
def putOK (t : Tr) (up kid : Int) : Bool := isB t up && isB t kid && !decide (kid = 0) && !holdsB t kid up
def insP (K : List Int) (at_ kid : Int) : List Int := insAt K (min (max at_ 0) (K.length : Int)).toNat kid
def putT (t : Tr) (up at_ kid : Int) : Tr := if putOK t up kid = true then setUp (setKids (cutT t kid) up.toNat (insP (nodeAt (cutT t kid) up).kids at_ kid)) kid.toNat up else t
theorem c10G {T : List (Entry Tryz.prog)} (hP : findE 42 T = some e42G.g) (hS : findE 23 T = some e23.g) (hH : findE 24 T = some e24.g) (hC : findE 27 T = some e27.g)
  {m pb k : Nat} {pre post : List AV} {g : List (Nat × Blk)} {t : Tr} (h : Eok m pb pre k 7 (t.map aNode) post g) (hne : t ≠ []) (ht : t.length ≤ 1000000) (hk : kidsLe t 999999) (up at_ kid : Int) :
  CallAt (ctx T) 10 [.ptr pb pre.length, .int .i64 up, .int .i64 at_, .int .i64 kid] ⟨m, [VE pb pre k 7 (t.map aNode) post g]⟩ (.tup []) ⟨m, [VE pb pre k 7 ((putT t up at_ kid).map aNode) post g]⟩ := by
 have hne' : t.map aNode ≠ [] := by simpa using hne
 have nf : ∀ j, j < m → getF j ([] : List (Nat × Blk)) = none := fun _ _ => rfl
 have rdT := fun n => (rd_tree (n := n) h nf).1
 have hkg : ∀ n, Heap.get ⟨n, [[], VE pb pre k 7 (t.map aNode) post g]⟩ k = some (.cells (flatAV (t.map aNode))) := fun n => by
  simp only [Heap.get, getFs]
  rw [nf k h.lk.1, VE_k h hne']
 have ksi := fun n => q23 hS (thaw_tree hne (hkg n)) kid
 have ksu := fun n => q23 hS (thaw_tree hne (hkg n)) up
 have kh := fun n => q24 hH (thaw_tree hne (hkg n)) ht kid up
 by_cases hok : putOK t up kid = true
 case neg =>
  have e : putT t up at_ kid = t := by unfold putT; rw [if_neg hok]
  rw [e]
  cases bu : isB t up with
  | false =>
   rw [bu] at ksu
   refine callAt_body (fn := Tryz.f10) (s0 := ⟨[0, 1, 2, 3, 8], [.ptr pb pre.length, .int .i64 up, .int .i64 at_, .int .i64 kid, .undef], [], 71, ⟨m, [] :: [VE pb pre k 7 (t.map aNode) post g]⟩⟩) Tryz.func10 rfl rfl rfl ?_
   repeat apply wq
   repeat apply wq
   refine wps_region callOK ?_
   simp [zS, rdT, ksu]
   repeat apply wq
   refine wps_ct rfl ?_
   repeat apply wq
   refine wps_ret ?_
   simp [retVal, Tryz.f10, oneOr]
   exact ⟨_, _, by simp [fitV, fitL, pureL], fit_VE1 h (Nat.le_refl m) (Nat.le_refl m) fun _ _ => rfl⟩
  | true => cases bi : isB t kid with
   | false =>
    rw [bu] at ksu
    rw [bi] at ksi
    refine callAt_body (fn := Tryz.f10) (s0 := ⟨[0, 1, 2, 3, 8], [.ptr pb pre.length, .int .i64 up, .int .i64 at_, .int .i64 kid, .undef], [], 71, ⟨m, [] :: [VE pb pre k 7 (t.map aNode) post g]⟩⟩) Tryz.func10 rfl rfl rfl ?_
    repeat apply wq
    repeat apply wq
    refine wps_region callOK ?_
    simp [zS, rdT, ksu, ksi]
    repeat apply wq
    refine wps_ct rfl ?_
    repeat apply wq
    refine wps_ret ?_
    simp [retVal, Tryz.f10, oneOr]
    exact ⟨_, _, by simp [fitV, fitL, pureL], fit_VE1 h (Nat.le_refl m) (Nat.le_refl m) fun _ _ => rfl⟩
   | true =>
    by_cases h0 : kid = 0
    ·subst h0
     rw [bu] at ksu
     rw [bi] at ksi
     refine callAt_body (fn := Tryz.f10) (s0 := ⟨[0, 1, 2, 3, 8], [.ptr pb pre.length, .int .i64 up, .int .i64 at_, .int .i64 0, .undef], [], 71, ⟨m, [] :: [VE pb pre k 7 (t.map aNode) post g]⟩⟩) Tryz.func10 rfl rfl rfl ?_
     repeat apply wq
     repeat apply wq
     refine wps_region callOK ?_
     simp [zS, rdT, ksu, ksi]
     repeat apply wq
     refine wps_ct rfl ?_
     repeat apply wq
     refine wps_ret ?_
     simp [retVal, Tryz.f10, oneOr]
     exact ⟨_, _, by simp [fitV, fitL, pureL], fit_VE1 h (Nat.le_refl m) (Nat.le_refl m) fun _ _ => rfl⟩
    ·have bh : holdsB t kid up = true := by simpa [putOK, bu, bi, h0] using hok
     rw [bu] at ksu
     rw [bi] at ksi
     rw [bh] at kh
     refine callAt_body (fn := Tryz.f10) (s0 := ⟨[0, 1, 2, 3, 8], [.ptr pb pre.length, .int .i64 up, .int .i64 at_, .int .i64 kid, .undef], [], 71, ⟨m, [] :: [VE pb pre k 7 (t.map aNode) post g]⟩⟩) Tryz.func10 rfl rfl rfl ?_
     repeat apply wq
     repeat apply wq
     refine wps_region callOK ?_
     simp [zS, rdT, ksu, ksi, kh, h0]
     repeat apply wq
     refine wps_ct rfl ?_
     repeat apply wq
     refine wps_ret ?_
     simp [retVal, Tryz.f10, oneOr]
     exact ⟨_, _, by simp [fitV, fitL, pureL], fit_VE1 h (Nat.le_refl m) (Nat.le_refl m) fun _ _ => rfl⟩
 case pos =>
  have ep : putT t up at_ kid = setUp (setKids (cutT t kid) up.toNat (insP (nodeAt (cutT t kid) up).kids at_ kid)) kid.toNat up := by unfold putT; rw [if_pos hok]
  rw [ep]
  simp only [putOK, Bool.and_eq_true, Bool.not_eq_true', decide_eq_false_iff_not] at hok
  obtain ⟨⟨⟨bu, bi⟩, h0⟩, bh⟩ := hok
  rw [bu] at ksu
  rw [bi] at ksi
  rw [bh] at kh
  have hcut := (c25G (T := T) hP hS hC h hne (fun n hn => Nat.le_trans (hk n hn) (by omega)) kid).perm (H2 := ⟨m, [[], VE pb pre k 7 (t.map aNode) post g]⟩) (H2' := ⟨m, [[], VE pb pre k 7 ((cutT t kid).map aNode) post g]⟩) rfl rfl (by simp [Heap.ents]) (by simp [Heap.ents])
  have lX := cutT_len t kid
  have kX := cutT_le hk kid
  generalize cutT t kid = X at *
  obtain ⟨u, rfl⟩ := Int.eq_ofNat_of_zero_le (isB_iff.1 bu).1
  obtain ⟨i, rfl⟩ := Int.eq_ofNat_of_zero_le (isB_iff.1 bi).1
  have hu : u < X.length := by have := (isB_iff.1 bu).2; omega
  have hi : i < X.length := by have := (isB_iff.1 bi).2; omega
  simp only [Int.toNat_natCast]
  have hX := h.mono (Nat.le_refl m) (el_node X)
  have hXne : X ≠ [] := by intro e; rw [e] at lX; exact hne (List.length_eq_zero_iff.1 lX.symm)
  have hXne' : X.map aNode ≠ [] := by simpa using hXne
  have hkgX : ∀ n (f : List (Nat × Blk)), (∀ j, j < m → getF j f = none) → Heap.get ⟨n, [f, VE pb pre k 7 (X.map aNode) post g]⟩ k = some (.cells (flatAV (X.map aNode))) := fun n f hf => by
   simp only [Heap.get, getFs]
   rw [hf k hX.lk.1, VE_k hX hXne']
  have rdN := fun n => (rd_tree (n := n) hX nf).2
  have ix : indexAddrA Tryz.prog 29 (ownV k 7 (X.map aNode)) (.int .i64 (u : Int)) = some (.ptr k (u * 7)) := by
   rw [ownV_ne hXne']
   simp [indexAddrA, idx_nat hu]
  obtain ⟨K, hK⟩ : ∃ K, K = (nodeAt X (u : Int)).kids := ⟨_, rfl⟩
  have hKl : K.length ≤ 999999 := by rw [hK]; exact mem_nodeAt kX _
  rw [← hK]
  obtain ⟨p, hp⟩ : ∃ p : Nat, min (max at_ 0) (K.length : Int) = (p : Int) := Int.eq_ofNat_of_zero_le (by omega)
  have hpl : p ≤ K.length := by omega
  have eins : insP K at_ (i : Int) = insAt K p (i : Int) := by unfold insP; rw [hp]; rfl
  rw [eins]
  have rdK : ∀ (n : Nat) (f : List (Nat × Blk)), (∀ j, j < m → getF j f = none) → readVar Tryz.prog ⟨n, [f, VE pb pre k 7 (X.map aNode) post g]⟩ 32 (.ptr k (u * 7 + 6)) = some (aInts K) := fun n f hf => by
   simp [hkgX n f hf, get_kidsA hu, hK]
  have rdK0 := fun n => rdK n [] nf
  have rdK1 := fun n => rdK n (ownF (m + 20) (K.map aInt)) fun j hj => by
   cases K with
   | nil => rfl
   | cons y r => simp [ownF, getF, beqN_ne (show m + 20 ≠ j by omega)]
  have kcl := k27 hC (L := K) (by omega) ⟨m + 20, [[], VE pb pre k 7 (X.map aNode) post g]⟩
  rw [own_heapA] at kcl
  simp only [List.append_nil] at kcl
  have lK : ∀ H, lenA Tryz.prog H 32 (aInts K) = some K.length := fun H => by simp [lenA, aInts]
  have mx : maxA false (.int .i64 at_) [.int .i64 0] = some (.int .i64 (max at_ 0)) := rfl
  have mn : maxA true (.int .i64 (max at_ 0)) [.int .i64 (K.length : Int)] = some (.int .i64 (p : Int)) := by simp [maxA, hp]
  have hins := ins_row (T := T) K (i : Int) p hpl (by omega) (b := m + 20) (vb := m + 15) (n := m + 20 + (if K.map aInt = [] then 0 else 1)) (g := []) (fs := [VE pb pre k 7 (X.map aNode) post g]) (by omega) (fun e he => by
   have := (VE_all hX e (by simpa using he)).1
   omega)
  simp only [List.append_nil] at hins
  have hw := fun n => write_kidsP (n := n) hX hu (insAt K p (i : Int)) nf
  have hX2 := hX.mono (Nat.le_refl m) (el_node (setKids X u (insAt K p (i : Int))))
  have lX2 : (setKids X u (insAt K p (i : Int))).length = X.length := setKids_len hu _
  have hX2ne : (setKids X u (insAt K p (i : Int))).map aNode ≠ [] := by simp [setKids]
  have rdN2 := fun n => (rd_tree (n := n) hX2 nf).2
  have ix2 : indexAddrA Tryz.prog 29 (ownV k 7 ((setKids X u (insAt K p (i : Int))).map aNode)) (.int .i64 (i : Int)) = some (.ptr k (i * 7)) := by
   have := idx_nat (show i < (setKids X u (insAt K p (i : Int))).length by omega)
   rw [ownV_ne hX2ne]
   simp [indexAddrA, this]
  have hw2 := fun n => write_up (n := n) hX2 (show i < (setKids X u (insAt K p (i : Int))).length by omega) (u : Int) nf
  have hX3 := hX2.mono (Nat.le_refl m) (el_node (setUp (setKids X u (insAt K p (i : Int))) i (u : Int)))
  generalize hd : (if K.map aInt = [] then 0 else 1) = d at kcl hins
  generalize insAt K p (i : Int) = K' at *
  have h0' : ¬ i = 0 := by omega
  refine callAt_body (fn := Tryz.f10) (s0 := ⟨[0, 1, 2, 3, 8], [.ptr pb pre.length, .int .i64 (u : Int), .int .i64 at_, .int .i64 (i : Int), .undef], [], 71, ⟨m, [] :: [VE pb pre k 7 (t.map aNode) post g]⟩⟩) Tryz.func10 rfl rfl rfl ?_
  repeat apply wq
  repeat apply wq
  refine wps_region callOK ?_
  simp [zS, rdT, ksi, ksu, kh, h0, h0']
  repeat apply wq
  refine wps_cf rfl ?_
  repeat apply wq
  refine wps_skip ?_
  simp
  repeat apply wq
  refine wps_region (callOKF [⟨25, _, _, _, _, hcut⟩]) ?_
  simp [zS, callF]
  repeat apply wq
  refine wps_region callOK ?_
  simp [zS, rdN, ix]
  have rB : ∀ cs, rowB Tryz.prog 32 (some 59) cs = .buf 3 0 cs := fun _ => rfl
  repeat apply wq
  refine wps_drawn mixed (callOKF [⟨26, _, _, _, _, hins⟩]) (by decide +kernel) fun B_ hB_ => ?_
  have d_4_5 : ahead B_ 4 5 = true := by rw [hB_]; decide +kernel
  have d_4_16 : ahead B_ 4 16 = true := by rw [hB_]; decide +kernel
  have d_4_19 : ahead B_ 4 19 = true := by rw [hB_]; decide +kernel
  have d_5_4 : ahead B_ 5 4 = false := by rw [hB_]; decide +kernel
  have d_5_11 : ahead B_ 5 11 = false := by rw [hB_]; decide +kernel
  have d_5_12 : ahead B_ 5 12 = false := by rw [hB_]; decide +kernel
  have d_11_5 : ahead B_ 11 5 = false := by rw [hB_]; decide +kernel
  have d_11_16 : ahead B_ 11 16 = true := by rw [hB_]; decide +kernel
  have d_11_19 : ahead B_ 11 19 = true := by rw [hB_]; decide +kernel
  have d_12_5 : ahead B_ 12 5 = false := by rw [hB_]; decide +kernel
  have d_12_16 : ahead B_ 12 16 = true := by rw [hB_]; decide +kernel
  have d_12_19 : ahead B_ 12 19 = true := by rw [hB_]; decide +kernel
  have d_15_5 : ahead B_ 15 5 = false := by rw [hB_]; decide +kernel
  have d_15_16 : ahead B_ 15 16 = true := by rw [hB_]; decide +kernel
  have d_15_19 : ahead B_ 15 19 = true := by rw [hB_]; decide +kernel
  have d_16_4 : ahead B_ 16 4 = false := by rw [hB_]; decide +kernel
  have d_16_11 : ahead B_ 16 11 = false := by rw [hB_]; decide +kernel
  have d_16_12 : ahead B_ 16 12 = false := by rw [hB_]; decide +kernel
  have d_19_4 : ahead B_ 19 4 = false := by rw [hB_]; decide +kernel
  have d_19_11 : ahead B_ 19 11 = false := by rw [hB_]; decide +kernel
  have d_19_12 : ahead B_ 19 12 = false := by rw [hB_]; decide +kernel
  apply drawE B_
  simp [zS, mkBlk, guardA, clsOf, reserve, freshenAll, wantedBy, unwantedBy, Heap.lay, ontoF, evE_c, evE_n, putE_s, putX_s, valE_s, redE_s, actE_s, layE_s, gateE_t, gateE_f, clsF_a, clsF_l, clsF_r, clsF_p, clsE_l, clsE_a, clsE_p, clsE_r, d_4_5, d_4_16, d_4_19, d_5_4, d_5_11, d_5_12, d_11_5, d_11_16, d_11_19, d_12_5, d_12_16, d_12_19, d_15_5, d_15_16, d_15_19, d_16_4, d_16_11, d_16_12, d_19_4, d_19_11, d_19_12, hw, rB, callF, rdK0, rdK1, kcl, lK, mx, mn]
  exact rfl
  refine ⟨_, rfl, ?_, ?_⟩
  simp [zS, reserve, freshenAll, sameRecs, sameAll, sameAt, d_4_5, d_4_16, d_4_19, d_5_4, d_5_11, d_5_12, d_11_5, d_11_16, d_11_19, d_12_5, d_12_16, d_12_19, d_15_5, d_15_16, d_15_19, d_16_4, d_16_11, d_16_12, d_19_4, d_19_11, d_19_12, hw, rB, callF, rdK0, rdK1, kcl, lK, mx, mn]
  simp [allPend, Heap.lay, ontoF, thenQ]
  repeat apply wq
  refine wps_region callOK ?_
  simp [zS, rdN2, ix2, hw2]
  exact ⟨[], rfl, _, _, by simp [oneOr, fitV, fitL, pureL], fit_VE1 hX3 (Nat.le_refl m) (Nat.le_refl m) fun _ _ => rfl⟩
structure SS where
 tree : Tr
 opn : List Int
 act : List Int
 mode : Int
 back : Int
 lex : Int
 form : Int
 head : Int
 foster : Bool
 skip : Bool
 inside : Str
def SS.post (s : SS) : List AV := [aInts s.opn, aInts s.act, .int .i64 s.mode, .int .i64 s.back, .int .i64 s.lex, .int .i64 s.form, .int .i64 s.head, .bool s.foster, .bool s.skip, .str s.inside]
def VS (k : Nat) (s : SS) : List (Nat × Blk) := VE 0 [] k 7 (s.tree.map aNode) s.post []
abbrev nV (k : Nat) (t : Tr) : AV := .slc k 0 t.length (.rest 7)
theorem pure_post (s : SS) : pureL s.post = true := by simp [SS.post, pureL, pureV]
section
variable {s s' : SS} {t : Tr} {m n k : Nat} {f : List (Nat × Blk)}
theorem ok_S (s : SS) (k0 : 0 < k) (km : k < m) : Eok m 0 [] k 7 (s.tree.map aNode) s.post [] where
 lp := by omega
 lk := ⟨km, by simp; omega⟩
 lg := fun e he => by cases he
 nd := by simp
 sg := fun e he => by cases he
 sp := fun σ hσ => fitL_pure rfl
 sq := fun σ hσ => fitL_pure (pure_post s)
 el := el_node s.tree
theorem VS_eq (hne : s.tree ≠ []) : VS k s = [(0, .cells (nV k s.tree :: s.post)), (k, .cells (flatAV (s.tree.map aNode)))] := by
 have h : s.tree.map aNode ≠ [] := by simpa using hne
 simp [VS, VE, ownF_ne h, ownV_ne h]
theorem vg0 (hne : s.tree ≠ []) : getF 0 (VS k s) = some (.cells (nV k s.tree :: s.post)) := by
 rw [VS_eq hne]; simp [getF]
theorem vgk (k0 : 0 < k) (hne : s.tree ≠ []) : getF k (VS k s) = some (.cells (flatAV (s.tree.map aNode))) := by
 rw [VS_eq hne]
 have b1 : Nat.beq 0 k = false := beqN_ne (by omega)
 simp [getF, b1]
theorem sget0 (hne : s.tree ≠ []) (hf : getF 0 f = none) : Heap.get ⟨n, [f, VS k s]⟩ 0 = some (.cells (nV k s.tree :: s.post)) := by
 rw [VS_eq hne]
 simp [Heap.get, getFs, hf, getF]
theorem sgetk (k0 : 0 < k) (hne : s.tree ≠ []) (hf : getF k f = none) : Heap.get ⟨n, [f, VS k s]⟩ k = some (.cells (flatAV (s.tree.map aNode))) := by
 rw [VS_eq hne]
 have b1 : Nat.beq 0 k = false := beqN_ne (by omega)
 simp [Heap.get, getFs, hf, getF, b1]
theorem fitS {N k' m' : Nat} (hN : (k' < N → k = k') ∧ k' < m' ∧ N ≤ m') (h' : 0 < k') (k0 : 0 < k) (hne : s.tree ≠ []) (hf0 : getF 0 f = none) (hfk : getF k f = none) : FitH N [(k, k'), (0, 0)] [] ⟨n, [f, VS k s]⟩ ⟨m', [VS k' s]⟩ where
 nd1 := by simp; omega
 nd2 := by simp; omega
 nd3 := by rw [VS_eq hne]; simp [Heap.ents]; omega
 lt := by simp; omega
 idn := by simp; omega
 num := by simp; omega
 src := by
  intro e he
  rw [VS_eq hne] at he
  simp only [Heap.ents, List.flatten_cons, List.flatten_nil, List.append_nil, List.mem_cons, List.not_mem_nil, or_false] at he
  rcases he with rfl | rfl
  ·refine ⟨0, _, by simp, sget0 hne hf0, ?_⟩
   simp only [fitB, fitL]
   exact ⟨by simp [fitV, lookN], fitL_pure (pure_post s)⟩
  ·exact ⟨k, _, by simp, sgetk k0 hne hfk, fitL_pure (el_node s.tree).pure⟩
 frz := fun x h => by cases h
theorem fitSG {N k k' m' : Nat} {H : Heap} {c0 : List AV} {Φ : List (Nat × List AV)} (hN : (k' < N → k = k') ∧ k' < m' ∧ N ≤ m') (h' : 0 < k') (k0 : 0 < k) (hne : s'.tree ≠ []) (h0 : H.get 0 = some (.cells c0)) (hk : H.get k = some (.cells (flatAV (s'.tree.map aNode)))) (hc : fitL [(k, k'), (0, 0)] Φ c0 (nV k' s'.tree :: s'.post))
  (nd : (k :: 0 :: Φ.map (·.1)).Nodup) (hΦ : ∀ x, x ∈ Φ → H.get x.1 = some (.cells x.2) ∧ pureL x.2 = true) : FitH N [(k, k'), (0, 0)] Φ H ⟨m', [VS k' s']⟩ where
 nd1 := by simpa using nd
 nd2 := by simp; omega
 nd3 := by rw [VS_eq hne]; simp [Heap.ents]; omega
 lt := by simp; omega
 idn := by simp; omega
 num := by simp; omega
 src := by
  intro e he
  rw [VS_eq hne] at he
  simp only [Heap.ents, List.flatten_cons, List.flatten_nil, List.append_nil, List.mem_cons, List.not_mem_nil, or_false] at he
  rcases he with rfl | rfl
  ·exact ⟨0, _, by simp, h0, by simpa only [fitB] using hc⟩
  ·exact ⟨k, _, by simp, hk, fitL_pure (el_node s'.tree).pure⟩
 frz := fun x h => ⟨x.2, (hΦ x h).1, fitL_pure (hΦ x h).2, (hΦ x h).2⟩
theorem fitS1 {N k' m' : Nat} (hN : (k' < N → k = k') ∧ k' < m' ∧ N ≤ m') (h' : 0 < k') (k0 : 0 < k) (hne : s.tree ≠ []) (hf0 : getF 0 f = none) (hfk : getF k f = none) : FitH N [(k, k'), (0, 0)] [] ⟨n, [f, VS k s]⟩ ⟨m', [[], VS k' s]⟩ :=
 have h := fitS (n := n) (m' := m') hN h' k0 hne hf0 hfk
 ⟨h.nd1, h.nd2, by simpa [Heap.ents] using h.nd3, h.lt, h.idn, h.num, fun e he => h.src e (by simpa [Heap.ents] using he), h.frz⟩
theorem fitS0 {N k' m' : Nat} (hN : (k' < N → k = k') ∧ k' < m' ∧ N ≤ m') (h' : 0 < k') (k0 : 0 < k) (hne : s.tree ≠ []) : FitH N [(k, k'), (0, 0)] [] ⟨n, [VS k s]⟩ ⟨m', [VS k' s]⟩ :=
 have hf := fitS (n := n) (f := []) hN h' k0 hne rfl rfl
 ⟨hf.nd1, hf.nd2, hf.nd3, hf.lt, hf.idn, hf.num, fun e he => by
  obtain ⟨b, k, h1, h2, h3⟩ := hf.src e he
  exact ⟨b, k, h1, by simpa [Heap.get, getFs, getF] using h2, h3⟩, fun x h => by cases h⟩
theorem thS (k0 : 0 < k) (hne : s.tree ≠ []) (hf : getF k f = none) : thawA ⟨n, [f, VS k s]⟩ [7] (.agg [nV k s.tree]) = some (aTree s.tree) := by
 have := thaw_tree (H := ⟨n, [f, VS k s]⟩) (k := k) (t := s.tree) hne (sgetk k0 hne hf)
 rw [ownV_ne (by simpa using hne)] at this
 simpa [nV] using this
theorem cut7 {i : Nat} (hi : i < t.length) : flatAV (t.map aNode) = flatAV ((t.take i).map aNode) ++ (nodeAt t i).cs ++ flatAV ((t.drop (i + 1)).map aNode) ∧ (flatAV ((t.take i).map aNode)).length = i * 7 := by
 constructor
 ·conv => lhs; rw [tree_split hi]
  simp [flat_append, flatAV]
 ·rw [(el_node _).len]; simp; omega
theorem getN {i c : Nat} (hi : i < t.length) (hc : c < 7) : getL (flatAV (t.map aNode)) (i * 7 + c) = getL (nodeAt t i).cs c := by
 obtain ⟨e, l⟩ := cut7 hi
 have l7 : (nodeAt t i).cs.length = 7 := rfl
 rw [e]
 generalize flatAV ((t.take i).map aNode) = A at *
 generalize flatAV ((t.drop (i + 1)).map aNode) = B at *
 generalize (nodeAt t i).cs = C at *
 rw [getL_get (by simp [l, l7]; omega), getL_get (by omega), List.getElem_append_left (by simp [l, l7]; omega), List.getElem_append_right (by omega)]
 simp [l]
theorem ixN {i : Nat} (hi : i < t.length) : indexAddrA Tryz.prog 29 (nV k t) (.int .i64 (i : Int)) = some (.ptr k (i * 7)) := by
 simp [indexAddrA, idx_nat hi]
theorem lenN' (H : Heap) : lenA Tryz.prog H 29 (nV k t) = some t.length := by simp [lenA]
theorem gF_no {b : Nat} : ∀ {f : List (Nat × Blk)}, (∀ e, e ∈ f → e.1 ≠ b) → getF b f = none
 | [], _ => rfl
 | e :: r, h => by
  have h1 := h e (by simp)
  unfold getF
  rw [beqN_ne h1]
  exact gF_no fun x hx => h x (by simp [hx])
theorem call_S {C : Ctx} {g : FuncId} {args : List AV} {v : AV} (h : CallAt C g (.ptr 0 0 :: args) ⟨2, [VS 1 s]⟩ v ⟨3, [VS 2 s']⟩) (ha : pureL args = true) (hv : pureV v = true) (k0 : 0 < k) (hk : k < n) (hne : s.tree ≠ []) (hne' : s'.tree ≠ []) (hfr : ∀ e, e ∈ f → e.1 ≠ 0 ∧ e.1 ≠ k) :
  CallAt C g (.ptr 0 0 :: args) ⟨n, [f, VS k s]⟩ v ⟨n + 1, [f, VS n s']⟩ := by
 have fh : FitH 0 [(k, 1), (0, 0)] [] ⟨n, [f, VS k s]⟩ ⟨2, [VS 1 s]⟩ := fitS ⟨by omega, by omega, by omega⟩ (by omega) k0 hne (gF_no fun e he => (hfr e he).1) (gF_no fun e he => (hfr e he).2)
 have := h.framed (H' := ⟨n + 1, [f, VS n s']⟩) (args := .ptr 0 0 :: args) fh (by simp only [fitL]; exact ⟨by simp [fitV, lookN]; omega, fitL_pure ha⟩) ?_ (by simp)
 ·simpa [renV_pure _ hv] using this
 ·have e0 : outN [(k, 1), (0, 0)] n 2 0 = 0 := by simp [outN, lookR]
  have e2 : outN [(k, 1), (0, 0)] n 2 2 = n := by simp [outN, lookR]
  refine ⟨by simp, ?_, ?_⟩
  ·intro nd lt
   rw [VS_eq hne']
   simp only [Heap.ents, List.flatten_cons, List.flatten_nil, List.append_nil, List.map_append] at nd ⊢
   rw [List.nodup_append] at nd ⊢
   refine ⟨nd.1, by simp; omega, fun a ha b hb => ?_⟩
   obtain ⟨e, he, rfl⟩ := List.mem_map.1 ha
   have l1 := lt e (by simp [Heap.ents, he])
   have l2 := (hfr e he).1
   simp only at l1
   simp at hb
   rcases hb with rfl | rfl <;> omega
  ·intro e he
   simp only [Heap.ents, List.flatten_cons, List.flatten_nil, List.append_nil, List.mem_append] at he ⊢
   rcases he with he | he
   ·refine .inr ⟨.inl he, fun x hx => ?_⟩
    have := hfr e he
    simp at hx
    rcases hx with rfl | rfl
    ·exact fun h => this.2 h.symm
    ·exact fun h => this.1 h.symm
   ·rw [VS_eq hne'] at he ⊢
    simp only [List.mem_cons, List.not_mem_nil, or_false] at he
    rcases he with rfl | rfl
    ·refine .inl ⟨(0, .cells (nV 2 s'.tree :: s'.post)), by simp, ?_⟩
     simp only [renB, renL, renL_pure _ (pure_post s'), renV, e0, e2]
    ·refine .inl ⟨(2, .cells (flatAV (s'.tree.map aNode))), by simp, ?_⟩
     simp only [renB, e2, renL_pure _ (el_node s'.tree).pure]
end
abbrev SC (T : List (Entry Tryz.prog)) (g : FuncId) (args : List AV) (s : SS) (v : AV) (s' : SS) : Prop := CallAt (ctx T) g (.ptr 0 0 :: args) ⟨2, [VS 1 s]⟩ v ⟨3, [VS 2 s']⟩
theorem SC.of {T : List (Entry Tryz.prog)} {g : FuncId} {args : List AV} {v : AV} {s s' : SS} (h : CallAt (ctx T) g (.ptr 0 0 :: args) ⟨2, [VS 1 s]⟩ v ⟨2, [VS 1 s']⟩) (hv : pureV v = true) (hne : s'.tree ≠ []) : SC T g args s v s' :=
 h.post (σ := [(1, 2), (0, 0)]) (Φ := []) (fitV_pure hv) (fitS0 ⟨by simp, by omega, by simp⟩ (by omega) (by omega) hne)
theorem CallAt.norm1 {C : Ctx} {f : FuncId} {a : AV} {args args' : List AV} {H H' : Heap} {v : AV} (h : CallAt C f (a :: args') H v H') (hf : fitL [] [] args args') : CallAt C f (a :: args) H v H' := by
 intro ρ w xs sm hx
 have ft : Fits [] [] ρ ρ H w := ⟨ρ.bare_le, sm.below, fun _ _ h => (by cases h), fun _ _ h => (by cases h)⟩
 obtain ⟨k1, k2⟩ := fitL_spec hf
 refine h ρ w xs sm ⟨by rw [hx.1]; simp [k1], fun i h1 h2 => ?_⟩
 cases i with
 | zero => exact hx.2 0 (by simp) h2
 | succ i =>
  simp only [List.length_cons] at h1
  have := hx.2 (i + 1) (by simp; omega) h2
  exact Fits.run ft sm _ (Nat.le_refl _) this (k2 i (by omega) (by omega))
theorem flat_inj : ∀ {a b : Tr}, flatAV (a.map aNode) = flatAV (b.map aNode) → a = b
 | [], [], _ => rfl
 | [], y :: s, h => by simp [flatAV, aNode, Nd.cs, AV.cells] at h
 | x :: r, [], h => by simp [flatAV, aNode, Nd.cs, AV.cells] at h
 | x :: r, y :: s, h => by
  simp only [List.map_cons, flatAV] at h
  obtain ⟨h1, h2⟩ := List.append_inj h rfl
  have e : x = y := inj_aNode (congrArg AV.agg h1)
  rw [flat_inj h2, e]
theorem VS_inj {k k' : Nat} {s s' : SS} (h0 : s.tree ≠ []) (h0' : s'.tree ≠ []) (h : VS k s = VS k' s') : k = k' ∧ s = s' := by
 rw [VS_eq h0, VS_eq h0'] at h
 simp only [List.cons.injEq, Prod.mk.injEq, Blk.cells.injEq, AV.slc.injEq, true_and, and_true, SS.post, AV.int.injEq, AV.bool.injEq, AV.str.injEq] at h
 obtain ⟨⟨⟨hk, hl⟩, ho, ha, h1, h2, h3, h4, h5, h6, h7, h8⟩, _, hf⟩ := h
 refine ⟨hk, ?_⟩
 have ht := flat_inj hf
 have ho := inj_aInts ho
 have ha := inj_aInts ha
 cases s; cases s'
 simp_all
def offS (k : Nat) (fr : List (Nat × Blk)) : Prop := ∀ e, e ∈ fr → e.1 ≠ 0 ∧ e.1 ≠ k
@[simp] theorem offS_nil {k : Nat} : offS k [] = True := by simp [offS]
@[simp] theorem offS_cons {k : Nat} {e : Nat × Blk} {r : List (Nat × Blk)} : offS k (e :: r) = ((e.1 ≠ 0 ∧ e.1 ≠ k) ∧ offS k r) := by simp [offS]
section
variable {α : Type} (f : FuncId) (ss : List (List Nat)) (enc : α → List AV) (pre : α → SS → Prop) (post : α → SS → AV) (st : α → SS → SS)
structure SArg (args : List AV) (H : Heap) (x : α × SS × Nat × List (Nat × Blk)) : Prop where
 ar : ∃ rest, args = .ptr 0 0 :: rest ∧ pureL rest = true ∧ thawL ⟨0, []⟩ ss rest = some (enc x.1)
 hp : H = ⟨H.n, [x.2.2.2, VS x.2.2.1 x.2.1]⟩
 k0 : 0 < x.2.2.1
 kn : x.2.2.1 < H.n
 of : offS x.2.2.1 x.2.2.2
 ne : x.2.1.tree ≠ []
 pr : pre x.1 x.2.1
open Classical in
noncomputable def sG (args : List AV) (H : Heap) : Option (AV × Heap) :=
 if h : ∃ x, SArg ss enc pre args H x then some (post h.choose.1 h.choose.2.1, ⟨H.n + 1, [h.choose.2.2.2, VS H.n (st h.choose.1 h.choose.2.1)]⟩) else none
noncomputable def mkS (h : ∀ x s, s.tree ≠ [] → pre x s → CallAt ⟨Tryz.prog, fun _ => [], fun _ => none⟩ f (.ptr 0 0 :: enc x) ⟨2, [VS 1 s]⟩ (post x s) ⟨3, [VS 2 (st x s)]⟩ ∧ pureL (enc x) = true ∧ pureV (post x s) = true ∧ (st x s).tree ≠ []) : Entry Tryz.prog :=
 ⟨f, sG ss enc pre post st, fun args H v H' hv => by
  unfold sG at hv
  split at hv
  ·rename_i hx
   simp only [Option.some.injEq, Prod.mk.injEq] at hv
   obtain ⟨rfl, rfl⟩ := hv
   have hs := hx.choose_spec
   generalize hx.choose = x at *
   obtain ⟨⟨rest, rfl, hp, ht⟩, hH, k0, kn, of, ne, pr⟩ := hs
   obtain ⟨h1, h2, h3, h4⟩ := h x.1 x.2.1 ne pr
   have hf := thawL_fit (H := ⟨0, []⟩) List.nodup_nil ht
   have := (call_S (n := H.n) h1 h2 h3 k0 kn ne h4 of).norm1 hf
   rw [← hH] at this
   exact this
  ·cases hv⟩
variable {f ss enc pre post st}
theorem mkS_eq {h : ∀ x s, s.tree ≠ [] → pre x s → CallAt ⟨Tryz.prog, fun _ => [], fun _ => none⟩ f (.ptr 0 0 :: enc x) ⟨2, [VS 1 s]⟩ (post x s) ⟨3, [VS 2 (st x s)]⟩ ∧ pureL (enc x) = true ∧ pureV (post x s) = true ∧ (st x s).tree ≠ []}
  {T : List (Entry Tryz.prog)} (hT : findE f T = some (mkS f ss enc pre post st h).g) (inj : ∀ x y, enc x = enc y → x = y) (x : α) {s : SS} (hne : s.tree ≠ []) (hx : pre x s) {rest : List AV} (hp : pureL rest = true) (ht : thawL ⟨0, []⟩ ss rest = some (enc x))
  {n k : Nat} {fr : List (Nat × Blk)} (k0 : 0 < k) (kn : k < n) (of : offS k fr) : callL (ctx T) (.fn f) (.ptr 0 0 :: rest) ⟨n, [fr, VS k s]⟩ = some (post x s, ⟨n + 1, [fr, VS n (st x s)]⟩) := by
 rw [callL_summ (C := ctx T) (g := (mkS f ss enc pre post st h).g) hT]
 show sG ss enc pre post st _ _ = _
 unfold sG
 have hex : ∃ y, SArg ss enc pre (.ptr 0 0 :: rest) ⟨n, [fr, VS k s]⟩ y := ⟨(x, s, k, fr), ⟨rest, rfl, hp, ht⟩, rfl, k0, kn, of, hne, hx⟩
 rw [dif_pos hex]
 have hs := hex.choose_spec
 generalize hex.choose = y at *
 obtain ⟨⟨rest', e1, _, ht'⟩, hH, _, _, _, ne, _⟩ := hs
 obtain ⟨y1, y2, y3, y4⟩ := y
 simp only [List.cons.injEq, true_and] at e1
 subst e1
 have ex : y1 = x := inj _ _ (Option.some.inj (ht'.symm.trans ht))
 simp only [Heap.mk.injEq, true_and, List.cons.injEq, and_true] at hH
 obtain ⟨rfl, hv⟩ := hH
 obtain ⟨rfl, rfl⟩ := VS_inj hne ne hv
 subst ex
 rfl
end
theorem fsl_to {H : Heap} {L : List Int} {k : Nat} (h : k ≤ L.length) : sliceA Tryz.prog H 32 (aInts L) none (some (.int .i64 (k : Int))) none = some (aInts (L.take k)) := by
 have h2 : idx (k : Int) (Nat.succ (List.map aInt L).length) = some k := idx_nat (by simp; omega)
 unfold sliceA aInts
 simp only [hiOK, Tryz.underlying32, Option.bind_some, szT3, Nat.beq_refl, bound, Nat.sub_zero, h2, List.drop_zero, List.map_take]
def nodeS (t : Tr) (i : Int) : Nd := if isB t i = true then nodeAt t i else ⟨1, 0, [], [], [], 0, []⟩
theorem c91 {T : List (Entry Tryz.prog)} (t : Tr) (i : Int) : CallAt (ctx T) 91 [aTree t, .int .i64 i] ⟨0, []⟩ (aNode (nodeS t i)) ⟨0, []⟩ := by
 refine callAt_body (fn := Tryz.f91) (s0 := ⟨[0, 1, 2, 4], [aTree t, .int .i64 i, .undef, .undef], [], 20, ⟨0, [[]]⟩⟩) Tryz.func91 rfl rfl rfl ?_
 repeat apply wq
 refine wps_region callOK ?_
 simp [zS, aTree]
 by_cases h : 0 ≤ i
 ·by_cases h2 : i < (t.length : Int)
  ·repeat apply wq
   refine wps_region callOK ?_
   simp [zS, lenN, h, h2]
   repeat apply wq
   refine wps_ct rfl ?_
   have sA : ∀ L, (aAttrs L).single = true := fun _ => rfl
   have sI : ∀ L, (aInts L).single = true := fun _ => rfl
   have rA : ∀ L, refs 6 (aAttrs L) = [] := fun _ => rfl
   have rI : ∀ L, refs 6 (aInts L) = [] := fun _ => rfl
   have ho : isB t i = true := isB_iff.2 ⟨h, h2⟩
   repeat apply wq
   refine wps_region callOK ?_
   simp [zS, atX h h2, Nd.cs, aInt, sA, sI, rA, rI]
   repeat apply wq
   refine wps_ret ?_
   simp [retVal, Tryz.f91, oneOr, readCells, Heap.get, getFs, getF, Blk.rd, subL, takeL]
   refine ⟨[], [], ?_, FitH.empty⟩
   simp [nodeS, ho, aNode, Nd.cs, aInt, fitV, fitL, pureV]
  ·repeat apply wq
   refine wps_region callOK ?_
   simp [zS, lenN, h, h2]
   repeat apply wq
   refine wps_cf rfl ?_
   have ho : isB t i = false := by simp [isB, h2]
   have bld : buildA Tryz.prog 43 [(0, .int .i64 1)] = some (.agg [.int .i64 1, .int .i64 0, .str [], .nilS, .str [], .int .i64 0, .nilS]) := rfl
   repeat apply wq
   refine wps_skip ?_
   simp
   repeat apply wq
   refine wps_region callOK ?_
   simp [zS, bld]
   repeat apply wq
   refine wps_ret ?_
   simp [retVal, Tryz.f91, oneOr, readCells, Heap.get, getFs, getF, Blk.rd, subL, takeL]
   refine ⟨[], [], ?_, FitH.empty⟩
   simp [nodeS, ho, aNode, Nd.cs, aInt, aInts, aAttrs, fitV, fitL, pureV]
 ·have ho : isB t i = false := by simp [isB, h]
  have bld : buildA Tryz.prog 43 [(0, .int .i64 1)] = some (.agg [.int .i64 1, .int .i64 0, .str [], .nilS, .str [], .int .i64 0, .nilS]) := rfl
  repeat apply wq
  refine wps_region callOK ?_
  simp [zS, lenN, h]
  repeat apply wq
  refine wps_cf rfl ?_
  repeat apply wq
  refine wps_skip ?_
  simp
  repeat apply wq
  refine wps_region callOK ?_
  simp [zS, bld]
  repeat apply wq
  refine wps_ret ?_
  simp [retVal, Tryz.f91, oneOr, readCells, Heap.get, getFs, getF, Blk.rd, subL, takeL]
  refine ⟨[], [], ?_, FitH.empty⟩
  simp [nodeS, ho, aNode, Nd.cs, aInt, aInts, aAttrs, fitV, fitL, pureV]
noncomputable def e91 : Entry Tryz.prog := mkE 91 [[7], []] (fun x : Tr × Int => [aTree x.1, .int .i64 x.2]) (fun _ => True) (fun x => aNode (nodeS x.1 x.2)) fun x _ => c91 (T := []) x.1 x.2
theorem k91 {T : List (Entry Tryz.prog)} (hT : findE 91 T = some e91.g) (t : Tr) (i : Int) (H : Heap) : callL (ctx T) (.fn 91) [aTree t, .int .i64 i] H = some (aNode (nodeS t i), H) :=
 mkE_pure hT injTI (t, i) trivial (by simp [pureL, pureV, aTree]) (by simp [thawL, thawA_ok, okV, pureV, th_tree]) H
end Go.Proofs.YtfgdcciaecajpaaGreatDoor