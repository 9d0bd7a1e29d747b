/- tree.New, state.New of a div. No condition. -/
import Derived.Test.YtfgdcciaecajpaaGreatMI
import Derived.Test.YtfgdcciaecajpaaGreatMM
namespace Go.Proofs.YtfgdcciaecajpaaGreat
set_option linter.unusedSimpArgs false
set_option linter.unusedVariables false
open Go Go.RowKit
set_option maxRecDepth 100000
theorem c29o {T : List (Entry Tryz.prog)} (L : List At1) (hl : L.length ≤ 1000) : CallAt (ctx T) 29 [aAttrs L] ⟨0, []⟩ (ownV 0 2 (L.map aAttr)) ⟨1, [ownF 0 (L.map aAttr)]⟩ := by
 have happ := app_lits (P := Tryz.prog) (elem := 57) (b := 0) (m := 1) (es := L.map aAttr) (g := []) (fs := []) szT57 byT57 zeT57 rfl (by omega) (by omega) (el_attr _) (single_attr _) (by simp; omega)
 cases L with
 | nil =>
  refine callAt_body (fn := Tryz.f29) (s0 := ⟨[0, 2], [.fslc 2 [], .undef], [], 8, ⟨0, [[]]⟩⟩) Tryz.func29 rfl rfl rfl ?_
  repeat apply wq
  refine wps_region callOK ?_
  simp [zS]
  refine wps_empty (pre := []) ?_ ?_
  ·repeat apply wq
   refine wps_region callOK ?_
   simp [zS]
   repeat apply wq
   refine wps_ct rfl ?_
   repeat apply wq
   refine wps_region callOK ?_
   simp [zS]
   repeat apply wq
   refine wps_ret ?_
   simp [retVal, Tryz.f29, oneOr]
   exact ends_none (.inl rfl)
  ·repeat apply wq
   refine wps_region callOK ?_
   simp [zS]
   repeat apply wq
   refine wps_cf rfl ?_
   repeat apply wq
   refine wps_skip ?_
   simp
   have happ : appendA Tryz.prog ⟨1, [[(0, .cells [])]]⟩ 57 (.slc 0 0 0 (.ex 0)) .eslc = some (.slc 0 0 0 (.ex 0), ⟨1, [[(0, .cells [])]]⟩) := rfl
   repeat apply wq
   refine wps_region callOK ?_
   simp [zS, happ]
   repeat apply wq
   refine wps_ret ?_
   simp [retVal, Tryz.f29, oneOr]
   exact ends_none (.inr (.inr ⟨_, rfl⟩))
 | cons x r =>
  have e1 : litV 0 1 2 ((x :: r).map aAttr) = .slc 1 0 (r.length + 1) (.rest 2) := by simp [litV]
  have e2 : ownH ⟨1, [[(0, .cells [])]]⟩ ((x :: r).map aAttr) = ⟨2, [[(1, .cells (flatAV ((x :: r).map aAttr))), (0, .cells [])]]⟩ := rfl
  rw [e1, e2] at happ
  refine callAt_body (fn := Tryz.f29) (s0 := ⟨[0, 2], [aAttrs (x :: r), .undef], [], 8, ⟨0, [[]]⟩⟩) Tryz.func29 rfl rfl rfl ?_
  repeat apply wq
  refine wps_region callOK ?_
  simp [zS, aAttrs]
  repeat apply wq
  refine wps_region callOK ?_
  simp [zS, aAttrs]
  repeat apply wq
  refine wps_cf rfl ?_
  repeat apply wq
  refine wps_skip ?_
  simp
  simp only [List.map_cons] at happ
  repeat apply wq
  refine wps_region callOK ?_
  simp [zS, happ]
  repeat apply wq
  refine wps_ret ?_
  simp [retVal, Tryz.f29, oneOr]
  exact ends_own (b := 1) (es := (x :: r).map aAttr) (el_attr _) (by simp) (by simp) (by simp [Heap.get, getFs, getF])
noncomputable def e29o : Entry Tryz.prog := mkOwn 29 [[2]] (fun L : List At1 => [aAttrs L]) (fun L => L.length ≤ 1000) 2 (fun L => L.map aAttr) el_attr fun L hl => c29o (T := []) L hl
theorem k29o {T : List (Entry Tryz.prog)} (hT : findE 29 T = some e29o.g) {L : List At1} (hl : L.length ≤ 1000) (H : Heap) : callL (ctx T) (.fn 29) [aAttrs L] H = some (ownV H.n 2 (L.map aAttr), ownH H (L.map aAttr)) :=
 mkOwn_eq hT (fun x y h => by simp at h; exact inj_aAttrs h) L hl (by simp [pureL]) (by simp [thawL, thawA_ok]) H
theorem c85 {T : List (Entry Tryz.prog)} (hP : findE 110 T = some e110.g) (hC : findE 29 T = some e29o.g) (L : List At1) (a : At1) (hl : L.length ≤ 900) : CallAt (ctx T) 85 [aAttrs L, aAttr a] ⟨0, []⟩ (aAttrs (addA L a)) ⟨0, []⟩ := by
 refine CallAt.froze (es := (addA L a).map aAttr) (el_attr _) ?_
 refine callAt_body (fn := Tryz.f85) (s0 := ⟨[0, 1, 3, 4, 5], [aAttrs L, aAttr a, .undef, .undef, .undef], [], 18, ⟨0, [[]]⟩⟩) Tryz.func85 rfl rfl rfl ?_
 repeat apply wq
 refine wps_region callOK ?_
 simp [zS, aAttr]
 repeat apply wq
 refine wps_region callOK ?_
 simp [zS, k29o hC (show L.length ≤ 1000 by omega)]
 repeat apply wq
 refine .fit (s' := (⟨[0, 1, 3, 4, 5], [aAttrs L, .undef, .ptr 0 0, .undef, ownV 1 2 (L.map aAttr)], [], 18, ⟨2, [ownF 1 (L.map aAttr) ++ [(0, Blk.cells [.str a.1, .str a.2])]]⟩⟩ : St)) [(1, 1), (0, 0)] [] ⟨rfl, rfl, rfl, ?_, .canon (b := 1) (g := [(0, .cells [.str a.1, .str a.2])]) (el_attr L) (by simp [fitB, fitL, fitV, pureV]) (by simp)⟩ ?_
 ·simp [fitL, fitV, lookN, fitV_own]
 ·have hp := k110 hP (L := L) a.1 (show L.length ≤ 1000 by omega) (H := ⟨2, [ownF 1 (L.map aAttr) ++ [(0, .cells [.str a.1, .str a.2])]]⟩) (th_aAttrs _ L)
  have hg : getF 0 (ownF 1 (L.map aAttr) ++ [(0, .cells [.str a.1, .str a.2])]) = some (.cells [.str a.1, .str a.2]) := by cases L <;> rfl
  repeat apply wq
  refine wps_region callOK ?_
  simp [zS, hp, hg]
  repeat apply wq
  refine wps_cond rfl (fun h => ?_) fun h => ?_
  ·simp at h
   have happ := own_app1 (P := Tryz.prog) (elem := 57) (b := 1) (t := 2) (m := 3) (es := L.map aAttr) (cs := [.str a.1, .str a.2]) (g := [(0, .cells [.str a.1, .str a.2])]) (fs := []) szT57 byT57 zeT57 rfl (by omega) (by omega) rfl rfl (el_attr L) (by simp; omega) (by omega) (by simp) (by simp)
   repeat apply wq
   refine wps_region callOK ?_
   simp [zS, hg, happ]
   repeat apply wq
   refine wps_region callOK ?_
   simp [zS]
   repeat apply wq
   refine wps_ret ?_
   simp [retVal, Tryz.f85, oneOr]
   have e : addA L a = L ++ [a] := if_pos h
   have e2 : (addA L a).map aAttr = L.map aAttr ++ [aAttr a] := by rw [e]; simp
   exact ends_own (b := 3) (es := (addA L a).map aAttr) (el_attr _) (by rw [e2]; simp) (by rw [e2]; simp) (by rw [e2, flat_append]; simp [Heap.get, getFs, getF, flatAV, Heap.new, pushF, aAttr])
  ·simp at h
   repeat apply wq
   refine wps_skip ?_
   simp
   repeat apply wq
   refine wps_region callOK ?_
   simp [zS]
   repeat apply wq
   refine wps_ret ?_
   simp [retVal, Tryz.f85, oneOr]
   have e : addA L a = L := if_neg (by omega)
   rw [e]
   cases L with
   | nil => exact ends_none (.inr (.inl rfl))
   | cons b r => exact ends_own (b := 1) (es := (b :: r).map aAttr) (el_attr _) (by simp) rfl (by simp [Heap.get, getFs, getF, ownF])
noncomputable def e85 : Entry Tryz.prog := mkE 85 [[2], [0, 0]] (fun x : List At1 × At1 => [aAttrs x.1, aAttr x.2]) (fun x => x.1.length ≤ 900) (fun x => aAttrs (addA x.1 x.2)) fun x hx => c85 (T := [e110, e29o]) rfl rfl x.1 x.2 hx
def setAts (t : Tr) (i : Nat) (L : List At1) : Tr := t.take i ++ { nodeAt t i with attrs := L } :: t.drop (i + 1)
theorem setAts_ne (t : Tr) (i : Nat) (L : List At1) : setAts t i L ≠ [] := by simp [setAts]
theorem setAts_len {t : Tr} {i : Nat} (h : i < t.length) (L : List At1) : (setAts t i L).length = t.length := by simp [setAts]; omega
theorem setAts_at {t : Tr} {i : Nat} (h : i < t.length) (L : List At1) : nodeAt (setAts t i L) (i : Int) = { nodeAt t i with attrs := L } := by
 have h2 : i < (setAts t i L).length := by rw [setAts_len h]; exact h
 rw [nodeAt_get h2]
 simp [setAts, List.getElem_append_right, List.length_take, Nat.min_eq_left (Nat.le_of_lt h)]
theorem setAts_self {t : Tr} {i : Nat} (h : i < t.length) : setAts t i (nodeAt t i).attrs = t := (tree_split h).symm
theorem setAts_set {t : Tr} {i : Nat} (h : i < t.length) (L M : List At1) : setAts (setAts t i L) i M = setAts t i M := by
 have e := setAts_at h L
 have hl : (t.take i).length = i := by simp; omega
 have h1 : (setAts t i L).take i = t.take i := by
  unfold setAts
  rw [List.take_append_of_le_length (by omega), List.take_of_length_le (by omega)]
 have h2 : (setAts t i L).drop (i + 1) = t.drop (i + 1) := by
  unfold setAts
  rw [List.drop_append, hl]
  simp [Nat.min_eq_left (Nat.le_of_lt h), hl, List.drop_eq_nil_of_le]
 generalize setAts t i L = X at *
 have h3 : setAts X i M = X.take i ++ { nodeAt X i with attrs := M } :: X.drop (i + 1) := rfl
 rw [h3, h1, h2, e]
 rfl
theorem lay_at2 {t : Tr} {i : Nat} (h : i < t.length) (L : List At1) : layL [aAttrs L] (i * 7 + 3) (flatAV (t.map aNode)) = some (flatAV ((setAts t i L).map aNode)) := by
 have hl : (flatAV ((t.take i).map aNode)).length = i * 7 := by rw [(el_node _).len]; simp; omega
 have e1 : flatAV (t.map aNode) = (flatAV ((t.take i).map aNode) ++ [aInt (nodeAt t i).kind, aInt (nodeAt t i).space, .str (nodeAt t i).name]) ++ [aAttrs (nodeAt t i).attrs] ++ ([.str (nodeAt t i).data, aInt (nodeAt t i).up, aInts (nodeAt t i).kids] ++ flatAV ((t.drop (i + 1)).map aNode)) := by
  conv => lhs; rw [tree_split h]
  simp [flat_append, flatAV, Nd.cs]
 have e2 : flatAV ((setAts t i L).map aNode) = (flatAV ((t.take i).map aNode) ++ [aInt (nodeAt t i).kind, aInt (nodeAt t i).space, .str (nodeAt t i).name]) ++ [aAttrs L] ++ ([.str (nodeAt t i).data, aInt (nodeAt t i).up, aInts (nodeAt t i).kids] ++ flatAV ((t.drop (i + 1)).map aNode)) := by
  unfold setAts
  simp [flat_append, flatAV, Nd.cs]
 rw [e1, e2]
 have := layL_app (a := flatAV ((t.take i).map aNode) ++ [aInt (nodeAt t i).kind, aInt (nodeAt t i).space, .str (nodeAt t i).name]) (b := [aAttrs (nodeAt t i).attrs]) (b' := [aAttrs L]) (c := [.str (nodeAt t i).data, aInt (nodeAt t i).up, aInts (nodeAt t i).kids] ++ flatAV ((t.drop (i + 1)).map aNode)) rfl
 rw [List.length_append, hl] at this
 exact this
def attrS (s : SS) (i : Nat) (L : List At1) : SS := { s with tree := setAts s.tree i L }
theorem k85 {T : List (Entry Tryz.prog)} (hT : findE 85 T = some e85.g) {L : List At1} {a : At1} (hl : L.length ≤ 900) (H : Heap) : callL (ctx T) (.fn 85) [aAttrs L, .agg [.str a.1, .str a.2]] H = some (aAttrs (addA L a), H) :=
 mkE_pure hT (fun x y h => by simp only [List.cons.injEq, and_true] at h; exact Prod.ext (inj_aAttrs h.1) (inj_aAttr h.2)) (L, a) hl (by simp [pureL, pureV]) (by simp [thawL, thawA, okV, pureL, pureV, aAttrs, aAttr]) H
def lendB (s : SS) (at_ : Nat) (nm : Str) : Bool := decide (at_ < s.opn.length) && (decide (nm = []) || namedS (nodeS s.tree (s.opn.getD at_ 0)) nm)
def lendS (s : SS) (at_ : Nat) (nm : Str) (l : List At1) : SS := if lendB s at_ nm = true then attrS s (s.opn.getD at_ 0).toNat (l.foldl addA (nodeAt s.tree (s.opn.getD at_ 0)).attrs) else s
theorem lendS_ne {s : SS} (ne : s.tree ≠ []) (at_ : Nat) (nm : Str) (l : List At1) : (lendS s at_ nm l).tree ≠ [] := by
 unfold lendS attrS
 split
 ·exact setAts_ne _ _ _
 ·exact ne
theorem c50 {T : List (Entry Tryz.prog)} (hc0 : findE 65 T = some e65.g) (hc1 : findE 85 T = some e85.g) {s : SS} (ne : s.tree ≠ []) (at_ : Nat) (nm : Str) (l : List At1) (hW : asciiB nm) (hl : nm.length ≤ 100000) (hn : nmOk s.tree) (ho : s.opn.length ≤ 100000) (hr : ∀ i, i ∈ s.opn → 0 ≤ i ∧ i < (s.tree.length : Int)) (ha : at_ ≤ 100000) (h9 : (nodeAt s.tree (s.opn.getD at_ 0)).attrs.length + l.length ≤ 900) : SC T 50 [.int .i64 ((at_ : Nat) : Int), .str nm, aAttrs l] s (.tup []) (lendS s at_ nm l) := by
 have g0 := @vg0
 have v0 := @vset
 have lO := fun H => lenI (H := H) (L := s.opn)
 have fin : ∀ (s' : SS) (f : List (Nat × Blk)) (n : Nat), s'.tree ≠ [] → getF 0 f = none → getF 1 f = none → ∃ σ Φ, fitV σ Φ (AV.tup []) (AV.tup []) ∧ FitH 2 σ Φ ⟨n, [f, VS 1 s']⟩ ⟨3, [VS 2 s']⟩ := fun s' f n h1 h2 h3 => ends_S rfl rfl rfl (by decide) h1 h2 h3
 by_cases hlt : at_ < s.opn.length
 case neg =>
  have e : lendS s at_ nm l = s := by unfold lendS lendB; simp [hlt]
  have hge : ((s.opn.length : Int) ≤ (at_ : Int)) := by omega
  rw [e]
  clear hr h9
  refine callAt_body (fn := Tryz.f50) (s0 := ⟨[0, 1, 2, 3, 8, 10, 51, 52, 53], [.ptr 0 0, .int .i64 (at_ : Int), .str nm, aAttrs l, .undef, .undef, .undef, .undef, .undef], [], 67, ⟨2, [] :: [VS 1 s]⟩⟩) Tryz.func50 rfl rfl rfl ?_
  (repeat' (first
   | with_reducible refine wps_seq ?_
   | with_reducible refine wps_block ?_
   | (with_reducible refine wps_label ?_; simp only [thenQ, blockQ])
   | (with_reducible refine wps_region callOK ?_; apply runE; simp [zS, *, SS.post]; exact rfl)
   | (with_reducible refine run_end ?_; simp only [thenQ, blockQ])
   | (refine wps_drawQ mixed callOK (by decide +kernel) (by decide +kernel) rfl ?_; apply runQ; simp [zS, zW, clsOf, mkBlk, guardA, Heap.lay, ontoF, *, SS.post]; exact rfl)
   | (with_reducible refine run_endQ ?_; refine ⟨by repeat first | exact okC_n | refine okC_c (by decide +kernel) ?_, ?_⟩; simp only [thenQ, blockQ, allPend, Heap.lay, ontoF])
   | (with_reducible refine gate_splitQ (fun hc => ?_) (fun hc => ?_) <;> ((have hd := hc); (try simp at hd); (try subst hd); apply runQ; simp [zS, zW, clsOf, mkBlk, guardA, Heap.lay, ontoF, *, SS.post]; exact rfl))
   | (with_reducible refine gate_splitX (fun hc => ?_) (fun hc => ?_) <;> ((have hd := hc); (try simp at hd); (try subst hd); apply runQ; simp [zS, zW, clsOf, mkBlk, guardA, Heap.lay, ontoF, *, SS.post]; exact rfl))
   | (with_reducible refine pick_splitQ (fun hc => ?_) (fun hc => ?_) <;> ((have hd := hc); (try simp at hd); (try subst hd); apply runQ; simp [zS, zW, clsOf, mkBlk, guardA, Heap.lay, ontoF, *, SS.post]; exact rfl))
   | (with_reducible refine gate_split (fun hc => ?_) (fun hc => ?_) <;> ((have hd := hc); (try simp at hd); (try subst hd); apply runE; simp [zS, *, SS.post]; exact rfl))
   | (with_reducible refine pick_split (fun hc => ?_) (fun hc => ?_) <;> ((have hd := hc); (try simp at hd); (try subst hd); apply runE; simp [zS, *, SS.post]; exact rfl))
   | (refine wps_ct rfl ?_)
   | (refine wps_cf rfl ?_)
   | (refine wps_cond rfl (fun hc => ?_) (fun hc => ?_) <;> ((have hd := hc); (try simp at hd); (try subst hd)))
   | (with_reducible refine wps_skip ?_; simp only [thenQ, blockQ])
   | (with_reducible refine wps_exit ?_; simp [thenQ, blockQ])
   | (with_reducible refine wps_ret ?_; simp [retVal, Tryz.f50, oneOr, thenQ, blockQ])))
  all_goals first | (((try simp [retVal, Tryz.f50, oneOr]); exact fin _ _ _ ne rfl rfl)) | (exfalso; omega)
 case pos =>
  obtain ⟨q, hq⟩ : ∃ q, q = s.opn.getD at_ 0 := ⟨_, rfl⟩
  rw [← hq] at h9
  have hqi : q = s.opn[at_] := by rw [hq]; simp [List.getD_eq_getElem?_getD, hlt]
  obtain ⟨u, hu⟩ : ∃ u : Nat, q = (u : Int) := ⟨q.toNat, by have := (hr q (hqi ▸ List.getElem_mem hlt)).1; omega⟩
  have hul : u < s.tree.length := by have := (hr q (hqi ▸ List.getElem_mem hlt)).2; omega
  have hge : ¬ ((s.opn.length : Int) ≤ (at_ : Int)) := by omega
  have hat := atI hlt
  rw [← hqi, hu] at hat
  have kI := fun n k f (k0 : 0 < k) (hf : getF k f = none) => q65 hc0 (thS (n := n) k0 ne hf) (u : Int) hW hl (hn _)
  obtain ⟨b, hb⟩ : ∃ b, b = namedS (nodeS s.tree (u : Int)) nm := ⟨_, rfl⟩
  rw [← hb] at kI
  rw [hu] at h9
  have eB : lendB s at_ nm = (decide (nm = []) || b) := by unfold lendB; rw [← hq, hu, ← hb]; simp [hlt]
  have eS : lendS s at_ nm l = if (decide (nm = []) || b) = true then attrS s u (l.foldl addA (nodeAt s.tree (u : Int)).attrs) else s := by unfold lendS; rw [eB, ← hq, hu]; rfl
  rw [eS]
  clear eS eB hr hn hq hqi
  by_cases hgo : nm = [] ∨ b = true
  case neg =>
   have h1 : ¬ nm = [] := fun h => hgo (.inl h)
   have h2 : b = false := by cases b with | false => rfl | true => exact absurd (.inr rfl) hgo
   subst h2
   rw [if_neg (by simp [h1])]
   clear hb hgo
   refine callAt_body (fn := Tryz.f50) (s0 := ⟨[0, 1, 2, 3, 8, 10, 51, 52, 53], [.ptr 0 0, .int .i64 (at_ : Int), .str nm, aAttrs l, .undef, .undef, .undef, .undef, .undef], [], 67, ⟨2, [] :: [VS 1 s]⟩⟩) Tryz.func50 rfl rfl rfl ?_
   (repeat' (first
    | with_reducible refine wps_seq ?_
    | with_reducible refine wps_block ?_
    | (with_reducible refine wps_label ?_; simp only [thenQ, blockQ])
    | (with_reducible refine wps_region callOK ?_; apply runE; simp [zS, *, SS.post]; exact rfl)
    | (with_reducible refine run_end ?_; simp only [thenQ, blockQ])
    | (refine wps_drawQ mixed callOK (by decide +kernel) (by decide +kernel) rfl ?_; apply runQ; simp [zS, zW, clsOf, mkBlk, guardA, Heap.lay, ontoF, *, SS.post]; exact rfl)
    | (with_reducible refine run_endQ ?_; refine ⟨by repeat first | exact okC_n | refine okC_c (by decide +kernel) ?_, ?_⟩; simp only [thenQ, blockQ, allPend, Heap.lay, ontoF])
    | (with_reducible refine gate_splitQ (fun hc => ?_) (fun hc => ?_) <;> ((have hd := hc); (try simp at hd); (try subst hd); apply runQ; simp [zS, zW, clsOf, mkBlk, guardA, Heap.lay, ontoF, *, SS.post]; exact rfl))
    | (with_reducible refine gate_splitX (fun hc => ?_) (fun hc => ?_) <;> ((have hd := hc); (try simp at hd); (try subst hd); apply runQ; simp [zS, zW, clsOf, mkBlk, guardA, Heap.lay, ontoF, *, SS.post]; exact rfl))
    | (with_reducible refine pick_splitQ (fun hc => ?_) (fun hc => ?_) <;> ((have hd := hc); (try simp at hd); (try subst hd); apply runQ; simp [zS, zW, clsOf, mkBlk, guardA, Heap.lay, ontoF, *, SS.post]; exact rfl))
    | (with_reducible refine gate_split (fun hc => ?_) (fun hc => ?_) <;> ((have hd := hc); (try simp at hd); (try subst hd); apply runE; simp [zS, *, SS.post]; exact rfl))
    | (with_reducible refine pick_split (fun hc => ?_) (fun hc => ?_) <;> ((have hd := hc); (try simp at hd); (try subst hd); apply runE; simp [zS, *, SS.post]; exact rfl))
    | (refine wps_ct rfl ?_)
    | (refine wps_cf rfl ?_)
    | (refine wps_cond rfl (fun hc => ?_) (fun hc => ?_) <;> ((have hd := hc); (try simp at hd); (try subst hd)))
    | (with_reducible refine wps_skip ?_; simp only [thenQ, blockQ])
    | (with_reducible refine wps_exit ?_; simp [thenQ, blockQ])
    | (with_reducible refine wps_ret ?_; simp [retVal, Tryz.f50, oneOr, thenQ, blockQ])))
   all_goals first | (((try simp [retVal, Tryz.f50, oneOr]); exact fin _ _ _ ne rfl rfl)) | (exfalso; omega)
  case pos =>
   rw [if_pos (by rcases hgo with h | h <;> simp [h])]
   have ix := ixN (k := 1) hul
   have lA : ∀ H, lenA Tryz.prog H 25 (aAttrs l) = some l.length := fun H => by simp [lenA, aAttrs]
   obtain ⟨A0, hA0⟩ : ∃ A0, A0 = (nodeAt s.tree (u : Int)).attrs := ⟨_, rfl⟩
   rw [← hA0] at h9 ⊢
   obtain ⟨stl, hstl⟩ : ∃ stl : Nat → SS, stl = fun j => attrS s u ((l.take j).foldl addA A0) := ⟨_, rfl⟩
   have e0 : stl 0 = s := by rw [hstl]; simp only [List.take_zero, List.foldl_nil, hA0]; unfold attrS; rw [setAts_self hul]
   have eE : attrS s u (l.foldl addA A0) = stl l.length := by rw [hstl]; simp
   have nS : ∀ j, (stl j).tree ≠ [] := fun j => by rw [hstl]; exact setAts_ne _ _ _
   have kA := @k85 T hc1
   rw [eE]
   clear hb eE
   have fits : ∀ (j : Nat) (f : List (Nat × Blk)) (n : Nat), getF 0 f = none → getF 1 f = none → FitH 2 [(1, 1), (0, 0)] [] ⟨n, [f, VS 1 (stl j)]⟩ ⟨2, [[], VS 1 (stl j)]⟩ := fun j f n h1 h2 => fitS1 ⟨by omega, by omega, by omega⟩ (by omega) (by omega) (nS j) h1 h2
   have hgo2 : ¬ nm = [] → b = true := fun h => hgo.resolve_left h
   by_cases hnm : nm = []
   all_goals
    try have hbt := hgo2 hnm
    clear hgo hgo2
    refine callAt_body (fn := Tryz.f50) (s0 := ⟨[0, 1, 2, 3, 8, 10, 51, 52, 53], [.ptr 0 0, .int .i64 (at_ : Int), .str nm, aAttrs l, .undef, .undef, .undef, .undef, .undef], [], 67, ⟨2, [] :: [VS 1 s]⟩⟩) Tryz.func50 rfl rfl rfl ?_
    (repeat' (first
     | with_reducible refine wps_seq ?_
     | with_reducible refine wps_block ?_
     | (with_reducible refine wps_label ?_; simp only [thenQ, blockQ])
     | (with_reducible refine wps_region callOK ?_; apply runE; simp [zS, *, SS.post]; exact rfl)
     | (with_reducible refine run_end ?_; simp only [thenQ, blockQ])
     | (refine wps_drawQ mixed callOK (by decide +kernel) (by decide +kernel) rfl ?_; apply runQ; simp [zS, zW, clsOf, mkBlk, guardA, Heap.lay, ontoF, *, SS.post]; exact rfl)
     | (with_reducible refine run_endQ ?_; refine ⟨by repeat first | exact okC_n | refine okC_c (by decide +kernel) ?_, ?_⟩; simp only [thenQ, blockQ, allPend, Heap.lay, ontoF])
     | (with_reducible refine gate_splitQ (fun hc => ?_) (fun hc => ?_) <;> ((have hd := hc); (try simp at hd); (try subst hd); apply runQ; simp [zS, zW, clsOf, mkBlk, guardA, Heap.lay, ontoF, *, SS.post]; exact rfl))
     | (with_reducible refine gate_splitX (fun hc => ?_) (fun hc => ?_) <;> ((have hd := hc); (try simp at hd); (try subst hd); apply runQ; simp [zS, zW, clsOf, mkBlk, guardA, Heap.lay, ontoF, *, SS.post]; exact rfl))
     | (with_reducible refine pick_splitQ (fun hc => ?_) (fun hc => ?_) <;> ((have hd := hc); (try simp at hd); (try subst hd); apply runQ; simp [zS, zW, clsOf, mkBlk, guardA, Heap.lay, ontoF, *, SS.post]; exact rfl))
     | (with_reducible refine gate_split (fun hc => ?_) (fun hc => ?_) <;> ((have hd := hc); (try simp at hd); (try subst hd); apply runE; simp [zS, *, SS.post]; exact rfl))
     | (with_reducible refine pick_split (fun hc => ?_) (fun hc => ?_) <;> ((have hd := hc); (try simp at hd); (try subst hd); apply runE; simp [zS, *, SS.post]; exact rfl))
     | (refine wps_ct rfl ?_)
     | (refine wps_cf rfl ?_)
     | (refine wps_cond rfl (fun hc => ?_) (fun hc => ?_) <;> ((have hd := hc); (try simp at hd); (try subst hd)))
     | (with_reducible refine wps_skip ?_; simp only [thenQ, blockQ])
     | (with_reducible refine wps_exit ?_; simp [thenQ, blockQ])
     | (with_reducible refine wps_ret ?_; simp [retVal, Tryz.f50, oneOr, thenQ, blockQ])))
    all_goals first | (skip) | (exfalso; omega)
    clear ix hat lO hge kI
    repeat apply wq
    refine wps_loop' (fun j : Nat => (⟨[0, 1, 2, 3, 8, 10, 51, 52, 53], [.ptr 0 0, .int .i64 (at_ : Int), .undef, aAttrs l, .ptr 1 (u * 7), .undef, aAttrs l, .int .i64 (l.length : Int), .int .i64 (j : Int)], [], 67, ⟨2, [[], VS 1 (stl j)]⟩⟩ : St)) (fun j => j ≤ l.length) (fun j => l.length - j) [(1, 1), (0, 0)] [] 0 (Nat.zero_le _)
     ⟨rfl, rfl, rfl, by simp [fitL, fitV, lookN, pureV], by have := fits 0 [] 43 rfl rfl; rw [e0] at this ⊢; exact this⟩ ?_
    intro j hj B hB
    by_cases hjl : j < l.length
    ·have hB1 := fun (f : List (Nat × Blk)) (n : Nat) (h1 : getF 0 f = none) (h2 : getF 1 f = none) (hB' : _) => hB ⟨[0, 1, 2, 3, 8, 10, 51, 52, 53], [.ptr 0 0, .int .i64 (at_ : Int), .undef, aAttrs l, .ptr 1 (u * 7), .undef, aAttrs l, .int .i64 (l.length : Int), .int .i64 ((j + 1 : Nat) : Int)], [], 67, ⟨n, [f, VS 1 (stl (j + 1))]⟩⟩ (j + 1) (by omega) (by omega) hB'
     obtain ⟨Aj, hAj⟩ : ∃ Aj, Aj = (l.take j).foldl addA A0 := ⟨_, rfl⟩
     have hAl : Aj.length ≤ 900 := by
      have := foldA_len (l.take j) A0
      rw [← hAj] at this
      simp at this; omega
     have hsj : stl j = attrS s u Aj := by rw [hstl, hAj]
     have hsn : stl (j + 1) = attrS s u (addA Aj l[j]) := by rw [hstl, hAj]; simp only [List.take_succ_eq_append_getElem hjl, List.foldl_append, List.foldl_cons, List.foldl_nil]
     have g0 := vg0 (k := 1) (nS j)
     have gk := vgk (k := 1) (by omega) (nS j)
     have hlj : (stl j).tree.length = s.tree.length := by rw [hsj]; exact setAts_len hul _
     have gA : getL (flatAV ((stl j).tree.map aNode)) (u * 7 + 3) = some (aAttrs Aj) := by
      rw [getN (by omega) (by omega), hsj]
      show getL (nodeAt (setAts s.tree u Aj) (u : Int)).cs 3 = _
      rw [setAts_at hul]
      rfl
     have ld : layL [aAttrs (addA Aj l[j])] (u * 7 + 3) (flatAV ((stl j).tree.map aNode)) = some (flatAV ((stl (j + 1)).tree.map aNode)) := by
      rw [lay_at2 (by omega), hsj, hsn]
      show some (flatAV ((setAts (setAts s.tree u Aj) u _).map aNode)) = _
      rw [setAts_set hul]
      rfl
     have sk : setF 1 (.cells (flatAV ((stl (j + 1)).tree.map aNode))) (VS 1 (stl j)) = some (VS 1 (stl (j + 1))) := by
      rw [set_k (by omega) (nS j) (by rw [hsj, hsn]; show (setAts _ _ _).length = (setAts _ _ _).length; rw [setAts_len hul, setAts_len hul])]
      rw [hsj, hsn]; rfl
     have kj := fun H => @kA Aj l[j] hAl H
     have ixA : indexAddrA Tryz.prog 25 (aAttrs l) (.int .i64 (j : Int)) = some (.fptr [.str l[j].1, .str l[j].2] 0) := by
      simp [indexAddrA, aAttrs, idx_nat hjl, getL_get, aAttr, AV.cells, hjl]
     have hlt2 : ((j : Int) < (l.length : Int)) := by omega
     have hw1 : wr .i64 ((j : Int) + 1) = some ((j : Int) + 1) := wr_small (by omega) (by omega)
     clear hsj hsn hlj hAj hstl kA hAl e0 hB1
     generalize l[j] = a at *
     (repeat' (first
      | with_reducible refine wps_seq ?_
      | with_reducible refine wps_block ?_
      | (with_reducible refine wps_label ?_; simp only [thenQ, blockQ])
      | (with_reducible refine wps_region callOK ?_; apply runE; simp [zS, *, SS.post]; exact rfl)
      | (with_reducible refine run_end ?_; simp only [thenQ, blockQ])
      | (refine wps_drawQ mixed callOK (by decide +kernel) (by decide +kernel) rfl ?_; apply runQ; simp [zS, zW, clsOf, mkBlk, guardA, Heap.lay, ontoF, *, SS.post]; exact rfl)
      | (with_reducible refine run_endQ ?_; refine ⟨by repeat first | exact okC_n | refine okC_c (by decide +kernel) ?_, ?_⟩; simp only [thenQ, blockQ, allPend, Heap.lay, ontoF])
      | (with_reducible refine gate_splitQ (fun hc => ?_) (fun hc => ?_) <;> ((have hd := hc); (try simp at hd); (try subst hd); apply runQ; simp [zS, zW, clsOf, mkBlk, guardA, Heap.lay, ontoF, *, SS.post]; exact rfl))
      | (with_reducible refine gate_splitX (fun hc => ?_) (fun hc => ?_) <;> ((have hd := hc); (try simp at hd); (try subst hd); apply runQ; simp [zS, zW, clsOf, mkBlk, guardA, Heap.lay, ontoF, *, SS.post]; exact rfl))
      | (with_reducible refine pick_splitQ (fun hc => ?_) (fun hc => ?_) <;> ((have hd := hc); (try simp at hd); (try subst hd); apply runQ; simp [zS, zW, clsOf, mkBlk, guardA, Heap.lay, ontoF, *, SS.post]; exact rfl))
      | (with_reducible refine gate_split (fun hc => ?_) (fun hc => ?_) <;> ((have hd := hc); (try simp at hd); (try subst hd); apply runE; simp [zS, *, SS.post]; exact rfl))
      | (with_reducible refine pick_split (fun hc => ?_) (fun hc => ?_) <;> ((have hd := hc); (try simp at hd); (try subst hd); apply runE; simp [zS, *, SS.post]; exact rfl))
      | (refine wps_ct rfl ?_)
      | (refine wps_cf rfl ?_)
      | (refine wps_cond rfl (fun hc => ?_) (fun hc => ?_) <;> ((have hd := hc); (try simp at hd); (try subst hd)))
      | (with_reducible refine wps_skip ?_; simp only [thenQ, blockQ])
      | (with_reducible refine wps_exit ?_; simp [thenQ, blockQ])
      | (with_reducible refine wps_ret ?_; simp [retVal, Tryz.f50, oneOr, thenQ, blockQ])))
     all_goals first | (exact hB _ (j + 1) (by omega) (by omega) ⟨[(1, 1), (0, 0)], [], rfl, rfl, rfl, by simp [fitL, fitV, lookN, pureV], fits (j + 1) _ _ (by simp [getF]) (by simp [getF])⟩) | (exfalso; omega)
    ·have hj2 : j = l.length := by omega
     subst hj2
     have hlt2 : ¬ ((l.length : Int) < (l.length : Int)) := by omega
     clear hstl e0
     (repeat' (first
      | with_reducible refine wps_seq ?_
      | with_reducible refine wps_block ?_
      | (with_reducible refine wps_label ?_; simp only [thenQ, blockQ])
      | (with_reducible refine wps_region callOK ?_; apply runE; simp [zS, *, SS.post]; exact rfl)
      | (with_reducible refine run_end ?_; simp only [thenQ, blockQ])
      | (refine wps_drawQ mixed callOK (by decide +kernel) (by decide +kernel) rfl ?_; apply runQ; simp [zS, zW, clsOf, mkBlk, guardA, Heap.lay, ontoF, *, SS.post]; exact rfl)
      | (with_reducible refine run_endQ ?_; refine ⟨by repeat first | exact okC_n | refine okC_c (by decide +kernel) ?_, ?_⟩; simp only [thenQ, blockQ, allPend, Heap.lay, ontoF])
      | (with_reducible refine gate_splitQ (fun hc => ?_) (fun hc => ?_) <;> ((have hd := hc); (try simp at hd); (try subst hd); apply runQ; simp [zS, zW, clsOf, mkBlk, guardA, Heap.lay, ontoF, *, SS.post]; exact rfl))
      | (with_reducible refine gate_splitX (fun hc => ?_) (fun hc => ?_) <;> ((have hd := hc); (try simp at hd); (try subst hd); apply runQ; simp [zS, zW, clsOf, mkBlk, guardA, Heap.lay, ontoF, *, SS.post]; exact rfl))
      | (with_reducible refine pick_splitQ (fun hc => ?_) (fun hc => ?_) <;> ((have hd := hc); (try simp at hd); (try subst hd); apply runQ; simp [zS, zW, clsOf, mkBlk, guardA, Heap.lay, ontoF, *, SS.post]; exact rfl))
      | (with_reducible refine gate_split (fun hc => ?_) (fun hc => ?_) <;> ((have hd := hc); (try simp at hd); (try subst hd); apply runE; simp [zS, *, SS.post]; exact rfl))
      | (with_reducible refine pick_split (fun hc => ?_) (fun hc => ?_) <;> ((have hd := hc); (try simp at hd); (try subst hd); apply runE; simp [zS, *, SS.post]; exact rfl))
      | (refine wps_ct rfl ?_)
      | (refine wps_cf rfl ?_)
      | (refine wps_cond rfl (fun hc => ?_) (fun hc => ?_) <;> ((have hd := hc); (try simp at hd); (try subst hd)))
      | (with_reducible refine wps_skip ?_; simp only [thenQ, blockQ])
      | (with_reducible refine wps_exit ?_; simp [thenQ, blockQ])
      | (with_reducible refine wps_ret ?_; simp [retVal, Tryz.f50, oneOr, thenQ, blockQ])))
     all_goals first | (((try simp [retVal, Tryz.f50, oneOr]); exact fin _ _ _ (nS _) (by simp [getF]) (by simp [getF]))) | (exfalso; omega)
theorem inj_50 (x y : Nat × Str × List At1) (h : (fun z : Nat × Str × List At1 => ([.int .i64 ((z.1 : Nat) : Int), .str z.2.1, aAttrs z.2.2] : List AV)) x = (fun z : Nat × Str × List At1 => ([.int .i64 ((z.1 : Nat) : Int), .str z.2.1, aAttrs z.2.2] : List AV)) y) : x = y := by
 obtain ⟨x0, x1, x2⟩ := x
 obtain ⟨y0, y1, y2⟩ := y
 simp only [List.cons.injEq, and_true] at h
 obtain ⟨h0, h1, h2⟩ := h
 have g0 : x0 = y0 := (by have := (AV.int.inj h0).2; omega)
 have g1 : x1 = y1 := AV.str.inj h1
 have g2 : x2 = y2 := inj_aAttrs h2
 subst g0 g1 g2
 rfl
noncomputable def e50 : Entry Tryz.prog := mkS 50 [[], [], [2]] (fun z : Nat × Str × List At1 => [.int .i64 ((z.1 : Nat) : Int), .str z.2.1, aAttrs z.2.2]) (fun z s => (asciiB z.2.1) ∧ (z.2.1.length ≤ 100000) ∧ (nmOk s.tree) ∧ (s.opn.length ≤ 100000) ∧ (∀ i, i ∈ s.opn → 0 ≤ i ∧ i < (s.tree.length : Int)) ∧ (z.1 ≤ 100000) ∧ ((nodeAt s.tree (s.opn.getD z.1 0)).attrs.length + z.2.2.length ≤ 900)) (fun z s => .tup []) (fun z s => lendS s z.1 z.2.1 z.2.2) fun z s ne h => ⟨c50 (T := [e65, e85]) rfl rfl ne z.1 z.2.1 z.2.2 h.1 h.2.1 h.2.2.1 h.2.2.2.1 h.2.2.2.2.1 h.2.2.2.2.2.1 h.2.2.2.2.2.2, by simp [pureL, pureV], by simp [pureV, pureL], lendS_ne ne _ _ _⟩
theorem k50 {T : List (Entry Tryz.prog)} (hT : findE 50 T = some e50.g) {s : SS} (ne : s.tree ≠ []) (at_ : Nat) (nm : Str) (l : List At1) (hW : asciiB nm) (hl : nm.length ≤ 100000) (hn : nmOk s.tree) (ho : s.opn.length ≤ 100000) (hr : ∀ i, i ∈ s.opn → 0 ≤ i ∧ i < (s.tree.length : Int)) (ha : at_ ≤ 100000) (h9 : (nodeAt s.tree (s.opn.getD at_ 0)).attrs.length + l.length ≤ 900) {n k : Nat} {fr : List (Nat × Blk)} (k0 : 0 < k) (kn : k < n) (of : offS k fr) : callL (ctx T) (.fn 50) [.ptr 0 0, .int .i64 ((at_ : Nat) : Int), .str nm, aAttrs l] ⟨n, [fr, VS k s]⟩ = some (.tup [], ⟨n + 1, [fr, VS n (lendS s at_ nm l)]⟩) :=
 mkS_eq hT inj_50 (at_, nm, l) ne ⟨hW, hl, hn, ho, hr, ha, h9⟩ (by simp [pureL, pureV]) (by simp [thawL, thawA_ok]) k0 kn of
end Go.Proofs.YtfgdcciaecajpaaGreat
namespace Go.Proofs.YtfgdcciaecajpaaGreat
set_option linter.unusedSimpArgs false
set_option linter.unusedVariables false
open Go Go.RowKit
set_option maxRecDepth 100000
set_option maxHeartbeats 1000000
noncomputable def e34z : Entry Tryz.prog := mkL 34 [[1]] (fun L : List Int => [aInts L]) (fun L => L.length ≤ 1000000) (fun L => L) fun L hl => c34 (T := []) L hl
theorem k34z {T : List (Entry Tryz.prog)} (hT : findE 34 T = some e34z.g) {L : List Int} (hl : L.length ≤ 1000000) (H : Heap) : callL (ctx T) (.fn 34) [aInts L] H = some (aInts L, H) :=
 mkL_eq hT (fun x y h => by simp only [List.cons.injEq, and_true] at h; exact inj_aInts h) L hl (by simp [thawL, thawA_ok])
theorem c52 {T : List (Entry Tryz.prog)} (hc0 : findE 34 T = some e34z.g) {s : SS} (ne : s.tree ≠ [])  (h : s.opn ≠ []) (ho : s.opn.length ≤ 100001) : SC T 52 [] s (.tup []) ({ s with opn := s.opn.dropLast }) := by
 have kc0 := @k34z T hc0
 have g0 := @vg0
 have v0 := @vset
 have lO := fun H => lenI (H := H) (L := s.opn)
 have hp := List.length_pos_iff.2 h
 have hw : wr .i64 ((s.opn.length : Int) - 1) = some ((s.opn.length - 1 : Nat) : Int) := by
  rw [show ((s.opn.length : Int) - 1) = ((s.opn.length - 1 : Nat) : Int) by omega]
  exact wr_small (by omega) (by omega)
 have hs := fun H => fsl_to (H := H) (L := s.opn) (k := s.opn.length - 1) (by omega)
 rw [← List.dropLast_eq_take] at hs
 have kC := fun H => kc0 (L := s.opn.dropLast) (by simp; omega) H
 clear kc0
 generalize ((s.opn.length - 1 : Nat) : Int) = w at *
 generalize s.opn.dropLast = D at *
 clear hp ho h
 refine callAt_body (fn := Tryz.f52) (s0 := ⟨[0], [.ptr 0 0], [], 17, ⟨2, [] :: [VS 1 s]⟩⟩) Tryz.func52 rfl rfl rfl ?_
 (repeat' (first
  | with_reducible refine wps_seq ?_
  | with_reducible refine wps_block ?_
  | (with_reducible refine wps_label ?_; simp only [thenQ, blockQ])
  | (with_reducible refine wps_region callOK ?_; apply runE; simp [zS, *, SS.post]; exact rfl)
  | (with_reducible refine run_end ?_; simp only [thenQ, blockQ])
  | (refine wps_drawQ mixed callOK (by decide +kernel) (by decide +kernel) rfl ?_; apply runQ; simp [zS, zW, clsOf, mkBlk, guardA, Heap.lay, ontoF, *, SS.post]; exact rfl)
  | (with_reducible refine run_endQ ?_; refine ⟨by repeat first | exact okC_n | refine okC_c (by decide +kernel) ?_, ?_⟩; simp only [thenQ, blockQ, allPend, Heap.lay, ontoF])
  | (with_reducible refine gate_splitQ (fun hc => ?_) (fun hc => ?_) <;> ((have hd := hc); (try simp at hd); (try subst hd); apply runQ; simp [zS, zW, clsOf, mkBlk, guardA, Heap.lay, ontoF, *, SS.post]; exact rfl))
  | (with_reducible refine gate_splitX (fun hc => ?_) (fun hc => ?_) <;> ((have hd := hc); (try simp at hd); (try subst hd); apply runQ; simp [zS, zW, clsOf, mkBlk, guardA, Heap.lay, ontoF, *, SS.post]; exact rfl))
  | (with_reducible refine pick_splitQ (fun hc => ?_) (fun hc => ?_) <;> ((have hd := hc); (try simp at hd); (try subst hd); apply runQ; simp [zS, zW, clsOf, mkBlk, guardA, Heap.lay, ontoF, *, SS.post]; exact rfl))
  | (with_reducible refine gate_split (fun hc => ?_) (fun hc => ?_) <;> ((have hd := hc); (try simp at hd); (try subst hd); apply runE; simp [zS, *, SS.post]; exact rfl))
  | (with_reducible refine pick_split (fun hc => ?_) (fun hc => ?_) <;> ((have hd := hc); (try simp at hd); (try subst hd); apply runE; simp [zS, *, SS.post]; exact rfl))
  | (refine wps_ct rfl ?_)
  | (refine wps_cf rfl ?_)
  | (refine wps_cond rfl (fun hc => ?_) (fun hc => ?_) <;> ((have hd := hc); (try simp at hd); (try subst hd)))
  | (with_reducible refine wps_skip ?_; simp only [thenQ, blockQ])
  | (with_reducible refine wps_exit ?_; simp [thenQ, blockQ])
  | (with_reducible refine wps_ret ?_; simp [retVal, Tryz.f52, oneOr, thenQ, blockQ])))
 all_goals first | ((try simp [retVal, Tryz.f52, oneOr]); exact ends_S (by simp [*]) (by first | rfl | (simp [*]; done)) (by simp [pureV, pureL]) (by decide) (ne) rfl rfl) | (exfalso; omega) | (trace_state; fail)
theorem inj_52 (x y : Unit) (h : (fun z : Unit => ([] : List AV)) x = (fun z : Unit => ([] : List AV)) y) : x = y := by
 rfl
noncomputable def e52 : Entry Tryz.prog := mkS 52 [] (fun z : Unit => []) (fun z s => (s.opn ≠ []) ∧ (s.opn.length ≤ 100001)) (fun z s => .tup []) (fun z s => { s with opn := s.opn.dropLast }) fun z s ne h => ⟨c52 (T := [e34z]) rfl ne  h.1 h.2, by simp [pureL, pureV], by simp [pureV, pureL], ne⟩
theorem k52 {T : List (Entry Tryz.prog)} (hT : findE 52 T = some e52.g) {s : SS} (ne : s.tree ≠ [])  (h : s.opn ≠ []) (ho : s.opn.length ≤ 100001) {n k : Nat} {fr : List (Nat × Blk)} (k0 : 0 < k) (kn : k < n) (of : offS k fr) : callL (ctx T) (.fn 52) [.ptr 0 0] ⟨n, [fr, VS k s]⟩ = some (.tup [], ⟨n + 1, [fr, VS n ({ s with opn := s.opn.dropLast })]⟩) :=
 mkS_eq hT inj_52 () ne ⟨h, ho⟩ (by simp [pureL, pureV]) (by simp [thawL, thawA_ok]) k0 kn of
def textsS (s : SS) (nm : Str) (L : List At1) : SS := { elS s 0 nm L with back := s.mode, mode := 6, lex := lexedI nm }
theorem c59 {T : List (Entry Tryz.prog)} (hc0 : findE 37 T = some e37.g) (hc1 : findE 15 T = some e15.g) {s : SS} (ne : s.tree ≠ []) (t : Tk) (hf : s.foster = false) (ok : SOk s) (ha : t.attrs.length ≤ 1000000) : SC T 59 [.fptr (Tk.cs t) 0] s (.tup []) (textsS s t.name t.attrs) := by
 have kc0 := @k37 T hc0
 have kc1 := @k15 T hc1
 have g0 := @vg0
 have v0 := @vset
 have kE := fun n k fr => @kc0 s ne t 0 hf ok ha n k fr
 simp only [aTok, Tk.cs] at kE
 have e : textsS s t.name t.attrs = ⟨(elS s 0 t.name t.attrs).tree, (elS s 0 t.name t.attrs).opn, s.act, 6, s.mode, lexedI t.name, s.form, s.head, s.foster, s.skip, s.inside⟩ := rfl
 have n1 : (elS s 0 t.name t.attrs).tree ≠ [] := newT_ne _ _ _ _
 have e1 : elS s 0 t.name t.attrs = ⟨(elS s 0 t.name t.attrs).tree, (elS s 0 t.name t.attrs).opn, s.act, s.mode, s.back, s.lex, s.form, s.head, s.foster, s.skip, s.inside⟩ := rfl
 rw [e1] at kE
 rw [e]
 generalize (elS s 0 t.name t.attrs).tree = t1 at *
 generalize (elS s 0 t.name t.attrs).opn = o1 at *
 clear e e1 kc0
 refine callAt_body (fn := Tryz.f59) (s0 := ⟨[0, 1], [.ptr 0 0, .fptr (Tk.cs t) 0], [], 27, ⟨2, [] :: [VS 1 s]⟩⟩) Tryz.func59 rfl rfl rfl ?_
 (repeat' (first
  | with_reducible refine wps_seq ?_
  | with_reducible refine wps_block ?_
  | (with_reducible refine wps_label ?_; simp only [thenQ, blockQ])
  | (with_reducible refine wps_region callOK ?_; apply runE; simp [zS, *, SS.post, Tk.cs]; exact rfl)
  | (with_reducible refine run_end ?_; simp only [thenQ, blockQ])
  | (refine wps_drawQ mixed callOK (by decide +kernel) (by decide +kernel) rfl ?_; apply runQ; simp [zS, zW, clsOf, mkBlk, guardA, Heap.lay, ontoF, *, SS.post, Tk.cs]; exact rfl)
  | (with_reducible refine run_endQ ?_; refine ⟨by repeat first | exact okC_n | refine okC_c (by decide +kernel) ?_, ?_⟩; simp only [thenQ, blockQ, allPend, Heap.lay, ontoF])
  | (with_reducible refine gate_splitQ (fun hc => ?_) (fun hc => ?_) <;> ((have hd := hc); (try simp at hd); (try subst hd); apply runQ; simp [zS, zW, clsOf, mkBlk, guardA, Heap.lay, ontoF, *, SS.post, Tk.cs]; exact rfl))
  | (with_reducible refine gate_splitX (fun hc => ?_) (fun hc => ?_) <;> ((have hd := hc); (try simp at hd); (try subst hd); apply runQ; simp [zS, zW, clsOf, mkBlk, guardA, Heap.lay, ontoF, *, SS.post, Tk.cs]; exact rfl))
  | (with_reducible refine pick_splitQ (fun hc => ?_) (fun hc => ?_) <;> ((have hd := hc); (try simp at hd); (try subst hd); apply runQ; simp [zS, zW, clsOf, mkBlk, guardA, Heap.lay, ontoF, *, SS.post, Tk.cs]; exact rfl))
  | (with_reducible refine gate_split (fun hc => ?_) (fun hc => ?_) <;> ((have hd := hc); (try simp at hd); (try subst hd); apply runE; simp [zS, *, SS.post, Tk.cs]; exact rfl))
  | (with_reducible refine pick_split (fun hc => ?_) (fun hc => ?_) <;> ((have hd := hc); (try simp at hd); (try subst hd); apply runE; simp [zS, *, SS.post, Tk.cs]; exact rfl))
  | (refine wps_ct rfl ?_)
  | (refine wps_cf rfl ?_)
  | (refine wps_cond rfl (fun hc => ?_) (fun hc => ?_) <;> ((have hd := hc); (try simp at hd); (try subst hd)))
  | (with_reducible refine wps_skip ?_; simp only [thenQ, blockQ])
  | (with_reducible refine wps_exit ?_; simp [thenQ, blockQ])
  | (with_reducible refine wps_ret ?_; simp [retVal, Tryz.f59, oneOr, thenQ, blockQ])))
 all_goals first | ((try simp [retVal, Tryz.f59, oneOr]); exact ends_S (by simp [*]) (by first | rfl | (simp [*]; done)) (by simp [pureV, pureL]) (by decide) (by (try exact n1); (all_goals exact newT_ne _ _ _ _)) rfl rfl) | (exfalso; omega) | (trace_state; fail)
theorem inj_59 (x y : Tk) (h : (fun z : Tk => ([.fptr (Tk.cs z) 0] : List AV)) x = (fun z : Tk => ([.fptr (Tk.cs z) 0] : List AV)) y) : x = y := by
 simp only [List.cons.injEq, and_true] at h
 exact inj_ftok h
noncomputable def e59 : Entry Tryz.prog := mkS 59 [[]] (fun z : Tk => [.fptr (Tk.cs z) 0]) (fun z s => (s.foster = false) ∧ (SOk s) ∧ (z.attrs.length ≤ 1000000)) (fun z s => .tup []) (fun z s => textsS s z.name z.attrs) fun z s ne h => ⟨c59 (T := [e37, e15]) rfl rfl ne z h.1 h.2.1 h.2.2, by simp [pureL, pureV], by simp [pureV, pureL], by (try exact n1); (all_goals exact newT_ne _ _ _ _)⟩
theorem k59 {T : List (Entry Tryz.prog)} (hT : findE 59 T = some e59.g) {s : SS} (ne : s.tree ≠ []) (t : Tk) (hf : s.foster = false) (ok : SOk s) (ha : t.attrs.length ≤ 1000000) {n k : Nat} {fr : List (Nat × Blk)} (k0 : 0 < k) (kn : k < n) (of : offS k fr) : callL (ctx T) (.fn 59) [.ptr 0 0, .fptr (Tk.cs t) 0] ⟨n, [fr, VS k s]⟩ = some (.tup [], ⟨n + 1, [fr, VS n (textsS s t.name t.attrs)]⟩) :=
 mkS_eq hT inj_59 (t) ne ⟨hf, ok, ha⟩ (by simp [pureL, pureV]) (by simp [thawL, thawA_ok]) k0 kn of
def aloneS (s : SS) (nm : Str) (L : List At1) : SS := { s with tree := elT s.tree (topI s.opn) 0 nm L }
theorem aloneS_eq (s : SS) (nm : Str) (L : List At1) : { elS s 0 nm L with opn := (elS s 0 nm L).opn.dropLast } = aloneS s nm L := by
 simp [aloneS, elS]
theorem c57 {T : List (Entry Tryz.prog)} (hc0 : findE 37 T = some e37.g) (hc1 : findE 52 T = some e52.g) {s : SS} (ne : s.tree ≠ []) (t : Tk) (hf : s.foster = false) (ok : SOk s) (ha : t.attrs.length ≤ 1000000) : SC T 57 [.fptr (Tk.cs t) 0] s (.tup []) (aloneS s t.name t.attrs) := by
 have kc0 := @k37 T hc0
 have kc1 := @k52 T hc1
 have g0 := @vg0
 have v0 := @vset
 have kE := fun n k fr => @kc0 s ne t 0 hf ok ha n k fr
 simp only [aTok, Tk.cs] at kE
 have kS := @kc1 (elS s 0 t.name t.attrs) (newT_ne _ _ _ _) (by simp [elS]) (by have := ok.op; simp [elS]; omega)
 rw [aloneS_eq] at kS
 clear kc0 kc1
 generalize elS s 0 t.name t.attrs = s1 at *
 refine callAt_body (fn := Tryz.f57) (s0 := ⟨[0, 1], [.ptr 0 0, .fptr (Tk.cs t) 0], [], 11, ⟨2, [] :: [VS 1 s]⟩⟩) Tryz.func57 rfl rfl rfl ?_
 (repeat' (first
  | with_reducible refine wps_seq ?_
  | with_reducible refine wps_block ?_
  | (with_reducible refine wps_label ?_; simp only [thenQ, blockQ])
  | (with_reducible refine wps_region callOK ?_; apply runE; simp [zS, *, SS.post, Tk.cs]; exact rfl)
  | (with_reducible refine run_end ?_; simp only [thenQ, blockQ])
  | (refine wps_drawQ mixed callOK (by decide +kernel) (by decide +kernel) rfl ?_; apply runQ; simp [zS, zW, clsOf, mkBlk, guardA, Heap.lay, ontoF, *, SS.post, Tk.cs]; exact rfl)
  | (with_reducible refine run_endQ ?_; refine ⟨by repeat first | exact okC_n | refine okC_c (by decide +kernel) ?_, ?_⟩; simp only [thenQ, blockQ, allPend, Heap.lay, ontoF])
  | (with_reducible refine gate_splitQ (fun hc => ?_) (fun hc => ?_) <;> ((have hd := hc); (try simp at hd); (try subst hd); apply runQ; simp [zS, zW, clsOf, mkBlk, guardA, Heap.lay, ontoF, *, SS.post, Tk.cs]; exact rfl))
  | (with_reducible refine gate_splitX (fun hc => ?_) (fun hc => ?_) <;> ((have hd := hc); (try simp at hd); (try subst hd); apply runQ; simp [zS, zW, clsOf, mkBlk, guardA, Heap.lay, ontoF, *, SS.post, Tk.cs]; exact rfl))
  | (with_reducible refine pick_splitQ (fun hc => ?_) (fun hc => ?_) <;> ((have hd := hc); (try simp at hd); (try subst hd); apply runQ; simp [zS, zW, clsOf, mkBlk, guardA, Heap.lay, ontoF, *, SS.post, Tk.cs]; exact rfl))
  | (with_reducible refine gate_split (fun hc => ?_) (fun hc => ?_) <;> ((have hd := hc); (try simp at hd); (try subst hd); apply runE; simp [zS, *, SS.post, Tk.cs]; exact rfl))
  | (with_reducible refine pick_split (fun hc => ?_) (fun hc => ?_) <;> ((have hd := hc); (try simp at hd); (try subst hd); apply runE; simp [zS, *, SS.post, Tk.cs]; exact rfl))
  | (refine wps_ct rfl ?_)
  | (refine wps_cf rfl ?_)
  | (refine wps_cond rfl (fun hc => ?_) (fun hc => ?_) <;> ((have hd := hc); (try simp at hd); (try subst hd)))
  | (with_reducible refine wps_skip ?_; simp only [thenQ, blockQ])
  | (with_reducible refine wps_exit ?_; simp [thenQ, blockQ])
  | (with_reducible refine wps_ret ?_; simp [retVal, Tryz.f57, oneOr, thenQ, blockQ])))
 all_goals first | ((try simp [retVal, Tryz.f57, oneOr]); exact ends_S (by simp [*]) (by first | rfl | (simp [*]; done)) (by simp [pureV, pureL]) (by decide) (newT_ne _ _ _ _) rfl rfl) | (exfalso; omega) | (trace_state; fail)
theorem inj_57 (x y : Tk) (h : (fun z : Tk => ([.fptr (Tk.cs z) 0] : List AV)) x = (fun z : Tk => ([.fptr (Tk.cs z) 0] : List AV)) y) : x = y := by
 simp only [List.cons.injEq, and_true] at h
 exact inj_ftok h
noncomputable def e57 : Entry Tryz.prog := mkS 57 [[]] (fun z : Tk => [.fptr (Tk.cs z) 0]) (fun z s => (s.foster = false) ∧ (SOk s) ∧ (z.attrs.length ≤ 1000000)) (fun z s => .tup []) (fun z s => aloneS s z.name z.attrs) fun z s ne h => ⟨c57 (T := [e37, e52]) rfl rfl ne z h.1 h.2.1 h.2.2, by simp [pureL, pureV], by simp [pureV, pureL], newT_ne _ _ _ _⟩
theorem k57 {T : List (Entry Tryz.prog)} (hT : findE 57 T = some e57.g) {s : SS} (ne : s.tree ≠ []) (t : Tk) (hf : s.foster = false) (ok : SOk s) (ha : t.attrs.length ≤ 1000000) {n k : Nat} {fr : List (Nat × Blk)} (k0 : 0 < k) (kn : k < n) (of : offS k fr) : callL (ctx T) (.fn 57) [.ptr 0 0, .fptr (Tk.cs t) 0] ⟨n, [fr, VS k s]⟩ = some (.tup [], ⟨n + 1, [fr, VS n (aloneS s t.name t.attrs)]⟩) :=
 mkS_eq hT inj_57 (t) ne ⟨hf, ok, ha⟩ (by simp [pureL, pureV]) (by simp [thawL, thawA_ok]) k0 kn of
def metaA (x : Str) : Bool := decide (x = [98, 97, 115, 101] ∨ x = [98, 97, 115, 101, 102, 111, 110, 116] ∨ x = [98, 103, 115, 111, 117, 110, 100] ∨ x = [108, 105, 110, 107] ∨ x = [109, 101, 116, 97])
def metaT (x : Str) : Bool := decide (x = [116, 105, 116, 108, 101] ∨ x = [110, 111, 102, 114, 97, 109, 101, 115] ∨ x = [115, 116, 121, 108, 101] ∨ x = [115, 99, 114, 105, 112, 116])
def metaB (t : Tk) : Bool := decide (t.kind = 1) && (metaA t.name || metaT t.name)
def metaS (s : SS) (t : Tk) : SS := if t.kind = 1 then if metaA t.name = true then aloneS s t.name t.attrs else if metaT t.name = true then textsS s t.name t.attrs else s else s
theorem metaS_ne {s : SS} (ne : s.tree ≠ []) (t : Tk) : (metaS s t).tree ≠ [] := by
 unfold metaS
 split
 ·split
  ·exact newT_ne _ _ _ _
  ·split
   ·exact newT_ne _ _ _ _
   ·exact ne
 ·exact ne
theorem c23 {T : List (Entry Tryz.prog)} (hc0 : findE 57 T = some e57.g) (hc1 : findE 59 T = some e59.g) {s : SS} (ne : s.tree ≠ []) (t : Tk) (hf : s.foster = false) (ok : SOk s) (ha : t.attrs.length ≤ 1000000) : SC T 23 [.fptr (Tk.cs t) 0] s (.bool (metaB t)) (metaS s t) := by
 have kc0 := @k57 T hc0
 have kc1 := @k59 T hc1
 have g0 := @vg0
 have v0 := @vset
 have kA := fun kd nm L sf dt hl n k fr => @kc0 s ne ⟨kd, nm, L, sf, dt⟩ hf ok hl n k fr
 have kT := fun kd nm L sf dt hl n k fr => @kc1 s ne ⟨kd, nm, L, sf, dt⟩ hf ok hl n k fr
 simp only [Tk.cs] at kA kT
 clear kc0 kc1
 refine callAt_body (fn := Tryz.f23) (s0 := ⟨[0, 1, 4, 13, 14, 23], [.ptr 0 0, .fptr (Tk.cs t) 0, .undef, .undef, .undef, .undef], [], 31, ⟨2, [] :: [VS 1 s]⟩⟩) Tryz.func23 rfl rfl rfl ?_
 (repeat' (first
  | with_reducible refine wps_seq ?_
  | with_reducible refine wps_block ?_
  | (with_reducible refine wps_label ?_; simp only [thenQ, blockQ])
  | (with_reducible refine wps_region callOK ?_; apply runE; simp [zS, *, SS.post, Tk.cs]; exact rfl)
  | (with_reducible refine run_end ?_; simp only [thenQ, blockQ])
  | (refine wps_drawQ mixed callOK (by decide +kernel) (by decide +kernel) rfl ?_; apply runQ; simp [zS, zW, clsOf, mkBlk, guardA, Heap.lay, ontoF, *, SS.post, Tk.cs]; exact rfl)
  | (with_reducible refine run_endQ ?_; refine ⟨by repeat first | exact okC_n | refine okC_c (by decide +kernel) ?_, ?_⟩; simp only [thenQ, blockQ, allPend, Heap.lay, ontoF])
  | (with_reducible refine gate_splitQ (fun hc => ?_) (fun hc => ?_) <;> ((have hd := hc); (try simp at hd); (try subst hd); apply runQ; simp [zS, zW, clsOf, mkBlk, guardA, Heap.lay, ontoF, *, SS.post, Tk.cs]; exact rfl))
  | (with_reducible refine gate_splitX (fun hc => ?_) (fun hc => ?_) <;> ((have hd := hc); (try simp at hd); (try subst hd); apply runQ; simp [zS, zW, clsOf, mkBlk, guardA, Heap.lay, ontoF, *, SS.post, Tk.cs]; exact rfl))
  | (with_reducible refine pick_splitQ (fun hc => ?_) (fun hc => ?_) <;> ((have hd := hc); (try simp at hd); (try subst hd); apply runQ; simp [zS, zW, clsOf, mkBlk, guardA, Heap.lay, ontoF, *, SS.post, Tk.cs]; exact rfl))
  | (with_reducible refine gate_split (fun hc => ?_) (fun hc => ?_) <;> ((have hd := hc); (try simp at hd); (try subst hd); apply runE; simp [zS, *, SS.post, Tk.cs]; exact rfl))
  | (with_reducible refine pick_split (fun hc => ?_) (fun hc => ?_) <;> ((have hd := hc); (try simp at hd); (try subst hd); apply runE; simp [zS, *, SS.post, Tk.cs]; exact rfl))
  | (refine wps_ct rfl ?_)
  | (refine wps_cf rfl ?_)
  | (refine wps_cond rfl (fun hc => ?_) (fun hc => ?_) <;> ((have hd := hc); (try simp at hd); (try subst hd)))
  | (with_reducible refine wps_skip ?_; simp only [thenQ, blockQ])
  | (with_reducible refine wps_exit ?_; simp [thenQ, blockQ])
  | (with_reducible refine wps_ret ?_; simp [retVal, Tryz.f23, oneOr, thenQ, blockQ])))
 all_goals first | ((try simp [retVal, Tryz.f23, oneOr]); exact ends_S (by simp_all [metaB, metaA, metaT]) (by simp_all [metaS, metaA, metaT]) (by simp [pureV, pureL]) (by decide) (metaS_ne ne _) rfl rfl) | (exfalso; omega) | (trace_state; fail)
theorem inj_23 (x y : Tk) (h : (fun z : Tk => ([.fptr (Tk.cs z) 0] : List AV)) x = (fun z : Tk => ([.fptr (Tk.cs z) 0] : List AV)) y) : x = y := by
 simp only [List.cons.injEq, and_true] at h
 exact inj_ftok h
noncomputable def e23 : Entry Tryz.prog := mkS 23 [[]] (fun z : Tk => [.fptr (Tk.cs z) 0]) (fun z s => (s.foster = false) ∧ (SOk s) ∧ (z.attrs.length ≤ 1000000)) (fun z s => .bool (metaB z)) (fun z s => metaS s z) fun z s ne h => ⟨c23 (T := [e57, e59]) rfl rfl ne z h.1 h.2.1 h.2.2, by simp [pureL, pureV], by simp [pureV, pureL], metaS_ne ne _⟩
theorem k23 {T : List (Entry Tryz.prog)} (hT : findE 23 T = some e23.g) {s : SS} (ne : s.tree ≠ []) (t : Tk) (hf : s.foster = false) (ok : SOk s) (ha : t.attrs.length ≤ 1000000) {n k : Nat} {fr : List (Nat × Blk)} (k0 : 0 < k) (kn : k < n) (of : offS k fr) : callL (ctx T) (.fn 23) [.ptr 0 0, .fptr (Tk.cs t) 0] ⟨n, [fr, VS k s]⟩ = some (.bool (metaB t), ⟨n + 1, [fr, VS n (metaS s t)]⟩) :=
 mkS_eq hT inj_23 (t) ne ⟨hf, ok, ha⟩ (by simp [pureL, pureV]) (by simp [thawL, thawA_ok]) k0 kn of
def shutC (s : SS) (W : Str) : SS := if 1 < s.opn.length ∧ namedS (nodeS s.tree (topI s.opn)) W = true then { s with opn := s.opn.dropLast } else s
theorem c63 {T : List (Entry Tryz.prog)} (hc0 : findE 89 T = some e89.g) (hc1 : findE 34 T = some e34z.g) {s : SS} (ne : s.tree ≠ []) (W : Str) (hW : asciiB W) (hl : W.length ≤ 100000) (hn : nmOk s.tree) (ho : s.opn.length ≤ 100000) : SC T 63 [.str W] s (.tup []) (shutC s W) := by
 have kc0 := @k89 T hc0
 have kc1 := @k34z T hc1
 have g0 := @vg0
 have v0 := @vset
 have lO := fun H => lenI (H := H) (L := s.opn)
 have kI := fun n k fr => @kc0 s ne W hW hl hn ho n k fr
 have kC := fun H => kc1 (L := s.opn.dropLast) (by simp; omega) H
 clear kc0 kc1
 by_cases h1 : 1 < s.opn.length
 ·have hw : wr .i64 ((s.opn.length : Int) - 1) = some ((s.opn.length - 1 : Nat) : Int) := by
   rw [show ((s.opn.length : Int) - 1) = ((s.opn.length - 1 : Nat) : Int) by omega]
   exact wr_small (by omega) (by omega)
  have hs := fun H => fsl_to (H := H) (L := s.opn) (k := s.opn.length - 1) (by omega)
  rw [← List.dropLast_eq_take] at hs
  have h1' : (1 : Int) < (s.opn.length : Int) := by omega
  have e : shutC s W = if namedS (nodeS s.tree (topI s.opn)) W = true then { s with opn := s.opn.dropLast } else s := by unfold shutC; simp [h1]
  rw [e]
  clear e
  generalize ((s.opn.length - 1 : Nat) : Int) = w at *
  generalize namedS (nodeS s.tree (topI s.opn)) W = b at *
  generalize s.opn.dropLast = D at *
  cases b with
  | true =>
   rw [if_pos rfl]
   refine callAt_body (fn := Tryz.f63) (s0 := ⟨[0, 1], [.ptr 0 0, .str W], [], 30, ⟨2, [] :: [VS 1 s]⟩⟩) Tryz.func63 rfl rfl rfl ?_
   (repeat' (first
    | with_reducible refine wps_seq ?_
    | with_reducible refine wps_block ?_
    | (with_reducible refine wps_label ?_; simp only [thenQ, blockQ])
    | (with_reducible refine wps_region callOK ?_; apply runE; simp [zS, *, SS.post]; exact rfl)
    | (with_reducible refine run_end ?_; simp only [thenQ, blockQ])
    | (refine wps_drawQ mixed callOK (by decide +kernel) (by decide +kernel) rfl ?_; apply runQ; simp [zS, zW, clsOf, mkBlk, guardA, Heap.lay, ontoF, *, SS.post]; exact rfl)
    | (with_reducible refine run_endQ ?_; refine ⟨by repeat first | exact okC_n | refine okC_c (by decide +kernel) ?_, ?_⟩; simp only [thenQ, blockQ, allPend, Heap.lay, ontoF])
    | (with_reducible refine gate_splitQ (fun hc => ?_) (fun hc => ?_) <;> ((have hd := hc); (try simp at hd); (try subst hd); apply runQ; simp [zS, zW, clsOf, mkBlk, guardA, Heap.lay, ontoF, *, SS.post]; exact rfl))
    | (with_reducible refine gate_splitX (fun hc => ?_) (fun hc => ?_) <;> ((have hd := hc); (try simp at hd); (try subst hd); apply runQ; simp [zS, zW, clsOf, mkBlk, guardA, Heap.lay, ontoF, *, SS.post]; exact rfl))
    | (with_reducible refine pick_splitQ (fun hc => ?_) (fun hc => ?_) <;> ((have hd := hc); (try simp at hd); (try subst hd); apply runQ; simp [zS, zW, clsOf, mkBlk, guardA, Heap.lay, ontoF, *, SS.post]; exact rfl))
    | (with_reducible refine gate_split (fun hc => ?_) (fun hc => ?_) <;> ((have hd := hc); (try simp at hd); (try subst hd); apply runE; simp [zS, *, SS.post]; exact rfl))
    | (with_reducible refine pick_split (fun hc => ?_) (fun hc => ?_) <;> ((have hd := hc); (try simp at hd); (try subst hd); apply runE; simp [zS, *, SS.post]; exact rfl))
    | (refine wps_ct rfl ?_)
    | (refine wps_cf rfl ?_)
    | (refine wps_cond rfl (fun hc => ?_) (fun hc => ?_) <;> ((have hd := hc); (try simp at hd); (try subst hd)))
    | (with_reducible refine wps_skip ?_; simp only [thenQ, blockQ])
    | (with_reducible refine wps_exit ?_; simp [thenQ, blockQ])
    | (with_reducible refine wps_ret ?_; simp [retVal, Tryz.f63, oneOr, thenQ, blockQ])))
   all_goals first | (((try simp [retVal, Tryz.f63, oneOr]); exact ends_S rfl rfl rfl (by decide) ne rfl rfl)) | (exfalso; omega) | (trace_state; fail)
  | false =>
   rw [if_neg (by simp)]
   refine callAt_body (fn := Tryz.f63) (s0 := ⟨[0, 1], [.ptr 0 0, .str W], [], 30, ⟨2, [] :: [VS 1 s]⟩⟩) Tryz.func63 rfl rfl rfl ?_
   (repeat' (first
    | with_reducible refine wps_seq ?_
    | with_reducible refine wps_block ?_
    | (with_reducible refine wps_label ?_; simp only [thenQ, blockQ])
    | (with_reducible refine wps_region callOK ?_; apply runE; simp [zS, *, SS.post]; exact rfl)
    | (with_reducible refine run_end ?_; simp only [thenQ, blockQ])
    | (refine wps_drawQ mixed callOK (by decide +kernel) (by decide +kernel) rfl ?_; apply runQ; simp [zS, zW, clsOf, mkBlk, guardA, Heap.lay, ontoF, *, SS.post]; exact rfl)
    | (with_reducible refine run_endQ ?_; refine ⟨by repeat first | exact okC_n | refine okC_c (by decide +kernel) ?_, ?_⟩; simp only [thenQ, blockQ, allPend, Heap.lay, ontoF])
    | (with_reducible refine gate_splitQ (fun hc => ?_) (fun hc => ?_) <;> ((have hd := hc); (try simp at hd); (try subst hd); apply runQ; simp [zS, zW, clsOf, mkBlk, guardA, Heap.lay, ontoF, *, SS.post]; exact rfl))
    | (with_reducible refine gate_splitX (fun hc => ?_) (fun hc => ?_) <;> ((have hd := hc); (try simp at hd); (try subst hd); apply runQ; simp [zS, zW, clsOf, mkBlk, guardA, Heap.lay, ontoF, *, SS.post]; exact rfl))
    | (with_reducible refine pick_splitQ (fun hc => ?_) (fun hc => ?_) <;> ((have hd := hc); (try simp at hd); (try subst hd); apply runQ; simp [zS, zW, clsOf, mkBlk, guardA, Heap.lay, ontoF, *, SS.post]; exact rfl))
    | (with_reducible refine gate_split (fun hc => ?_) (fun hc => ?_) <;> ((have hd := hc); (try simp at hd); (try subst hd); apply runE; simp [zS, *, SS.post]; exact rfl))
    | (with_reducible refine pick_split (fun hc => ?_) (fun hc => ?_) <;> ((have hd := hc); (try simp at hd); (try subst hd); apply runE; simp [zS, *, SS.post]; exact rfl))
    | (refine wps_ct rfl ?_)
    | (refine wps_cf rfl ?_)
    | (refine wps_cond rfl (fun hc => ?_) (fun hc => ?_) <;> ((have hd := hc); (try simp at hd); (try subst hd)))
    | (with_reducible refine wps_skip ?_; simp only [thenQ, blockQ])
    | (with_reducible refine wps_exit ?_; simp [thenQ, blockQ])
    | (with_reducible refine wps_ret ?_; simp [retVal, Tryz.f63, oneOr, thenQ, blockQ])))
   all_goals first | (((try simp [retVal, Tryz.f63, oneOr]); exact ends_S rfl rfl rfl (by decide) ne rfl rfl)) | (exfalso; omega) | (trace_state; fail)
 ·have h1' : ¬ (1 : Int) < (s.opn.length : Int) := by omega
  have e : shutC s W = s := by unfold shutC; simp [h1]
  rw [e]
  clear e
  refine callAt_body (fn := Tryz.f63) (s0 := ⟨[0, 1], [.ptr 0 0, .str W], [], 30, ⟨2, [] :: [VS 1 s]⟩⟩) Tryz.func63 rfl rfl rfl ?_
  (repeat' (first
   | with_reducible refine wps_seq ?_
   | with_reducible refine wps_block ?_
   | (with_reducible refine wps_label ?_; simp only [thenQ, blockQ])
   | (with_reducible refine wps_region callOK ?_; apply runE; simp [zS, *, SS.post]; exact rfl)
   | (with_reducible refine run_end ?_; simp only [thenQ, blockQ])
   | (refine wps_drawQ mixed callOK (by decide +kernel) (by decide +kernel) rfl ?_; apply runQ; simp [zS, zW, clsOf, mkBlk, guardA, Heap.lay, ontoF, *, SS.post]; exact rfl)
   | (with_reducible refine run_endQ ?_; refine ⟨by repeat first | exact okC_n | refine okC_c (by decide +kernel) ?_, ?_⟩; simp only [thenQ, blockQ, allPend, Heap.lay, ontoF])
   | (with_reducible refine gate_splitQ (fun hc => ?_) (fun hc => ?_) <;> ((have hd := hc); (try simp at hd); (try subst hd); apply runQ; simp [zS, zW, clsOf, mkBlk, guardA, Heap.lay, ontoF, *, SS.post]; exact rfl))
   | (with_reducible refine gate_splitX (fun hc => ?_) (fun hc => ?_) <;> ((have hd := hc); (try simp at hd); (try subst hd); apply runQ; simp [zS, zW, clsOf, mkBlk, guardA, Heap.lay, ontoF, *, SS.post]; exact rfl))
   | (with_reducible refine pick_splitQ (fun hc => ?_) (fun hc => ?_) <;> ((have hd := hc); (try simp at hd); (try subst hd); apply runQ; simp [zS, zW, clsOf, mkBlk, guardA, Heap.lay, ontoF, *, SS.post]; exact rfl))
   | (with_reducible refine gate_split (fun hc => ?_) (fun hc => ?_) <;> ((have hd := hc); (try simp at hd); (try subst hd); apply runE; simp [zS, *, SS.post]; exact rfl))
   | (with_reducible refine pick_split (fun hc => ?_) (fun hc => ?_) <;> ((have hd := hc); (try simp at hd); (try subst hd); apply runE; simp [zS, *, SS.post]; exact rfl))
   | (refine wps_ct rfl ?_)
   | (refine wps_cf rfl ?_)
   | (refine wps_cond rfl (fun hc => ?_) (fun hc => ?_) <;> ((have hd := hc); (try simp at hd); (try subst hd)))
   | (with_reducible refine wps_skip ?_; simp only [thenQ, blockQ])
   | (with_reducible refine wps_exit ?_; simp [thenQ, blockQ])
   | (with_reducible refine wps_ret ?_; simp [retVal, Tryz.f63, oneOr, thenQ, blockQ])))
  all_goals first | (((try simp [retVal, Tryz.f63, oneOr]); exact ends_S rfl rfl rfl (by decide) ne rfl rfl)) | (exfalso; omega) | (trace_state; fail)
theorem inj_63 (x y : Str) (h : (fun z : Str => ([.str z] : List AV)) x = (fun z : Str => ([.str z] : List AV)) y) : x = y := by
 simp only [List.cons.injEq, and_true] at h
 exact AV.str.inj h
noncomputable def e63 : Entry Tryz.prog := mkS 63 [[]] (fun z : Str => [.str z]) (fun z s => (asciiB z) ∧ (z.length ≤ 100000) ∧ (nmOk s.tree) ∧ (s.opn.length ≤ 100000)) (fun z s => .tup []) (fun z s => shutC s z) fun z s ne h => ⟨c63 (T := [e89, e34z]) rfl rfl ne z h.1 h.2.1 h.2.2.1 h.2.2.2, by simp [pureL, pureV], by simp [pureV, pureL], by unfold shutC; split <;> exact ne⟩
theorem k63 {T : List (Entry Tryz.prog)} (hT : findE 63 T = some e63.g) {s : SS} (ne : s.tree ≠ []) (W : Str) (hW : asciiB W) (hl : W.length ≤ 100000) (hn : nmOk s.tree) (ho : s.opn.length ≤ 100000) {n k : Nat} {fr : List (Nat × Blk)} (k0 : 0 < k) (kn : k < n) (of : offS k fr) : callL (ctx T) (.fn 63) [.ptr 0 0, .str W] ⟨n, [fr, VS k s]⟩ = some (.tup [], ⟨n + 1, [fr, VS n (shutC s W)]⟩) :=
 mkS_eq hT inj_63 (W) ne ⟨hW, hl, hn, ho⟩ (by simp [pureL, pureV]) (by simp [thawL, thawA_ok]) k0 kn of
theorem c35d {T : List (Entry Tryz.prog)} {s : SS} (ne : s.tree ≠ []) (nm : Str) (at_ : Int) (last : Bool) (hnm : nm = [100, 105, 118]) : SC T 35 [.str nm, .int .i64 at_, .bool last] s (.tup [.int .i64 0, .bool false]) (s) := by
 have g0 := @vg0
 have v0 := @vset
 refine callAt_body (fn := Tryz.f35) (s0 := ⟨[0, 1, 2, 3, 8, 9, 10, 17, 24], [.ptr 0 0, .str nm, .int .i64 at_, .bool last, .undef, .undef, .undef, .undef, .undef], [], 47, ⟨2, [] :: [VS 1 s]⟩⟩) Tryz.func35 rfl rfl rfl ?_
 (repeat' (first
  | with_reducible refine wps_seq ?_
  | with_reducible refine wps_block ?_
  | (with_reducible refine wps_label ?_; simp only [thenQ, blockQ])
  | (with_reducible refine wps_region callOK ?_; apply runE; simp [zS, *, SS.post]; exact rfl)
  | (with_reducible refine run_end ?_; simp only [thenQ, blockQ])
  | (refine wps_drawQ mixed callOK (by decide +kernel) (by decide +kernel) rfl ?_; apply runQ; simp [zS, zW, clsOf, mkBlk, guardA, Heap.lay, ontoF, *, SS.post]; exact rfl)
  | (with_reducible refine run_endQ ?_; refine ⟨by repeat first | exact okC_n | refine okC_c (by decide +kernel) ?_, ?_⟩; simp only [thenQ, blockQ, allPend, Heap.lay, ontoF])
  | (with_reducible refine gate_splitQ (fun hc => ?_) (fun hc => ?_) <;> ((have hd := hc); (try simp at hd); (try subst hd); apply runQ; simp [zS, zW, clsOf, mkBlk, guardA, Heap.lay, ontoF, *, SS.post]; exact rfl))
  | (with_reducible refine gate_splitX (fun hc => ?_) (fun hc => ?_) <;> ((have hd := hc); (try simp at hd); (try subst hd); apply runQ; simp [zS, zW, clsOf, mkBlk, guardA, Heap.lay, ontoF, *, SS.post]; exact rfl))
  | (with_reducible refine pick_splitQ (fun hc => ?_) (fun hc => ?_) <;> ((have hd := hc); (try simp at hd); (try subst hd); apply runQ; simp [zS, zW, clsOf, mkBlk, guardA, Heap.lay, ontoF, *, SS.post]; exact rfl))
  | (with_reducible refine gate_split (fun hc => ?_) (fun hc => ?_) <;> ((have hd := hc); (try simp at hd); (try subst hd); apply runE; simp [zS, *, SS.post]; exact rfl))
  | (with_reducible refine pick_split (fun hc => ?_) (fun hc => ?_) <;> ((have hd := hc); (try simp at hd); (try subst hd); apply runE; simp [zS, *, SS.post]; exact rfl))
  | (refine wps_ct rfl ?_)
  | (refine wps_cf rfl ?_)
  | (refine wps_cond rfl (fun hc => ?_) (fun hc => ?_) <;> ((have hd := hc); (try simp at hd); (try subst hd)))
  | (with_reducible refine wps_skip ?_; simp only [thenQ, blockQ])
  | (with_reducible refine wps_exit ?_; simp [thenQ, blockQ])
  | (with_reducible refine wps_ret ?_; simp [retVal, Tryz.f35, oneOr, thenQ, blockQ])))
 all_goals first | ((try simp [retVal, Tryz.f35, oneOr]); exact ends_S (by simp [*]) (by first | rfl | (simp [*]; done)) (by simp [pureV, pureL]) (by decide) (ne) rfl rfl) | (exfalso; omega) | (trace_state; fail)
theorem inj_35d (x y : Str × Int × Bool) (h : (fun z : Str × Int × Bool => ([.str z.1, .int .i64 z.2.1, .bool z.2.2] : List AV)) x = (fun z : Str × Int × Bool => ([.str z.1, .int .i64 z.2.1, .bool z.2.2] : List AV)) y) : x = y := by
 obtain ⟨x0, x1, x2⟩ := x
 obtain ⟨y0, y1, y2⟩ := y
 simp only [List.cons.injEq, and_true] at h
 obtain ⟨h0, h1, h2⟩ := h
 have g0 : x0 = y0 := AV.str.inj h0
 have g1 : x1 = y1 := AV.int.inj h1 |>.2
 have g2 : x2 = y2 := AV.bool.inj h2
 subst g0 g1 g2
 rfl
noncomputable def e35d : Entry Tryz.prog := mkS 35 [[], [], []] (fun z : Str × Int × Bool => [.str z.1, .int .i64 z.2.1, .bool z.2.2]) (fun z s => (z.1 = [100, 105, 118])) (fun z s => .tup [.int .i64 0, .bool false]) (fun z s => s) fun z s ne h => ⟨c35d (T := [])  ne z.1 z.2.1 z.2.2 h, by simp [pureL, pureV], by simp [pureV, pureL], ne⟩
theorem k35d {T : List (Entry Tryz.prog)} (hT : findE 35 T = some e35d.g) {s : SS} (ne : s.tree ≠ []) (nm : Str) (at_ : Int) (last : Bool) (hnm : nm = [100, 105, 118]) {n k : Nat} {fr : List (Nat × Blk)} (k0 : 0 < k) (kn : k < n) (of : offS k fr) : callL (ctx T) (.fn 35) [.ptr 0 0, .str nm, .int .i64 at_, .bool last] ⟨n, [fr, VS k s]⟩ = some (.tup [.int .i64 0, .bool false], ⟨n + 1, [fr, VS n (s)]⟩) :=
 mkS_eq hT inj_35d (nm, at_, last) ne hnm (by simp [pureL, pureV]) (by simp [thawL, thawA_ok]) k0 kn of
def bodyS (s : SS) : SS := { s with mode := 5 }
theorem c16d {T : List (Entry Tryz.prog)} (hc0 : findE 35 T = some e35d.g) {s : SS} (ne : s.tree ≠ [])  (h1 : s.opn.length = 1) (hr : ∀ i, i ∈ s.opn → 0 ≤ i ∧ i < (s.tree.length : Int)) (hin : s.inside = [100, 105, 118]) : SC T 16 [] s (.tup []) (bodyS s) := by
 have kc0 := @k35d T hc0
 have g0 := @vg0
 have v0 := @vset
 obtain ⟨i, hi⟩ := List.length_eq_one_iff.1 h1
 obtain ⟨u, rfl⟩ : ∃ u : Nat, i = (u : Int) := ⟨i.toNat, by have := (hr i (by rw [hi]; simp)).1; omega⟩
 have hu : u < s.tree.length := by have := (hr (u : Int) (by rw [hi]; simp)).2; omega
 have lO := fun H => lenI (H := H) (L := [(u : Int)])
 have hat : indexAddrA Tryz.prog 32 (aInts [(u : Int)]) (.int .i64 0) = some (.fptr [.int .i64 (u : Int)] 0) := atI (L := [(u : Int)]) (i := 0) (by simp)
 have ix := ixN (k := 1) hu
 have gk := vgk (k := 1) (s := s) (by omega) ne
 have sN := subN hu
 have kt := fun n k fr => @kc0 s ne [100, 105, 118] 0 true rfl n k fr
 clear kc0 hr h1
 have hw0 : wr .i64 0 = some 0 := rfl
 have bld : buildA Tryz.prog 41 [(2, .str [100, 105, 118])] = some (.agg [.int .i64 0, .int .i64 0, .str [100, 105, 118], .nilS, .str [], .int .i64 0, .nilS]) := rfl
 have hob : memT 41 objs = false := rfl
 have hw1 : wr .i64 (-1) = some (-1) := rfl
 have fits : ∀ (s' : SS) (f : List (Nat × Blk)) (k n : Nat), s'.tree ≠ [] → 0 < k → getF 0 f = none → getF k f = none → FitH 2 [(k, 2), (0, 0)] [] ⟨n, [f, VS k s']⟩ ⟨3, [[], VS 2 s']⟩ := fun s' f k n h1 h0 h2 h3 => fitS1 ⟨by omega, by omega, by omega⟩ (by omega) h0 h1 h2 h3
 refine callAt_body (fn := Tryz.f16) (s0 := ⟨[0, 2, 3, 4, 5, 6], [.ptr 0 0, .undef, .undef, .undef, .undef, .undef], [], 66, ⟨2, [] :: [VS 1 s]⟩⟩) Tryz.func16 rfl rfl rfl ?_
 (repeat' (first
  | with_reducible refine wps_seq ?_
  | with_reducible refine wps_block ?_
  | (with_reducible refine wps_label ?_; simp only [thenQ, blockQ])
  | (with_reducible refine wps_region callOK ?_; apply runE; simp [zS, *, SS.post]; exact rfl)
  | (with_reducible refine run_end ?_; simp only [thenQ, blockQ])
  | (refine wps_drawQ mixed callOK (by decide +kernel) (by decide +kernel) rfl ?_; apply runQ; simp [zS, zW, clsOf, mkBlk, guardA, Heap.lay, ontoF, *, SS.post]; exact rfl)
  | (with_reducible refine run_endQ ?_; refine ⟨by repeat first | exact okC_n | refine okC_c (by decide +kernel) ?_, ?_⟩; simp only [thenQ, blockQ, allPend, Heap.lay, ontoF])
  | (with_reducible refine gate_splitQ (fun hc => ?_) (fun hc => ?_) <;> ((have hd := hc); (try simp at hd); (try subst hd); apply runQ; simp [zS, zW, clsOf, mkBlk, guardA, Heap.lay, ontoF, *, SS.post]; exact rfl))
  | (with_reducible refine gate_splitX (fun hc => ?_) (fun hc => ?_) <;> ((have hd := hc); (try simp at hd); (try subst hd); apply runQ; simp [zS, zW, clsOf, mkBlk, guardA, Heap.lay, ontoF, *, SS.post]; exact rfl))
  | (with_reducible refine pick_splitQ (fun hc => ?_) (fun hc => ?_) <;> ((have hd := hc); (try simp at hd); (try subst hd); apply runQ; simp [zS, zW, clsOf, mkBlk, guardA, Heap.lay, ontoF, *, SS.post]; exact rfl))
  | (with_reducible refine gate_split (fun hc => ?_) (fun hc => ?_) <;> ((have hd := hc); (try simp at hd); (try subst hd); apply runE; simp [zS, *, SS.post]; exact rfl))
  | (with_reducible refine pick_split (fun hc => ?_) (fun hc => ?_) <;> ((have hd := hc); (try simp at hd); (try subst hd); apply runE; simp [zS, *, SS.post]; exact rfl))
  | (refine wps_ct rfl ?_)
  | (refine wps_cf rfl ?_)
  | (refine wps_cond rfl (fun hc => ?_) (fun hc => ?_) <;> ((have hd := hc); (try simp at hd); (try subst hd)))
  | (with_reducible refine wps_skip ?_; simp only [thenQ, blockQ])
  | (with_reducible refine wps_exit ?_; simp [thenQ, blockQ])
  | (with_reducible refine wps_ret ?_; simp [retVal, Tryz.f16, oneOr, thenQ, blockQ])))
 all_goals first | (skip) | (exfalso; omega) | (trace_state; fail)
 repeat apply wq
 refine wps_loop' (fun b : Bool => (⟨[0, 2, 3, 4, 5, 6], [.ptr 0 0, .int .i64 (if b = true then 0 else -1), .undef, .undef, .undef, .undef], [], 66, ⟨3, [[], VS 2 s]⟩⟩ : St)) (fun _ => True) (fun b => b.toNat) [(1, 2), (0, 0)] [] true trivial ⟨rfl, rfl, rfl, by simp [fitL, fitV, lookN, pureV], fits s _ _ _ ne (by decide) rfl rfl⟩ ?_
 rintro b - B hB
 have gk := vgk (k := 2) (s := s) (by omega) ne
 have ix := ixN (k := 2) hu
 cases b with
 | false =>
  (repeat' (first
   | with_reducible refine wps_seq ?_
   | with_reducible refine wps_block ?_
   | (with_reducible refine wps_label ?_; simp only [thenQ, blockQ])
   | (with_reducible refine wps_region callOK ?_; apply runE; simp [zS, *, SS.post]; exact rfl)
   | (with_reducible refine run_end ?_; simp only [thenQ, blockQ])
   | (refine wps_drawQ mixed callOK (by decide +kernel) (by decide +kernel) rfl ?_; apply runQ; simp [zS, zW, clsOf, mkBlk, guardA, Heap.lay, ontoF, *, SS.post]; exact rfl)
   | (with_reducible refine run_endQ ?_; refine ⟨by repeat first | exact okC_n | refine okC_c (by decide +kernel) ?_, ?_⟩; simp only [thenQ, blockQ, allPend, Heap.lay, ontoF])
   | (with_reducible refine gate_splitQ (fun hc => ?_) (fun hc => ?_) <;> ((have hd := hc); (try simp at hd); (try subst hd); apply runQ; simp [zS, zW, clsOf, mkBlk, guardA, Heap.lay, ontoF, *, SS.post]; exact rfl))
   | (with_reducible refine gate_splitX (fun hc => ?_) (fun hc => ?_) <;> ((have hd := hc); (try simp at hd); (try subst hd); apply runQ; simp [zS, zW, clsOf, mkBlk, guardA, Heap.lay, ontoF, *, SS.post]; exact rfl))
   | (with_reducible refine pick_splitQ (fun hc => ?_) (fun hc => ?_) <;> ((have hd := hc); (try simp at hd); (try subst hd); apply runQ; simp [zS, zW, clsOf, mkBlk, guardA, Heap.lay, ontoF, *, SS.post]; exact rfl))
   | (with_reducible refine gate_split (fun hc => ?_) (fun hc => ?_) <;> ((have hd := hc); (try simp at hd); (try subst hd); apply runE; simp [zS, *, SS.post]; exact rfl))
   | (with_reducible refine pick_split (fun hc => ?_) (fun hc => ?_) <;> ((have hd := hc); (try simp at hd); (try subst hd); apply runE; simp [zS, *, SS.post]; exact rfl))
   | (refine wps_ct rfl ?_)
   | (refine wps_cf rfl ?_)
   | (refine wps_cond rfl (fun hc => ?_) (fun hc => ?_) <;> ((have hd := hc); (try simp at hd); (try subst hd)))
   | (with_reducible refine wps_skip ?_; simp only [thenQ, blockQ])
   | (with_reducible refine wps_exit ?_; simp [thenQ, blockQ])
   | (with_reducible refine wps_ret ?_; simp [retVal, Tryz.f16, oneOr, thenQ, blockQ])))
  all_goals first | (((try simp [retVal, Tryz.f16, oneOr]); exact ends_S rfl (by simp [bodyS, hi, hin]) rfl (by decide) ne rfl rfl)) | (exfalso; omega) | (trace_state; fail)
 | true =>
  (repeat' (first
   | with_reducible refine wps_seq ?_
   | with_reducible refine wps_block ?_
   | (with_reducible refine wps_label ?_; simp only [thenQ, blockQ])
   | (with_reducible refine wps_region callOK ?_; apply runE; simp [zS, *, SS.post, Nd.cs, aInt]; exact rfl)
   | (with_reducible refine run_end ?_; simp only [thenQ, blockQ])
   | (refine wps_drawQ mixed callOK (by decide +kernel) (by decide +kernel) rfl ?_; apply runQ; simp [zS, zW, clsOf, mkBlk, guardA, Heap.lay, ontoF, *, SS.post, Nd.cs, aInt]; exact rfl)
   | (with_reducible refine run_endQ ?_; refine ⟨by repeat first | exact okC_n | refine okC_c (by decide +kernel) ?_, ?_⟩; simp only [thenQ, blockQ, allPend, Heap.lay, ontoF])
   | (with_reducible refine gate_splitQ (fun hc => ?_) (fun hc => ?_) <;> ((have hd := hc); (try simp at hd); (try subst hd); apply runQ; simp [zS, zW, clsOf, mkBlk, guardA, Heap.lay, ontoF, *, SS.post, Nd.cs, aInt]; exact rfl))
   | (with_reducible refine gate_splitX (fun hc => ?_) (fun hc => ?_) <;> ((have hd := hc); (try simp at hd); (try subst hd); apply runQ; simp [zS, zW, clsOf, mkBlk, guardA, Heap.lay, ontoF, *, SS.post, Nd.cs, aInt]; exact rfl))
   | (with_reducible refine pick_splitQ (fun hc => ?_) (fun hc => ?_) <;> ((have hd := hc); (try simp at hd); (try subst hd); apply runQ; simp [zS, zW, clsOf, mkBlk, guardA, Heap.lay, ontoF, *, SS.post, Nd.cs, aInt]; exact rfl))
   | (with_reducible refine gate_split (fun hc => ?_) (fun hc => ?_) <;> ((have hd := hc); (try simp at hd); (try subst hd); apply runE; simp [zS, *, SS.post, Nd.cs, aInt]; exact rfl))
   | (with_reducible refine pick_split (fun hc => ?_) (fun hc => ?_) <;> ((have hd := hc); (try simp at hd); (try subst hd); apply runE; simp [zS, *, SS.post, Nd.cs, aInt]; exact rfl))
   | (refine wps_ct rfl ?_)
   | (refine wps_cf rfl ?_)
   | (refine wps_cond rfl (fun hc => ?_) (fun hc => ?_) <;> ((have hd := hc); (try simp at hd); (try subst hd)))
   | (with_reducible refine wps_skip ?_; simp only [thenQ, blockQ])
   | (with_reducible refine wps_exit ?_; simp [thenQ, blockQ])
   | (with_reducible refine wps_ret ?_; simp [retVal, Tryz.f16, oneOr, thenQ, blockQ])))
  all_goals first | (exact hB _ false (by decide) trivial ⟨[(19, 2), (0, 0)], [], rfl, rfl, rfl, by simp [fitL, fitV, lookN, pureV], fits s _ _ _ ne (by decide) (by simp [getF]) (by simp [getF])⟩) | (exfalso; omega) | (trace_state; fail)
theorem inj_16d (x y : Unit) (h : (fun z : Unit => ([] : List AV)) x = (fun z : Unit => ([] : List AV)) y) : x = y := by
 rfl
noncomputable def e16d : Entry Tryz.prog := mkS 16 [] (fun z : Unit => []) (fun z s => (s.opn.length = 1) ∧ (∀ i, i ∈ s.opn → 0 ≤ i ∧ i < (s.tree.length : Int)) ∧ (s.inside = [100, 105, 118])) (fun z s => .tup []) (fun z s => bodyS s) fun z s ne h => ⟨c16d (T := [e35d]) rfl ne  h.1 h.2.1 h.2.2, by simp [pureL, pureV], by simp [pureV, pureL], ne⟩
theorem k16d {T : List (Entry Tryz.prog)} (hT : findE 16 T = some e16d.g) {s : SS} (ne : s.tree ≠ [])  (h1 : s.opn.length = 1) (hr : ∀ i, i ∈ s.opn → 0 ≤ i ∧ i < (s.tree.length : Int)) (hin : s.inside = [100, 105, 118]) {n k : Nat} {fr : List (Nat × Blk)} (k0 : 0 < k) (kn : k < n) (of : offS k fr) : callL (ctx T) (.fn 16) [.ptr 0 0] ⟨n, [fr, VS k s]⟩ = some (.tup [], ⟨n + 1, [fr, VS n (bodyS s)]⟩) :=
 mkS_eq hT inj_16d () ne ⟨h1, hr, hin⟩ (by simp [pureL, pureV]) (by simp [thawL, thawA_ok]) k0 kn of
def leaveS (s : SS) : SS := { s with opn := popL s.tree s.opn [115, 101, 108, 101, 99, 116], mode := 5 }
structure LvOk (s : SS) : Prop where
 nm : nmOk s.tree
 op : s.opn.length ≤ 100000
 one : (popL s.tree s.opn [115, 101, 108, 101, 99, 116]).length = 1
 rg : ∀ i, i ∈ popL s.tree s.opn [115, 101, 108, 101, 99, 116] → 0 ≤ i ∧ i < (s.tree.length : Int)
 ins : s.inside = [100, 105, 118]
theorem c62 {T : List (Entry Tryz.prog)} (hc0 : findE 78 T = some e78.g) (hc1 : findE 16 T = some e16d.g) {s : SS} (ne : s.tree ≠ [])  (h : LvOk s) : SC T 62 [] s (.tup []) (leaveS s) := by
 have kc0 := @k78 T hc0
 have kc1 := @k16d T hc1
 have g0 := @vg0
 have v0 := @vset
 have kP := fun n k fr => @kc0 s ne [115, 101, 108, 101, 99, 116] (ascB (by decide)) (by decide) h.nm h.op n k fr
 have kR := fun n k fr => @kc1 { s with opn := popL s.tree s.opn [115, 101, 108, 101, 99, 116] } ne h.one h.rg h.ins n k fr
 clear kc0 kc1
 refine callAt_body (fn := Tryz.f62) (s0 := ⟨[0], [.ptr 0 0], [], 6, ⟨2, [] :: [VS 1 s]⟩⟩) Tryz.func62 rfl rfl rfl ?_
 (repeat' (first
  | with_reducible refine wps_seq ?_
  | with_reducible refine wps_block ?_
  | (with_reducible refine wps_label ?_; simp only [thenQ, blockQ])
  | (with_reducible refine wps_region callOK ?_; apply runE; simp [zS, *, SS.post]; exact rfl)
  | (with_reducible refine run_end ?_; simp only [thenQ, blockQ])
  | (refine wps_drawQ mixed callOK (by decide +kernel) (by decide +kernel) rfl ?_; apply runQ; simp [zS, zW, clsOf, mkBlk, guardA, Heap.lay, ontoF, *, SS.post]; exact rfl)
  | (with_reducible refine run_endQ ?_; refine ⟨by repeat first | exact okC_n | refine okC_c (by decide +kernel) ?_, ?_⟩; simp only [thenQ, blockQ, allPend, Heap.lay, ontoF])
  | (with_reducible refine gate_splitQ (fun hc => ?_) (fun hc => ?_) <;> ((have hd := hc); (try simp at hd); (try subst hd); apply runQ; simp [zS, zW, clsOf, mkBlk, guardA, Heap.lay, ontoF, *, SS.post]; exact rfl))
  | (with_reducible refine gate_splitX (fun hc => ?_) (fun hc => ?_) <;> ((have hd := hc); (try simp at hd); (try subst hd); apply runQ; simp [zS, zW, clsOf, mkBlk, guardA, Heap.lay, ontoF, *, SS.post]; exact rfl))
  | (with_reducible refine pick_splitQ (fun hc => ?_) (fun hc => ?_) <;> ((have hd := hc); (try simp at hd); (try subst hd); apply runQ; simp [zS, zW, clsOf, mkBlk, guardA, Heap.lay, ontoF, *, SS.post]; exact rfl))
  | (with_reducible refine gate_split (fun hc => ?_) (fun hc => ?_) <;> ((have hd := hc); (try simp at hd); (try subst hd); apply runE; simp [zS, *, SS.post]; exact rfl))
  | (with_reducible refine pick_split (fun hc => ?_) (fun hc => ?_) <;> ((have hd := hc); (try simp at hd); (try subst hd); apply runE; simp [zS, *, SS.post]; exact rfl))
  | (refine wps_ct rfl ?_)
  | (refine wps_cf rfl ?_)
  | (refine wps_cond rfl (fun hc => ?_) (fun hc => ?_) <;> ((have hd := hc); (try simp at hd); (try subst hd)))
  | (with_reducible refine wps_skip ?_; simp only [thenQ, blockQ])
  | (with_reducible refine wps_exit ?_; simp [thenQ, blockQ])
  | (with_reducible refine wps_ret ?_; simp [retVal, Tryz.f62, oneOr, thenQ, blockQ])))
 all_goals first | ((try simp [retVal, Tryz.f62, oneOr]); exact ends_S (by simp [*]) (by first | rfl | (simp [*]; done)) (by simp [pureV, pureL]) (by decide) (ne) rfl rfl) | (exfalso; omega) | (trace_state; fail)
theorem inj_62 (x y : Unit) (h : (fun z : Unit => ([] : List AV)) x = (fun z : Unit => ([] : List AV)) y) : x = y := by
 rfl
noncomputable def e62 : Entry Tryz.prog := mkS 62 [] (fun z : Unit => []) (fun z s => (LvOk s)) (fun z s => .tup []) (fun z s => leaveS s) fun z s ne h => ⟨c62 (T := [e78, e16d]) rfl rfl ne  h, by simp [pureL, pureV], by simp [pureV, pureL], ne⟩
theorem k62 {T : List (Entry Tryz.prog)} (hT : findE 62 T = some e62.g) {s : SS} (ne : s.tree ≠ [])  (h : LvOk s) {n k : Nat} {fr : List (Nat × Blk)} (k0 : 0 < k) (kn : k < n) (of : offS k fr) : callL (ctx T) (.fn 62) [.ptr 0 0] ⟨n, [fr, VS k s]⟩ = some (.tup [], ⟨n + 1, [fr, VS n (leaveS s)]⟩) :=
 mkS_eq hT inj_62 () ne h (by simp [pureL, pureV]) (by simp [thawL, thawA_ok]) k0 kn of
def overB (s : SS) : Bool := hasS s.tree s.opn [115, 101, 108, 101, 99, 116] 4
def overS (s : SS) : SS := if overB s = true then leaveS s else s
theorem c64 {T : List (Entry Tryz.prog)} (hc0 : findE 61 T = some e61.g) (hc1 : findE 62 T = some e62.g) {s : SS} (ne : s.tree ≠ [])  (h : LvOk s) : SC T 64 [] s (.bool (overB s)) (overS s) := by
 have kc0 := @k61 T hc0
 have kc1 := @k62 T hc1
 have g0 := @vg0
 have v0 := @vset
 have kH := fun n k fr => @kc0 s ne [115, 101, 108, 101, 99, 116] 4 (ascB (by decide)) (by decide) h.nm h.op n k fr
 have e : overS s = if hasS s.tree s.opn [115, 101, 108, 101, 99, 116] 4 = true then leaveS s else s := rfl
 have e2 : overB s = hasS s.tree s.opn [115, 101, 108, 101, 99, 116] 4 := rfl
 have ne2 : (leaveS s).tree ≠ [] := ne
 have kL := fun n k fr => @kc1 s ne h n k fr
 rw [e, e2]
 clear e e2 kc0 kc1
 generalize hasS s.tree s.opn [115, 101, 108, 101, 99, 116] 4 = b at *
 generalize leaveS s = s1 at *
 cases b with
 | true =>
  rw [if_pos rfl]
  refine callAt_body (fn := Tryz.f64) (s0 := ⟨[0, 2, 3], [.ptr 0 0, .undef, .undef], [], 10, ⟨2, [] :: [VS 1 s]⟩⟩) Tryz.func64 rfl rfl rfl ?_
  (repeat' (first
   | with_reducible refine wps_seq ?_
   | with_reducible refine wps_block ?_
   | (with_reducible refine wps_label ?_; simp only [thenQ, blockQ])
   | (with_reducible refine wps_region callOK ?_; apply runE; simp [zS, *, SS.post]; exact rfl)
   | (with_reducible refine run_end ?_; simp only [thenQ, blockQ])
   | (refine wps_drawQ mixed callOK (by decide +kernel) (by decide +kernel) rfl ?_; apply runQ; simp [zS, zW, clsOf, mkBlk, guardA, Heap.lay, ontoF, *, SS.post]; exact rfl)
   | (with_reducible refine run_endQ ?_; refine ⟨by repeat first | exact okC_n | refine okC_c (by decide +kernel) ?_, ?_⟩; simp only [thenQ, blockQ, allPend, Heap.lay, ontoF])
   | (with_reducible refine gate_splitQ (fun hc => ?_) (fun hc => ?_) <;> ((have hd := hc); (try simp at hd); (try subst hd); apply runQ; simp [zS, zW, clsOf, mkBlk, guardA, Heap.lay, ontoF, *, SS.post]; exact rfl))
   | (with_reducible refine gate_splitX (fun hc => ?_) (fun hc => ?_) <;> ((have hd := hc); (try simp at hd); (try subst hd); apply runQ; simp [zS, zW, clsOf, mkBlk, guardA, Heap.lay, ontoF, *, SS.post]; exact rfl))
   | (with_reducible refine pick_splitQ (fun hc => ?_) (fun hc => ?_) <;> ((have hd := hc); (try simp at hd); (try subst hd); apply runQ; simp [zS, zW, clsOf, mkBlk, guardA, Heap.lay, ontoF, *, SS.post]; exact rfl))
   | (with_reducible refine gate_split (fun hc => ?_) (fun hc => ?_) <;> ((have hd := hc); (try simp at hd); (try subst hd); apply runE; simp [zS, *, SS.post]; exact rfl))
   | (with_reducible refine pick_split (fun hc => ?_) (fun hc => ?_) <;> ((have hd := hc); (try simp at hd); (try subst hd); apply runE; simp [zS, *, SS.post]; exact rfl))
   | (refine wps_ct rfl ?_)
   | (refine wps_cf rfl ?_)
   | (refine wps_cond rfl (fun hc => ?_) (fun hc => ?_) <;> ((have hd := hc); (try simp at hd); (try subst hd)))
   | (with_reducible refine wps_skip ?_; simp only [thenQ, blockQ])
   | (with_reducible refine wps_exit ?_; simp [thenQ, blockQ])
   | (with_reducible refine wps_ret ?_; simp [retVal, Tryz.f64, oneOr, thenQ, blockQ])))
  all_goals first | (((try simp [retVal, Tryz.f64, oneOr]); exact ends_S rfl rfl rfl (by decide) ne2 rfl rfl)) | (exfalso; omega) | (trace_state; fail)
 | false =>
  rw [if_neg (by simp)]
  refine callAt_body (fn := Tryz.f64) (s0 := ⟨[0, 2, 3], [.ptr 0 0, .undef, .undef], [], 10, ⟨2, [] :: [VS 1 s]⟩⟩) Tryz.func64 rfl rfl rfl ?_
  (repeat' (first
   | with_reducible refine wps_seq ?_
   | with_reducible refine wps_block ?_
   | (with_reducible refine wps_label ?_; simp only [thenQ, blockQ])
   | (with_reducible refine wps_region callOK ?_; apply runE; simp [zS, *, SS.post]; exact rfl)
   | (with_reducible refine run_end ?_; simp only [thenQ, blockQ])
   | (refine wps_drawQ mixed callOK (by decide +kernel) (by decide +kernel) rfl ?_; apply runQ; simp [zS, zW, clsOf, mkBlk, guardA, Heap.lay, ontoF, *, SS.post]; exact rfl)
   | (with_reducible refine run_endQ ?_; refine ⟨by repeat first | exact okC_n | refine okC_c (by decide +kernel) ?_, ?_⟩; simp only [thenQ, blockQ, allPend, Heap.lay, ontoF])
   | (with_reducible refine gate_splitQ (fun hc => ?_) (fun hc => ?_) <;> ((have hd := hc); (try simp at hd); (try subst hd); apply runQ; simp [zS, zW, clsOf, mkBlk, guardA, Heap.lay, ontoF, *, SS.post]; exact rfl))
   | (with_reducible refine gate_splitX (fun hc => ?_) (fun hc => ?_) <;> ((have hd := hc); (try simp at hd); (try subst hd); apply runQ; simp [zS, zW, clsOf, mkBlk, guardA, Heap.lay, ontoF, *, SS.post]; exact rfl))
   | (with_reducible refine pick_splitQ (fun hc => ?_) (fun hc => ?_) <;> ((have hd := hc); (try simp at hd); (try subst hd); apply runQ; simp [zS, zW, clsOf, mkBlk, guardA, Heap.lay, ontoF, *, SS.post]; exact rfl))
   | (with_reducible refine gate_split (fun hc => ?_) (fun hc => ?_) <;> ((have hd := hc); (try simp at hd); (try subst hd); apply runE; simp [zS, *, SS.post]; exact rfl))
   | (with_reducible refine pick_split (fun hc => ?_) (fun hc => ?_) <;> ((have hd := hc); (try simp at hd); (try subst hd); apply runE; simp [zS, *, SS.post]; exact rfl))
   | (refine wps_ct rfl ?_)
   | (refine wps_cf rfl ?_)
   | (refine wps_cond rfl (fun hc => ?_) (fun hc => ?_) <;> ((have hd := hc); (try simp at hd); (try subst hd)))
   | (with_reducible refine wps_skip ?_; simp only [thenQ, blockQ])
   | (with_reducible refine wps_exit ?_; simp [thenQ, blockQ])
   | (with_reducible refine wps_ret ?_; simp [retVal, Tryz.f64, oneOr, thenQ, blockQ])))
  all_goals first | (((try simp [retVal, Tryz.f64, oneOr]); exact ends_S rfl rfl rfl (by decide) ne rfl rfl)) | (exfalso; omega) | (trace_state; fail)
theorem inj_64 (x y : Unit) (h : (fun z : Unit => ([] : List AV)) x = (fun z : Unit => ([] : List AV)) y) : x = y := by
 rfl
noncomputable def e64 : Entry Tryz.prog := mkS 64 [] (fun z : Unit => []) (fun z s => (LvOk s)) (fun z s => .bool (overB s)) (fun z s => overS s) fun z s ne h => ⟨c64 (T := [e61, e62]) rfl rfl ne  h, by simp [pureL, pureV], by simp [pureV, pureL], by unfold overS; split <;> exact ne⟩
theorem k64 {T : List (Entry Tryz.prog)} (hT : findE 64 T = some e64.g) {s : SS} (ne : s.tree ≠ [])  (h : LvOk s) {n k : Nat} {fr : List (Nat × Blk)} (k0 : 0 < k) (kn : k < n) (of : offS k fr) : callL (ctx T) (.fn 64) [.ptr 0 0] ⟨n, [fr, VS k s]⟩ = some (.bool (overB s), ⟨n + 1, [fr, VS n (overS s)]⟩) :=
 mkS_eq hT inj_64 () ne h (by simp [pureL, pureV]) (by simp [thawL, thawA_ok]) k0 kn of
structure ChOk (s : SS) : Prop where
 fo : s.foster = false
 ok : SOk s
 kk : KOk s.tree
 nm : nmOk s.tree
 rg : ∀ i, i ∈ s.opn → 0 ≤ i ∧ i < (s.tree.length : Int)
 lv : LvOk s
 at0 : (nodeAt s.tree (s.opn.getD 0 0)).attrs.length ≤ 850
structure TkOk (t : Tk) : Prop where
 nm : t.name.length ≤ 40
 at_ : t.attrs.length ≤ 14
 dt : t.data.length ≤ 200
theorem c22h {T : List (Entry Tryz.prog)} (hc0 : findE 50 T = some e50.g) {s : SS} (ne : s.tree ≠ []) (t : Tk) (h : ChOk s) (ht : TkOk t) (hn : t.name = [104, 116, 109, 108]) : SC T 22 [.fptr (Tk.cs t) 0] s (.bool false) (lendS s 0 [] t.attrs) := by
 have kc0 := @k50 T hc0
 have g0 := @vg0
 have v0 := @vset
 have kL : ∀ n k fr (k0 : 0 < k) (kn : k < n) (of : offS k fr), callL (ctx T) (.fn 50) [.ptr 0 0, .int .i64 0, .str [], aAttrs t.attrs] ⟨n, [fr, VS k s]⟩ = some (.tup [], ⟨n + 1, [fr, VS n (lendS s 0 [] t.attrs)]⟩) := fun n k fr k0 kn of =>
  @kc0 s ne 0 [] t.attrs (ascB (by decide)) (by decide) h.nm h.ok.op h.rg (by decide) (by have := h.at0; have := ht.at_; omega) n k fr k0 kn of
 have ne2 := lendS_ne ne 0 [] t.attrs
 clear kc0 ht h
 generalize lendS s 0 [] t.attrs = s1 at *
 refine callAt_body (fn := Tryz.f22) (s0 := ⟨[0, 1, 4, 8, 48, 83, 104, 110, 116], [.ptr 0 0, .fptr (Tk.cs t) 0, .undef, .undef, .undef, .undef, .undef, .undef, .undef], [], 123, ⟨2, [] :: [VS 1 s]⟩⟩) Tryz.func22 rfl rfl rfl ?_
 (repeat' (first
  | with_reducible refine wps_seq ?_
  | with_reducible refine wps_block ?_
  | (with_reducible refine wps_label ?_; simp only [thenQ, blockQ])
  | (with_reducible refine wps_region callOK ?_; apply runE; simp [zS, *, SS.post, Tk.cs]; exact rfl)
  | (with_reducible refine run_end ?_; simp only [thenQ, blockQ])
  | (refine wps_drawQ mixed callOK (by decide +kernel) (by decide +kernel) rfl ?_; apply runQ; simp [zS, zW, clsOf, mkBlk, guardA, Heap.lay, ontoF, *, SS.post, Tk.cs]; exact rfl)
  | (with_reducible refine run_endQ ?_; refine ⟨by repeat first | exact okC_n | refine okC_c (by decide +kernel) ?_, ?_⟩; simp only [thenQ, blockQ, allPend, Heap.lay, ontoF])
  | (with_reducible refine gate_splitQ (fun hc => ?_) (fun hc => ?_) <;> ((have hd := hc); (try simp at hd); (try subst hd); apply runQ; simp [zS, zW, clsOf, mkBlk, guardA, Heap.lay, ontoF, *, SS.post, Tk.cs]; exact rfl))
  | (with_reducible refine gate_splitX (fun hc => ?_) (fun hc => ?_) <;> ((have hd := hc); (try simp at hd); (try subst hd); apply runQ; simp [zS, zW, clsOf, mkBlk, guardA, Heap.lay, ontoF, *, SS.post, Tk.cs]; exact rfl))
  | (with_reducible refine pick_splitQ (fun hc => ?_) (fun hc => ?_) <;> ((have hd := hc); (try simp at hd); (try subst hd); apply runQ; simp [zS, zW, clsOf, mkBlk, guardA, Heap.lay, ontoF, *, SS.post, Tk.cs]; exact rfl))
  | (with_reducible refine gate_split (fun hc => ?_) (fun hc => ?_) <;> ((have hd := hc); (try simp at hd); (try subst hd); apply runE; simp [zS, *, SS.post, Tk.cs]; exact rfl))
  | (with_reducible refine pick_split (fun hc => ?_) (fun hc => ?_) <;> ((have hd := hc); (try simp at hd); (try subst hd); apply runE; simp [zS, *, SS.post, Tk.cs]; exact rfl))
  | (refine wps_ct rfl ?_)
  | (refine wps_cf rfl ?_)
  | (refine wps_cond rfl (fun hc => ?_) (fun hc => ?_) <;> ((have hd := hc); (try simp at hd); (try subst hd)))
  | (with_reducible refine wps_skip ?_; simp only [thenQ, blockQ])
  | (with_reducible refine wps_exit ?_; simp [thenQ, blockQ])
  | (with_reducible refine wps_ret ?_; simp [retVal, Tryz.f22, oneOr, thenQ, blockQ])))
 all_goals first | ((try simp [retVal, Tryz.f22, oneOr]); exact ends_S (by simp [*]) (by first | rfl | (simp [*]; done)) (by simp [pureV, pureL]) (by decide) (by (try exact ne2); (all_goals exact lendS_ne ne _ _ _)) rfl rfl) | (exfalso; omega)
theorem inj_22h (x y : Tk) (h : (fun z : Tk => ([.fptr (Tk.cs z) 0] : List AV)) x = (fun z : Tk => ([.fptr (Tk.cs z) 0] : List AV)) y) : x = y := by
 simp only [List.cons.injEq, and_true] at h
 exact inj_ftok h
noncomputable def e22h : Entry Tryz.prog := mkS 22 [[]] (fun z : Tk => [.fptr (Tk.cs z) 0]) (fun z s => (ChOk s) ∧ (TkOk z) ∧ (z.name = [104, 116, 109, 108])) (fun z s => .bool false) (fun z s => lendS s 0 [] z.attrs) fun z s ne h => ⟨c22h (T := [e50]) rfl ne z h.1 h.2.1 h.2.2, by simp [pureL, pureV], by simp [pureV, pureL], by (try exact ne2); (all_goals exact lendS_ne ne _ _ _)⟩
theorem k22h {T : List (Entry Tryz.prog)} (hT : findE 22 T = some e22h.g) {s : SS} (ne : s.tree ≠ []) (t : Tk) (h : ChOk s) (ht : TkOk t) (hn : t.name = [104, 116, 109, 108]) {n k : Nat} {fr : List (Nat × Blk)} (k0 : 0 < k) (kn : k < n) (of : offS k fr) : callL (ctx T) (.fn 22) [.ptr 0 0, .fptr (Tk.cs t) 0] ⟨n, [fr, VS k s]⟩ = some (.bool false, ⟨n + 1, [fr, VS n (lendS s 0 [] t.attrs)]⟩) :=
 mkS_eq hT inj_22h (t) ne ⟨h, ht, hn⟩ (by simp [pureL, pureV]) (by simp [thawL, thawA_ok]) k0 kn of
def htmlS (s : SS) (t : Tk) : SS := if t.kind = 1 then lendS s 0 [] t.attrs else s
theorem htmlS_ne {s : SS} (ne : s.tree ≠ []) (t : Tk) : (htmlS s t).tree ≠ [] := by
 unfold htmlS; split
 ·exact lendS_ne ne _ _ _
 ·exact ne
theorem c7h {T : List (Entry Tryz.prog)} (hc0 : findE 22 T = some e22h.g) {s : SS} (ne : s.tree ≠ []) (t : Tk) (h : ChOk s) (ht : TkOk t) (hn : (t.kind = 1 ∧ t.name = [104, 116, 109, 108]) ∨ t.kind = 0) : SC T 7 [.fptr (Tk.cs t) 0] s (.bool false) (htmlS s t) := by
 have kc0 := @k22h T hc0
 have g0 := @vg0
 have v0 := @vset
 rcases hn with ⟨h1, h2⟩ | h1
 ·have kS := fun n k fr => @kc0 s ne t h ht h2 n k fr
  have e : htmlS s t = lendS s 0 [] t.attrs := by unfold htmlS; rw [if_pos h1]
  have ne2 := lendS_ne ne 0 [] t.attrs
  rw [e]
  clear e kc0 h ht
  generalize lendS s 0 [] t.attrs = s1 at *
  obtain ⟨kd, nm, L, sf, dt⟩ := t
  simp only [Tk.cs] at *
  subst h1 h2
  refine callAt_body (fn := Tryz.f7) (s0 := ⟨[0, 1, 4, 8], [.ptr 0 0, .fptr [.int .i64 1, .str [104, 116, 109, 108], aAttrs L, .bool sf, .str dt] 0, .undef, .undef], [], 37, ⟨2, [] :: [VS 1 s]⟩⟩) Tryz.func7 rfl rfl rfl ?_
  (repeat' (first
   | with_reducible refine wps_seq ?_
   | with_reducible refine wps_block ?_
   | (with_reducible refine wps_label ?_; simp only [thenQ, blockQ])
   | (with_reducible refine wps_region callOK ?_; apply runE; simp [zS, *, SS.post]; exact rfl)
   | (with_reducible refine run_end ?_; simp only [thenQ, blockQ])
   | (refine wps_drawQ mixed callOK (by decide +kernel) (by decide +kernel) rfl ?_; apply runQ; simp [zS, zW, clsOf, mkBlk, guardA, Heap.lay, ontoF, *, SS.post]; exact rfl)
   | (with_reducible refine run_endQ ?_; refine ⟨by repeat first | exact okC_n | refine okC_c (by decide +kernel) ?_, ?_⟩; simp only [thenQ, blockQ, allPend, Heap.lay, ontoF])
   | (with_reducible refine gate_splitQ (fun hc => ?_) (fun hc => ?_) <;> ((have hd := hc); (try simp at hd); (try subst hd); apply runQ; simp [zS, zW, clsOf, mkBlk, guardA, Heap.lay, ontoF, *, SS.post]; exact rfl))
   | (with_reducible refine gate_splitX (fun hc => ?_) (fun hc => ?_) <;> ((have hd := hc); (try simp at hd); (try subst hd); apply runQ; simp [zS, zW, clsOf, mkBlk, guardA, Heap.lay, ontoF, *, SS.post]; exact rfl))
   | (with_reducible refine pick_splitQ (fun hc => ?_) (fun hc => ?_) <;> ((have hd := hc); (try simp at hd); (try subst hd); apply runQ; simp [zS, zW, clsOf, mkBlk, guardA, Heap.lay, ontoF, *, SS.post]; exact rfl))
   | (with_reducible refine gate_split (fun hc => ?_) (fun hc => ?_) <;> ((have hd := hc); (try simp at hd); (try subst hd); apply runE; simp [zS, *, SS.post]; exact rfl))
   | (with_reducible refine pick_split (fun hc => ?_) (fun hc => ?_) <;> ((have hd := hc); (try simp at hd); (try subst hd); apply runE; simp [zS, *, SS.post]; exact rfl))
   | (refine wps_ct rfl ?_)
   | (refine wps_cf rfl ?_)
   | (refine wps_cond rfl (fun hc => ?_) (fun hc => ?_) <;> ((have hd := hc); (try simp at hd); (try subst hd)))
   | (with_reducible refine wps_skip ?_; simp only [thenQ, blockQ])
   | (with_reducible refine wps_exit ?_; simp [thenQ, blockQ])
   | (with_reducible refine wps_ret ?_; simp [retVal, Tryz.f7, oneOr, thenQ, blockQ])))
  all_goals first | (((try simp [retVal, Tryz.f7, oneOr]); exact ends_S rfl rfl rfl (by decide) ne2 rfl rfl)) | (exfalso; omega)
 ·have e : htmlS s t = s := by unfold htmlS; rw [if_neg (by omega)]
  rw [e]
  clear e kc0 h ht
  obtain ⟨kd, nm, L, sf, dt⟩ := t
  simp only [Tk.cs] at *
  subst h1
  refine callAt_body (fn := Tryz.f7) (s0 := ⟨[0, 1, 4, 8], [.ptr 0 0, .fptr [.int .i64 0, .str nm, aAttrs L, .bool sf, .str dt] 0, .undef, .undef], [], 37, ⟨2, [] :: [VS 1 s]⟩⟩) Tryz.func7 rfl rfl rfl ?_
  (repeat' (first
   | with_reducible refine wps_seq ?_
   | with_reducible refine wps_block ?_
   | (with_reducible refine wps_label ?_; simp only [thenQ, blockQ])
   | (with_reducible refine wps_region callOK ?_; apply runE; simp [zS, *, SS.post]; exact rfl)
   | (with_reducible refine run_end ?_; simp only [thenQ, blockQ])
   | (refine wps_drawQ mixed callOK (by decide +kernel) (by decide +kernel) rfl ?_; apply runQ; simp [zS, zW, clsOf, mkBlk, guardA, Heap.lay, ontoF, *, SS.post]; exact rfl)
   | (with_reducible refine run_endQ ?_; refine ⟨by repeat first | exact okC_n | refine okC_c (by decide +kernel) ?_, ?_⟩; simp only [thenQ, blockQ, allPend, Heap.lay, ontoF])
   | (with_reducible refine gate_splitQ (fun hc => ?_) (fun hc => ?_) <;> ((have hd := hc); (try simp at hd); (try subst hd); apply runQ; simp [zS, zW, clsOf, mkBlk, guardA, Heap.lay, ontoF, *, SS.post]; exact rfl))
   | (with_reducible refine gate_splitX (fun hc => ?_) (fun hc => ?_) <;> ((have hd := hc); (try simp at hd); (try subst hd); apply runQ; simp [zS, zW, clsOf, mkBlk, guardA, Heap.lay, ontoF, *, SS.post]; exact rfl))
   | (with_reducible refine pick_splitQ (fun hc => ?_) (fun hc => ?_) <;> ((have hd := hc); (try simp at hd); (try subst hd); apply runQ; simp [zS, zW, clsOf, mkBlk, guardA, Heap.lay, ontoF, *, SS.post]; exact rfl))
   | (with_reducible refine gate_split (fun hc => ?_) (fun hc => ?_) <;> ((have hd := hc); (try simp at hd); (try subst hd); apply runE; simp [zS, *, SS.post]; exact rfl))
   | (with_reducible refine pick_split (fun hc => ?_) (fun hc => ?_) <;> ((have hd := hc); (try simp at hd); (try subst hd); apply runE; simp [zS, *, SS.post]; exact rfl))
   | (refine wps_ct rfl ?_)
   | (refine wps_cf rfl ?_)
   | (refine wps_cond rfl (fun hc => ?_) (fun hc => ?_) <;> ((have hd := hc); (try simp at hd); (try subst hd)))
   | (with_reducible refine wps_skip ?_; simp only [thenQ, blockQ])
   | (with_reducible refine wps_exit ?_; simp [thenQ, blockQ])
   | (with_reducible refine wps_ret ?_; simp [retVal, Tryz.f7, oneOr, thenQ, blockQ])))
  all_goals first | (((try simp [retVal, Tryz.f7, oneOr]); exact ends_S rfl rfl rfl (by decide) ne rfl rfl)) | (exfalso; omega)
theorem inj_7h (x y : Tk) (h : (fun z : Tk => ([.fptr (Tk.cs z) 0] : List AV)) x = (fun z : Tk => ([.fptr (Tk.cs z) 0] : List AV)) y) : x = y := by
 simp only [List.cons.injEq, and_true] at h
 exact inj_ftok h
noncomputable def e7h : Entry Tryz.prog := mkS 7 [[]] (fun z : Tk => [.fptr (Tk.cs z) 0]) (fun z s => (ChOk s) ∧ (TkOk z) ∧ ((z.kind = 1 ∧ z.name = [104, 116, 109, 108]) ∨ z.kind = 0)) (fun z s => .bool false) (fun z s => htmlS s z) fun z s ne h => ⟨c7h (T := [e22h]) rfl ne z h.1 h.2.1 h.2.2, by simp [pureL, pureV], by simp [pureV, pureL], htmlS_ne ne _⟩
theorem k7h {T : List (Entry Tryz.prog)} (hT : findE 7 T = some e7h.g) {s : SS} (ne : s.tree ≠ []) (t : Tk) (h : ChOk s) (ht : TkOk t) (hn : (t.kind = 1 ∧ t.name = [104, 116, 109, 108]) ∨ t.kind = 0) {n k : Nat} {fr : List (Nat × Blk)} (k0 : 0 < k) (kn : k < n) (of : offS k fr) : callL (ctx T) (.fn 7) [.ptr 0 0, .fptr (Tk.cs t) 0] ⟨n, [fr, VS k s]⟩ = some (.bool false, ⟨n + 1, [fr, VS n (htmlS s t)]⟩) :=
 mkS_eq hT inj_7h (t) ne ⟨h, ht, hn⟩ (by simp [pureL, pureV]) (by simp [thawL, thawA_ok]) k0 kn of
theorem shut_sub (s : SS) (W : Str) : (shutC s W).tree = s.tree ∧ (shutC s W).foster = s.foster ∧ ∀ i, i ∈ (shutC s W).opn → i ∈ s.opn := by
 unfold shutC
 split
 ·exact ⟨rfl, rfl, fun i hi => (List.dropLast_sublist _).subset hi⟩
 ·exact ⟨rfl, rfl, fun i hi => hi⟩
theorem shut_len (s : SS) (W : Str) : (shutC s W).opn.length ≤ s.opn.length := by
 unfold shutC
 split
 ·simp
 ·exact Nat.le_refl _
theorem shut_ok {s : SS} (h : SOk s) (W : Str) : SOk (shutC s W) := by
 have h1 := (shut_sub s W).1
 exact ⟨by rw [h1]; exact h.ln, by rw [h1]; exact h.kd, Nat.le_trans (shut_len s W) h.op⟩
def optS (s : SS) (t : Tk) : SS := elS (shutC s [111, 112, 116, 105, 111, 110]) 0 t.name t.attrs
def grpS (s : SS) (t : Tk) : SS := elS (shutC (shutC s [111, 112, 116, 105, 111, 110]) [111, 112, 116, 103, 114, 111, 117, 112]) 0 t.name t.attrs
def beginsS (s : SS) (t : Tk) : SS :=
 if t.name = [111, 112, 116, 103, 114, 111, 117, 112] then grpS s t
 else if t.name = [111, 112, 116, 105, 111, 110] then optS s t
 else if t.name = [115, 101, 108, 101, 99, 116] ∨ t.name = [105, 110, 112, 117, 116] ∨ t.name = [107, 101, 121, 103, 101, 110] ∨ t.name = [116, 101, 120, 116, 97, 114, 101, 97] then overS s
 else if t.name = [115, 99, 114, 105, 112, 116] then metaS s t
 else if t.name = [104, 116, 109, 108] then htmlS s t
 else s
def beginsB (s : SS) (t : Tk) : Bool := decide (t.name = [105, 110, 112, 117, 116] ∨ t.name = [107, 101, 121, 103, 101, 110] ∨ t.name = [116, 101, 120, 116, 97, 114, 101, 97]) && overB s
theorem overS_ne {s : SS} (ne : s.tree ≠ []) : (overS s).tree ≠ [] := by unfold overS; split <;> exact ne
theorem beginsS_ne {s : SS} (ne : s.tree ≠ []) (t : Tk) : (beginsS s t).tree ≠ [] := by
 unfold beginsS
 split
 ·exact newT_ne _ _ _ _
 split
 ·exact newT_ne _ _ _ _
 split
 ·exact overS_ne ne
 split
 ·exact metaS_ne ne _
 split
 ·exact htmlS_ne ne _
 ·exact ne
theorem c25 {T : List (Entry Tryz.prog)} (hc0 : findE 63 T = some e63.g) (hc1 : findE 37 T = some e37.g) (hc2 : findE 64 T = some e64.g) (hc3 : findE 23 T = some e23.g) (hc4 : findE 7 T = some e7h.g) {s : SS} (ne : s.tree ≠ []) (t : Tk) (h : ChOk s) (ht : TkOk t) (hk : t.kind = 1) : SC T 25 [.fptr (Tk.cs t) 0] s (.bool (beginsB s t)) (beginsS s t) := by
 have kc0 := @k63 T hc0
 have kc1 := @k37 T hc1
 have kc2 := @k64 T hc2
 have kc3 := @k23 T hc3
 have kc4 := @k7h T hc4
 have g0 := @vg0
 have v0 := @vset
 have o1 := shut_sub s [111, 112, 116, 105, 111, 110]
 have o2 := shut_sub (shutC s [111, 112, 116, 105, 111, 110]) [111, 112, 116, 103, 114, 111, 117, 112]
 have k1 := fun n k fr => @kc0 s ne [111, 112, 116, 105, 111, 110] (ascB (by decide)) (by decide) h.nm h.ok.op n k fr
 have k2 := fun n k fr => @kc0 (shutC s [111, 112, 116, 105, 111, 110]) (by rw [o1.1]; exact ne) [111, 112, 116, 103, 114, 111, 117, 112] (ascB (by decide)) (by decide) (by rw [o1.1]; exact h.nm) (Nat.le_trans (shut_len _ _) h.ok.op) n k fr
 have k3 : ∀ n k fr (k0 : 0 < k) (kn : k < n) (of : offS k fr), callL (ctx T) (.fn 37) [.ptr 0 0, aTok t, .int .i64 0] ⟨n, [fr, VS k (shutC s [111, 112, 116, 105, 111, 110])]⟩ = some (.int .i64 ((shutC s [111, 112, 116, 105, 111, 110]).tree.length : Int), ⟨n + 1, [fr, VS n (optS s t)]⟩) := fun n k fr => @kc1 (shutC s [111, 112, 116, 105, 111, 110]) (by rw [o1.1]; exact ne) t 0 (by rw [o1.2.1]; exact h.fo) (shut_ok h.ok _) (by have := ht.at_; omega) n k fr
 have k4 : ∀ n k fr (k0 : 0 < k) (kn : k < n) (of : offS k fr), callL (ctx T) (.fn 37) [.ptr 0 0, aTok t, .int .i64 0] ⟨n, [fr, VS k (shutC (shutC s [111, 112, 116, 105, 111, 110]) [111, 112, 116, 103, 114, 111, 117, 112])]⟩ = some (.int .i64 ((shutC (shutC s [111, 112, 116, 105, 111, 110]) [111, 112, 116, 103, 114, 111, 117, 112]).tree.length : Int), ⟨n + 1, [fr, VS n (grpS s t)]⟩) := fun n k fr => @kc1 (shutC (shutC s [111, 112, 116, 105, 111, 110]) [111, 112, 116, 103, 114, 111, 117, 112]) (by rw [o2.1, o1.1]; exact ne) t 0 (by rw [o2.2.1, o1.2.1]; exact h.fo) (shut_ok (shut_ok h.ok _) _) (by have := ht.at_; omega) n k fr
 have k5 := fun n k fr => @kc2 s ne h.lv n k fr
 have k6 := fun n k fr => @kc3 s ne t h.fo h.ok (by have := ht.at_; omega) n k fr
 have k7 : t.name = [104, 116, 109, 108] → _ := fun hn n k fr => @kc4 s ne t h ht (.inl ⟨hk, hn⟩) n k fr
 have h9 := beginsS_ne ne t
 have eS : beginsS s t = if t.name = [111, 112, 116, 103, 114, 111, 117, 112] then grpS s t else if t.name = [111, 112, 116, 105, 111, 110] then optS s t else if t.name = [115, 101, 108, 101, 99, 116] ∨ t.name = [105, 110, 112, 117, 116] ∨ t.name = [107, 101, 121, 103, 101, 110] ∨ t.name = [116, 101, 120, 116, 97, 114, 101, 97] then overS s else if t.name = [115, 99, 114, 105, 112, 116] then metaS s t else if t.name = [104, 116, 109, 108] then htmlS s t else s := rfl
 have eB : beginsB s t = (decide (t.name = [105, 110, 112, 117, 116] ∨ t.name = [107, 101, 121, 103, 101, 110] ∨ t.name = [116, 101, 120, 116, 97, 114, 101, 97]) && overB s) := rfl
 rw [eS] at h9 ⊢
 rw [eB]
 clear eS eB kc0 kc1 kc2 kc3 kc4 h ht o1 o2
 generalize grpS s t = s1 at *
 generalize optS s t = s2 at *
 generalize overS s = s3 at *
 generalize metaS s t = s4 at *
 generalize htmlS s t = s5 at *
 generalize overB s = b1 at *
 generalize metaB t = b2 at *
 generalize shutC (shutC s [111, 112, 116, 105, 111, 110]) [111, 112, 116, 103, 114, 111, 117, 112] = s6 at *
 generalize shutC s [111, 112, 116, 105, 111, 110] = s7 at *
 obtain ⟨kd, nm, L, sf, dt⟩ := t
 simp only [Tk.cs, aTok] at *
 subst hk
 refine callAt_body (fn := Tryz.f25) (s0 := ⟨[0, 1, 4, 8, 33], [.ptr 0 0, .fptr [.int .i64 1, .str nm, aAttrs L, .bool sf, .str dt] 0, .undef, .undef, .undef], [], 49, ⟨2, [] :: [VS 1 s]⟩⟩) Tryz.func25 rfl rfl rfl ?_
 (repeat' (first
  | with_reducible refine wps_seq ?_
  | with_reducible refine wps_block ?_
  | (with_reducible refine wps_label ?_; simp only [thenQ, blockQ])
  | (with_reducible refine wps_region callOK ?_; apply runE; simp [zS, *, SS.post]; exact rfl)
  | (with_reducible refine run_end ?_; simp only [thenQ, blockQ])
  | (refine wps_drawQ mixed callOK (by decide +kernel) (by decide +kernel) rfl ?_; apply runQ; simp [zS, zW, clsOf, mkBlk, guardA, Heap.lay, ontoF, *, SS.post]; exact rfl)
  | (with_reducible refine run_endQ ?_; refine ⟨by repeat first | exact okC_n | refine okC_c (by decide +kernel) ?_, ?_⟩; simp only [thenQ, blockQ, allPend, Heap.lay, ontoF])
  | (with_reducible refine gate_splitQ (fun hc => ?_) (fun hc => ?_) <;> ((have hd := hc); (try simp at hd); (try subst hd); apply runQ; simp [zS, zW, clsOf, mkBlk, guardA, Heap.lay, ontoF, *, SS.post]; exact rfl))
  | (with_reducible refine gate_splitX (fun hc => ?_) (fun hc => ?_) <;> ((have hd := hc); (try simp at hd); (try subst hd); apply runQ; simp [zS, zW, clsOf, mkBlk, guardA, Heap.lay, ontoF, *, SS.post]; exact rfl))
  | (with_reducible refine pick_splitQ (fun hc => ?_) (fun hc => ?_) <;> ((have hd := hc); (try simp at hd); (try subst hd); apply runQ; simp [zS, zW, clsOf, mkBlk, guardA, Heap.lay, ontoF, *, SS.post]; exact rfl))
  | (with_reducible refine gate_split (fun hc => ?_) (fun hc => ?_) <;> ((have hd := hc); (try simp at hd); (try subst hd); apply runE; simp [zS, *, SS.post]; exact rfl))
  | (with_reducible refine pick_split (fun hc => ?_) (fun hc => ?_) <;> ((have hd := hc); (try simp at hd); (try subst hd); apply runE; simp [zS, *, SS.post]; exact rfl))
  | (refine wps_ct rfl ?_)
  | (refine wps_cf rfl ?_)
  | (refine wps_cond rfl (fun hc => ?_) (fun hc => ?_) <;> ((have hd := hc); (try simp at hd); (try subst hd)))
  | (with_reducible refine wps_skip ?_; simp only [thenQ, blockQ])
  | (with_reducible refine wps_exit ?_; simp [thenQ, blockQ])
  | (with_reducible refine wps_ret ?_; simp [retVal, Tryz.f25, oneOr, thenQ, blockQ])))
 all_goals first | (((try simp [retVal, Tryz.f25, oneOr]); exact ends_S (by first | (simp [*]; done) | (simp_all; done)) (by first | rfl | (simp [*]; done) | (simp_all; done)) rfl (by decide) h9 rfl rfl)) | (exfalso; omega)
theorem inj_25 (x y : Tk) (h : (fun z : Tk => ([.fptr (Tk.cs z) 0] : List AV)) x = (fun z : Tk => ([.fptr (Tk.cs z) 0] : List AV)) y) : x = y := by
 simp only [List.cons.injEq, and_true] at h
 exact inj_ftok h
noncomputable def e25 : Entry Tryz.prog := mkS 25 [[]] (fun z : Tk => [.fptr (Tk.cs z) 0]) (fun z s => (ChOk s) ∧ (TkOk z) ∧ (z.kind = 1)) (fun z s => .bool (beginsB s z)) (fun z s => beginsS s z) fun z s ne h => ⟨c25 (T := [e63, e37, e64, e23, e7h]) rfl rfl rfl rfl rfl ne z h.1 h.2.1 h.2.2, by simp [pureL, pureV], by simp [pureV, pureL], by (try exact h9); (all_goals exact beginsS_ne ne _)⟩
theorem k25 {T : List (Entry Tryz.prog)} (hT : findE 25 T = some e25.g) {s : SS} (ne : s.tree ≠ []) (t : Tk) (h : ChOk s) (ht : TkOk t) (hk : t.kind = 1) {n k : Nat} {fr : List (Nat × Blk)} (k0 : 0 < k) (kn : k < n) (of : offS k fr) : callL (ctx T) (.fn 25) [.ptr 0 0, .fptr (Tk.cs t) 0] ⟨n, [fr, VS k s]⟩ = some (.bool (beginsB s t), ⟨n + 1, [fr, VS n (beginsS s t)]⟩) :=
 mkS_eq hT inj_25 (t) ne ⟨h, ht, hk⟩ (by simp [pureL, pureV]) (by simp [thawL, thawA_ok]) k0 kn of
def belowB (s : SS) : Bool := decide (1 < s.opn.length) && namedS (nodeS s.tree (s.opn.getD (s.opn.length - 2) 0)) [111, 112, 116, 103, 114, 111, 117, 112]
def groupS (s : SS) : SS := shutC (if belowB s = true then shutC s [111, 112, 116, 105, 111, 110] else s) [111, 112, 116, 103, 114, 111, 117, 112]
def closesS (s : SS) (nm : Str) : SS := if nm = [115, 101, 108, 101, 99, 116] then overS s else if nm = [111, 112, 116, 103, 114, 111, 117, 112] then groupS s else if nm = [111, 112, 116, 105, 111, 110] then shutC s [111, 112, 116, 105, 111, 110] else s
theorem groupS_tree (s : SS) : (groupS s).tree = s.tree := by
 unfold groupS
 rw [(shut_sub _ _).1]
 split
 ·exact (shut_sub _ _).1
 ·rfl
theorem closesS_ne {s : SS} (ne : s.tree ≠ []) (nm : Str) : (closesS s nm).tree ≠ [] := by
 unfold closesS
 split
 ·exact overS_ne ne
 split
 ·rw [groupS_tree]; exact ne
 split
 ·rw [(shut_sub _ _).1]; exact ne
 ·exact ne
theorem c26 {T : List (Entry Tryz.prog)} (hc0 : findE 64 T = some e64.g) (hc1 : findE 63 T = some e63.g) (hc2 : findE 65 T = some e65.g) {s : SS} (ne : s.tree ≠ []) (nm : Str) (h : ChOk s) : SC T 26 [.str nm] s (.tup []) (closesS s nm) := by
 have kc0 := @k64 T hc0
 have kc1 := @k63 T hc1
 have g0 := @vg0
 have v0 := @vset
 have o1 := shut_sub s [111, 112, 116, 105, 111, 110]
 have k1 := fun n k fr => @kc1 s ne [111, 112, 116, 105, 111, 110] (ascB (by decide)) (by decide) h.nm h.ok.op n k fr
 have k2 := fun n k fr => @kc1 s ne [111, 112, 116, 103, 114, 111, 117, 112] (ascB (by decide)) (by decide) h.nm h.ok.op n k fr
 have k3 := fun n k fr => @kc1 (shutC s [111, 112, 116, 105, 111, 110]) (by rw [o1.1]; exact ne) [111, 112, 116, 103, 114, 111, 117, 112] (ascB (by decide)) (by decide) (by rw [o1.1]; exact h.nm) (Nat.le_trans (shut_len _ _) h.ok.op) n k fr
 have k5 := fun n k fr => @kc0 s ne h.lv n k fr
 have h9 := closesS_ne ne nm
 have eS : closesS s nm = if nm = [115, 101, 108, 101, 99, 116] then overS s else if nm = [111, 112, 116, 103, 114, 111, 117, 112] then shutC (if belowB s = true then shutC s [111, 112, 116, 105, 111, 110] else s) [111, 112, 116, 103, 114, 111, 117, 112] else if nm = [111, 112, 116, 105, 111, 110] then shutC s [111, 112, 116, 105, 111, 110] else s := rfl
 have lO := fun H => lenI (H := H) (L := s.opn)
 have hop := h.ok.op
 have hnm := h.nm
 rw [eS] at h9 ⊢
 clear eS kc0 kc1 h o1
 by_cases h1 : 1 < s.opn.length
 ·have h1' : (1 : Int) < (s.opn.length : Int) := by omega
  have hw : wr .i64 ((s.opn.length : Int) - 2) = some ((s.opn.length - 2 : Nat) : Int) := by
   rw [show ((s.opn.length : Int) - 2) = ((s.opn.length - 2 : Nat) : Int) by omega]
   exact wr_small (by omega) (by omega)
  have hat := atI (L := s.opn) (i := s.opn.length - 2) (by omega)
  have hlt : s.opn.length - 2 < s.opn.length := by omega
  obtain ⟨q, hq⟩ : ∃ q, q = s.opn[s.opn.length - 2] := ⟨_, rfl⟩
  rw [← hq] at hat
  have eb : belowB s = namedS (nodeS s.tree q) [111, 112, 116, 103, 114, 111, 117, 112] := by
   unfold belowB; simp [h1, List.getD_eq_getElem?_getD, hlt, hq]
  have kI := fun n k f (k0 : 0 < k) (hf : getF k f = none) => q65 hc2 (thS (n := n) k0 ne hf) q (W := [111, 112, 116, 103, 114, 111, 117, 112]) (ascB (by decide)) (by decide) (hnm _)
  rw [← eb] at kI
  clear eb hnm hq
  generalize ((s.opn.length - 2 : Nat) : Int) = w at *
  generalize belowB s = b at *
  cases b with
  | true =>
   simp only [if_true] at h9 ⊢
   generalize shutC (shutC s [111, 112, 116, 105, 111, 110]) [111, 112, 116, 103, 114, 111, 117, 112] = s1 at *
   generalize shutC s [111, 112, 116, 105, 111, 110] = s4 at *
   refine callAt_body (fn := Tryz.f26) (s0 := ⟨[0, 1, 4, 5], [.ptr 0 0, .str nm, .undef, .undef], [], 42, ⟨2, [] :: [VS 1 s]⟩⟩) Tryz.func26 rfl rfl rfl ?_
   (repeat' (first
    | with_reducible refine wps_seq ?_
    | with_reducible refine wps_block ?_
    | (with_reducible refine wps_label ?_; simp only [thenQ, blockQ])
    | (with_reducible refine wps_region callOK ?_; apply runE; simp [zS, *, SS.post]; exact rfl)
    | (with_reducible refine run_end ?_; simp only [thenQ, blockQ])
    | (refine wps_drawQ mixed callOK (by decide +kernel) (by decide +kernel) rfl ?_; apply runQ; simp [zS, zW, clsOf, mkBlk, guardA, Heap.lay, ontoF, *, SS.post]; exact rfl)
    | (with_reducible refine run_endQ ?_; refine ⟨by repeat first | exact okC_n | refine okC_c (by decide +kernel) ?_, ?_⟩; simp only [thenQ, blockQ, allPend, Heap.lay, ontoF])
    | (with_reducible refine gate_splitQ (fun hc => ?_) (fun hc => ?_) <;> ((have hd := hc); (try simp at hd); (try subst hd); apply runQ; simp [zS, zW, clsOf, mkBlk, guardA, Heap.lay, ontoF, *, SS.post]; exact rfl))
    | (with_reducible refine gate_splitX (fun hc => ?_) (fun hc => ?_) <;> ((have hd := hc); (try simp at hd); (try subst hd); apply runQ; simp [zS, zW, clsOf, mkBlk, guardA, Heap.lay, ontoF, *, SS.post]; exact rfl))
    | (with_reducible refine pick_splitQ (fun hc => ?_) (fun hc => ?_) <;> ((have hd := hc); (try simp at hd); (try subst hd); apply runQ; simp [zS, zW, clsOf, mkBlk, guardA, Heap.lay, ontoF, *, SS.post]; exact rfl))
    | (with_reducible refine gate_split (fun hc => ?_) (fun hc => ?_) <;> ((have hd := hc); (try simp at hd); (try subst hd); apply runE; simp [zS, *, SS.post]; exact rfl))
    | (with_reducible refine pick_split (fun hc => ?_) (fun hc => ?_) <;> ((have hd := hc); (try simp at hd); (try subst hd); apply runE; simp [zS, *, SS.post]; exact rfl))
    | (refine wps_ct rfl ?_)
    | (refine wps_cf rfl ?_)
    | (refine wps_cond rfl (fun hc => ?_) (fun hc => ?_) <;> ((have hd := hc); (try simp at hd); (try subst hd)))
    | (with_reducible refine wps_skip ?_; simp only [thenQ, blockQ])
    | (with_reducible refine wps_exit ?_; simp [thenQ, blockQ])
    | (with_reducible refine wps_ret ?_; simp [retVal, Tryz.f26, oneOr, thenQ, blockQ])))
   all_goals first | (((try simp [retVal, Tryz.f26, oneOr]); exact ends_S rfl (by first | rfl | (simp [*]; done) | (simp_all; done)) rfl (by decide) h9 rfl rfl)) | (exfalso; omega) | (trace_state; fail)
  | false =>
   simp only [Bool.false_eq_true, if_false] at h9 ⊢
   clear k3
   generalize shutC s [111, 112, 116, 103, 114, 111, 117, 112] = s2 at *
   generalize shutC s [111, 112, 116, 105, 111, 110] = s4 at *
   refine callAt_body (fn := Tryz.f26) (s0 := ⟨[0, 1, 4, 5], [.ptr 0 0, .str nm, .undef, .undef], [], 42, ⟨2, [] :: [VS 1 s]⟩⟩) Tryz.func26 rfl rfl rfl ?_
   (repeat' (first
    | with_reducible refine wps_seq ?_
    | with_reducible refine wps_block ?_
    | (with_reducible refine wps_label ?_; simp only [thenQ, blockQ])
    | (with_reducible refine wps_region callOK ?_; apply runE; simp [zS, *, SS.post]; exact rfl)
    | (with_reducible refine run_end ?_; simp only [thenQ, blockQ])
    | (refine wps_drawQ mixed callOK (by decide +kernel) (by decide +kernel) rfl ?_; apply runQ; simp [zS, zW, clsOf, mkBlk, guardA, Heap.lay, ontoF, *, SS.post]; exact rfl)
    | (with_reducible refine run_endQ ?_; refine ⟨by repeat first | exact okC_n | refine okC_c (by decide +kernel) ?_, ?_⟩; simp only [thenQ, blockQ, allPend, Heap.lay, ontoF])
    | (with_reducible refine gate_splitQ (fun hc => ?_) (fun hc => ?_) <;> ((have hd := hc); (try simp at hd); (try subst hd); apply runQ; simp [zS, zW, clsOf, mkBlk, guardA, Heap.lay, ontoF, *, SS.post]; exact rfl))
    | (with_reducible refine gate_splitX (fun hc => ?_) (fun hc => ?_) <;> ((have hd := hc); (try simp at hd); (try subst hd); apply runQ; simp [zS, zW, clsOf, mkBlk, guardA, Heap.lay, ontoF, *, SS.post]; exact rfl))
    | (with_reducible refine pick_splitQ (fun hc => ?_) (fun hc => ?_) <;> ((have hd := hc); (try simp at hd); (try subst hd); apply runQ; simp [zS, zW, clsOf, mkBlk, guardA, Heap.lay, ontoF, *, SS.post]; exact rfl))
    | (with_reducible refine gate_split (fun hc => ?_) (fun hc => ?_) <;> ((have hd := hc); (try simp at hd); (try subst hd); apply runE; simp [zS, *, SS.post]; exact rfl))
    | (with_reducible refine pick_split (fun hc => ?_) (fun hc => ?_) <;> ((have hd := hc); (try simp at hd); (try subst hd); apply runE; simp [zS, *, SS.post]; exact rfl))
    | (refine wps_ct rfl ?_)
    | (refine wps_cf rfl ?_)
    | (refine wps_cond rfl (fun hc => ?_) (fun hc => ?_) <;> ((have hd := hc); (try simp at hd); (try subst hd)))
    | (with_reducible refine wps_skip ?_; simp only [thenQ, blockQ])
    | (with_reducible refine wps_exit ?_; simp [thenQ, blockQ])
    | (with_reducible refine wps_ret ?_; simp [retVal, Tryz.f26, oneOr, thenQ, blockQ])))
   all_goals first | (((try simp [retVal, Tryz.f26, oneOr]); exact ends_S rfl (by first | rfl | (simp [*]; done) | (simp_all; done)) rfl (by decide) h9 rfl rfl)) | (exfalso; omega) | (trace_state; fail)
 ·have h1' : ¬ (1 : Int) < (s.opn.length : Int) := by omega
  have eb : belowB s = false := by unfold belowB; simp [h1]
  simp only [eb, Bool.false_eq_true, if_false] at h9 ⊢
  clear eb k3
  generalize shutC s [111, 112, 116, 103, 114, 111, 117, 112] = s2 at *
  generalize shutC s [111, 112, 116, 105, 111, 110] = s4 at *
  refine callAt_body (fn := Tryz.f26) (s0 := ⟨[0, 1, 4, 5], [.ptr 0 0, .str nm, .undef, .undef], [], 42, ⟨2, [] :: [VS 1 s]⟩⟩) Tryz.func26 rfl rfl rfl ?_
  (repeat' (first
   | with_reducible refine wps_seq ?_
   | with_reducible refine wps_block ?_
   | (with_reducible refine wps_label ?_; simp only [thenQ, blockQ])
   | (with_reducible refine wps_region callOK ?_; apply runE; simp [zS, *, SS.post]; exact rfl)
   | (with_reducible refine run_end ?_; simp only [thenQ, blockQ])
   | (refine wps_drawQ mixed callOK (by decide +kernel) (by decide +kernel) rfl ?_; apply runQ; simp [zS, zW, clsOf, mkBlk, guardA, Heap.lay, ontoF, *, SS.post]; exact rfl)
   | (with_reducible refine run_endQ ?_; refine ⟨by repeat first | exact okC_n | refine okC_c (by decide +kernel) ?_, ?_⟩; simp only [thenQ, blockQ, allPend, Heap.lay, ontoF])
   | (with_reducible refine gate_splitQ (fun hc => ?_) (fun hc => ?_) <;> ((have hd := hc); (try simp at hd); (try subst hd); apply runQ; simp [zS, zW, clsOf, mkBlk, guardA, Heap.lay, ontoF, *, SS.post]; exact rfl))
   | (with_reducible refine gate_splitX (fun hc => ?_) (fun hc => ?_) <;> ((have hd := hc); (try simp at hd); (try subst hd); apply runQ; simp [zS, zW, clsOf, mkBlk, guardA, Heap.lay, ontoF, *, SS.post]; exact rfl))
   | (with_reducible refine pick_splitQ (fun hc => ?_) (fun hc => ?_) <;> ((have hd := hc); (try simp at hd); (try subst hd); apply runQ; simp [zS, zW, clsOf, mkBlk, guardA, Heap.lay, ontoF, *, SS.post]; exact rfl))
   | (with_reducible refine gate_split (fun hc => ?_) (fun hc => ?_) <;> ((have hd := hc); (try simp at hd); (try subst hd); apply runE; simp [zS, *, SS.post]; exact rfl))
   | (with_reducible refine pick_split (fun hc => ?_) (fun hc => ?_) <;> ((have hd := hc); (try simp at hd); (try subst hd); apply runE; simp [zS, *, SS.post]; exact rfl))
   | (refine wps_ct rfl ?_)
   | (refine wps_cf rfl ?_)
   | (refine wps_cond rfl (fun hc => ?_) (fun hc => ?_) <;> ((have hd := hc); (try simp at hd); (try subst hd)))
   | (with_reducible refine wps_skip ?_; simp only [thenQ, blockQ])
   | (with_reducible refine wps_exit ?_; simp [thenQ, blockQ])
   | (with_reducible refine wps_ret ?_; simp [retVal, Tryz.f26, oneOr, thenQ, blockQ])))
  all_goals first | (((try simp [retVal, Tryz.f26, oneOr]); exact ends_S rfl (by first | rfl | (simp [*]; done) | (simp_all; done)) rfl (by decide) h9 rfl rfl)) | (exfalso; omega) | (trace_state; fail)
theorem inj_26 (x y : Str) (h : (fun z : Str => ([.str z] : List AV)) x = (fun z : Str => ([.str z] : List AV)) y) : x = y := by
 simp only [List.cons.injEq, and_true] at h
 exact AV.str.inj h
noncomputable def e26 : Entry Tryz.prog := mkS 26 [[]] (fun z : Str => [.str z]) (fun z s => (ChOk s)) (fun z s => .tup []) (fun z s => closesS s z) fun z s ne h => ⟨c26 (T := [e64, e63, e65]) rfl rfl rfl ne z h, by simp [pureL, pureV], by simp [pureV, pureL], closesS_ne ne _⟩
theorem k26 {T : List (Entry Tryz.prog)} (hT : findE 26 T = some e26.g) {s : SS} (ne : s.tree ≠ []) (nm : Str) (h : ChOk s) {n k : Nat} {fr : List (Nat × Blk)} (k0 : 0 < k) (kn : k < n) (of : offS k fr) : callL (ctx T) (.fn 26) [.ptr 0 0, .str nm] ⟨n, [fr, VS k s]⟩ = some (.tup [], ⟨n + 1, [fr, VS n (closesS s nm)]⟩) :=
 mkS_eq hT inj_26 (nm) ne h (by simp [pureL, pureV]) (by simp [thawL, thawA_ok]) k0 kn of
def stepC (s : SS) (t : Tk) : SS :=
 if t.kind = 3 then { s with tree := chT s.tree (topI s.opn) t.data }
 else if t.kind = 4 then { s with tree := ntT s.tree (ntP s (-1)) t.data }
 else if t.kind = 1 then beginsS s t
 else if t.kind = 2 then closesS s t.name
 else s
def stepB (s : SS) (t : Tk) : Bool := decide (t.kind = 1) && beginsB s t
theorem stepC_ne {s : SS} (ne : s.tree ≠ []) (t : Tk) : (stepC s t).tree ≠ [] := by
 unfold stepC
 split
 ·exact chT_ne ne _ _
 split
 ·exact newT_ne _ _ _ _
 split
 ·exact beginsS_ne ne _
 split
 ·exact closesS_ne ne _
 ·exact ne
theorem c9 {T : List (Entry Tryz.prog)} (hc0 : findE 19 T = some e19.g) (hc1 : findE 20 T = some e20.g) (hc2 : findE 25 T = some e25.g) (hc3 : findE 26 T = some e26.g) (hc4 : findE 7 T = some e7h.g) {s : SS} (ne : s.tree ≠ []) (t : Tk) (h : ChOk s) (ht : TkOk t) (hm : s.mode = 13) : SC T 9 [.fptr (Tk.cs t) 0] s (.bool (stepB s t)) (stepC s t) := by
 have kc0 := @k19 T hc0
 have kc1 := @k20 T hc1
 have kc2 := @k25 T hc2
 have kc3 := @k26 T hc3
 have kc4 := @k7h T hc4
 have g0 := @vg0
 have v0 := @vset
 have k1 := fun n k fr => @kc0 s ne t.data h.fo h.ok h.kk (by have := ht.dt; omega) n k fr
 have k2 := fun n k fr => @kc1 s ne t.data (-1) h.fo h.ok n k fr
 have k3 := fun hk n k fr => @kc2 s ne t h ht hk n k fr
 have k4 := fun n k fr => @kc3 s ne t.name h n k fr
 have k5 := fun hk n k fr => @kc4 s ne t h ht (.inr hk) n k fr
 have e5 : t.kind = 0 → htmlS s t = s := fun hk => by unfold htmlS; rw [if_neg (by omega)]
 have h9 := stepC_ne ne t
 have eS : stepC s t = if t.kind = 3 then { s with tree := chT s.tree (topI s.opn) t.data } else if t.kind = 4 then { s with tree := ntT s.tree (ntP s (-1)) t.data } else if t.kind = 1 then beginsS s t else if t.kind = 2 then closesS s t.name else s := rfl
 have eB : stepB s t = (decide (t.kind = 1) && beginsB s t) := rfl
 rw [eS] at h9 ⊢
 rw [eB]
 clear eS eB kc0 kc1 kc2 kc3 kc4 h ht
 generalize beginsS s t = s1 at *
 generalize closesS s t.name = s2 at *
 generalize beginsB s t = b1 at *
 generalize htmlS s t = s3 at *
 generalize chT s.tree (topI s.opn) t.data = t1 at *
 generalize ntT s.tree (ntP s (-1)) t.data = t2 at *
 obtain ⟨kd, nm, L, sf, dt⟩ := t
 simp only [Tk.cs] at *
 refine callAt_body (fn := Tryz.f9) (s0 := ⟨[0, 1, 4, 5, 6, 10, 26], [.ptr 0 0, .fptr [.int .i64 kd, .str nm, aAttrs L, .bool sf, .str dt] 0, .undef, .undef, .undef, .undef, .undef], [], 61, ⟨2, [] :: [VS 1 s]⟩⟩) Tryz.func9 rfl rfl rfl ?_
 (repeat' (first
  | with_reducible refine wps_seq ?_
  | with_reducible refine wps_block ?_
  | (with_reducible refine wps_label ?_; simp only [thenQ, blockQ])
  | (with_reducible refine wps_region callOK ?_; apply runE; simp [zS, *, SS.post]; exact rfl)
  | (with_reducible refine run_end ?_; simp only [thenQ, blockQ])
  | (refine wps_drawQ mixed callOK (by decide +kernel) (by decide +kernel) rfl ?_; apply runQ; simp [zS, zW, clsOf, mkBlk, guardA, Heap.lay, ontoF, *, SS.post]; exact rfl)
  | (with_reducible refine run_endQ ?_; refine ⟨by repeat first | exact okC_n | refine okC_c (by decide +kernel) ?_, ?_⟩; simp only [thenQ, blockQ, allPend, Heap.lay, ontoF])
  | (with_reducible refine gate_splitQ (fun hc => ?_) (fun hc => ?_) <;> ((have hd := hc); (try simp at hd); (try subst hd); apply runQ; simp [zS, zW, clsOf, mkBlk, guardA, Heap.lay, ontoF, *, SS.post]; exact rfl))
  | (with_reducible refine gate_splitX (fun hc => ?_) (fun hc => ?_) <;> ((have hd := hc); (try simp at hd); (try subst hd); apply runQ; simp [zS, zW, clsOf, mkBlk, guardA, Heap.lay, ontoF, *, SS.post]; exact rfl))
  | (with_reducible refine pick_splitQ (fun hc => ?_) (fun hc => ?_) <;> ((have hd := hc); (try simp at hd); (try subst hd); apply runQ; simp [zS, zW, clsOf, mkBlk, guardA, Heap.lay, ontoF, *, SS.post]; exact rfl))
  | (with_reducible refine gate_split (fun hc => ?_) (fun hc => ?_) <;> ((have hd := hc); (try simp at hd); (try subst hd); apply runE; simp [zS, *, SS.post]; exact rfl))
  | (with_reducible refine pick_split (fun hc => ?_) (fun hc => ?_) <;> ((have hd := hc); (try simp at hd); (try subst hd); apply runE; simp [zS, *, SS.post]; exact rfl))
  | (refine wps_ct rfl ?_)
  | (refine wps_cf rfl ?_)
  | (refine wps_cond rfl (fun hc => ?_) (fun hc => ?_) <;> ((have hd := hc); (try simp at hd); (try subst hd)))
  | (with_reducible refine wps_skip ?_; simp only [thenQ, blockQ])
  | (with_reducible refine wps_exit ?_; simp [thenQ, blockQ])
  | (with_reducible refine wps_ret ?_; simp [retVal, Tryz.f9, oneOr, thenQ, blockQ])))
 all_goals first | (((try simp [retVal, Tryz.f9, oneOr]); exact ends_S (by first | (simp [*]; done) | (simp_all; done)) (by first | rfl | (simp [*]; done) | (simp_all; done)) rfl (by decide) h9 rfl rfl)) | (exfalso; omega) | (trace_state; fail)
theorem inj_9 (x y : Tk) (h : (fun z : Tk => ([.fptr (Tk.cs z) 0] : List AV)) x = (fun z : Tk => ([.fptr (Tk.cs z) 0] : List AV)) y) : x = y := by
 simp only [List.cons.injEq, and_true] at h
 exact inj_ftok h
noncomputable def e9 : Entry Tryz.prog := mkS 9 [[]] (fun z : Tk => [.fptr (Tk.cs z) 0]) (fun z s => (ChOk s) ∧ (TkOk z) ∧ (s.mode = 13)) (fun z s => .bool (stepB s z)) (fun z s => stepC s z) fun z s ne h => ⟨c9 (T := [e19, e20, e25, e26, e7h]) rfl rfl rfl rfl rfl ne z h.1 h.2.1 h.2.2, by simp [pureL, pureV], by simp [pureV, pureL], stepC_ne ne _⟩
theorem k9 {T : List (Entry Tryz.prog)} (hT : findE 9 T = some e9.g) {s : SS} (ne : s.tree ≠ []) (t : Tk) (h : ChOk s) (ht : TkOk t) (hm : s.mode = 13) {n k : Nat} {fr : List (Nat × Blk)} (k0 : 0 < k) (kn : k < n) (of : offS k fr) : callL (ctx T) (.fn 9) [.ptr 0 0, .fptr (Tk.cs t) 0] ⟨n, [fr, VS k s]⟩ = some (.bool (stepB s t), ⟨n + 1, [fr, VS n (stepC s t)]⟩) :=
 mkS_eq hT inj_9 (t) ne ⟨h, ht, hm⟩ (by simp [pureL, pureV]) (by simp [thawL, thawA_ok]) k0 kn of
theorem VR.slcInv {ρ : Place} {b o n c : Nat} {x : Value} (h : VR ρ (.slc b o n (.ex c)) x) : ∃ l, ρ b = some l ∧ x = .slice (some ⟨l.cb, l.off + o, none⟩) n c ∧ n ≤ c := by
 cases h with
 | slcE b o len c l h hc => exact ⟨l, h, rfl, hc⟩
theorem VR.aggInv1 {ρ : Place} {v : AV} {x : Value} (h : VR ρ (.agg [v]) x) : ∃ y, x = .agg #[y] ∧ VR ρ v y := by
 cases h with
 | agg cs vs hl hv =>
  have h0 : 0 < vs.size := by rw [hl]; simp
  refine ⟨vs[0], ?_, hv 0 (by simp) h0⟩
  congr 1
  apply Array.ext
  ·rw [hl]; rfl
  ·intro i h1 h2
   have : i = 0 := by simp at h2; omega
   subst this
   rfl
theorem CallAt.rest {C : Ctx} {f : FuncId} {args : List AV} {n sz : Nat} {cs : List AV} (h : CallAt C f args ⟨0, []⟩ (.agg [.slc 0 0 n (.ex n)]) ⟨1, [[(0, .cells cs)]]⟩) (hc : cs.length = n * sz) (hp : pureL cs = true) (hn : n ≤ 9223372036854775807) :
  CallAt C f args ⟨0, []⟩ (.agg [.slc 0 0 n (.rest sz)]) ⟨1, [[(0, .cells cs)]]⟩ := by
 intro ρ w xs sm hx
 have key : ∀ {x : Value} {ρ' : Place} {w' : World}, VR ρ' (.agg [.slc 0 0 n (.ex n)]) x → Sim ρ' ⟨1, [[(0, .cells cs)]]⟩ w' → Step ρ ⟨0, []⟩ w ρ' ⟨1, [[(0, .cells cs)]]⟩ w' → ∃ ρ'', VR ρ'' (.agg [.slc 0 0 n (.rest sz)]) x ∧ Sim ρ'' ⟨1, [[(0, .cells cs)]]⟩ w' ∧ Step ρ ⟨0, []⟩ w ρ'' ⟨1, [[(0, .cells cs)]]⟩ w' := fun {x ρ' w'} h1 h2 h3 => by
  obtain ⟨y, rfl, hy⟩ := h1.aggInv1
  obtain ⟨l, hl, rfl, _⟩ := hy.slcInv
  obtain ⟨l', hl', g2, g3, g4⟩ := h2.live (0, .cells cs) (by simp [Heap.ents])
  rw [hl] at hl'
  cases hl'
  obtain ⟨r1, r2, r3⟩ := g4
  obtain ⟨ρ'', e⟩ : ∃ ρ'' : Place, ρ'' = ρ'.upd 0 ⟨l.cb, l.off, l.off + cs.length⟩ := ⟨_, rfl⟩
  have u0 : ρ'' 0 = some ⟨l.cb, l.off, l.off + cs.length⟩ := by rw [e]; exact Place.upd_same
  have uo : ∀ b, b ≠ 0 → ρ'' b = ρ' b := fun b hb => by rw [e]; exact Place.upd_other hb
  have eB : ρ''.B = ρ'.B := by rw [e]; rfl
  have eW : ρ''.W = ρ'.W := by rw [e]; rfl
  have ebare : ρ''.bare = ρ'.bare := by rw [e]; rfl
  have hd : ∀ b, ρ b = none := fun b => sm.dom b (Nat.zero_le _)
  have only : ∀ e, e ∈ (⟨1, [[(0, .cells cs)]]⟩ : Heap).ents → e = (0, .cells cs) := fun e he => by simpa [Heap.ents] using he
  refine ⟨ρ'', ?_, ⟨?_, ?_, ?_, ?_, ?_, ?_, ?_, ?_, ?_⟩, ⟨⟨?_, ?_, ?_, ?_, ?_⟩, h3.size, ?_, ?_, h3.num, ?_, ?_⟩⟩
  ·refine .agg _ _ (by simp) fun i hi hi' => ?_
   have : i = 0 := by simp at hi; omega
   subst this
   exact .slcR 0 0 n sz n ⟨l.cb, l.off, l.off + cs.length⟩ u0 (Nat.le_refl _) ⟨by simp [hc], hn⟩
  ·rw [eB]; exact h2.base
  ·rw [eB, eW]; exact h2.below
  ·rw [eW]; exact h2.os
  ·rw [eW]; exact h2.tape
  ·rw [eW]; exact h2.output
  ·intro b hb
   rw [uo b (by simp at hb; omega)]
   exact h2.dom b hb
  ·exact h2.nodup
  ·intro e he
   rw [only e he]
   refine ⟨_, u0, by rw [eB]; exact g2, g3, ⟨by simp, fun i hi => r2 i (by simp at hi; omega), fun i hi => ?_⟩⟩
   obtain ⟨x, hx1, hx2⟩ := r3 i hi
   refine ⟨x, hx1, ?_⟩
   have := hx2.pure (pureL_get hp i hi)
   rw [← ebare] at this
   exact this.mono ρ''.bare_le
  ·intro e e' he he' _ _ _ _ _
   rw [only e he, only e' he']
  ·intro b l0 hb
   rw [hd b] at hb; cases hb
  ·intro k hk
   rw [eB, eW]; exact h3.le.fz k hk
  ·rw [eW]; exact h3.le.os
  ·rw [eW]; exact h3.le.tape
  ·rw [eW]; exact h3.le.output
  ·exact h3.keeps
  ·intro e he l0 hl0
   rw [only e he] at hl0
   rw [u0] at hl0
   cases hl0
   exact h3.rows (0, .cells cs) (by simp [Heap.ents]) l hl
  ·intro b hb
   exact absurd hb (Nat.not_lt_zero b)
  ·intro k hk
   rw [eB] at hk
   exact h3.cold k hk
 rcases h ρ w xs sm hx with ⟨x, ρ', w', h0, h1, h2, h3⟩ | ⟨g, ys, h0, h1⟩
 ·obtain ⟨ρ'', k1, k2, k3⟩ := key h1 h2 h3
  exact .inl ⟨x, ρ'', w', h0, k1, k2, k3⟩
 ·refine .inr ⟨g, ys, h0, h1.mono ?_⟩
  rintro e w' ⟨x, ρ', rfl, m1, m2, m3⟩
  obtain ⟨ρ'', k1, k2, k3⟩ := key m1 m2 m3
  exact ⟨x, ρ'', rfl, k1, k2, k3⟩
def root0 : Nd := ⟨0, 0, [], [], [], -1, []⟩
theorem c12 {T : List (Entry Tryz.prog)} : CallAt (ctx T) 12 [] ⟨0, []⟩ (.agg [.slc 0 0 1 (.rest 7)]) ⟨1, [[(0, .cells root0.cs)]]⟩ := by
 refine CallAt.rest ?_ rfl (by simp [root0, Nd.cs, aInt, aAttrs, pureL, pureV]) (by omega)
 have b5 : buildA Tryz.prog 41 [(5, .int .i64 (-1))] = some (.agg [.int .i64 0, .int .i64 0, .str [], .nilS, .str [], .int .i64 (-1), .nilS]) := rfl
 refine callAt_body (fn := Tryz.f12) (s0 := ⟨[0], [.undef], [], 4, ⟨0, [[]]⟩⟩) Tryz.func12 rfl rfl rfl ?_
 have bt : ∀ b n c, buildA Tryz.prog 31 [(0, .slc b 0 n c)] = some (.agg [.slc b 0 n c]) := fun b n c => rfl
 have pr : promote 0 [1] [] [[(1, .cells [.int .i64 0, .int .i64 0, .str [], .nilS, .str [], .int .i64 (-1), .nilS]), (0, .cells [.nilS])]] = [[(1, .cells [.int .i64 0, .int .i64 0, .str [], .nilS, .str [], .int .i64 (-1), .nilS]), (0, .cells [.nilS])]] := rfl
 repeat apply wq
 refine wps_region callOK ?_
 simp [zS, b5, bt, pr]
 repeat apply wq
 refine wps_region callOK ?_
 simp [zS, b5, bt, pr]
 repeat apply wq
 refine wps_ret ?_
 simp [retVal, Tryz.f12, oneOr]
 refine ⟨_, rfl, [(1, 0)], [], ?_, ⟨by simp, by simp, by simp [Heap.ents], by simp, fun x hx h => absurd h (Nat.not_lt_zero _), by simp, fun e he => ?_, fun x hx => by cases hx⟩⟩
 ·simp [fitV, fitL, lookN, readCells]
 ·simp only [Heap.ents, List.flatten_cons, List.flatten_nil, List.append_nil, List.mem_singleton] at he
  subst he
  exact ⟨1, _, by simp, rfl, by simp [fitB, fitL, fitV, root0, Nd.cs, aInt, aAttrs, pureV]⟩
theorem new_at {T : List (Entry Tryz.prog)} (m : Nat) (f : List (Nat × Blk)) (fs : List (List (Nat × Blk))) : CallAt (ctx T) 12 [] ⟨m, f :: fs⟩ (.agg [.slc m 0 1 (.rest 7)]) ⟨m + 1, ((m, .cells root0.cs) :: f) :: fs⟩ := by
 have fh : FitH 0 [] [] ⟨m, f :: fs⟩ ⟨0, []⟩ := ⟨by simp, by simp, by simp [Heap.ents], fun x h => (by cases h), fun x h => (by cases h), Nat.zero_le _, fun e he => by simp [Heap.ents] at he, fun x h => by cases h⟩
 have pr : pureL root0.cs = true := by simp [root0, Nd.cs, aInt, aAttrs, pureL, pureV]
 have := (c12 (T := T)).framed (args := []) (H := ⟨m, f :: fs⟩) (H' := ⟨m + 1, ((m, .cells root0.cs) :: f) :: fs⟩) fh (by simp [fitL]) ⟨by simp, fun nd lt => ?_, fun e he => ?_⟩ (by simp)
 ·simpa [renV, renL, outN, lookR] using this
 ·simp only [Heap.ents, List.flatten_cons, List.cons_append, List.map_cons, List.nodup_cons] at nd ⊢
  refine ⟨fun hx => ?_, nd⟩
  obtain ⟨e, he, hx⟩ := List.mem_map.1 hx
  have := lt e (by simpa [Heap.ents] using he)
  simp only at this
  omega
 ·simp only [Heap.ents, List.flatten_cons, List.cons_append, List.mem_cons] at he
  rcases he with rfl | he
  ·refine .inl ⟨(0, .cells root0.cs), by simp [Heap.ents], ?_⟩
   simp [outN, lookR, renB, renL_pure _ pr]
  ·exact .inr ⟨by simpa [Heap.ents] using he, fun x hx => by cases hx⟩
def s0 : SS := ⟨[⟨0, 0, [], [], [], -1, [1]⟩, ⟨1, 0, [104, 116, 109, 108], [], [], 0, []⟩], [1], [], 5, 0, 0, 0, 0, false, false, [100, 105, 118]⟩
def pNew : List AV := [.nilS, .nilS, .int .i64 0, .int .i64 0, .int .i64 0, .int .i64 0, .int .i64 0, .bool false, .bool false, .str [100, 105, 118]]
theorem ok_New (t : Tr) {k m : Nat} (k0 : 0 < k) (km : k < m) : Eok m 0 [] k 7 (t.map aNode) pNew [] where
 lp := by omega
 lk := ⟨km, by simp; omega⟩
 lg := fun e he => by cases he
 nd := by simp
 sg := fun e he => by cases he
 sp := fun σ hσ => fitL_pure rfl
 sq := fun σ hσ => fitL_pure rfl
 el := el_node t
theorem prom_L {c : Nat} {cs : List AV} {g r : List (Nat × Blk)} (hc : pureL cs = true) (h0 : getF 0 ((c, .cells cs) :: g) = none) (h2 : (getF 0 r).isSome = true) : promote 0 [c] [] [(c, .cells cs) :: g, r] = [g, (c, .cells cs) :: r] := by
 have h1 := reach1q (n := 99998) (b := c) (g := g) hc
 have h3 : reach 100000 [c] ((c, .cells cs) :: g) [] = ([(c, .cells cs)], g) := h1
 unfold promote
 simp only [h0, h3]
 unfold promote
 cases hr : getF 0 r with
 | none => rw [hr] at h2; cases h2
 | some y => simp only [List.append_nil, List.cons_append, List.nil_append]
theorem ap_n (H : Heap) (b : Nat) (i : Int) (hb : H.get b = some (.cells [.int .i64 i])) : appendA Tryz.prog H 3 .nilS (.slc b 0 1 (.ex 1)) = some (.slc H.n 0 1 (.rest 1), H.new (.cells [.int .i64 i])) := by
 have hx : srcCells H 1 1 (.slc b 0 1 (.ex 1)) = some [.int .i64 i] := by simp [srcCells, readCells, hb, Blk.rd]
 simp only [appendA, szT3, byT3, zeT3, Option.bind_some, srcLen, hx]
 rfl
theorem c5 {T : List (Entry Tryz.prog)} (hA : findE 29 T = some e29.g) (hP : findE 66 T = some e66G.g) (hS : findE 30 T = some e30.g) (hH : findE 31 T = some e31.g)
  (hC : findE 34 T = some e34.g) (hL : findE 15 T = some e15.g) (hR : findE 16 T = some e16d.g) :
  CallAt (ctx T) 5 [.str [100, 105, 118]] ⟨0, []⟩ (.ptr 0 0) ⟨3, [VS 2 s0]⟩ := by
 have hnew := new_at (T := T) 0 [] []
 obtain ⟨t1, ht1⟩ : ∃ t1 : Tr, t1 = [root0] ++ [fresh ⟨1, 0, [104, 116, 109, 108], [], [], 0, []⟩] := ⟨_, rfl⟩
 have h1 := ok_New [root0] (k := 1) (m := 2) (by omega) (by omega)
 have hadd := c13 (T := T) hA h1 (by simp) ⟨1, 0, [104, 116, 109, 108], [], [], 0, []⟩ (by simp)
 have h2 := ok_New t1 (k := 2) (m := 3) (by omega) (by omega)
 have hput := c14G (T := T) hP hS hH hC h2 (by simp [ht1]) (by simp [ht1]) (fun n hn => by simp [ht1] at hn; rcases hn with rfl | rfl <;> simp [root0, fresh]) 0 0 1
 have et : putT t1 0 0 1 = s0.tree := by rw [ht1]; rfl
 rw [et] at hput
 have hadd := hadd.perm (H2 := ⟨2, [[], VE 0 [] 1 7 ([root0].map aNode) pNew []]⟩) (H2' := ⟨3, [[], VE 0 [] 2 7 (t1.map aNode) pNew []]⟩) rfl rfl (by simp [Heap.ents]) (by rw [ht1]; simp [Heap.ents, fresh])
 have hput := hput.perm (H2 := ⟨3, [[], VE 0 [] 2 7 (t1.map aNode) pNew []]⟩) (H2' := ⟨3, [[], [(0, .cells (nV 2 s0.tree :: pNew)), (2, .cells (flatAV (s0.tree.map aNode)))]]⟩) rfl rfl (by simp [Heap.ents]) (by exact List.Perm.refl _)
 clear et h1 h2
 have bS : ∀ b, buildA Tryz.prog 34 [(0, .agg [.slc b 0 1 (.rest 7)]), (10, .str [100, 105, 118])] = some (.agg (.slc b 0 1 (.rest 7) :: pNew)) := fun _ => rfl
 refine callAt_body (fn := Tryz.f5) (s0 := ⟨[0, 2, 3, 4], [.str [100, 105, 118], .undef, .undef, .undef], [], 40, ⟨0, [[]]⟩⟩) Tryz.func5 rfl rfl rfl ?_
 repeat apply wq
 refine wps_region callOK ?_
 simp [zS]
 repeat apply wq
 refine wps_region (callOKF [⟨12, _, _, _, _, hnew⟩]) ?_
 simp [zS, callF, bS, pNew]
 repeat apply wq
 refine wps_region callOK ?_
 simp [zS]
 repeat apply wq
 refine wps_cf rfl ?_
 repeat apply wq
 refine wps_skip ?_
 simp
 repeat apply wq
 refine .fit (s' := (⟨[0, 2, 3, 4], [.str [100, 105, 118], .undef, .ptr 0 0, .undef], [], 40, ⟨2, [[], VE 0 [] 1 7 ([root0].map aNode) pNew []]⟩⟩ : St)) [(0, 1), (1, 0)] [] ⟨rfl, rfl, rfl, by simp [fitL, fitV, lookN, pureV], ⟨by simp, by simp, by simp [Heap.ents, VE, ownF], by simp, by simp, by simp, fun e he => ?_, fun x hx => by cases hx⟩⟩ ?_
 ·simp [Heap.ents, VE, ownF, ownV] at he
  rcases he with rfl | rfl
  ·exact ⟨1, _, by simp, rfl, by simp [fitB, fitL, fitV, lookN, pNew, pureV]⟩
  ·exact ⟨0, _, by simp, rfl, by simp [fitB, flatAV, AV.cells, aNode]⟩
 have bN : buildA Tryz.prog 41 [(0, .int .i64 1), (2, .str [104, 116, 109, 108])] = some (.agg [.int .i64 1, .int .i64 0, .str [104, 116, 109, 108], .nilS, .str [], .int .i64 0, .nilS]) := rfl
 have hadd2 := hadd.norm1 (args := [.agg [.int .i64 1, .int .i64 0, .str [104, 116, 109, 108], .nilS, .str [], .int .i64 0, .nilS]]) (by simp [fitL, fitV, aNode, Nd.cs, aInt, aAttrs, aInts, pureV])
 repeat apply wq
 refine wps_region (callOKF [⟨13, _, _, _, _, hadd2⟩]) ?_
 simp [zS, callF, bN]
 repeat apply wq
 refine wps_region (callOKF [⟨14, _, _, _, _, hput⟩]) ?_
 simp [zS, callF]
 have pL := @prom_L
 have kl := fun H => k15 hL [100, 105, 118] H
 generalize hF : flatAV (s0.tree.map aNode) = F at *
 have aN := @ap_n
 have el : lexedI [100, 105, 118] = 0 := by decide
 rw [el] at kl
 repeat apply wq
 refine wps_region callOK ?_
 simp [zS, pL, pNew, pureL, pureV, aN]
 repeat apply wq
 refine wps_region callOK ?_
 simp [zS, pL, pNew, pureL, pureV, kl]
 repeat apply wq
 refine .fit (s' := (⟨[0, 2, 3, 4], [.str [100, 105, 118], .undef, .ptr 0 0, .undef], [], 40, ⟨3, [[], VS 2 ⟨s0.tree, [1], [], 0, 0, 0, 0, 0, false, false, [100, 105, 118]⟩]⟩⟩ : St)) [(2, 2), (0, 0)] [(4, [.int .i64 1])] ⟨rfl, rfl, rfl, by simp [fitL, fitV, lookN, pureV], ?_⟩ ?_
 ·have hf := fitSG (N := 0) (k := 2) (k' := 2) (m' := 3) (H := ⟨5, [[(3, .cells [.int .i64 1])], [(4, .cells [.int .i64 1]), (0, .cells [nV 2 s0.tree, .slc 4 0 1 (.rest 1), .nilS, .int .i64 0, .int .i64 0, .int .i64 0, .int .i64 0, .int .i64 0, .bool false, .bool false, .str [100, 105, 118]]), (2, .cells F)]]⟩) (s' := ⟨s0.tree, [1], [], 0, 0, 0, 0, 0, false, false, [100, 105, 118]⟩) (Φ := [(4, [.int .i64 1])])
   ⟨by omega, by omega, by omega⟩ (by omega) (by omega) (by simp [s0]) (by simp [Heap.get, getFs, getF]; rfl) (by simp [Heap.get, getFs, getF, hF]) (by
    simp only [fitL, SS.post]
    refine ⟨by simp [fitV, lookN], fitV_ints (L := [1]) rfl, by simp [fitV, aInts], ?_⟩
    simp [fitV, pureV]) (by simp) (fun x hx => by simp at hx; subst hx; exact ⟨by simp [Heap.get, getFs, getF], by simp [pureL, pureV]⟩)
  exact ⟨hf.nd1, hf.nd2, by simpa [Heap.ents] using hf.nd3, hf.lt, hf.idn, hf.num, fun e he => hf.src e (by simpa [Heap.ents] using he), hf.frz⟩
 have kR := fun n k fr => @k16d T hR ⟨s0.tree, [1], [], 0, 0, 0, 0, 0, false, false, [100, 105, 118]⟩ (by simp [s0]) rfl (by intro i hi; simp at hi; subst hi; simp [s0]) rfl n k fr
 repeat apply wq
 refine wps_region callOK ?_
 simp [zS, kR]
 repeat apply wq
 refine wps_region callOK ?_
 simp [zS]
 repeat apply wq
 refine wps_ret ?_
 simp [retVal, Tryz.f5, oneOr]
 exact ⟨[(3, 2), (0, 0)], [], by simp [fitV, lookN], fitS (s := s0) ⟨by omega, by omega, by omega⟩ (by omega) (by omega) (by simp [s0]) rfl rfl⟩
end Go.Proofs.YtfgdcciaecajpaaGreat