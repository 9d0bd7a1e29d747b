/- early: ahead of html, ahead of the head, where text follows. No condition. -/
import Derived.Test.YtfgdcciaecajpaaGreatDoorMI
import Derived.Test.YtfgdcciaecajpaaGreatDoorMN
import Derived.Test.YtfgdcciaecajpaaGreatDoorMG
import Derived.Shelf.Strings.SlTrimAscii
import Derived.Test.YtfgdcciaecajpaaGreatDoorProg
import Derived.Test.YtfgdcciaecajpaaGreatDoorML
namespace Go.Proofs.YtfgdcciaecajpaaGreatDoor
set_option linter.unusedSimpArgs false
set_option linter.unusedVariables false
open Go Go.RowKit
set_option maxRecDepth 100000
theorem c22o {T : List (Entry Tryz.prog)} (L : List At1) (hl : L.length ≤ 1000) : CallAt (ctx T) 22 [aAttrs L] ⟨0, []⟩ (ownV 0 2 (L.map aAttr)) ⟨1, [ownF 0 (L.map aAttr)]⟩ := by
 have happ := app_lits (P := Tryz.prog) (elem := 53) (b := 0) (m := 1) (es := L.map aAttr) (g := []) (fs := []) szT53 byT53 zeT53 rfl (by omega) (by omega) (el_attr _) (single_attr _) (by simp; omega)
 cases L with
 | nil =>
  refine callAt_body (fn := Tryz.f22) (s0 := ⟨[0, 2], [.fslc 2 [], .undef], [], 8, ⟨0, [[]]⟩⟩) Tryz.func22 rfl rfl rfl ?_
  repeat apply wq
  refine wps_region callOK ?_
  simp [zS]
  refine wps_empty (pre := []) ?_ ?_
  ·repeat apply wq
   refine wps_region callOK ?_
   simp [zS]
   repeat apply wq
   refine wps_ct rfl ?_
   repeat apply wq
   refine wps_region callOK ?_
   simp [zS]
   repeat apply wq
   refine wps_ret ?_
   simp [retVal, Tryz.f22, oneOr]
   exact ends_none (.inl rfl)
  ·repeat apply wq
   refine wps_region callOK ?_
   simp [zS]
   repeat apply wq
   refine wps_cf rfl ?_
   repeat apply wq
   refine wps_skip ?_
   simp
   have happ : appendA Tryz.prog ⟨1, [[(0, .cells [])]]⟩ 53 (.slc 0 0 0 (.ex 0)) .eslc = some (.slc 0 0 0 (.ex 0), ⟨1, [[(0, .cells [])]]⟩) := rfl
   repeat apply wq
   refine wps_region callOK ?_
   simp [zS, happ]
   repeat apply wq
   refine wps_ret ?_
   simp [retVal, Tryz.f22, oneOr]
   exact ends_none (.inr (.inr ⟨_, rfl⟩))
 | cons x r =>
  have e1 : litV 0 1 2 ((x :: r).map aAttr) = .slc 1 0 (r.length + 1) (.rest 2) := by simp [litV]
  have e2 : ownH ⟨1, [[(0, .cells [])]]⟩ ((x :: r).map aAttr) = ⟨2, [[(1, .cells (flatAV ((x :: r).map aAttr))), (0, .cells [])]]⟩ := rfl
  rw [e1, e2] at happ
  refine callAt_body (fn := Tryz.f22) (s0 := ⟨[0, 2], [aAttrs (x :: r), .undef], [], 8, ⟨0, [[]]⟩⟩) Tryz.func22 rfl rfl rfl ?_
  repeat apply wq
  refine wps_region callOK ?_
  simp [zS, aAttrs]
  repeat apply wq
  refine wps_region callOK ?_
  simp [zS, aAttrs]
  repeat apply wq
  refine wps_cf rfl ?_
  repeat apply wq
  refine wps_skip ?_
  simp
  simp only [List.map_cons] at happ
  repeat apply wq
  refine wps_region callOK ?_
  simp [zS, happ]
  repeat apply wq
  refine wps_ret ?_
  simp [retVal, Tryz.f22, oneOr]
  exact ends_own (b := 1) (es := (x :: r).map aAttr) (el_attr _) (by simp) (by simp) (by simp [Heap.get, getFs, getF])
noncomputable def e22o : Entry Tryz.prog := mkOwn 22 [[2]] (fun L : List At1 => [aAttrs L]) (fun L => L.length ≤ 1000) 2 (fun L => L.map aAttr) el_attr fun L hl => c22o (T := []) L hl
theorem k22o {T : List (Entry Tryz.prog)} (hT : findE 22 T = some e22o.g) {L : List At1} (hl : L.length ≤ 1000) (H : Heap) : callL (ctx T) (.fn 22) [aAttrs L] H = some (ownV H.n 2 (L.map aAttr), ownH H (L.map aAttr)) :=
 mkOwn_eq hT (fun x y h => by simp at h; exact inj_aAttrs h) L hl (by simp [pureL]) (by simp [thawL, thawA_ok]) H
theorem c113 {T : List (Entry Tryz.prog)} (hP : findE 136 T = some e136.g) (hC : findE 22 T = some e22o.g) (L : List At1) (a : At1) (hl : L.length ≤ 900) : CallAt (ctx T) 113 [aAttrs L, aAttr a] ⟨0, []⟩ (aAttrs (addA L a)) ⟨0, []⟩ := by
 refine CallAt.froze (es := (addA L a).map aAttr) (el_attr _) ?_
 refine callAt_body (fn := Tryz.f113) (s0 := ⟨[0, 1, 3, 4, 5], [aAttrs L, aAttr a, .undef, .undef, .undef], [], 18, ⟨0, [[]]⟩⟩) Tryz.func113 rfl rfl rfl ?_
 repeat apply wq
 refine wps_region callOK ?_
 simp [zS, aAttr]
 repeat apply wq
 refine wps_region callOK ?_
 simp [zS, k22o hC (show L.length ≤ 1000 by omega)]
 repeat apply wq
 refine .fit (s' := (⟨[0, 1, 3, 4, 5], [aAttrs L, .undef, .ptr 0 0, .undef, ownV 1 2 (L.map aAttr)], [], 18, ⟨2, [ownF 1 (L.map aAttr) ++ [(0, Blk.cells [.str a.1, .str a.2])]]⟩⟩ : St)) [(1, 1), (0, 0)] [] ⟨rfl, rfl, rfl, ?_, .canon (b := 1) (g := [(0, .cells [.str a.1, .str a.2])]) (el_attr L) (by simp [fitB, fitL, fitV, pureV]) (by simp)⟩ ?_
 ·simp [fitL, fitV, lookN, fitV_own]
 ·have hp := k136 hP (L := L) a.1 (show L.length ≤ 1000 by omega) (H := ⟨2, [ownF 1 (L.map aAttr) ++ [(0, .cells [.str a.1, .str a.2])]]⟩) (th_aAttrs _ L)
  have hg : getF 0 (ownF 1 (L.map aAttr) ++ [(0, .cells [.str a.1, .str a.2])]) = some (.cells [.str a.1, .str a.2]) := by cases L <;> rfl
  repeat apply wq
  refine wps_region callOK ?_
  simp [zS, hp, hg]
  repeat apply wq
  refine wps_cond rfl (fun h => ?_) fun h => ?_
  ·simp at h
   have happ := own_app1 (P := Tryz.prog) (elem := 53) (b := 1) (t := 2) (m := 3) (es := L.map aAttr) (cs := [.str a.1, .str a.2]) (g := [(0, .cells [.str a.1, .str a.2])]) (fs := []) szT53 byT53 zeT53 rfl (by omega) (by omega) rfl rfl (el_attr L) (by simp; omega) (by omega) (by simp) (by simp)
   repeat apply wq
   refine wps_region callOK ?_
   simp [zS, hg, happ]
   repeat apply wq
   refine wps_region callOK ?_
   simp [zS]
   repeat apply wq
   refine wps_ret ?_
   simp [retVal, Tryz.f113, oneOr]
   have e : addA L a = L ++ [a] := if_pos h
   have e2 : (addA L a).map aAttr = L.map aAttr ++ [aAttr a] := by rw [e]; simp
   exact ends_own (b := 3) (es := (addA L a).map aAttr) (el_attr _) (by rw [e2]; simp) (by rw [e2]; simp) (by rw [e2, flat_append]; simp [Heap.get, getFs, getF, flatAV, Heap.new, pushF, aAttr])
  ·simp at h
   repeat apply wq
   refine wps_skip ?_
   simp
   repeat apply wq
   refine wps_region callOK ?_
   simp [zS]
   repeat apply wq
   refine wps_ret ?_
   simp [retVal, Tryz.f113, oneOr]
   have e : addA L a = L := if_neg (by omega)
   rw [e]
   cases L with
   | nil => exact ends_none (.inr (.inl rfl))
   | cons b r => exact ends_own (b := 1) (es := (b :: r).map aAttr) (el_attr _) (by simp) rfl (by simp [Heap.get, getFs, getF, ownF])
noncomputable def e113 : Entry Tryz.prog := mkE 113 [[2], [0, 0]] (fun x : List At1 × At1 => [aAttrs x.1, aAttr x.2]) (fun x => x.1.length ≤ 900) (fun x => aAttrs (addA x.1 x.2)) fun x hx => c113 (T := [e136, e22o]) rfl rfl x.1 x.2 hx
def setAts (t : Tr) (i : Nat) (L : List At1) : Tr := t.take i ++ { nodeAt t i with attrs := L } :: t.drop (i + 1)
theorem setAts_ne (t : Tr) (i : Nat) (L : List At1) : setAts t i L ≠ [] := by simp [setAts]
theorem setAts_len {t : Tr} {i : Nat} (h : i < t.length) (L : List At1) : (setAts t i L).length = t.length := by simp [setAts]; omega
theorem setAts_at {t : Tr} {i : Nat} (h : i < t.length) (L : List At1) : nodeAt (setAts t i L) (i : Int) = { nodeAt t i with attrs := L } := by
 have h2 : i < (setAts t i L).length := by rw [setAts_len h]; exact h
 rw [nodeAt_get h2]
 simp [setAts, List.getElem_append_right, List.length_take, Nat.min_eq_left (Nat.le_of_lt h)]
theorem setAts_self {t : Tr} {i : Nat} (h : i < t.length) : setAts t i (nodeAt t i).attrs = t := (tree_split h).symm
theorem setAts_set {t : Tr} {i : Nat} (h : i < t.length) (L M : List At1) : setAts (setAts t i L) i M = setAts t i M := by
 have e := setAts_at h L
 have hl : (t.take i).length = i := by simp; omega
 have h1 : (setAts t i L).take i = t.take i := by
  unfold setAts
  rw [List.take_append_of_le_length (by omega), List.take_of_length_le (by omega)]
 have h2 : (setAts t i L).drop (i + 1) = t.drop (i + 1) := by
  unfold setAts
  rw [List.drop_append, hl]
  simp [Nat.min_eq_left (Nat.le_of_lt h), hl, List.drop_eq_nil_of_le]
 generalize setAts t i L = X at *
 have h3 : setAts X i M = X.take i ++ { nodeAt X i with attrs := M } :: X.drop (i + 1) := rfl
 rw [h3, h1, h2, e]
 rfl
theorem lay_at2 {t : Tr} {i : Nat} (h : i < t.length) (L : List At1) : layL [aAttrs L] (i * 7 + 3) (flatAV (t.map aNode)) = some (flatAV ((setAts t i L).map aNode)) := by
 have hl : (flatAV ((t.take i).map aNode)).length = i * 7 := by rw [(el_node _).len]; simp; omega
 have e1 : flatAV (t.map aNode) = (flatAV ((t.take i).map aNode) ++ [aInt (nodeAt t i).kind, aInt (nodeAt t i).space, .str (nodeAt t i).name]) ++ [aAttrs (nodeAt t i).attrs] ++ ([.str (nodeAt t i).data, aInt (nodeAt t i).up, aInts (nodeAt t i).kids] ++ flatAV ((t.drop (i + 1)).map aNode)) := by
  conv => lhs; rw [tree_split h]
  simp [flat_append, flatAV, Nd.cs]
 have e2 : flatAV ((setAts t i L).map aNode) = (flatAV ((t.take i).map aNode) ++ [aInt (nodeAt t i).kind, aInt (nodeAt t i).space, .str (nodeAt t i).name]) ++ [aAttrs L] ++ ([.str (nodeAt t i).data, aInt (nodeAt t i).up, aInts (nodeAt t i).kids] ++ flatAV ((t.drop (i + 1)).map aNode)) := by
  unfold setAts
  simp [flat_append, flatAV, Nd.cs]
 rw [e1, e2]
 have := layL_app (a := flatAV ((t.take i).map aNode) ++ [aInt (nodeAt t i).kind, aInt (nodeAt t i).space, .str (nodeAt t i).name]) (b := [aAttrs (nodeAt t i).attrs]) (b' := [aAttrs L]) (c := [.str (nodeAt t i).data, aInt (nodeAt t i).up, aInts (nodeAt t i).kids] ++ flatAV ((t.drop (i + 1)).map aNode)) rfl
 rw [List.length_append, hl] at this
 exact this
def attrS (s : SS) (i : Nat) (L : List At1) : SS := { s with tree := setAts s.tree i L }
theorem k113 {T : List (Entry Tryz.prog)} (hT : findE 113 T = some e113.g) {L : List At1} {a : At1} (hl : L.length ≤ 900) (H : Heap) : callL (ctx T) (.fn 113) [aAttrs L, .agg [.str a.1, .str a.2]] H = some (aAttrs (addA L a), H) :=
 mkE_pure hT (fun x y h => by simp only [List.cons.injEq, and_true] at h; exact Prod.ext (inj_aAttrs h.1) (inj_aAttr h.2)) (L, a) hl (by simp [pureL, pureV]) (by simp [thawL, thawA, okV, pureL, pureV, aAttrs, aAttr]) H
def lendB (s : SS) (at_ : Nat) (nm : Str) : Bool := decide (at_ < s.opn.length) && (decide (nm = []) || namedS (nodeS s.tree (s.opn.getD at_ 0)) nm)
def lendS (s : SS) (at_ : Nat) (nm : Str) (l : List At1) : SS := if lendB s at_ nm = true then attrS s (s.opn.getD at_ 0).toNat (l.foldl addA (nodeAt s.tree (s.opn.getD at_ 0)).attrs) else s
theorem lendS_ne {s : SS} (ne : s.tree ≠ []) (at_ : Nat) (nm : Str) (l : List At1) : (lendS s at_ nm l).tree ≠ [] := by
 unfold lendS attrS
 split
 ·exact setAts_ne _ _ _
 ·exact ne
theorem c83 {T : List (Entry Tryz.prog)} (hc0 : findE 64 T = some e64.g) (hc1 : findE 113 T = some e113.g) {s : SS} (ne : s.tree ≠ []) (at_ : Nat) (nm : Str) (l : List At1) (hW : asciiB nm) (hl : nm.length ≤ 100000) (hn : nmOk s.tree) (ho : s.opn.length ≤ 100000) (hr : ∀ i, i ∈ s.opn → 0 ≤ i ∧ i < (s.tree.length : Int)) (ha : at_ ≤ 100000) (h9 : (nodeAt s.tree (s.opn.getD at_ 0)).attrs.length + l.length ≤ 900) : SC T 83 [.int .i64 ((at_ : Nat) : Int), .str nm, aAttrs l] s (.tup []) (lendS s at_ nm l) := by
 have g0 := @vg0
 have v0 := @vset
 have lO := fun H => lenI (H := H) (L := s.opn)
 have fin : ∀ (s' : SS) (f : List (Nat × Blk)) (n : Nat), s'.tree ≠ [] → getF 0 f = none → getF 1 f = none → ∃ σ Φ, fitV σ Φ (AV.tup []) (AV.tup []) ∧ FitH 2 σ Φ ⟨n, [f, VS 1 s']⟩ ⟨3, [VS 2 s']⟩ := fun s' f n h1 h2 h3 => ends_S rfl rfl rfl (by decide) h1 h2 h3
 by_cases hlt : at_ < s.opn.length
 case neg =>
  have e : lendS s at_ nm l = s := by unfold lendS lendB; simp [hlt]
  have hge : ((s.opn.length : Int) ≤ (at_ : Int)) := by omega
  rw [e]
  clear hr h9
  refine callAt_body (fn := Tryz.f83) (s0 := ⟨[0, 1, 2, 3, 8, 10, 51, 52, 53], [.ptr 0 0, .int .i64 (at_ : Int), .str nm, aAttrs l, .undef, .undef, .undef, .undef, .undef], [], 67, ⟨2, [] :: [VS 1 s]⟩⟩) Tryz.func83 rfl rfl rfl ?_
  (repeat' (first
   | with_reducible refine wps_seq ?_
   | with_reducible refine wps_block ?_
   | (with_reducible refine wps_label ?_; simp only [thenQ, blockQ])
   | (with_reducible refine wps_region callOK ?_; apply runE; simp [zS, *, SS.post]; exact rfl)
   | (with_reducible refine run_end ?_; simp only [thenQ, blockQ])
   | (refine wps_drawQ mixed callOK (by decide +kernel) (by decide +kernel) rfl ?_; apply runQ; simp [zS, zW, clsOf, mkBlk, guardA, Heap.lay, ontoF, *, SS.post]; exact rfl)
   | (with_reducible refine run_endQ ?_; refine ⟨by repeat first | exact okC_n | refine okC_c (by decide +kernel) ?_, ?_⟩; simp only [thenQ, blockQ, allPend, Heap.lay, ontoF])
   | (with_reducible refine gate_splitQ (fun hc => ?_) (fun hc => ?_) <;> ((have hd := hc); (try simp at hd); (try subst hd); apply runQ; simp [zS, zW, clsOf, mkBlk, guardA, Heap.lay, ontoF, *, SS.post]; exact rfl))
   | (with_reducible refine gate_splitX (fun hc => ?_) (fun hc => ?_) <;> ((have hd := hc); (try simp at hd); (try subst hd); apply runQ; simp [zS, zW, clsOf, mkBlk, guardA, Heap.lay, ontoF, *, SS.post]; exact rfl))
   | (with_reducible refine pick_splitQ (fun hc => ?_) (fun hc => ?_) <;> ((have hd := hc); (try simp at hd); (try subst hd); apply runQ; simp [zS, zW, clsOf, mkBlk, guardA, Heap.lay, ontoF, *, SS.post]; exact rfl))
   | (with_reducible refine gate_split (fun hc => ?_) (fun hc => ?_) <;> ((have hd := hc); (try simp at hd); (try subst hd); apply runE; simp [zS, *, SS.post]; exact rfl))
   | (with_reducible refine pick_split (fun hc => ?_) (fun hc => ?_) <;> ((have hd := hc); (try simp at hd); (try subst hd); apply runE; simp [zS, *, SS.post]; exact rfl))
   | (refine wps_ct rfl ?_)
   | (refine wps_cf rfl ?_)
   | (refine wps_cond rfl (fun hc => ?_) (fun hc => ?_) <;> ((have hd := hc); (try simp at hd); (try subst hd)))
   | (with_reducible refine wps_skip ?_; simp only [thenQ, blockQ])
   | (with_reducible refine wps_exit ?_; simp [thenQ, blockQ])
   | (with_reducible refine wps_ret ?_; simp [retVal, Tryz.f83, oneOr, thenQ, blockQ])))
  all_goals first | (((try simp [retVal, Tryz.f83, oneOr]); exact fin _ _ _ ne rfl rfl)) | (exfalso; omega)
 case pos =>
  obtain ⟨q, hq⟩ : ∃ q, q = s.opn.getD at_ 0 := ⟨_, rfl⟩
  rw [← hq] at h9
  have hqi : q = s.opn[at_] := by rw [hq]; simp [List.getD_eq_getElem?_getD, hlt]
  obtain ⟨u, hu⟩ : ∃ u : Nat, q = (u : Int) := ⟨q.toNat, by have := (hr q (hqi ▸ List.getElem_mem hlt)).1; omega⟩
  have hul : u < s.tree.length := by have := (hr q (hqi ▸ List.getElem_mem hlt)).2; omega
  have hge : ¬ ((s.opn.length : Int) ≤ (at_ : Int)) := by omega
  have hat := atI hlt
  rw [← hqi, hu] at hat
  have kI := fun n k f (k0 : 0 < k) (hf : getF k f = none) => q64 hc0 (thS (n := n) k0 ne hf) (u : Int) hW hl (hn _)
  obtain ⟨b, hb⟩ : ∃ b, b = namedS (nodeS s.tree (u : Int)) nm := ⟨_, rfl⟩
  rw [← hb] at kI
  rw [hu] at h9
  have eB : lendB s at_ nm = (decide (nm = []) || b) := by unfold lendB; rw [← hq, hu, ← hb]; simp [hlt]
  have eS : lendS s at_ nm l = if (decide (nm = []) || b) = true then attrS s u (l.foldl addA (nodeAt s.tree (u : Int)).attrs) else s := by unfold lendS; rw [eB, ← hq, hu]; rfl
  rw [eS]
  clear eS eB hr hn hq hqi
  by_cases hgo : nm = [] ∨ b = true
  case neg =>
   have h1 : ¬ nm = [] := fun h => hgo (.inl h)
   have h2 : b = false := by cases b with | false => rfl | true => exact absurd (.inr rfl) hgo
   subst h2
   rw [if_neg (by simp [h1])]
   clear hb hgo
   refine callAt_body (fn := Tryz.f83) (s0 := ⟨[0, 1, 2, 3, 8, 10, 51, 52, 53], [.ptr 0 0, .int .i64 (at_ : Int), .str nm, aAttrs l, .undef, .undef, .undef, .undef, .undef], [], 67, ⟨2, [] :: [VS 1 s]⟩⟩) Tryz.func83 rfl rfl rfl ?_
   (repeat' (first
    | with_reducible refine wps_seq ?_
    | with_reducible refine wps_block ?_
    | (with_reducible refine wps_label ?_; simp only [thenQ, blockQ])
    | (with_reducible refine wps_region callOK ?_; apply runE; simp [zS, *, SS.post]; exact rfl)
    | (with_reducible refine run_end ?_; simp only [thenQ, blockQ])
    | (refine wps_drawQ mixed callOK (by decide +kernel) (by decide +kernel) rfl ?_; apply runQ; simp [zS, zW, clsOf, mkBlk, guardA, Heap.lay, ontoF, *, SS.post]; exact rfl)
    | (with_reducible refine run_endQ ?_; refine ⟨by repeat first | exact okC_n | refine okC_c (by decide +kernel) ?_, ?_⟩; simp only [thenQ, blockQ, allPend, Heap.lay, ontoF])
    | (with_reducible refine gate_splitQ (fun hc => ?_) (fun hc => ?_) <;> ((have hd := hc); (try simp at hd); (try subst hd); apply runQ; simp [zS, zW, clsOf, mkBlk, guardA, Heap.lay, ontoF, *, SS.post]; exact rfl))
    | (with_reducible refine gate_splitX (fun hc => ?_) (fun hc => ?_) <;> ((have hd := hc); (try simp at hd); (try subst hd); apply runQ; simp [zS, zW, clsOf, mkBlk, guardA, Heap.lay, ontoF, *, SS.post]; exact rfl))
    | (with_reducible refine pick_splitQ (fun hc => ?_) (fun hc => ?_) <;> ((have hd := hc); (try simp at hd); (try subst hd); apply runQ; simp [zS, zW, clsOf, mkBlk, guardA, Heap.lay, ontoF, *, SS.post]; exact rfl))
    | (with_reducible refine gate_split (fun hc => ?_) (fun hc => ?_) <;> ((have hd := hc); (try simp at hd); (try subst hd); apply runE; simp [zS, *, SS.post]; exact rfl))
    | (with_reducible refine pick_split (fun hc => ?_) (fun hc => ?_) <;> ((have hd := hc); (try simp at hd); (try subst hd); apply runE; simp [zS, *, SS.post]; exact rfl))
    | (refine wps_ct rfl ?_)
    | (refine wps_cf rfl ?_)
    | (refine wps_cond rfl (fun hc => ?_) (fun hc => ?_) <;> ((have hd := hc); (try simp at hd); (try subst hd)))
    | (with_reducible refine wps_skip ?_; simp only [thenQ, blockQ])
    | (with_reducible refine wps_exit ?_; simp [thenQ, blockQ])
    | (with_reducible refine wps_ret ?_; simp [retVal, Tryz.f83, oneOr, thenQ, blockQ])))
   all_goals first | (((try simp [retVal, Tryz.f83, oneOr]); exact fin _ _ _ ne rfl rfl)) | (exfalso; omega)
  case pos =>
   rw [if_pos (by rcases hgo with h | h <;> simp [h])]
   have ix := ixN (k := 1) hul
   have lA : ∀ H, lenA Tryz.prog H 25 (aAttrs l) = some l.length := fun H => by simp [lenA, aAttrs]
   obtain ⟨A0, hA0⟩ : ∃ A0, A0 = (nodeAt s.tree (u : Int)).attrs := ⟨_, rfl⟩
   rw [← hA0] at h9 ⊢
   obtain ⟨stl, hstl⟩ : ∃ stl : Nat → SS, stl = fun j => attrS s u ((l.take j).foldl addA A0) := ⟨_, rfl⟩
   have e0 : stl 0 = s := by rw [hstl]; simp only [List.take_zero, List.foldl_nil, hA0]; unfold attrS; rw [setAts_self hul]
   have eE : attrS s u (l.foldl addA A0) = stl l.length := by rw [hstl]; simp
   have nS : ∀ j, (stl j).tree ≠ [] := fun j => by rw [hstl]; exact setAts_ne _ _ _
   have kA := @k113 T hc1
   rw [eE]
   clear hb eE
   have fits : ∀ (j : Nat) (f : List (Nat × Blk)) (n : Nat), getF 0 f = none → getF 1 f = none → FitH 2 [(1, 1), (0, 0)] [] ⟨n, [f, VS 1 (stl j)]⟩ ⟨2, [[], VS 1 (stl j)]⟩ := fun j f n h1 h2 => fitS1 ⟨by omega, by omega, by omega⟩ (by omega) (by omega) (nS j) h1 h2
   have hgo2 : ¬ nm = [] → b = true := fun h => hgo.resolve_left h
   by_cases hnm : nm = []
   all_goals
    try have hbt := hgo2 hnm
    clear hgo hgo2
    refine callAt_body (fn := Tryz.f83) (s0 := ⟨[0, 1, 2, 3, 8, 10, 51, 52, 53], [.ptr 0 0, .int .i64 (at_ : Int), .str nm, aAttrs l, .undef, .undef, .undef, .undef, .undef], [], 67, ⟨2, [] :: [VS 1 s]⟩⟩) Tryz.func83 rfl rfl rfl ?_
    (repeat' (first
     | with_reducible refine wps_seq ?_
     | with_reducible refine wps_block ?_
     | (with_reducible refine wps_label ?_; simp only [thenQ, blockQ])
     | (with_reducible refine wps_region callOK ?_; apply runE; simp [zS, *, SS.post]; exact rfl)
     | (with_reducible refine run_end ?_; simp only [thenQ, blockQ])
     | (refine wps_drawQ mixed callOK (by decide +kernel) (by decide +kernel) rfl ?_; apply runQ; simp [zS, zW, clsOf, mkBlk, guardA, Heap.lay, ontoF, *, SS.post]; exact rfl)
     | (with_reducible refine run_endQ ?_; refine ⟨by repeat first | exact okC_n | refine okC_c (by decide +kernel) ?_, ?_⟩; simp only [thenQ, blockQ, allPend, Heap.lay, ontoF])
     | (with_reducible refine gate_splitQ (fun hc => ?_) (fun hc => ?_) <;> ((have hd := hc); (try simp at hd); (try subst hd); apply runQ; simp [zS, zW, clsOf, mkBlk, guardA, Heap.lay, ontoF, *, SS.post]; exact rfl))
     | (with_reducible refine gate_splitX (fun hc => ?_) (fun hc => ?_) <;> ((have hd := hc); (try simp at hd); (try subst hd); apply runQ; simp [zS, zW, clsOf, mkBlk, guardA, Heap.lay, ontoF, *, SS.post]; exact rfl))
     | (with_reducible refine pick_splitQ (fun hc => ?_) (fun hc => ?_) <;> ((have hd := hc); (try simp at hd); (try subst hd); apply runQ; simp [zS, zW, clsOf, mkBlk, guardA, Heap.lay, ontoF, *, SS.post]; exact rfl))
     | (with_reducible refine gate_split (fun hc => ?_) (fun hc => ?_) <;> ((have hd := hc); (try simp at hd); (try subst hd); apply runE; simp [zS, *, SS.post]; exact rfl))
     | (with_reducible refine pick_split (fun hc => ?_) (fun hc => ?_) <;> ((have hd := hc); (try simp at hd); (try subst hd); apply runE; simp [zS, *, SS.post]; exact rfl))
     | (refine wps_ct rfl ?_)
     | (refine wps_cf rfl ?_)
     | (refine wps_cond rfl (fun hc => ?_) (fun hc => ?_) <;> ((have hd := hc); (try simp at hd); (try subst hd)))
     | (with_reducible refine wps_skip ?_; simp only [thenQ, blockQ])
     | (with_reducible refine wps_exit ?_; simp [thenQ, blockQ])
     | (with_reducible refine wps_ret ?_; simp [retVal, Tryz.f83, oneOr, thenQ, blockQ])))
    all_goals first | (skip) | (exfalso; omega)
    clear ix hat lO hge kI
    repeat apply wq
    refine wps_loop' (fun j : Nat => (⟨[0, 1, 2, 3, 8, 10, 51, 52, 53], [.ptr 0 0, .int .i64 (at_ : Int), .undef, aAttrs l, .ptr 1 (u * 7), .undef, aAttrs l, .int .i64 (l.length : Int), .int .i64 (j : Int)], [], 67, ⟨2, [[], VS 1 (stl j)]⟩⟩ : St)) (fun j => j ≤ l.length) (fun j => l.length - j) [(1, 1), (0, 0)] [] 0 (Nat.zero_le _)
     ⟨rfl, rfl, rfl, by simp [fitL, fitV, lookN, pureV], by have := fits 0 [] 43 rfl rfl; rw [e0] at this ⊢; exact this⟩ ?_
    intro j hj B hB
    by_cases hjl : j < l.length
    ·have hB1 := fun (f : List (Nat × Blk)) (n : Nat) (h1 : getF 0 f = none) (h2 : getF 1 f = none) (hB' : _) => hB ⟨[0, 1, 2, 3, 8, 10, 51, 52, 53], [.ptr 0 0, .int .i64 (at_ : Int), .undef, aAttrs l, .ptr 1 (u * 7), .undef, aAttrs l, .int .i64 (l.length : Int), .int .i64 ((j + 1 : Nat) : Int)], [], 67, ⟨n, [f, VS 1 (stl (j + 1))]⟩⟩ (j + 1) (by omega) (by omega) hB'
     obtain ⟨Aj, hAj⟩ : ∃ Aj, Aj = (l.take j).foldl addA A0 := ⟨_, rfl⟩
     have hAl : Aj.length ≤ 900 := by
      have := foldA_len (l.take j) A0
      rw [← hAj] at this
      simp at this; omega
     have hsj : stl j = attrS s u Aj := by rw [hstl, hAj]
     have hsn : stl (j + 1) = attrS s u (addA Aj l[j]) := by rw [hstl, hAj]; simp only [List.take_succ_eq_append_getElem hjl, List.foldl_append, List.foldl_cons, List.foldl_nil]
     have g0 := vg0 (k := 1) (nS j)
     have gk := vgk (k := 1) (by omega) (nS j)
     have hlj : (stl j).tree.length = s.tree.length := by rw [hsj]; exact setAts_len hul _
     have gA : getL (flatAV ((stl j).tree.map aNode)) (u * 7 + 3) = some (aAttrs Aj) := by
      rw [getN (by omega) (by omega), hsj]
      show getL (nodeAt (setAts s.tree u Aj) (u : Int)).cs 3 = _
      rw [setAts_at hul]
      rfl
     have ld : layL [aAttrs (addA Aj l[j])] (u * 7 + 3) (flatAV ((stl j).tree.map aNode)) = some (flatAV ((stl (j + 1)).tree.map aNode)) := by
      rw [lay_at2 (by omega), hsj, hsn]
      show some (flatAV ((setAts (setAts s.tree u Aj) u _).map aNode)) = _
      rw [setAts_set hul]
      rfl
     have sk : setF 1 (.cells (flatAV ((stl (j + 1)).tree.map aNode))) (VS 1 (stl j)) = some (VS 1 (stl (j + 1))) := by
      rw [set_k (by omega) (nS j) (by rw [hsj, hsn]; show (setAts _ _ _).length = (setAts _ _ _).length; rw [setAts_len hul, setAts_len hul])]
      rw [hsj, hsn]; rfl
     have kj := fun H => @kA Aj l[j] hAl H
     have ixA : indexAddrA Tryz.prog 25 (aAttrs l) (.int .i64 (j : Int)) = some (.fptr [.str l[j].1, .str l[j].2] 0) := by
      simp [indexAddrA, aAttrs, idx_nat hjl, getL_get, aAttr, AV.cells, hjl]
     have hlt2 : ((j : Int) < (l.length : Int)) := by omega
     have hw1 : wr .i64 ((j : Int) + 1) = some ((j : Int) + 1) := wr_small (by omega) (by omega)
     clear hsj hsn hlj hAj hstl kA hAl e0 hB1
     generalize l[j] = a at *
     (repeat' (first
      | with_reducible refine wps_seq ?_
      | with_reducible refine wps_block ?_
      | (with_reducible refine wps_label ?_; simp only [thenQ, blockQ])
      | (with_reducible refine wps_region callOK ?_; apply runE; simp [zS, *, SS.post]; exact rfl)
      | (with_reducible refine run_end ?_; simp only [thenQ, blockQ])
      | (refine wps_drawQ mixed callOK (by decide +kernel) (by decide +kernel) rfl ?_; apply runQ; simp [zS, zW, clsOf, mkBlk, guardA, Heap.lay, ontoF, *, SS.post]; exact rfl)
      | (with_reducible refine run_endQ ?_; refine ⟨by repeat first | exact okC_n | refine okC_c (by decide +kernel) ?_, ?_⟩; simp only [thenQ, blockQ, allPend, Heap.lay, ontoF])
      | (with_reducible refine gate_splitQ (fun hc => ?_) (fun hc => ?_) <;> ((have hd := hc); (try simp at hd); (try subst hd); apply runQ; simp [zS, zW, clsOf, mkBlk, guardA, Heap.lay, ontoF, *, SS.post]; exact rfl))
      | (with_reducible refine gate_splitX (fun hc => ?_) (fun hc => ?_) <;> ((have hd := hc); (try simp at hd); (try subst hd); apply runQ; simp [zS, zW, clsOf, mkBlk, guardA, Heap.lay, ontoF, *, SS.post]; exact rfl))
      | (with_reducible refine pick_splitQ (fun hc => ?_) (fun hc => ?_) <;> ((have hd := hc); (try simp at hd); (try subst hd); apply runQ; simp [zS, zW, clsOf, mkBlk, guardA, Heap.lay, ontoF, *, SS.post]; exact rfl))
      | (with_reducible refine gate_split (fun hc => ?_) (fun hc => ?_) <;> ((have hd := hc); (try simp at hd); (try subst hd); apply runE; simp [zS, *, SS.post]; exact rfl))
      | (with_reducible refine pick_split (fun hc => ?_) (fun hc => ?_) <;> ((have hd := hc); (try simp at hd); (try subst hd); apply runE; simp [zS, *, SS.post]; exact rfl))
      | (refine wps_ct rfl ?_)
      | (refine wps_cf rfl ?_)
      | (refine wps_cond rfl (fun hc => ?_) (fun hc => ?_) <;> ((have hd := hc); (try simp at hd); (try subst hd)))
      | (with_reducible refine wps_skip ?_; simp only [thenQ, blockQ])
      | (with_reducible refine wps_exit ?_; simp [thenQ, blockQ])
      | (with_reducible refine wps_ret ?_; simp [retVal, Tryz.f83, oneOr, thenQ, blockQ])))
     all_goals first | (exact hB _ (j + 1) (by omega) (by omega) ⟨[(1, 1), (0, 0)], [], rfl, rfl, rfl, by simp [fitL, fitV, lookN, pureV], fits (j + 1) _ _ (by simp [getF]) (by simp [getF])⟩) | (exfalso; omega)
    ·have hj2 : j = l.length := by omega
     subst hj2
     have hlt2 : ¬ ((l.length : Int) < (l.length : Int)) := by omega
     clear hstl e0
     (repeat' (first
      | with_reducible refine wps_seq ?_
      | with_reducible refine wps_block ?_
      | (with_reducible refine wps_label ?_; simp only [thenQ, blockQ])
      | (with_reducible refine wps_region callOK ?_; apply runE; simp [zS, *, SS.post]; exact rfl)
      | (with_reducible refine run_end ?_; simp only [thenQ, blockQ])
      | (refine wps_drawQ mixed callOK (by decide +kernel) (by decide +kernel) rfl ?_; apply runQ; simp [zS, zW, clsOf, mkBlk, guardA, Heap.lay, ontoF, *, SS.post]; exact rfl)
      | (with_reducible refine run_endQ ?_; refine ⟨by repeat first | exact okC_n | refine okC_c (by decide +kernel) ?_, ?_⟩; simp only [thenQ, blockQ, allPend, Heap.lay, ontoF])
      | (with_reducible refine gate_splitQ (fun hc => ?_) (fun hc => ?_) <;> ((have hd := hc); (try simp at hd); (try subst hd); apply runQ; simp [zS, zW, clsOf, mkBlk, guardA, Heap.lay, ontoF, *, SS.post]; exact rfl))
      | (with_reducible refine gate_splitX (fun hc => ?_) (fun hc => ?_) <;> ((have hd := hc); (try simp at hd); (try subst hd); apply runQ; simp [zS, zW, clsOf, mkBlk, guardA, Heap.lay, ontoF, *, SS.post]; exact rfl))
      | (with_reducible refine pick_splitQ (fun hc => ?_) (fun hc => ?_) <;> ((have hd := hc); (try simp at hd); (try subst hd); apply runQ; simp [zS, zW, clsOf, mkBlk, guardA, Heap.lay, ontoF, *, SS.post]; exact rfl))
      | (with_reducible refine gate_split (fun hc => ?_) (fun hc => ?_) <;> ((have hd := hc); (try simp at hd); (try subst hd); apply runE; simp [zS, *, SS.post]; exact rfl))
      | (with_reducible refine pick_split (fun hc => ?_) (fun hc => ?_) <;> ((have hd := hc); (try simp at hd); (try subst hd); apply runE; simp [zS, *, SS.post]; exact rfl))
      | (refine wps_ct rfl ?_)
      | (refine wps_cf rfl ?_)
      | (refine wps_cond rfl (fun hc => ?_) (fun hc => ?_) <;> ((have hd := hc); (try simp at hd); (try subst hd)))
      | (with_reducible refine wps_skip ?_; simp only [thenQ, blockQ])
      | (with_reducible refine wps_exit ?_; simp [thenQ, blockQ])
      | (with_reducible refine wps_ret ?_; simp [retVal, Tryz.f83, oneOr, thenQ, blockQ])))
     all_goals first | (((try simp [retVal, Tryz.f83, oneOr]); exact fin _ _ _ (nS _) (by simp [getF]) (by simp [getF]))) | (exfalso; omega)
theorem inj_83 (x y : Nat × Str × List At1) (h : (fun z : Nat × Str × List At1 => ([.int .i64 ((z.1 : Nat) : Int), .str z.2.1, aAttrs z.2.2] : List AV)) x = (fun z : Nat × Str × List At1 => ([.int .i64 ((z.1 : Nat) : Int), .str z.2.1, aAttrs z.2.2] : List AV)) y) : x = y := by
 obtain ⟨x0, x1, x2⟩ := x
 obtain ⟨y0, y1, y2⟩ := y
 simp only [List.cons.injEq, and_true] at h
 obtain ⟨h0, h1, h2⟩ := h
 have g0 : x0 = y0 := (by have := (AV.int.inj h0).2; omega)
 have g1 : x1 = y1 := AV.str.inj h1
 have g2 : x2 = y2 := inj_aAttrs h2
 subst g0 g1 g2
 rfl
noncomputable def e83 : Entry Tryz.prog := mkS 83 [[], [], [2]] (fun z : Nat × Str × List At1 => [.int .i64 ((z.1 : Nat) : Int), .str z.2.1, aAttrs z.2.2]) (fun z s => (asciiB z.2.1) ∧ (z.2.1.length ≤ 100000) ∧ (nmOk s.tree) ∧ (s.opn.length ≤ 100000) ∧ (∀ i, i ∈ s.opn → 0 ≤ i ∧ i < (s.tree.length : Int)) ∧ (z.1 ≤ 100000) ∧ ((nodeAt s.tree (s.opn.getD z.1 0)).attrs.length + z.2.2.length ≤ 900)) (fun z s => .tup []) (fun z s => lendS s z.1 z.2.1 z.2.2) fun z s ne h => ⟨c83 (T := [e64, e113]) rfl rfl ne z.1 z.2.1 z.2.2 h.1 h.2.1 h.2.2.1 h.2.2.2.1 h.2.2.2.2.1 h.2.2.2.2.2.1 h.2.2.2.2.2.2, by simp [pureL, pureV], by simp [pureV, pureL], lendS_ne ne _ _ _⟩
theorem k83 {T : List (Entry Tryz.prog)} (hT : findE 83 T = some e83.g) {s : SS} (ne : s.tree ≠ []) (at_ : Nat) (nm : Str) (l : List At1) (hW : asciiB nm) (hl : nm.length ≤ 100000) (hn : nmOk s.tree) (ho : s.opn.length ≤ 100000) (hr : ∀ i, i ∈ s.opn → 0 ≤ i ∧ i < (s.tree.length : Int)) (ha : at_ ≤ 100000) (h9 : (nodeAt s.tree (s.opn.getD at_ 0)).attrs.length + l.length ≤ 900) {n k : Nat} {fr : List (Nat × Blk)} (k0 : 0 < k) (kn : k < n) (of : offS k fr) : callL (ctx T) (.fn 83) [.ptr 0 0, .int .i64 ((at_ : Nat) : Int), .str nm, aAttrs l] ⟨n, [fr, VS k s]⟩ = some (.tup [], ⟨n + 1, [fr, VS n (lendS s at_ nm l)]⟩) :=
 mkS_eq hT inj_83 (at_, nm, l) ne ⟨hW, hl, hn, ho, hr, ha, h9⟩ (by simp [pureL, pureV]) (by simp [thawL, thawA_ok]) k0 kn of
end Go.Proofs.YtfgdcciaecajpaaGreatDoor
namespace Go.Proofs.YtfgdcciaecajpaaGreatDoor
set_option linter.unusedSimpArgs false
set_option linter.unusedVariables false
open Go Go.RowKit
set_option maxRecDepth 100000
set_option maxHeartbeats 1000000
noncomputable def e27z : Entry Tryz.prog := mkL 27 [[1]] (fun L : List Int => [aInts L]) (fun L => L.length ≤ 1000000) (fun L => L) fun L hl => c27 (T := []) L hl
theorem k27z {T : List (Entry Tryz.prog)} (hT : findE 27 T = some e27z.g) {L : List Int} (hl : L.length ≤ 1000000) (H : Heap) : callL (ctx T) (.fn 27) [aInts L] H = some (aInts L, H) :=
 mkL_eq hT (fun x y h => by simp only [List.cons.injEq, and_true] at h; exact inj_aInts h) L hl (by simp [thawL, thawA_ok])
theorem c72 {T : List (Entry Tryz.prog)} (hc0 : findE 27 T = some e27z.g) {s : SS} (ne : s.tree ≠ [])  (h : s.opn ≠ []) (ho : s.opn.length ≤ 100001) : SC T 72 [] s (.tup []) ({ s with opn := s.opn.dropLast }) := by
 have kc0 := @k27z T hc0
 have g0 := @vg0
 have v0 := @vset
 have lO := fun H => lenI (H := H) (L := s.opn)
 have hp := List.length_pos_iff.2 h
 have hw : wr .i64 ((s.opn.length : Int) - 1) = some ((s.opn.length - 1 : Nat) : Int) := by
  rw [show ((s.opn.length : Int) - 1) = ((s.opn.length - 1 : Nat) : Int) by omega]
  exact wr_small (by omega) (by omega)
 have hs := fun H => fsl_to (H := H) (L := s.opn) (k := s.opn.length - 1) (by omega)
 rw [← List.dropLast_eq_take] at hs
 have kC := fun H => kc0 (L := s.opn.dropLast) (by simp; omega) H
 clear kc0
 generalize ((s.opn.length - 1 : Nat) : Int) = w at *
 generalize s.opn.dropLast = D at *
 clear hp ho h
 refine callAt_body (fn := Tryz.f72) (s0 := ⟨[0], [.ptr 0 0], [], 17, ⟨2, [] :: [VS 1 s]⟩⟩) Tryz.func72 rfl rfl rfl ?_
 (repeat' (first
  | with_reducible refine wps_seq ?_
  | with_reducible refine wps_block ?_
  | (with_reducible refine wps_label ?_; simp only [thenQ, blockQ])
  | (with_reducible refine wps_region callOK ?_; apply runE; simp [zS, *, SS.post]; exact rfl)
  | (with_reducible refine run_end ?_; simp only [thenQ, blockQ])
  | (refine wps_drawQ mixed callOK (by decide +kernel) (by decide +kernel) rfl ?_; apply runQ; simp [zS, zW, clsOf, mkBlk, guardA, Heap.lay, ontoF, *, SS.post]; exact rfl)
  | (with_reducible refine run_endQ ?_; refine ⟨by repeat first | exact okC_n | refine okC_c (by decide +kernel) ?_, ?_⟩; simp only [thenQ, blockQ, allPend, Heap.lay, ontoF])
  | (with_reducible refine gate_splitQ (fun hc => ?_) (fun hc => ?_) <;> ((have hd := hc); (try simp at hd); (try subst hd); apply runQ; simp [zS, zW, clsOf, mkBlk, guardA, Heap.lay, ontoF, *, SS.post]; exact rfl))
  | (with_reducible refine gate_splitX (fun hc => ?_) (fun hc => ?_) <;> ((have hd := hc); (try simp at hd); (try subst hd); apply runQ; simp [zS, zW, clsOf, mkBlk, guardA, Heap.lay, ontoF, *, SS.post]; exact rfl))
  | (with_reducible refine pick_splitQ (fun hc => ?_) (fun hc => ?_) <;> ((have hd := hc); (try simp at hd); (try subst hd); apply runQ; simp [zS, zW, clsOf, mkBlk, guardA, Heap.lay, ontoF, *, SS.post]; exact rfl))
  | (with_reducible refine gate_split (fun hc => ?_) (fun hc => ?_) <;> ((have hd := hc); (try simp at hd); (try subst hd); apply runE; simp [zS, *, SS.post]; exact rfl))
  | (with_reducible refine pick_split (fun hc => ?_) (fun hc => ?_) <;> ((have hd := hc); (try simp at hd); (try subst hd); apply runE; simp [zS, *, SS.post]; exact rfl))
  | (refine wps_ct rfl ?_)
  | (refine wps_cf rfl ?_)
  | (refine wps_cond rfl (fun hc => ?_) (fun hc => ?_) <;> ((have hd := hc); (try simp at hd); (try subst hd)))
  | (with_reducible refine wps_skip ?_; simp only [thenQ, blockQ])
  | (with_reducible refine wps_exit ?_; simp [thenQ, blockQ])
  | (with_reducible refine wps_ret ?_; simp [retVal, Tryz.f72, oneOr, thenQ, blockQ])))
 all_goals first | ((try simp [retVal, Tryz.f72, oneOr]); exact ends_S (by simp [*]) (by first | rfl | (simp [*]; done)) (by simp [pureV, pureL]) (by decide) (ne) rfl rfl) | (exfalso; omega)
theorem inj_72 (x y : Unit) (h : (fun z : Unit => ([] : List AV)) x = (fun z : Unit => ([] : List AV)) y) : x = y := by
 rfl
noncomputable def e72 : Entry Tryz.prog := mkS 72 [] (fun z : Unit => []) (fun z s => (s.opn ≠ []) ∧ (s.opn.length ≤ 100001)) (fun z s => .tup []) (fun z s => { s with opn := s.opn.dropLast }) fun z s ne h => ⟨c72 (T := [e27z]) rfl ne  h.1 h.2, by simp [pureL, pureV], by simp [pureV, pureL], ne⟩
theorem k72 {T : List (Entry Tryz.prog)} (hT : findE 72 T = some e72.g) {s : SS} (ne : s.tree ≠ [])  (h : s.opn ≠ []) (ho : s.opn.length ≤ 100001) {n k : Nat} {fr : List (Nat × Blk)} (k0 : 0 < k) (kn : k < n) (of : offS k fr) : callL (ctx T) (.fn 72) [.ptr 0 0] ⟨n, [fr, VS k s]⟩ = some (.tup [], ⟨n + 1, [fr, VS n ({ s with opn := s.opn.dropLast })]⟩) :=
 mkS_eq hT inj_72 () ne ⟨h, ho⟩ (by simp [pureL, pureV]) (by simp [thawL, thawA_ok]) k0 kn of
def textsS (s : SS) (nm : Str) (L : List At1) : SS := { elS s 0 nm L with back := s.mode, mode := 6, lex := lexedI nm }
def aloneS (s : SS) (nm : Str) (L : List At1) : SS := { s with tree := elT s.tree (topI s.opn) 0 nm L }
theorem aloneS_eq (s : SS) (nm : Str) (L : List At1) : { elS s 0 nm L with opn := (elS s 0 nm L).opn.dropLast } = aloneS s nm L := by
 simp [aloneS, elS]
def metaA (x : Str) : Bool := decide (x = [98, 97, 115, 101] ∨ x = [98, 97, 115, 101, 102, 111, 110, 116] ∨ x = [98, 103, 115, 111, 117, 110, 100] ∨ x = [108, 105, 110, 107] ∨ x = [109, 101, 116, 97])
def metaT (x : Str) : Bool := decide (x = [116, 105, 116, 108, 101] ∨ x = [110, 111, 102, 114, 97, 109, 101, 115] ∨ x = [115, 116, 121, 108, 101] ∨ x = [115, 99, 114, 105, 112, 116])
def metaB (t : Tk) : Bool := decide (t.kind = 1) && (metaA t.name || metaT t.name)
def metaS (s : SS) (t : Tk) : SS := if t.kind = 1 then if metaA t.name = true then aloneS s t.name t.attrs else if metaT t.name = true then textsS s t.name t.attrs else s else s
theorem metaS_ne {s : SS} (ne : s.tree ≠ []) (t : Tk) : (metaS s t).tree ≠ [] := by
 unfold metaS
 split
 ·split
  ·exact newT_ne _ _ _ _
  ·split
   ·exact newT_ne _ _ _ _
   ·exact ne
 ·exact ne
end Go.Proofs.YtfgdcciaecajpaaGreatDoor
namespace Go.Proofs.YtfgdcciaecajpaaGreatDoor
set_option linter.unusedSimpArgs false
set_option linter.unusedVariables false
open Go Go.RowKit
set_option maxRecDepth 100000
def lays161_ren : Go.Shelf.Ren := ⟨fun | 119 => 166 | 137 => 165 | 151 => 121 | 152 => 140 | 161 => 65 | 197 => 120 | 217 => 122 | 224 => 124 | 225 => 123 | 227 => 93 | 228 => 119 | 231 => 92 | 233 => 94 | 235 => 95 | 260 => 139 | 266 => 141 | n => n, fun | 0 => 0 | 3 => 3 | 4 => 4 | 5 => 5 | 9 => 9 | 21 => 21 | 46 => 131 | 105 => 127 | 116 => 111 | 117 => 112 | 119 => 162 | 124 => 115 | 138 => 164 | 139 => 165 | n => n, fun | 3 => 1 | 4 => 2 | n => n⟩
theorem lays161 : Go.Proofs.Lays.n161 Tryz.prog lays161_ren where
 mixed := by kernel_rfl
 f119 := Tryz.func166.trans (congrArg some (by kernel_rfl))
 f137 := Tryz.func165.trans (congrArg some (by kernel_rfl))
 f151 := Tryz.func121.trans (congrArg some (by kernel_rfl))
 f152 := Tryz.func140.trans (congrArg some (by kernel_rfl))
 f161 := Tryz.func65.trans (congrArg some (by kernel_rfl))
 f197 := Tryz.func120.trans (congrArg some (by kernel_rfl))
 f217 := Tryz.func122.trans (congrArg some (by kernel_rfl))
 f224 := Tryz.func124.trans (congrArg some (by kernel_rfl))
 f225 := Tryz.func123.trans (congrArg some (by kernel_rfl))
 f227 := Tryz.func93.trans (congrArg some (by kernel_rfl))
 f228 := Tryz.func119.trans (congrArg some (by kernel_rfl))
 f231 := Tryz.func92.trans (congrArg some (by kernel_rfl))
 f233 := Tryz.func94.trans (congrArg some (by kernel_rfl))
 f235 := Tryz.func95.trans (congrArg some (by kernel_rfl))
 f260 := Tryz.func139.trans (congrArg some (by kernel_rfl))
 f266 := Tryz.func141.trans (congrArg some (by kernel_rfl))
 t0 := Tryz.underlying0
 a0 := Tryz.isAgg0
 z0 := Tryz.sizeOf0
 v0 := Tryz.zeroValue0
 t3 := Tryz.underlying3
 a3 := Tryz.isAgg3
 z3 := Tryz.sizeOf3
 v3 := Tryz.zeroValue3
 t4 := Tryz.underlying4
 a4 := Tryz.isAgg4
 z4 := Tryz.sizeOf4
 v4 := Tryz.zeroValue4
 t5 := Tryz.underlying5
 a5 := Tryz.isAgg5
 z5 := Tryz.sizeOf5
 v5 := Tryz.zeroValue5
 t9 := Tryz.underlying9
 a9 := Tryz.isAgg9
 z9 := Tryz.sizeOf9
 v9 := Tryz.zeroValue9
 t21 := Tryz.underlying21
 a21 := Tryz.isAgg21
 z21 := Tryz.sizeOf21
 v21 := Tryz.zeroValue21
 t46 := Tryz.underlying131
 a46 := Tryz.isAgg131
 z46 := Tryz.sizeOf131
 v46 := Tryz.zeroValue131
 t105 := Tryz.underlying127
 a105 := Tryz.isAgg127
 z105 := Tryz.sizeOf127
 v105 := Tryz.zeroValue127
 t116 := Tryz.underlying111
 a116 := Tryz.isAgg111
 z116 := Tryz.sizeOf111
 t117 := Tryz.underlying112
 a117 := Tryz.isAgg112
 z117 := Tryz.sizeOf112
 v117 := Tryz.zeroValue112
 t119 := Tryz.underlying162
 a119 := Tryz.isAgg162
 z119 := Tryz.sizeOf162
 t124 := Tryz.underlying115
 a124 := Tryz.isAgg115
 z124 := Tryz.sizeOf115
 v124 := Tryz.zeroValue115
 t138 := Tryz.underlying164
 a138 := Tryz.isAgg164
 z138 := Tryz.sizeOf164
 v138 := Tryz.zeroValue164
 t139 := Tryz.underlying165
 a139 := Tryz.isAgg165
 z139 := Tryz.sizeOf165
 v139 := Tryz.zeroValue165
 g3 := by kernel_rfl
 g4 := by kernel_rfl
abbrev blC : Str := [9, 10, 12, 13, 32]
theorem set_infoB : (Tryz.prog.info? 111).map (fun i => (i.zero, i.size)) = some (some (.agg (Array.replicate 256 (.bool false))), 256) := by kernel_rfl
theorem bl_sp (c : UInt8) : blC.contains c = sp c := by
 have key : ∀ n : Fin 256, blC.contains (UInt8.ofNat n.val) = sp (UInt8.ofNat n.val) := by decide +kernel
 have := key ⟨c.toNat, c.toNat_lt⟩
 simpa using this
theorem sim_belowB {ρ : Place} {w w' : World} (sm : Sim ρ ⟨0, []⟩ w) (h : Below w.heap.size w w') : Sim ρ ⟨0, []⟩ w' where
 base := fun k hk => Nat.lt_of_lt_of_le (sm.base k hk) h.size
 below := fun k hk => (h.block k (sm.base k hk)).trans (sm.below k hk)
 os := h.os.trans sm.os
 tape := h.tape.trans sm.tape
 output := h.output.trans sm.output
 dom := sm.dom
 nodup := sm.nodup
 live := fun e he => by simp [Heap.ents] at he
 inj := fun e e' he => by simp [Heap.ents] at he
theorem step_belowB {ρ : Place} {w w' : World} (h : Below w.heap.size w w') : Step ρ ⟨0, []⟩ w ρ ⟨0, []⟩ w' where
 le := Place.le_refl ρ
 size := h.size
 keeps := fun k hk _ => h.block k hk
 rows := fun e' he' => by simp [Heap.ents] at he'
 num := Nat.le_refl _
 low := fun _ _ => rfl
 cold := fun k hk => .inl hk
theorem c65b {T : List (Entry Tryz.prog)} (s : Str) : CallAt (ctx T) 65 [.str s, .str blC] ⟨0, []⟩ (.str (s.dropWhile sp)) ⟨0, []⟩ := by
 intro ρ w xs sm hx
 match xs, hx with
 | [x, y], hx =>
  have h0 := hx.2 0 (by simp) (by simp)
  have h1 := hx.2 1 (by simp) (by simp)
  simp only [List.getElem_cons_zero, List.getElem_cons_succ] at h0 h1
  cases h0; cases h1
  have hrun : (callFunc 65 #[.string ⟨s.toArray⟩, .string ⟨blC.toArray⟩]).run (ctx T).P w = .ok (.enter 65 #[.string ⟨s.toArray⟩, .string ⟨blC.toArray⟩]) w := by
   have hf : (ctx T).P.funcs[65]? = some Tryz.f65 := Tryz.func65
   have hn : ¬ Tryz.f65.name = "runtime.NumGoroutine" := by decide +kernel
   simp [callFunc, hf, hn, Tryz.f65]
  refine .inr ⟨65, _, hrun, callsIn_wide.2 ?_⟩
  refine (Go.Proofs.Any.strings_TrimLeft_ascii lays161 (zero_of_info set_infoB).1 (zero_of_info set_infoB).2 ⟨s.toArray⟩ ⟨blC.toArray⟩ w (by decide) (fun j b hj => ?_)).mono ?_
  ·have hm : b ∈ blC := List.mem_of_getElem? hj
   simp at hm
   rcases hm with rfl | rfl | rfl | rfl | rfl <;> decide
  ·rintro e w' ⟨rfl, hb⟩
   have hv : Lib.trimLeftS (⟨s.toArray⟩ : ByteArray).data.toList (⟨blC.toArray⟩ : ByteArray).data.toList = s.dropWhile sp := by
    have e1 : (fun c => blC.contains c) = sp := funext bl_sp
    show (s.toArray.toList).dropWhile (fun c => blC.contains c) = _
    rw [e1]
   rw [hv]
   exact ⟨_, ρ, rfl, .str _, sim_belowB sm hb, step_belowB hb⟩
def cutA (s : Str) : AV := .tup [.str (s.takeWhile sp), .str (s.dropWhile sp)]
theorem tw_len (s : Str) : (s.takeWhile sp).length + (s.dropWhile sp).length = s.length := by
 rw [← List.length_append, List.takeWhile_append_dropWhile]
theorem tw_take (s : Str) : s.take (s.takeWhile sp).length = s.takeWhile sp := by
 have := List.takeWhile_append_dropWhile (p := sp) (l := s)
 conv => lhs; rw [← this]
 rw [List.take_append_of_le_length (by simp)]
 simp
theorem c47 {T : List (Entry Tryz.prog)} (s : Str) (hl : s.length ≤ 1000000) : CallAt (ctx T) 47 [.str s] ⟨0, []⟩ (cutA s) ⟨0, []⟩ := by
 have hk := (c65b (T := T) s).lift (by simp [pureL, pureV]) ⟨0, [[]]⟩
 have hlen := tw_len s
 have htk := tw_take s
 unfold cutA
 generalize s.dropWhile sp = r at *
 generalize s.takeWhile sp = a at *
 have hw : wr .i64 ((s.length : Int) - (r.length : Int)) = some ((a.length : Nat) : Int) := by rw [wr_small (by omega) (by omega)]; congr 1; omega
 have hsl := fun H => slStrTo (H := H) (s := s) (j := a.length) (by omega)
 rw [htk] at hsl
 refine callAt_body (fn := Tryz.f47) (s0 := ⟨[0, 2, 3, 4], [.str s, .undef, .undef, .undef], [], 15, ⟨0, [[]]⟩⟩) Tryz.func47 rfl rfl rfl ?_
 repeat apply wq
 refine wps_region callOK ?_
 simp [zS]
 repeat apply wq
 refine wps_region (callOKF [⟨65, _, _, _, _, hk⟩]) ?_
 simp [zS, callF]
 repeat apply wq
 refine wps_region callOK ?_
 simp [zS, hw, hsl]
 repeat apply wq
 refine wps_ret ?_
 simp [retVal, Tryz.f47, oneOr, thenQ, blockQ]
 exact ends_pure rfl (by rfl)
@[simp] theorem szT48 : sizeT Tryz.prog 48 = some 3 := rfl
@[simp] theorem agT48 : aggT Tryz.prog 48 = some true := rfl
@[simp] theorem byT48 : bytesT Tryz.prog 48 = some 32 := rfl
@[simp] theorem alT48 (H : Heap) : alV Tryz.prog H 48 = some (.ptr H.n 0, H.new (.cells [.nilP, .nilP, .str []])) := rfl
@[simp] theorem zeT48 : zeroOf Tryz.prog 48 = some (.agg [.nilP, .nilP, .str []]) := rfl
attribute [simp] Tryz.underlying48
@[simp 500] theorem rvF48 (H : Heap) (cs : List AV) (o : Nat) : readVar Tryz.prog H 48 (.fptr cs o) = (subL o 3 cs).bind fun cs => some (.agg cs) := rfl
@[simp 500] theorem rvP48 (H : Heap) (b o : Nat) : readVar Tryz.prog H 48 (.ptr b o) = (readCells H b o 3).bind fun cs => some (.agg cs) := rfl
@[simp] theorem fa48_0 (x : AV) : fieldAddrA Tryz.prog 48 x 0 = (match x with | .ptr b o => some (.ptr b (o + 0)) | .fptr cs o => some (.fptr cs (o + 0)) | _ => none) := rfl
@[simp] theorem fd48_0 (cs : List AV) : fieldA Tryz.prog 48 (.agg cs) 0 = getL cs 0 := rfl
@[simp] theorem fa48_1 (x : AV) : fieldAddrA Tryz.prog 48 x 1 = (match x with | .ptr b o => some (.ptr b (o + 1)) | .fptr cs o => some (.fptr cs (o + 1)) | _ => none) := rfl
@[simp] theorem fd48_1 (cs : List AV) : fieldA Tryz.prog 48 (.agg cs) 1 = getL cs 1 := rfl
@[simp] theorem fa48_2 (x : AV) : fieldAddrA Tryz.prog 48 x 2 = (match x with | .ptr b o => some (.ptr b (o + 2)) | .fptr cs o => some (.fptr cs (o + 2)) | _ => none) := rfl
@[simp] theorem fd48_2 (cs : List AV) : fieldA Tryz.prog 48 (.agg cs) 2 = getL cs 2 := rfl
@[simp] theorem szT62 : sizeT Tryz.prog 62 = some 1 := rfl
@[simp] theorem agT62 : aggT Tryz.prog 62 = some false := rfl
@[simp] theorem byT62 : bytesT Tryz.prog 62 = some 8 := rfl
@[simp] theorem alT62 (H : Heap) : alV Tryz.prog H 62 = some (.ptr H.n 0, H.new (.cells [.nilP])) := rfl
@[simp] theorem zeT62 : zeroOf Tryz.prog 62 = some (.nilP) := rfl
attribute [simp] Tryz.underlying62
@[simp 500] theorem rvF62 (H : Heap) (cs : List AV) (o : Nat) : readVar Tryz.prog H 62 (.fptr cs o) = getL cs o := rfl
@[simp 500] theorem rvP62 (H : Heap) (b o : Nat) : readVar Tryz.prog H 62 (.ptr b o) = (H.get b).bind fun k => k.rd.bind fun cs => getL cs o := rfl
theorem c47j {T : List (Entry Tryz.prog)} (x : Str) (hl : x.length ≤ 1000000) : CallAt (ctx T) 47 [.str x] ⟨0, []⟩ (.tup [.str (x.takeWhile sp), .str (x.dropWhile sp)]) ⟨0, []⟩ := by
 exact c47 x hl
theorem inj_47j (x y : Str) (h : (fun z : Str => ([.str z] : List AV)) x = (fun z : Str => ([.str z] : List AV)) y) : x = y := by
 simp only [List.cons.injEq, and_true] at h
 exact AV.str.inj h
noncomputable def e47j : Entry Tryz.prog := mkE 47 [[]] (fun z : Str => [.str z]) (fun z => (z.length ≤ 1000000)) (fun z => .tup [.str (z.takeWhile sp), .str (z.dropWhile sp)]) fun z h => c47j (T := [])  z h
theorem k47j {T : List (Entry Tryz.prog)} (hT : findE 47 T = some e47j.g) (x : Str) (hl : x.length ≤ 1000000) (H : Heap) : callL (ctx T) (.fn 47) [.str x] H = some (.tup [.str (x.takeWhile sp), .str (x.dropWhile sp)], H) :=
 mkE_pure hT inj_47j (x) hl (by simp [pureL, pureV, thawA_ok]) (by simp [thawA_ok]) H
def blB (t : Tk) : Bool := decide (t.kind = 3) && decide (t.data.dropWhile sp = [])
def blT (t : Tk) : Tk := if t.kind = 3 then { t with data := t.data.dropWhile sp } else t
def blS (t : Tk) (b : Str) : Str := if t.kind = 3 then t.data.takeWhile sp else b
theorem c29 {T : List (Entry Tryz.prog)} (hc0 : findE 47 T = some e47j.g) {s : SS} {t : Tk} {b : Str} (ne : s.tree ≠ [])  (hl : t.data.length ≤ 1000000) : JC T 29 [] ⟨s, t, b⟩ (.bool (blB t)) ⟨s, blT t, blS t b⟩ := by
 have kc0 := @k47j T hc0
 have g0 := @vg0
 have v0 := @vset
 obtain ⟨kd, nm, L, sf, dt⟩ := t
 have kC := fun H => kc0 dt hl H
 simp only [blB, blT, blS]
 by_cases hk : kd = 3
 rw [if_pos hk, if_pos hk, decide_eq_true hk, Bool.true_and]
 rotate_left
 rw [if_neg hk, if_neg hk, decide_eq_false hk, Bool.false_and]
 all_goals
  clear kc0 hl
  revert kC
  generalize dt.takeWhile sp = d1
  generalize dt.dropWhile sp = d2
  intro kC
 all_goals
  (try simp only [Tk.cs] at *)
  refine callAt_body (fn := Tryz.f29) (s0 := ⟨[0, 2], [.ptr 1 0, .undef], [], 39, ⟨4, [] :: [_]⟩⟩) Tryz.func29 rfl rfl rfl ?_
  refine permJ ?_
  try simp only [Tk.cs]
  (repeat' (first
   | with_reducible refine wps_seq ?_
   | with_reducible refine wps_block ?_
   | (with_reducible refine wps_label ?_; simp only [thenQ, blockQ])
   | (with_reducible refine wps_region callOK ?_; apply runE; simp [zS, *, SS.post]; exact rfl)
   | (with_reducible refine run_end ?_; simp only [thenQ, blockQ])
   | (refine wps_drawQ mixed callOK (by decide +kernel) (by decide +kernel) rfl ?_; apply runQ; simp [zS, zW, clsOf, mkBlk, guardA, Heap.lay, ontoF, *, SS.post]; exact rfl)
   | (with_reducible refine run_endQ ?_; refine ⟨by repeat first | exact okC_n | refine okC_c (by decide +kernel) ?_, ?_⟩; simp only [thenQ, blockQ, allPend, Heap.lay, ontoF])
   | (with_reducible refine gate_splitQ (fun hc => ?_) (fun hc => ?_) <;> ((have hd := hc); (try simp at hd); (try subst hd); apply runQ; simp [zS, zW, clsOf, mkBlk, guardA, Heap.lay, ontoF, *, SS.post]; exact rfl))
   | (with_reducible refine gate_splitX (fun hc => ?_) (fun hc => ?_) <;> ((have hd := hc); (try simp at hd); (try subst hd); apply runQ; simp [zS, zW, clsOf, mkBlk, guardA, Heap.lay, ontoF, *, SS.post]; exact rfl))
   | (with_reducible refine pick_splitQ (fun hc => ?_) (fun hc => ?_) <;> ((have hd := hc); (try simp at hd); (try subst hd); apply runQ; simp [zS, zW, clsOf, mkBlk, guardA, Heap.lay, ontoF, *, SS.post]; exact rfl))
   | (with_reducible refine gate_split (fun hc => ?_) (fun hc => ?_) <;> ((have hd := hc); (try simp at hd); (try subst hd); apply runE; simp [zS, *, SS.post]; exact rfl))
   | (with_reducible refine pick_split (fun hc => ?_) (fun hc => ?_) <;> ((have hd := hc); (try simp at hd); (try subst hd); apply runE; simp [zS, *, SS.post]; exact rfl))
   | (refine wps_ct rfl ?_)
   | (refine wps_cf rfl ?_)
   | (refine wps_cond rfl (fun hc => ?_) (fun hc => ?_) <;> ((have hd := hc); (try simp at hd); (try subst hd)))
   | (with_reducible refine wps_skip ?_; simp only [thenQ, blockQ])
   | (with_reducible refine wps_exit ?_; simp [thenQ, blockQ])
   | (with_reducible refine wps_ret ?_; simp [retVal, Tryz.f29, oneOr, thenQ, blockQ])))
  all_goals first | (((try simp [retVal, Tryz.f29, oneOr]); refine ends_J2 (by simp [*]) (by first | rfl | (simp [*]; done)) (by simp [pureV, pureL]) (by omega) (ne) (by simp [getF]) (by simp [getF]) (by simp [getF]) (by first | (simp [getF, Tk.cs]; done) | (simp [getF, Tk.cs, *]; done)))) | (exfalso; omega) | (trace_state; fail)
theorem inj_29 (x y : Unit) (h : (fun z : Unit => ([] : List AV)) x = (fun z : Unit => ([] : List AV)) y) : x = y := by
 rfl
noncomputable def e29 : Entry Tryz.prog := mkJ 29 [] (fun z : Unit => []) (fun z x => (x.t.data.length ≤ 1000000)) (fun z x => .bool (blB x.t)) (fun z x => ⟨x.s, blT x.t, blS x.t x.b⟩) fun z x ne h => ⟨c29 (T := [e47j]) rfl ne  h, by simp [pureL, pureV], by simp [pureV, pureL], ne⟩
theorem k29 {T : List (Entry Tryz.prog)} (hT : findE 29 T = some e29.g) {s : SS} {t : Tk} {b : Str} (ne : s.tree ≠ [])  (hl : t.data.length ≤ 1000000) {n k jb tb : Nat} {fr : List (Nat × Blk)} (d : dJ n k jb tb) (of : offJ k jb tb fr) : callL (ctx T) (.fn 29) [.ptr jb 0] ⟨n, [(jb, .cells [.ptr 0 0, .ptr tb 0, .str b]) :: (tb, .cells t.cs) :: fr, VS k s]⟩ = some (.bool (blB t), ⟨n + 1, [(jb, .cells [.ptr 0 0, .ptr tb 0, .str (blS t b)]) :: (tb, .cells (Tk.cs (blT t))) :: fr, VS n (s)]⟩) :=
 mkJ_eq (x := ⟨s, t, b⟩) hT inj_29 () ne hl (by simp [pureL, pureV]) (by simp [thawL, thawA_ok]) d of
theorem c31 {T : List (Entry Tryz.prog)} (hc0 : findE 49 T = some e49a.g) {s : SS} {t : Tk} {b : Str} (ne : s.tree ≠ []) (W : Str) (hW : asciiB W) (hl : W.length ≤ 100000) (hn : t.name.length ≤ 1000000000) : JC T 31 [.str W] ⟨s, t, b⟩ (.bool (decide (t.kind = 2) && !inW W t.name)) ⟨s, t, b⟩ := by
 have kc0 := @k49a T hc0
 have g0 := @vg0
 have v0 := @vset
 obtain ⟨kd, nm, L, sf, dt⟩ := t
 have kI := fun H => @kc0 W nm hW hl hn H
 clear kc0 hn
 revert kI
 simp only
 generalize inW W nm = w
 intro kI
 all_goals
  (try simp only [Tk.cs] at *)
  refine callAt_body (fn := Tryz.f31) (s0 := ⟨[0, 1, 4], [.ptr 1 0, .str W, .undef], [], 25, ⟨4, [] :: [_]⟩⟩) Tryz.func31 rfl rfl rfl ?_
  refine permJ ?_
  try simp only [Tk.cs]
  (repeat' (first
   | with_reducible refine wps_seq ?_
   | with_reducible refine wps_block ?_
   | (with_reducible refine wps_label ?_; simp only [thenQ, blockQ])
   | (with_reducible refine wps_region callOK ?_; apply runE; simp [zS, *, SS.post]; exact rfl)
   | (with_reducible refine run_end ?_; simp only [thenQ, blockQ])
   | (refine wps_drawQ mixed callOK (by decide +kernel) (by decide +kernel) rfl ?_; apply runQ; simp [zS, zW, clsOf, mkBlk, guardA, Heap.lay, ontoF, *, SS.post]; exact rfl)
   | (with_reducible refine run_endQ ?_; refine ⟨by repeat first | exact okC_n | refine okC_c (by decide +kernel) ?_, ?_⟩; simp only [thenQ, blockQ, allPend, Heap.lay, ontoF])
   | (with_reducible refine gate_splitQ (fun hc => ?_) (fun hc => ?_) <;> ((have hd := hc); (try simp at hd); (try subst hd); apply runQ; simp [zS, zW, clsOf, mkBlk, guardA, Heap.lay, ontoF, *, SS.post]; exact rfl))
   | (with_reducible refine gate_splitX (fun hc => ?_) (fun hc => ?_) <;> ((have hd := hc); (try simp at hd); (try subst hd); apply runQ; simp [zS, zW, clsOf, mkBlk, guardA, Heap.lay, ontoF, *, SS.post]; exact rfl))
   | (with_reducible refine pick_splitQ (fun hc => ?_) (fun hc => ?_) <;> ((have hd := hc); (try simp at hd); (try subst hd); apply runQ; simp [zS, zW, clsOf, mkBlk, guardA, Heap.lay, ontoF, *, SS.post]; exact rfl))
   | (with_reducible refine gate_split (fun hc => ?_) (fun hc => ?_) <;> ((have hd := hc); (try simp at hd); (try subst hd); apply runE; simp [zS, *, SS.post]; exact rfl))
   | (with_reducible refine pick_split (fun hc => ?_) (fun hc => ?_) <;> ((have hd := hc); (try simp at hd); (try subst hd); apply runE; simp [zS, *, SS.post]; exact rfl))
   | (refine wps_ct rfl ?_)
   | (refine wps_cf rfl ?_)
   | (refine wps_cond rfl (fun hc => ?_) (fun hc => ?_) <;> ((have hd := hc); (try simp at hd); (try subst hd)))
   | (with_reducible refine wps_skip ?_; simp only [thenQ, blockQ])
   | (with_reducible refine wps_exit ?_; simp [thenQ, blockQ])
   | (with_reducible refine wps_ret ?_; simp [retVal, Tryz.f31, oneOr, thenQ, blockQ])))
  all_goals first | (((try simp [retVal, Tryz.f31, oneOr]); refine ends_J2 (by simp [*]) (by first | rfl | (simp [*]; done)) (by simp [pureV, pureL]) (by omega) (ne) (by simp [getF]) (by simp [getF]) (by simp [getF]) (by first | (simp [getF, Tk.cs]; done) | (simp [getF, Tk.cs, *]; done)))) | (exfalso; omega) | (trace_state; fail)
theorem inj_31 (x y : Str) (h : (fun z : Str => ([.str z] : List AV)) x = (fun z : Str => ([.str z] : List AV)) y) : x = y := by
 simp only [List.cons.injEq, and_true] at h
 exact AV.str.inj h
noncomputable def e31 : Entry Tryz.prog := mkJ 31 [[]] (fun z : Str => [.str z]) (fun z x => (asciiB z) ∧ (z.length ≤ 100000) ∧ (x.t.name.length ≤ 1000000000)) (fun z x => .bool (decide (x.t.kind = 2) && !inW z x.t.name)) (fun z x => ⟨x.s, x.t, x.b⟩) fun z x ne h => ⟨c31 (T := [e49a]) rfl ne z h.1 h.2.1 h.2.2, by simp [pureL, pureV], by simp [pureV, pureL], ne⟩
theorem k31 {T : List (Entry Tryz.prog)} (hT : findE 31 T = some e31.g) {s : SS} {t : Tk} {b : Str} (ne : s.tree ≠ []) (W : Str) (hW : asciiB W) (hl : W.length ≤ 100000) (hn : t.name.length ≤ 1000000000) {n k jb tb : Nat} {fr : List (Nat × Blk)} (d : dJ n k jb tb) (of : offJ k jb tb fr) : callL (ctx T) (.fn 31) [.ptr jb 0, .str W] ⟨n, [(jb, .cells [.ptr 0 0, .ptr tb 0, .str b]) :: (tb, .cells t.cs) :: fr, VS k s]⟩ = some (.bool (decide (t.kind = 2) && !inW W t.name), ⟨n + 1, [(jb, .cells [.ptr 0 0, .ptr tb 0, .str (b)]) :: (tb, .cells (Tk.cs (t))) :: fr, VS n (s)]⟩) :=
 mkJ_eq (x := ⟨s, t, b⟩) hT inj_31 (W) ne ⟨hW, hl, hn⟩ (by simp [pureL, pureV]) (by simp [thawL, thawA_ok]) d of
theorem c32 {T : List (Entry Tryz.prog)} (hc0 : findE 49 T = some e49a.g) {s : SS} {t : Tk} {b : Str} (ne : s.tree ≠ []) (W : Str) (hW : asciiB W) (hl : W.length ≤ 100000) (hn : t.name.length ≤ 1000000000) : JC T 32 [.str W] ⟨s, t, b⟩ (.bool (decide (t.kind = 1) && inW W t.name)) ⟨s, t, b⟩ := by
 have kc0 := @k49a T hc0
 have g0 := @vg0
 have v0 := @vset
 obtain ⟨kd, nm, L, sf, dt⟩ := t
 have kI := fun H => @kc0 W nm hW hl hn H
 clear kc0 hn
 revert kI
 simp only
 generalize inW W nm = w
 intro kI
 all_goals
  (try simp only [Tk.cs] at *)
  refine callAt_body (fn := Tryz.f32) (s0 := ⟨[0, 1, 4], [.ptr 1 0, .str W, .undef], [], 24, ⟨4, [] :: [_]⟩⟩) Tryz.func32 rfl rfl rfl ?_
  refine permJ ?_
  try simp only [Tk.cs]
  (repeat' (first
   | with_reducible refine wps_seq ?_
   | with_reducible refine wps_block ?_
   | (with_reducible refine wps_label ?_; simp only [thenQ, blockQ])
   | (with_reducible refine wps_region callOK ?_; apply runE; simp [zS, *, SS.post]; exact rfl)
   | (with_reducible refine run_end ?_; simp only [thenQ, blockQ])
   | (refine wps_drawQ mixed callOK (by decide +kernel) (by decide +kernel) rfl ?_; apply runQ; simp [zS, zW, clsOf, mkBlk, guardA, Heap.lay, ontoF, *, SS.post]; exact rfl)
   | (with_reducible refine run_endQ ?_; refine ⟨by repeat first | exact okC_n | refine okC_c (by decide +kernel) ?_, ?_⟩; simp only [thenQ, blockQ, allPend, Heap.lay, ontoF])
   | (with_reducible refine gate_splitQ (fun hc => ?_) (fun hc => ?_) <;> ((have hd := hc); (try simp at hd); (try subst hd); apply runQ; simp [zS, zW, clsOf, mkBlk, guardA, Heap.lay, ontoF, *, SS.post]; exact rfl))
   | (with_reducible refine gate_splitX (fun hc => ?_) (fun hc => ?_) <;> ((have hd := hc); (try simp at hd); (try subst hd); apply runQ; simp [zS, zW, clsOf, mkBlk, guardA, Heap.lay, ontoF, *, SS.post]; exact rfl))
   | (with_reducible refine pick_splitQ (fun hc => ?_) (fun hc => ?_) <;> ((have hd := hc); (try simp at hd); (try subst hd); apply runQ; simp [zS, zW, clsOf, mkBlk, guardA, Heap.lay, ontoF, *, SS.post]; exact rfl))
   | (with_reducible refine gate_split (fun hc => ?_) (fun hc => ?_) <;> ((have hd := hc); (try simp at hd); (try subst hd); apply runE; simp [zS, *, SS.post]; exact rfl))
   | (with_reducible refine pick_split (fun hc => ?_) (fun hc => ?_) <;> ((have hd := hc); (try simp at hd); (try subst hd); apply runE; simp [zS, *, SS.post]; exact rfl))
   | (refine wps_ct rfl ?_)
   | (refine wps_cf rfl ?_)
   | (refine wps_cond rfl (fun hc => ?_) (fun hc => ?_) <;> ((have hd := hc); (try simp at hd); (try subst hd)))
   | (with_reducible refine wps_skip ?_; simp only [thenQ, blockQ])
   | (with_reducible refine wps_exit ?_; simp [thenQ, blockQ])
   | (with_reducible refine wps_ret ?_; simp [retVal, Tryz.f32, oneOr, thenQ, blockQ])))
  all_goals first | (((try simp [retVal, Tryz.f32, oneOr]); refine ends_J2 (by simp [*]) (by first | rfl | (simp [*]; done)) (by simp [pureV, pureL]) (by omega) (ne) (by simp [getF]) (by simp [getF]) (by simp [getF]) (by first | (simp [getF, Tk.cs]; done) | (simp [getF, Tk.cs, *]; done)))) | (exfalso; omega) | (trace_state; fail)
theorem inj_32 (x y : Str) (h : (fun z : Str => ([.str z] : List AV)) x = (fun z : Str => ([.str z] : List AV)) y) : x = y := by
 simp only [List.cons.injEq, and_true] at h
 exact AV.str.inj h
noncomputable def e32 : Entry Tryz.prog := mkJ 32 [[]] (fun z : Str => [.str z]) (fun z x => (asciiB z) ∧ (z.length ≤ 100000) ∧ (x.t.name.length ≤ 1000000000)) (fun z x => .bool (decide (x.t.kind = 1) && inW z x.t.name)) (fun z x => ⟨x.s, x.t, x.b⟩) fun z x ne h => ⟨c32 (T := [e49a]) rfl ne z h.1 h.2.1 h.2.2, by simp [pureL, pureV], by simp [pureV, pureL], ne⟩
theorem k32 {T : List (Entry Tryz.prog)} (hT : findE 32 T = some e32.g) {s : SS} {t : Tk} {b : Str} (ne : s.tree ≠ []) (W : Str) (hW : asciiB W) (hl : W.length ≤ 100000) (hn : t.name.length ≤ 1000000000) {n k jb tb : Nat} {fr : List (Nat × Blk)} (d : dJ n k jb tb) (of : offJ k jb tb fr) : callL (ctx T) (.fn 32) [.ptr jb 0, .str W] ⟨n, [(jb, .cells [.ptr 0 0, .ptr tb 0, .str b]) :: (tb, .cells t.cs) :: fr, VS k s]⟩ = some (.bool (decide (t.kind = 1) && inW W t.name), ⟨n + 1, [(jb, .cells [.ptr 0 0, .ptr tb 0, .str (b)]) :: (tb, .cells (Tk.cs (t))) :: fr, VS n (s)]⟩) :=
 mkJ_eq (x := ⟨s, t, b⟩) hT inj_32 (W) ne ⟨hW, hl, hn⟩ (by simp [pureL, pureV]) (by simp [thawL, thawA_ok]) d of
def noteS (s : SS) (t : Tk) (up : Int) : SS := if t.kind = 4 then { s with tree := ntT s.tree (ntP s up) t.data } else s
theorem noteS_ne {s : SS} (ne : s.tree ≠ []) (t : Tk) (up : Int) : (noteS s t up).tree ≠ [] := by
 unfold noteS
 split
 ·exact newT_ne _ _ _ _
 ·exact ne
theorem c30 {T : List (Entry Tryz.prog)} (hc0 : findE 48 T = some e48.g) {s : SS} {t : Tk} {b : Str} (ne : s.tree ≠ []) (up : Int) (hf : s.foster = false) (ok : SOk s) : JC T 30 [.int .i64 up] ⟨s, t, b⟩ (.bool (decide (t.kind = 4))) ⟨noteS s t up, t, b⟩ := by
 have kc0 := @k48 T hc0
 have g0 := @vg0
 have v0 := @vset
 obtain ⟨kd, nm, L, sf, dt⟩ := t
 have kN := fun n k fr => @kc0 s ne dt up hf ok n k fr
 have h9 : ntT s.tree (ntP s up) dt ≠ [] := newT_ne _ _ _ _
 clear kc0 hf ok
 simp only [noteS] at *
 generalize ntT s.tree (ntP s up) dt = t1 at *
 by_cases hk : kd = 4
 rw [if_pos hk, decide_eq_true hk]
 rotate_left
 rw [if_neg hk, decide_eq_false hk]
 all_goals
  (try simp only [Tk.cs] at *)
  refine callAt_body (fn := Tryz.f30) (s0 := ⟨[0, 1, 4], [.ptr 1 0, .int .i64 up, .undef], [], 34, ⟨4, [] :: [_]⟩⟩) Tryz.func30 rfl rfl rfl ?_
  refine permJ ?_
  try simp only [Tk.cs]
  (repeat' (first
   | with_reducible refine wps_seq ?_
   | with_reducible refine wps_block ?_
   | (with_reducible refine wps_label ?_; simp only [thenQ, blockQ])
   | (with_reducible refine wps_region callOK ?_; apply runE; simp [zS, *, SS.post]; exact rfl)
   | (with_reducible refine run_end ?_; simp only [thenQ, blockQ])
   | (refine wps_drawQ mixed callOK (by decide +kernel) (by decide +kernel) rfl ?_; apply runQ; simp [zS, zW, clsOf, mkBlk, guardA, Heap.lay, ontoF, *, SS.post]; exact rfl)
   | (with_reducible refine run_endQ ?_; refine ⟨by repeat first | exact okC_n | refine okC_c (by decide +kernel) ?_, ?_⟩; simp only [thenQ, blockQ, allPend, Heap.lay, ontoF])
   | (with_reducible refine gate_splitQ (fun hc => ?_) (fun hc => ?_) <;> ((have hd := hc); (try simp at hd); (try subst hd); apply runQ; simp [zS, zW, clsOf, mkBlk, guardA, Heap.lay, ontoF, *, SS.post]; exact rfl))
   | (with_reducible refine gate_splitX (fun hc => ?_) (fun hc => ?_) <;> ((have hd := hc); (try simp at hd); (try subst hd); apply runQ; simp [zS, zW, clsOf, mkBlk, guardA, Heap.lay, ontoF, *, SS.post]; exact rfl))
   | (with_reducible refine pick_splitQ (fun hc => ?_) (fun hc => ?_) <;> ((have hd := hc); (try simp at hd); (try subst hd); apply runQ; simp [zS, zW, clsOf, mkBlk, guardA, Heap.lay, ontoF, *, SS.post]; exact rfl))
   | (with_reducible refine gate_split (fun hc => ?_) (fun hc => ?_) <;> ((have hd := hc); (try simp at hd); (try subst hd); apply runE; simp [zS, *, SS.post]; exact rfl))
   | (with_reducible refine pick_split (fun hc => ?_) (fun hc => ?_) <;> ((have hd := hc); (try simp at hd); (try subst hd); apply runE; simp [zS, *, SS.post]; exact rfl))
   | (refine wps_ct rfl ?_)
   | (refine wps_cf rfl ?_)
   | (refine wps_cond rfl (fun hc => ?_) (fun hc => ?_) <;> ((have hd := hc); (try simp at hd); (try subst hd)))
   | (with_reducible refine wps_skip ?_; simp only [thenQ, blockQ])
   | (with_reducible refine wps_exit ?_; simp [thenQ, blockQ])
   | (with_reducible refine wps_ret ?_; simp [retVal, Tryz.f30, oneOr, thenQ, blockQ])))
  all_goals first | (((try simp [retVal, Tryz.f30, oneOr]); refine ends_J2 (by simp [*]) (by first | rfl | (simp [*]; done)) (by simp [pureV, pureL]) (by omega) (by (try exact h9); (all_goals (try exact ne)); (all_goals exact noteS_ne ne _ _)) (by simp [getF]) (by simp [getF]) (by simp [getF]) (by first | (simp [getF, Tk.cs]; done) | (simp [getF, Tk.cs, *]; done)))) | (exfalso; omega) | (trace_state; fail)
theorem inj_30 (x y : Int) (h : (fun z : Int => ([.int .i64 z] : List AV)) x = (fun z : Int => ([.int .i64 z] : List AV)) y) : x = y := by
 simp only [List.cons.injEq, and_true] at h
 exact AV.int.inj h |>.2
noncomputable def e30 : Entry Tryz.prog := mkJ 30 [[]] (fun z : Int => [.int .i64 z]) (fun z x => (x.s.foster = false) ∧ (SOk x.s)) (fun z x => .bool (decide (x.t.kind = 4))) (fun z x => ⟨noteS x.s x.t z, x.t, x.b⟩) fun z x ne h => ⟨c30 (T := [e48]) rfl ne z h.1 h.2, by simp [pureL, pureV], by simp [pureV, pureL], by (try exact h9); (all_goals (try exact ne)); (all_goals exact noteS_ne ne _ _)⟩
theorem k30 {T : List (Entry Tryz.prog)} (hT : findE 30 T = some e30.g) {s : SS} {t : Tk} {b : Str} (ne : s.tree ≠ []) (up : Int) (hf : s.foster = false) (ok : SOk s) {n k jb tb : Nat} {fr : List (Nat × Blk)} (d : dJ n k jb tb) (of : offJ k jb tb fr) : callL (ctx T) (.fn 30) [.ptr jb 0, .int .i64 up] ⟨n, [(jb, .cells [.ptr 0 0, .ptr tb 0, .str b]) :: (tb, .cells t.cs) :: fr, VS k s]⟩ = some (.bool (decide (t.kind = 4)), ⟨n + 1, [(jb, .cells [.ptr 0 0, .ptr tb 0, .str (b)]) :: (tb, .cells (Tk.cs (t))) :: fr, VS n (noteS s t up)]⟩) :=
 mkJ_eq (x := ⟨s, t, b⟩) hT inj_30 (up) ne ⟨hf, ok⟩ (by simp [pureL, pureV]) (by simp [thawL, thawA_ok]) d of
theorem c33 {T : List (Entry Tryz.prog)} (hc0 : findE 50 T = some e50.g) {s : SS} {t : Tk} {b : Str} (ne : s.tree ≠ [])  (hf : s.foster = false) (ok : SOk s) (ha : t.attrs.length ≤ 1000000) : JC T 33 [] ⟨s, t, b⟩ (.int .i64 (s.tree.length : Int)) ⟨elS s 0 t.name t.attrs, t, b⟩ := by
 have kc0 := @k50 T hc0
 have g0 := @vg0
 have v0 := @vset
 obtain ⟨kd, nm, L, sf, dt⟩ := t
 have kE := fun n k fr => @kc0 s ne ⟨kd, nm, L, sf, dt⟩ 0 hf ok ha n k fr
 have h9 : (elS s 0 nm L).tree ≠ [] := newT_ne _ _ _ _
 clear kc0 hf ok ha
 simp only [aTok, Tk.cs] at *
 generalize elS s 0 nm L = s1 at *
 all_goals
  (try simp only [Tk.cs] at *)
  refine callAt_body (fn := Tryz.f33) (s0 := ⟨[0, 2], [.ptr 1 0, .undef], [], 14, ⟨4, [] :: [_]⟩⟩) Tryz.func33 rfl rfl rfl ?_
  refine permJ ?_
  try simp only [Tk.cs]
  (repeat' (first
   | with_reducible refine wps_seq ?_
   | with_reducible refine wps_block ?_
   | (with_reducible refine wps_label ?_; simp only [thenQ, blockQ])
   | (with_reducible refine wps_region callOK ?_; apply runE; simp [zS, *, SS.post]; exact rfl)
   | (with_reducible refine run_end ?_; simp only [thenQ, blockQ])
   | (refine wps_drawQ mixed callOK (by decide +kernel) (by decide +kernel) rfl ?_; apply runQ; simp [zS, zW, clsOf, mkBlk, guardA, Heap.lay, ontoF, *, SS.post]; exact rfl)
   | (with_reducible refine run_endQ ?_; refine ⟨by repeat first | exact okC_n | refine okC_c (by decide +kernel) ?_, ?_⟩; simp only [thenQ, blockQ, allPend, Heap.lay, ontoF])
   | (with_reducible refine gate_splitQ (fun hc => ?_) (fun hc => ?_) <;> ((have hd := hc); (try simp at hd); (try subst hd); apply runQ; simp [zS, zW, clsOf, mkBlk, guardA, Heap.lay, ontoF, *, SS.post]; exact rfl))
   | (with_reducible refine gate_splitX (fun hc => ?_) (fun hc => ?_) <;> ((have hd := hc); (try simp at hd); (try subst hd); apply runQ; simp [zS, zW, clsOf, mkBlk, guardA, Heap.lay, ontoF, *, SS.post]; exact rfl))
   | (with_reducible refine pick_splitQ (fun hc => ?_) (fun hc => ?_) <;> ((have hd := hc); (try simp at hd); (try subst hd); apply runQ; simp [zS, zW, clsOf, mkBlk, guardA, Heap.lay, ontoF, *, SS.post]; exact rfl))
   | (with_reducible refine gate_split (fun hc => ?_) (fun hc => ?_) <;> ((have hd := hc); (try simp at hd); (try subst hd); apply runE; simp [zS, *, SS.post]; exact rfl))
   | (with_reducible refine pick_split (fun hc => ?_) (fun hc => ?_) <;> ((have hd := hc); (try simp at hd); (try subst hd); apply runE; simp [zS, *, SS.post]; exact rfl))
   | (refine wps_ct rfl ?_)
   | (refine wps_cf rfl ?_)
   | (refine wps_cond rfl (fun hc => ?_) (fun hc => ?_) <;> ((have hd := hc); (try simp at hd); (try subst hd)))
   | (with_reducible refine wps_skip ?_; simp only [thenQ, blockQ])
   | (with_reducible refine wps_exit ?_; simp [thenQ, blockQ])
   | (with_reducible refine wps_ret ?_; simp [retVal, Tryz.f33, oneOr, thenQ, blockQ])))
  all_goals first | (((try simp [retVal, Tryz.f33, oneOr]); refine ends_J2 (by simp [*]) (by first | rfl | (simp [*]; done)) (by simp [pureV, pureL]) (by omega) (by (try exact h9); (all_goals exact newT_ne _ _ _ _)) (by simp [getF]) (by simp [getF]) (by simp [getF]) (by first | (simp [getF, Tk.cs]; done) | (simp [getF, Tk.cs, *]; done)))) | (exfalso; omega) | (trace_state; fail)
theorem inj_33 (x y : Unit) (h : (fun z : Unit => ([] : List AV)) x = (fun z : Unit => ([] : List AV)) y) : x = y := by
 rfl
noncomputable def e33 : Entry Tryz.prog := mkJ 33 [] (fun z : Unit => []) (fun z x => (x.s.foster = false) ∧ (SOk x.s) ∧ (x.t.attrs.length ≤ 1000000)) (fun z x => .int .i64 (x.s.tree.length : Int)) (fun z x => ⟨elS x.s 0 x.t.name x.t.attrs, x.t, x.b⟩) fun z x ne h => ⟨c33 (T := [e50]) rfl ne  h.1 h.2.1 h.2.2, by simp [pureL, pureV], by simp [pureV, pureL], by (try exact h9); (all_goals exact newT_ne _ _ _ _)⟩
theorem k33 {T : List (Entry Tryz.prog)} (hT : findE 33 T = some e33.g) {s : SS} {t : Tk} {b : Str} (ne : s.tree ≠ [])  (hf : s.foster = false) (ok : SOk s) (ha : t.attrs.length ≤ 1000000) {n k jb tb : Nat} {fr : List (Nat × Blk)} (d : dJ n k jb tb) (of : offJ k jb tb fr) : callL (ctx T) (.fn 33) [.ptr jb 0] ⟨n, [(jb, .cells [.ptr 0 0, .ptr tb 0, .str b]) :: (tb, .cells t.cs) :: fr, VS k s]⟩ = some (.int .i64 (s.tree.length : Int), ⟨n + 1, [(jb, .cells [.ptr 0 0, .ptr tb 0, .str (b)]) :: (tb, .cells (Tk.cs (t))) :: fr, VS n (elS s 0 t.name t.attrs)]⟩) :=
 mkJ_eq (x := ⟨s, t, b⟩) hT inj_33 () ne ⟨hf, ok, ha⟩ (by simp [pureL, pureV]) (by simp [thawL, thawA_ok]) d of
theorem elemL {T : List (Entry Tryz.prog)} (hT : findE 50 T = some e50.g) {s : SS} (ne : s.tree ≠ []) (x : Str) (hf : s.foster = false) (ok : SOk s) {n k : Nat} {fr : List (Nat × Blk)} (k0 : 0 < k) (kn : k < n) (of : offS k fr) :
  callL (ctx T) (.fn 50) [.ptr 0 0, .agg [.int .i64 1, .str x, .nilS, .bool false, .str []], .int .i64 0] ⟨n, [fr, VS k s]⟩ = some (.int .i64 (s.tree.length : Int), ⟨n + 1, [fr, VS n (elS s 0 x [])]⟩) :=
 mkS_eq hT inj_50 (⟨1, x, [], false, []⟩, 0) ne ⟨hf, ok, by simp⟩ (by simp [pureL, pureV]) (by simp [thawL, thawA, thawC, thaw1, okV, aTok, Tk.cs, aInt, aAttrs, pureV, pureL]) k0 kn of
theorem c34 {T : List (Entry Tryz.prog)} (hc0 : findE 50 T = some e50.g) {s : SS} {t : Tk} {b : Str} (ne : s.tree ≠ []) (x : Str) (hf : s.foster = false) (ok : SOk s) : JC T 34 [.str x] ⟨s, t, b⟩ (.int .i64 (s.tree.length : Int)) ⟨elS s 0 x [], t, b⟩ := by
 have g0 := @vg0
 have v0 := @vset
 obtain ⟨kd, nm, L, sf, dt⟩ := t
 have kE := fun n k fr => @elemL T hc0 s ne x hf ok n k fr
 have bld : buildA Tryz.prog 27 [(0, .int .i64 1), (1, .str x)] = some (.agg [.int .i64 1, .str x, .nilS, .bool false, .str []]) := rfl
 have h9 : (elS s 0 x []).tree ≠ [] := newT_ne _ _ _ _
 clear hf ok
 generalize elS s 0 x [] = s1 at *
 all_goals
  (try simp only [Tk.cs] at *)
  refine callAt_body (fn := Tryz.f34) (s0 := ⟨[0, 1, 4], [.ptr 1 0, .str x, .undef], [], 12, ⟨4, [] :: [_]⟩⟩) Tryz.func34 rfl rfl rfl ?_
  refine permJ ?_
  try simp only [Tk.cs]
  (repeat' (first
   | with_reducible refine wps_seq ?_
   | with_reducible refine wps_block ?_
   | (with_reducible refine wps_label ?_; simp only [thenQ, blockQ])
   | (with_reducible refine wps_region callOK ?_; apply runE; simp [zS, *, SS.post]; exact rfl)
   | (with_reducible refine run_end ?_; simp only [thenQ, blockQ])
   | (refine wps_drawQ mixed callOK (by decide +kernel) (by decide +kernel) rfl ?_; apply runQ; simp [zS, zW, clsOf, mkBlk, guardA, Heap.lay, ontoF, *, SS.post]; exact rfl)
   | (with_reducible refine run_endQ ?_; refine ⟨by repeat first | exact okC_n | refine okC_c (by decide +kernel) ?_, ?_⟩; simp only [thenQ, blockQ, allPend, Heap.lay, ontoF])
   | (with_reducible refine gate_splitQ (fun hc => ?_) (fun hc => ?_) <;> ((have hd := hc); (try simp at hd); (try subst hd); apply runQ; simp [zS, zW, clsOf, mkBlk, guardA, Heap.lay, ontoF, *, SS.post]; exact rfl))
   | (with_reducible refine gate_splitX (fun hc => ?_) (fun hc => ?_) <;> ((have hd := hc); (try simp at hd); (try subst hd); apply runQ; simp [zS, zW, clsOf, mkBlk, guardA, Heap.lay, ontoF, *, SS.post]; exact rfl))
   | (with_reducible refine pick_splitQ (fun hc => ?_) (fun hc => ?_) <;> ((have hd := hc); (try simp at hd); (try subst hd); apply runQ; simp [zS, zW, clsOf, mkBlk, guardA, Heap.lay, ontoF, *, SS.post]; exact rfl))
   | (with_reducible refine gate_split (fun hc => ?_) (fun hc => ?_) <;> ((have hd := hc); (try simp at hd); (try subst hd); apply runE; simp [zS, *, SS.post]; exact rfl))
   | (with_reducible refine pick_split (fun hc => ?_) (fun hc => ?_) <;> ((have hd := hc); (try simp at hd); (try subst hd); apply runE; simp [zS, *, SS.post]; exact rfl))
   | (refine wps_ct rfl ?_)
   | (refine wps_cf rfl ?_)
   | (refine wps_cond rfl (fun hc => ?_) (fun hc => ?_) <;> ((have hd := hc); (try simp at hd); (try subst hd)))
   | (with_reducible refine wps_skip ?_; simp only [thenQ, blockQ])
   | (with_reducible refine wps_exit ?_; simp [thenQ, blockQ])
   | (with_reducible refine wps_ret ?_; simp [retVal, Tryz.f34, oneOr, thenQ, blockQ])))
  all_goals first | (((try simp [retVal, Tryz.f34, oneOr]); refine ends_J2 (by simp [*]) (by first | rfl | (simp [*]; done)) (by simp [pureV, pureL]) (by omega) (by (try exact h9); (all_goals exact newT_ne _ _ _ _)) (by simp [getF]) (by simp [getF]) (by simp [getF]) (by first | (simp [getF, Tk.cs]; done) | (simp [getF, Tk.cs, *]; done)))) | (exfalso; omega) | (trace_state; fail)
theorem inj_34 (x y : Str) (h : (fun z : Str => ([.str z] : List AV)) x = (fun z : Str => ([.str z] : List AV)) y) : x = y := by
 simp only [List.cons.injEq, and_true] at h
 exact AV.str.inj h
noncomputable def e34 : Entry Tryz.prog := mkJ 34 [[]] (fun z : Str => [.str z]) (fun z x => (x.s.foster = false) ∧ (SOk x.s)) (fun z x => .int .i64 (x.s.tree.length : Int)) (fun z x => ⟨elS x.s 0 z [], x.t, x.b⟩) fun z x ne h => ⟨c34 (T := [e50]) rfl ne z h.1 h.2, by simp [pureL, pureV], by simp [pureV, pureL], by (try exact h9); (all_goals exact newT_ne _ _ _ _)⟩
theorem k34 {T : List (Entry Tryz.prog)} (hT : findE 34 T = some e34.g) {s : SS} {t : Tk} {b : Str} (ne : s.tree ≠ []) (x : Str) (hf : s.foster = false) (ok : SOk s) {n k jb tb : Nat} {fr : List (Nat × Blk)} (d : dJ n k jb tb) (of : offJ k jb tb fr) : callL (ctx T) (.fn 34) [.ptr jb 0, .str x] ⟨n, [(jb, .cells [.ptr 0 0, .ptr tb 0, .str b]) :: (tb, .cells t.cs) :: fr, VS k s]⟩ = some (.int .i64 (s.tree.length : Int), ⟨n + 1, [(jb, .cells [.ptr 0 0, .ptr tb 0, .str (b)]) :: (tb, .cells (Tk.cs (t))) :: fr, VS n (elS s 0 x [])]⟩) :=
 mkJ_eq (x := ⟨s, t, b⟩) hT inj_34 (x) ne ⟨hf, ok⟩ (by simp [pureL, pureV]) (by simp [thawL, thawA_ok]) d of
def shutJ (s : SS) : SS := if 1 < s.opn.length then { s with opn := s.opn.dropLast } else s
theorem c38 {T : List (Entry Tryz.prog)} (hc0 : findE 27 T = some e27z.g) {s : SS} {t : Tk} {b : Str} (ne : s.tree ≠ [])  (ho : s.opn.length ≤ 100000) : JC T 38 [] ⟨s, t, b⟩ (.tup []) ⟨shutJ s, t, b⟩ := by
 have kc0 := @k27z T hc0
 have g0 := @vg0
 have v0 := @vset
 obtain ⟨kd, nm, L, sf, dt⟩ := t
 have lO := fun H => lenI (H := H) (L := s.opn)
 unfold shutJ
 by_cases h1 : 1 < s.opn.length
 rw [if_pos h1]
 have h1' : (1 : Int) < (s.opn.length : Int) := by omega
 have hw : wr .i64 ((s.opn.length : Int) - 1) = some ((s.opn.length - 1 : Nat) : Int) := by
  rw [show ((s.opn.length : Int) - 1) = ((s.opn.length - 1 : Nat) : Int) by omega]
  exact wr_small (by omega) (by omega)
 have hs := fun H => fsl_to (H := H) (L := s.opn) (k := s.opn.length - 1) (by omega)
 rw [← List.dropLast_eq_take] at hs
 have kC := fun H => kc0 (L := s.opn.dropLast) (by simp; omega) H
 clear kc0
 generalize ((s.opn.length - 1 : Nat) : Int) = w at *
 generalize s.opn.dropLast = D at *
 rotate_left
 rw [if_neg h1]
 have h1' : ¬ (1 : Int) < (s.opn.length : Int) := by omega
 all_goals
  (try simp only [Tk.cs] at *)
  refine callAt_body (fn := Tryz.f38) (s0 := ⟨[0, 2], [.ptr 1 0, .undef], [], 30, ⟨4, [] :: [_]⟩⟩) Tryz.func38 rfl rfl rfl ?_
  refine permJ ?_
  try simp only [Tk.cs]
  (repeat' (first
   | with_reducible refine wps_seq ?_
   | with_reducible refine wps_block ?_
   | (with_reducible refine wps_label ?_; simp only [thenQ, blockQ])
   | (with_reducible refine wps_region callOK ?_; apply runE; simp [zS, *, SS.post]; exact rfl)
   | (with_reducible refine run_end ?_; simp only [thenQ, blockQ])
   | (refine wps_drawQ mixed callOK (by decide +kernel) (by decide +kernel) rfl ?_; apply runQ; simp [zS, zW, clsOf, mkBlk, guardA, Heap.lay, ontoF, *, SS.post]; exact rfl)
   | (with_reducible refine run_endQ ?_; refine ⟨by repeat first | exact okC_n | refine okC_c (by decide +kernel) ?_, ?_⟩; simp only [thenQ, blockQ, allPend, Heap.lay, ontoF])
   | (with_reducible refine gate_splitQ (fun hc => ?_) (fun hc => ?_) <;> ((have hd := hc); (try simp at hd); (try subst hd); apply runQ; simp [zS, zW, clsOf, mkBlk, guardA, Heap.lay, ontoF, *, SS.post]; exact rfl))
   | (with_reducible refine gate_splitX (fun hc => ?_) (fun hc => ?_) <;> ((have hd := hc); (try simp at hd); (try subst hd); apply runQ; simp [zS, zW, clsOf, mkBlk, guardA, Heap.lay, ontoF, *, SS.post]; exact rfl))
   | (with_reducible refine pick_splitQ (fun hc => ?_) (fun hc => ?_) <;> ((have hd := hc); (try simp at hd); (try subst hd); apply runQ; simp [zS, zW, clsOf, mkBlk, guardA, Heap.lay, ontoF, *, SS.post]; exact rfl))
   | (with_reducible refine gate_split (fun hc => ?_) (fun hc => ?_) <;> ((have hd := hc); (try simp at hd); (try subst hd); apply runE; simp [zS, *, SS.post]; exact rfl))
   | (with_reducible refine pick_split (fun hc => ?_) (fun hc => ?_) <;> ((have hd := hc); (try simp at hd); (try subst hd); apply runE; simp [zS, *, SS.post]; exact rfl))
   | (refine wps_ct rfl ?_)
   | (refine wps_cf rfl ?_)
   | (refine wps_cond rfl (fun hc => ?_) (fun hc => ?_) <;> ((have hd := hc); (try simp at hd); (try subst hd)))
   | (with_reducible refine wps_skip ?_; simp only [thenQ, blockQ])
   | (with_reducible refine wps_exit ?_; simp [thenQ, blockQ])
   | (with_reducible refine wps_ret ?_; simp [retVal, Tryz.f38, oneOr, thenQ, blockQ])))
  all_goals first | (((try simp [retVal, Tryz.f38, oneOr]); refine ends_J2 (by simp [*]) (by first | rfl | (simp [*]; done)) (by simp [pureV, pureL]) (by omega) (by (try exact ne); (all_goals (unfold shutJ; split <;> exact ne))) (by simp [getF]) (by simp [getF]) (by simp [getF]) (by first | (simp [getF, Tk.cs]; done) | (simp [getF, Tk.cs, *]; done)))) | (exfalso; omega) | (trace_state; fail)
theorem inj_38 (x y : Unit) (h : (fun z : Unit => ([] : List AV)) x = (fun z : Unit => ([] : List AV)) y) : x = y := by
 rfl
noncomputable def e38 : Entry Tryz.prog := mkJ 38 [] (fun z : Unit => []) (fun z x => (x.s.opn.length ≤ 100000)) (fun z x => .tup []) (fun z x => ⟨shutJ x.s, x.t, x.b⟩) fun z x ne h => ⟨c38 (T := [e27z]) rfl ne  h, by simp [pureL, pureV], by simp [pureV, pureL], by (try exact ne); (all_goals (unfold shutJ; split <;> exact ne))⟩
theorem k38 {T : List (Entry Tryz.prog)} (hT : findE 38 T = some e38.g) {s : SS} {t : Tk} {b : Str} (ne : s.tree ≠ [])  (ho : s.opn.length ≤ 100000) {n k jb tb : Nat} {fr : List (Nat × Blk)} (d : dJ n k jb tb) (of : offJ k jb tb fr) : callL (ctx T) (.fn 38) [.ptr jb 0] ⟨n, [(jb, .cells [.ptr 0 0, .ptr tb 0, .str b]) :: (tb, .cells t.cs) :: fr, VS k s]⟩ = some (.tup [], ⟨n + 1, [(jb, .cells [.ptr 0 0, .ptr tb 0, .str (b)]) :: (tb, .cells (Tk.cs (t))) :: fr, VS n (shutJ s)]⟩) :=
 mkJ_eq (x := ⟨s, t, b⟩) hT inj_38 () ne ho (by simp [pureL, pureV]) (by simp [thawL, thawA_ok]) d of
theorem c55t {T : List (Entry Tryz.prog)} (hc0 : findE 50 T = some e50.g) (hc1 : findE 11 T = some e11.g) {s : SS} {t : Tk} (ne : s.tree ≠ [])  (hf : s.foster = false) (ok : SOk s) (ha : t.attrs.length ≤ 1000000) : TC T 55 [] ⟨s, t⟩ (.tup []) ⟨textsS s t.name t.attrs, t⟩ := by
 have kc0 := @k50 T hc0
 have kc1 := @k11 T hc1
 have g0 := @vg0
 have v0 := @vset
 obtain ⟨kd, nm, L, sf, dt⟩ := t
 have kE := fun n k fr => @kc0 s ne ⟨kd, nm, L, sf, dt⟩ 0 hf ok ha n k fr
 simp only [aTok, Tk.cs] at kE
 have e : textsS s nm L = ⟨(elS s 0 nm L).tree, (elS s 0 nm L).opn, s.act, 6, s.mode, lexedI nm, s.form, s.head, s.foster, s.skip, s.inside⟩ := rfl
 have n1 : (elS s 0 nm L).tree ≠ [] := newT_ne _ _ _ _
 have e1 : elS s 0 nm L = ⟨(elS s 0 nm L).tree, (elS s 0 nm L).opn, s.act, s.mode, s.back, s.lex, s.form, s.head, s.foster, s.skip, s.inside⟩ := rfl
 rw [e1] at kE
 simp only
 rw [e]
 generalize (elS s 0 nm L).tree = t1 at *
 generalize (elS s 0 nm L).opn = o1 at *
 clear e e1 kc0
 all_goals
  (try simp only [Tk.cs] at *)
  refine callAt_body (fn := Tryz.f55) (s0 := ⟨[0, 1], [.ptr 0 0, .ptr 1 0], [], 27, ⟨3, [] :: [_]⟩⟩) Tryz.func55 rfl rfl rfl ?_
  refine permT ?_
  try simp only [Tk.cs]
  (repeat' (first
   | with_reducible refine wps_seq ?_
   | with_reducible refine wps_block ?_
   | (with_reducible refine wps_label ?_; simp only [thenQ, blockQ])
   | (with_reducible refine wps_region callOK ?_; apply runE; simp [zS, *, SS.post]; exact rfl)
   | (with_reducible refine run_end ?_; simp only [thenQ, blockQ])
   | (refine wps_drawQ mixed callOK (by decide +kernel) (by decide +kernel) rfl ?_; apply runQ; simp [zS, zW, clsOf, mkBlk, guardA, Heap.lay, ontoF, *, SS.post]; exact rfl)
   | (with_reducible refine run_endQ ?_; refine ⟨by repeat first | exact okC_n | refine okC_c (by decide +kernel) ?_, ?_⟩; simp only [thenQ, blockQ, allPend, Heap.lay, ontoF])
   | (with_reducible refine gate_splitQ (fun hc => ?_) (fun hc => ?_) <;> ((have hd := hc); (try simp at hd); (try subst hd); apply runQ; simp [zS, zW, clsOf, mkBlk, guardA, Heap.lay, ontoF, *, SS.post]; exact rfl))
   | (with_reducible refine gate_splitX (fun hc => ?_) (fun hc => ?_) <;> ((have hd := hc); (try simp at hd); (try subst hd); apply runQ; simp [zS, zW, clsOf, mkBlk, guardA, Heap.lay, ontoF, *, SS.post]; exact rfl))
   | (with_reducible refine pick_splitQ (fun hc => ?_) (fun hc => ?_) <;> ((have hd := hc); (try simp at hd); (try subst hd); apply runQ; simp [zS, zW, clsOf, mkBlk, guardA, Heap.lay, ontoF, *, SS.post]; exact rfl))
   | (with_reducible refine gate_split (fun hc => ?_) (fun hc => ?_) <;> ((have hd := hc); (try simp at hd); (try subst hd); apply runE; simp [zS, *, SS.post]; exact rfl))
   | (with_reducible refine pick_split (fun hc => ?_) (fun hc => ?_) <;> ((have hd := hc); (try simp at hd); (try subst hd); apply runE; simp [zS, *, SS.post]; exact rfl))
   | (refine wps_ct rfl ?_)
   | (refine wps_cf rfl ?_)
   | (refine wps_cond rfl (fun hc => ?_) (fun hc => ?_) <;> ((have hd := hc); (try simp at hd); (try subst hd)))
   | (with_reducible refine wps_skip ?_; simp only [thenQ, blockQ])
   | (with_reducible refine wps_exit ?_; simp [thenQ, blockQ])
   | (with_reducible refine wps_ret ?_; simp [retVal, Tryz.f55, oneOr, thenQ, blockQ])))
  all_goals first | (((try simp [retVal, Tryz.f55, oneOr]); refine ends_T2 (by simp [*]) (by first | rfl | (simp [*]; done)) (by simp [pureV, pureL]) (by omega) (by (try exact n1); (all_goals exact newT_ne _ _ _ _)) (by simp [getF]) (by simp [getF]) (by first | (simp [getF, Tk.cs]; done) | (simp [getF, Tk.cs, *]; done)))) | (exfalso; omega) | (trace_state; fail)
theorem inj_55t (x y : Unit) (h : (fun z : Unit => ([] : List AV)) x = (fun z : Unit => ([] : List AV)) y) : x = y := by
 rfl
noncomputable def e55t : Entry Tryz.prog := mkT 55 [] (fun z : Unit => []) (fun z x => (x.s.foster = false) ∧ (SOk x.s) ∧ (x.t.attrs.length ≤ 1000000)) (fun z x => .tup []) (fun z x => ⟨textsS x.s x.t.name x.t.attrs, x.t⟩) fun z x ne h => ⟨c55t (T := [e50, e11]) rfl rfl ne  h.1 h.2.1 h.2.2, by simp [pureL, pureV], by simp [pureV, pureL], by (try exact n1); (all_goals exact newT_ne _ _ _ _)⟩
theorem k55t {T : List (Entry Tryz.prog)} (hT : findE 55 T = some e55t.g) {s : SS} {t : Tk} (ne : s.tree ≠ [])  (hf : s.foster = false) (ok : SOk s) (ha : t.attrs.length ≤ 1000000) {n k tb : Nat} {fr : List (Nat × Blk)} (d : dT n k tb) (of : offT k tb fr) : callL (ctx T) (.fn 55) [.ptr 0 0, .ptr tb 0] ⟨n, [(tb, .cells t.cs) :: fr, VS k s]⟩ = some (.tup [], ⟨n + 1, [(tb, .cells (Tk.cs (t))) :: fr, VS n (textsS s t.name t.attrs)]⟩) :=
 mkT_eq (x := ⟨s, t⟩) (f1 := []) hT inj_55t () ne ⟨hf, ok, ha⟩ (by simp [pureL, pureV]) (by simp [thawL, thawA_ok]) d (by simp) of
theorem c54t {T : List (Entry Tryz.prog)} (hc0 : findE 50 T = some e50.g) (hc1 : findE 72 T = some e72.g) {s : SS} {t : Tk} (ne : s.tree ≠ [])  (hf : s.foster = false) (ok : SOk s) (ha : t.attrs.length ≤ 1000000) : TC T 54 [] ⟨s, t⟩ (.tup []) ⟨aloneS s t.name t.attrs, t⟩ := by
 have kc0 := @k50 T hc0
 have kc1 := @k72 T hc1
 have g0 := @vg0
 have v0 := @vset
 obtain ⟨kd, nm, L, sf, dt⟩ := t
 have kE := fun n k fr => @kc0 s ne ⟨kd, nm, L, sf, dt⟩ 0 hf ok ha n k fr
 simp only [aTok, Tk.cs] at kE
 have n1 : (aloneS s nm L).tree ≠ [] := newT_ne _ _ _ _
 have kS := fun n k fr => @kc1 (elS s 0 nm L) (newT_ne _ _ _ _) (by simp [elS]) (by have := ok.op; simp [elS]; omega) n k fr
 rw [aloneS_eq] at kS
 clear kc0 kc1 ok
 simp only
 generalize elS s 0 nm L = s1 at *
 generalize aloneS s nm L = s2 at *
 all_goals
  (try simp only [Tk.cs] at *)
  refine callAt_body (fn := Tryz.f54) (s0 := ⟨[0, 1], [.ptr 0 0, .ptr 1 0], [], 11, ⟨3, [] :: [_]⟩⟩) Tryz.func54 rfl rfl rfl ?_
  refine permT ?_
  try simp only [Tk.cs]
  (repeat' (first
   | with_reducible refine wps_seq ?_
   | with_reducible refine wps_block ?_
   | (with_reducible refine wps_label ?_; simp only [thenQ, blockQ])
   | (with_reducible refine wps_region callOK ?_; apply runE; simp [zS, *, SS.post]; exact rfl)
   | (with_reducible refine run_end ?_; simp only [thenQ, blockQ])
   | (refine wps_drawQ mixed callOK (by decide +kernel) (by decide +kernel) rfl ?_; apply runQ; simp [zS, zW, clsOf, mkBlk, guardA, Heap.lay, ontoF, *, SS.post]; exact rfl)
   | (with_reducible refine run_endQ ?_; refine ⟨by repeat first | exact okC_n | refine okC_c (by decide +kernel) ?_, ?_⟩; simp only [thenQ, blockQ, allPend, Heap.lay, ontoF])
   | (with_reducible refine gate_splitQ (fun hc => ?_) (fun hc => ?_) <;> ((have hd := hc); (try simp at hd); (try subst hd); apply runQ; simp [zS, zW, clsOf, mkBlk, guardA, Heap.lay, ontoF, *, SS.post]; exact rfl))
   | (with_reducible refine gate_splitX (fun hc => ?_) (fun hc => ?_) <;> ((have hd := hc); (try simp at hd); (try subst hd); apply runQ; simp [zS, zW, clsOf, mkBlk, guardA, Heap.lay, ontoF, *, SS.post]; exact rfl))
   | (with_reducible refine pick_splitQ (fun hc => ?_) (fun hc => ?_) <;> ((have hd := hc); (try simp at hd); (try subst hd); apply runQ; simp [zS, zW, clsOf, mkBlk, guardA, Heap.lay, ontoF, *, SS.post]; exact rfl))
   | (with_reducible refine gate_split (fun hc => ?_) (fun hc => ?_) <;> ((have hd := hc); (try simp at hd); (try subst hd); apply runE; simp [zS, *, SS.post]; exact rfl))
   | (with_reducible refine pick_split (fun hc => ?_) (fun hc => ?_) <;> ((have hd := hc); (try simp at hd); (try subst hd); apply runE; simp [zS, *, SS.post]; exact rfl))
   | (refine wps_ct rfl ?_)
   | (refine wps_cf rfl ?_)
   | (refine wps_cond rfl (fun hc => ?_) (fun hc => ?_) <;> ((have hd := hc); (try simp at hd); (try subst hd)))
   | (with_reducible refine wps_skip ?_; simp only [thenQ, blockQ])
   | (with_reducible refine wps_exit ?_; simp [thenQ, blockQ])
   | (with_reducible refine wps_ret ?_; simp [retVal, Tryz.f54, oneOr, thenQ, blockQ])))
  all_goals first | (((try simp [retVal, Tryz.f54, oneOr]); refine ends_T2 (by simp [*]) (by first | rfl | (simp [*]; done)) (by simp [pureV, pureL]) (by omega) (by (try exact n1); (all_goals exact newT_ne _ _ _ _)) (by simp [getF]) (by simp [getF]) (by first | (simp [getF, Tk.cs]; done) | (simp [getF, Tk.cs, *]; done)))) | (exfalso; omega) | (trace_state; fail)
theorem inj_54t (x y : Unit) (h : (fun z : Unit => ([] : List AV)) x = (fun z : Unit => ([] : List AV)) y) : x = y := by
 rfl
noncomputable def e54t : Entry Tryz.prog := mkT 54 [] (fun z : Unit => []) (fun z x => (x.s.foster = false) ∧ (SOk x.s) ∧ (x.t.attrs.length ≤ 1000000)) (fun z x => .tup []) (fun z x => ⟨aloneS x.s x.t.name x.t.attrs, x.t⟩) fun z x ne h => ⟨c54t (T := [e50, e72]) rfl rfl ne  h.1 h.2.1 h.2.2, by simp [pureL, pureV], by simp [pureV, pureL], by (try exact n1); (all_goals exact newT_ne _ _ _ _)⟩
theorem k54t {T : List (Entry Tryz.prog)} (hT : findE 54 T = some e54t.g) {s : SS} {t : Tk} (ne : s.tree ≠ [])  (hf : s.foster = false) (ok : SOk s) (ha : t.attrs.length ≤ 1000000) {n k tb : Nat} {fr : List (Nat × Blk)} (d : dT n k tb) (of : offT k tb fr) : callL (ctx T) (.fn 54) [.ptr 0 0, .ptr tb 0] ⟨n, [(tb, .cells t.cs) :: fr, VS k s]⟩ = some (.tup [], ⟨n + 1, [(tb, .cells (Tk.cs (t))) :: fr, VS n (aloneS s t.name t.attrs)]⟩) :=
 mkT_eq (x := ⟨s, t⟩) (f1 := []) hT inj_54t () ne ⟨hf, ok, ha⟩ (by simp [pureL, pureV]) (by simp [thawL, thawA_ok]) d (by simp) of
theorem c37t {T : List (Entry Tryz.prog)} (hc0 : findE 54 T = some e54t.g) (hc1 : findE 55 T = some e55t.g) {s : SS} {t : Tk} (ne : s.tree ≠ [])  (hf : s.foster = false) (ok : SOk s) (ha : t.attrs.length ≤ 1000000) : TC T 37 [] ⟨s, t⟩ (.bool (metaB t)) ⟨metaS s t, t⟩ := by
 have kc0 := @k54t T hc0
 have kc1 := @k55t T hc1
 have g0 := @vg0
 have v0 := @vset
 obtain ⟨kd, nm, L, sf, dt⟩ := t
 have n1 := metaS_ne ne ⟨kd, nm, L, sf, dt⟩
 have kA := fun n k tb fr => @kc0 s ⟨kd, nm, L, sf, dt⟩ ne hf ok ha n k tb fr
 have kT := fun n k tb fr => @kc1 s ⟨kd, nm, L, sf, dt⟩ ne hf ok ha n k tb fr
 simp only [Tk.cs] at kA kT
 clear kc0 kc1 hf ok ha
 all_goals
  (try simp only [Tk.cs] at *)
  refine callAt_body (fn := Tryz.f37) (s0 := ⟨[0, 1, 4, 13, 14, 23], [.ptr 0 0, .ptr 1 0, .undef, .undef, .undef, .undef], [], 31, ⟨3, [] :: [_]⟩⟩) Tryz.func37 rfl rfl rfl ?_
  refine permT ?_
  try simp only [Tk.cs]
  (repeat' (first
   | with_reducible refine wps_seq ?_
   | with_reducible refine wps_block ?_
   | (with_reducible refine wps_label ?_; simp only [thenQ, blockQ])
   | (with_reducible refine wps_region callOK ?_; apply runE; simp [zS, *, SS.post]; exact rfl)
   | (with_reducible refine run_end ?_; simp only [thenQ, blockQ])
   | (refine wps_drawQ mixed callOK (by decide +kernel) (by decide +kernel) rfl ?_; apply runQ; simp [zS, zW, clsOf, mkBlk, guardA, Heap.lay, ontoF, *, SS.post]; exact rfl)
   | (with_reducible refine run_endQ ?_; refine ⟨by repeat first | exact okC_n | refine okC_c (by decide +kernel) ?_, ?_⟩; simp only [thenQ, blockQ, allPend, Heap.lay, ontoF])
   | (with_reducible refine gate_splitQ (fun hc => ?_) (fun hc => ?_) <;> ((have hd := hc); (try simp at hd); (try subst hd); apply runQ; simp [zS, zW, clsOf, mkBlk, guardA, Heap.lay, ontoF, *, SS.post]; exact rfl))
   | (with_reducible refine gate_splitX (fun hc => ?_) (fun hc => ?_) <;> ((have hd := hc); (try simp at hd); (try subst hd); apply runQ; simp [zS, zW, clsOf, mkBlk, guardA, Heap.lay, ontoF, *, SS.post]; exact rfl))
   | (with_reducible refine pick_splitQ (fun hc => ?_) (fun hc => ?_) <;> ((have hd := hc); (try simp at hd); (try subst hd); apply runQ; simp [zS, zW, clsOf, mkBlk, guardA, Heap.lay, ontoF, *, SS.post]; exact rfl))
   | (with_reducible refine gate_split (fun hc => ?_) (fun hc => ?_) <;> ((have hd := hc); (try simp at hd); (try subst hd); apply runE; simp [zS, *, SS.post]; exact rfl))
   | (with_reducible refine pick_split (fun hc => ?_) (fun hc => ?_) <;> ((have hd := hc); (try simp at hd); (try subst hd); apply runE; simp [zS, *, SS.post]; exact rfl))
   | (refine wps_ct rfl ?_)
   | (refine wps_cf rfl ?_)
   | (refine wps_cond rfl (fun hc => ?_) (fun hc => ?_) <;> ((have hd := hc); (try simp at hd); (try subst hd)))
   | (with_reducible refine wps_skip ?_; simp only [thenQ, blockQ])
   | (with_reducible refine wps_exit ?_; simp [thenQ, blockQ])
   | (with_reducible refine wps_ret ?_; simp [retVal, Tryz.f37, oneOr, thenQ, blockQ])))
  all_goals first | (((try simp [retVal, Tryz.f37, oneOr]); refine ends_T2 (by simp_all [metaB, metaA, metaT]) (by simp_all [metaS, metaA, metaT]) (by simp [pureV, pureL]) (by omega) n1 (by simp [getF]) (by simp [getF]) (by first | (simp [getF, Tk.cs]; done) | (simp [getF, Tk.cs, *]; done)))) | (exfalso; omega) | (trace_state; fail)
theorem inj_37t (x y : Unit) (h : (fun z : Unit => ([] : List AV)) x = (fun z : Unit => ([] : List AV)) y) : x = y := by
 rfl
noncomputable def e37t : Entry Tryz.prog := mkT 37 [] (fun z : Unit => []) (fun z x => (x.s.foster = false) ∧ (SOk x.s) ∧ (x.t.attrs.length ≤ 1000000)) (fun z x => .bool (metaB x.t)) (fun z x => ⟨metaS x.s x.t, x.t⟩) fun z x ne h => ⟨c37t (T := [e54t, e55t]) rfl rfl ne  h.1 h.2.1 h.2.2, by simp [pureL, pureV], by simp [pureV, pureL], by (try exact n1); (all_goals exact metaS_ne ne _)⟩
theorem m37t {T : List (Entry Tryz.prog)} (hT : findE 37 T = some e37t.g) {s : SS} {t : Tk} (ne : s.tree ≠ [])  (hf : s.foster = false) (ok : SOk s) (ha : t.attrs.length ≤ 1000000) {n k tb : Nat} {x : Nat × Blk} {fr : List (Nat × Blk)} (d : dT n k tb) (o1 : x.1 ≠ 0 ∧ x.1 ≠ k ∧ x.1 ≠ tb) (of : offT k tb fr) : callL (ctx T) (.fn 37) [.ptr 0 0, .ptr tb 0] ⟨n, [x :: (tb, .cells t.cs) :: fr, VS k s]⟩ = some (.bool (metaB t), ⟨n + 1, [x :: (tb, .cells (Tk.cs (t))) :: fr, VS n (metaS s t)]⟩) :=
 mkT_eq (x := ⟨s, t⟩) (f1 := [x]) hT inj_37t () ne ⟨hf, ok, ha⟩ (by simp [pureL, pureV]) (by simp [thawL, thawA_ok]) d (by simp; exact o1) of
structure HtOk (s : SS) : Prop where
 nm : nmOk s.tree
 op : s.opn.length ≤ 100000
 rg : ∀ i, i ∈ s.opn → 0 ≤ i ∧ i < (s.tree.length : Int)
 at0 : (nodeAt s.tree (s.opn.getD 0 0)).attrs.length ≤ 850
theorem c60t {T : List (Entry Tryz.prog)} (hc0 : findE 83 T = some e83.g) {s : SS} {t : Tk} (ne : s.tree ≠ [])  (h : HtOk s) (ha : t.attrs.length ≤ 14) (hn : t.name = [104, 116, 109, 108]) : TC T 60 [] ⟨s, t⟩ (.bool false) ⟨lendS s 0 [] t.attrs, t⟩ := by
 have kc0 := @k83 T hc0
 have g0 := @vg0
 have v0 := @vset
 obtain ⟨kd, nm, L, sf, dt⟩ := t
 have kL : ∀ n k fr (k0 : 0 < k) (kn : k < n) (of : offS k fr), callL (ctx T) (.fn 83) [.ptr 0 0, .int .i64 0, .str [], aAttrs L] ⟨n, [fr, VS k s]⟩ = some (.tup [], ⟨n + 1, [fr, VS n (lendS s 0 [] L)]⟩) := fun n k fr k0 kn of =>
  @kc0 s ne 0 [] L (ascB (by decide)) (by decide) h.nm h.op h.rg (by decide) (by have := h.at0; simp only at ha; omega) n k fr k0 kn of
 have ne2 := lendS_ne ne 0 [] L
 simp only at hn
 clear kc0 ha h
 simp only
 generalize lendS s 0 [] L = s1 at *
 all_goals
  (try simp only [Tk.cs] at *)
  refine callAt_body (fn := Tryz.f60) (s0 := ⟨[0, 1, 4, 8, 48, 83, 104, 110, 116], [.ptr 0 0, .ptr 1 0, .undef, .undef, .undef, .undef, .undef, .undef, .undef], [], 123, ⟨3, [] :: [_]⟩⟩) Tryz.func60 rfl rfl rfl ?_
  refine permT ?_
  try simp only [Tk.cs]
  (repeat' (first
   | with_reducible refine wps_seq ?_
   | with_reducible refine wps_block ?_
   | (with_reducible refine wps_label ?_; simp only [thenQ, blockQ])
   | (with_reducible refine wps_region callOK ?_; apply runE; simp [zS, *, SS.post]; exact rfl)
   | (with_reducible refine run_end ?_; simp only [thenQ, blockQ])
   | (refine wps_drawQ mixed callOK (by decide +kernel) (by decide +kernel) rfl ?_; apply runQ; simp [zS, zW, clsOf, mkBlk, guardA, Heap.lay, ontoF, *, SS.post]; exact rfl)
   | (with_reducible refine run_endQ ?_; refine ⟨by repeat first | exact okC_n | refine okC_c (by decide +kernel) ?_, ?_⟩; simp only [thenQ, blockQ, allPend, Heap.lay, ontoF])
   | (with_reducible refine gate_splitQ (fun hc => ?_) (fun hc => ?_) <;> ((have hd := hc); (try simp at hd); (try subst hd); apply runQ; simp [zS, zW, clsOf, mkBlk, guardA, Heap.lay, ontoF, *, SS.post]; exact rfl))
   | (with_reducible refine gate_splitX (fun hc => ?_) (fun hc => ?_) <;> ((have hd := hc); (try simp at hd); (try subst hd); apply runQ; simp [zS, zW, clsOf, mkBlk, guardA, Heap.lay, ontoF, *, SS.post]; exact rfl))
   | (with_reducible refine pick_splitQ (fun hc => ?_) (fun hc => ?_) <;> ((have hd := hc); (try simp at hd); (try subst hd); apply runQ; simp [zS, zW, clsOf, mkBlk, guardA, Heap.lay, ontoF, *, SS.post]; exact rfl))
   | (with_reducible refine gate_split (fun hc => ?_) (fun hc => ?_) <;> ((have hd := hc); (try simp at hd); (try subst hd); apply runE; simp [zS, *, SS.post]; exact rfl))
   | (with_reducible refine pick_split (fun hc => ?_) (fun hc => ?_) <;> ((have hd := hc); (try simp at hd); (try subst hd); apply runE; simp [zS, *, SS.post]; exact rfl))
   | (refine wps_ct rfl ?_)
   | (refine wps_cf rfl ?_)
   | (refine wps_cond rfl (fun hc => ?_) (fun hc => ?_) <;> ((have hd := hc); (try simp at hd); (try subst hd)))
   | (with_reducible refine wps_skip ?_; simp only [thenQ, blockQ])
   | (with_reducible refine wps_exit ?_; simp [thenQ, blockQ])
   | (with_reducible refine wps_ret ?_; simp [retVal, Tryz.f60, oneOr, thenQ, blockQ])))
  all_goals first | (((try simp [retVal, Tryz.f60, oneOr]); refine ends_T2 (by simp [*]) (by first | rfl | (simp [*]; done)) (by simp [pureV, pureL]) (by omega) ne2 (by simp [getF]) (by simp [getF]) (by first | (simp [getF, Tk.cs]; done) | (simp [getF, Tk.cs, *]; done)))) | (exfalso; omega) | (trace_state; fail)
theorem inj_60t (x y : Unit) (h : (fun z : Unit => ([] : List AV)) x = (fun z : Unit => ([] : List AV)) y) : x = y := by
 rfl
noncomputable def e60t : Entry Tryz.prog := mkT 60 [] (fun z : Unit => []) (fun z x => (HtOk x.s) ∧ (x.t.attrs.length ≤ 14) ∧ (x.t.name = [104, 116, 109, 108])) (fun z x => .bool false) (fun z x => ⟨lendS x.s 0 [] x.t.attrs, x.t⟩) fun z x ne h => ⟨c60t (T := [e83]) rfl ne  h.1 h.2.1 h.2.2, by simp [pureL, pureV], by simp [pureV, pureL], by (try exact ne2); (all_goals exact lendS_ne ne _ _ _)⟩
theorem k60t {T : List (Entry Tryz.prog)} (hT : findE 60 T = some e60t.g) {s : SS} {t : Tk} (ne : s.tree ≠ [])  (h : HtOk s) (ha : t.attrs.length ≤ 14) (hn : t.name = [104, 116, 109, 108]) {n k tb : Nat} {fr : List (Nat × Blk)} (d : dT n k tb) (of : offT k tb fr) : callL (ctx T) (.fn 60) [.ptr 0 0, .ptr tb 0] ⟨n, [(tb, .cells t.cs) :: fr, VS k s]⟩ = some (.bool false, ⟨n + 1, [(tb, .cells (Tk.cs (t))) :: fr, VS n (lendS s 0 [] t.attrs)]⟩) :=
 mkT_eq (x := ⟨s, t⟩) (f1 := []) hT inj_60t () ne ⟨h, ha, hn⟩ (by simp [pureL, pureV]) (by simp [thawL, thawA_ok]) d (by simp) of
theorem c40t {T : List (Entry Tryz.prog)} (hc0 : findE 60 T = some e60t.g) {s : SS} {t : Tk} (ne : s.tree ≠ [])  (h : HtOk s) (ha : t.attrs.length ≤ 14) (hn : t.name = [104, 116, 109, 108]) (hk : t.kind = 1) : TC T 40 [] ⟨s, t⟩ (.bool false) ⟨lendS s 0 [] t.attrs, t⟩ := by
 have kc0 := @k60t T hc0
 have g0 := @vg0
 have v0 := @vset
 obtain ⟨kd, nm, L, sf, dt⟩ := t
 have kL := fun n k tb fr => @kc0 s ⟨kd, nm, L, sf, dt⟩ ne h ha hn n k tb fr
 simp only [Tk.cs] at kL
 have ne2 := lendS_ne ne 0 [] L
 simp only at hn hk
 simp only [hn, hk] at kL
 clear kc0 ha h
 simp only
 generalize lendS s 0 [] L = s1 at *
 all_goals
  (try simp only [Tk.cs] at *)
  refine callAt_body (fn := Tryz.f40) (s0 := ⟨[0, 1, 4, 8], [.ptr 0 0, .ptr 1 0, .undef, .undef], [], 37, ⟨3, [] :: [_]⟩⟩) Tryz.func40 rfl rfl rfl ?_
  refine permT ?_
  try simp only [Tk.cs]
  (repeat' (first
   | with_reducible refine wps_seq ?_
   | with_reducible refine wps_block ?_
   | (with_reducible refine wps_label ?_; simp only [thenQ, blockQ])
   | (with_reducible refine wps_region callOK ?_; apply runE; simp [zS, *, SS.post]; exact rfl)
   | (with_reducible refine run_end ?_; simp only [thenQ, blockQ])
   | (refine wps_drawQ mixed callOK (by decide +kernel) (by decide +kernel) rfl ?_; apply runQ; simp [zS, zW, clsOf, mkBlk, guardA, Heap.lay, ontoF, *, SS.post]; exact rfl)
   | (with_reducible refine run_endQ ?_; refine ⟨by repeat first | exact okC_n | refine okC_c (by decide +kernel) ?_, ?_⟩; simp only [thenQ, blockQ, allPend, Heap.lay, ontoF])
   | (with_reducible refine gate_splitQ (fun hc => ?_) (fun hc => ?_) <;> ((have hd := hc); (try simp at hd); (try subst hd); apply runQ; simp [zS, zW, clsOf, mkBlk, guardA, Heap.lay, ontoF, *, SS.post]; exact rfl))
   | (with_reducible refine gate_splitX (fun hc => ?_) (fun hc => ?_) <;> ((have hd := hc); (try simp at hd); (try subst hd); apply runQ; simp [zS, zW, clsOf, mkBlk, guardA, Heap.lay, ontoF, *, SS.post]; exact rfl))
   | (with_reducible refine pick_splitQ (fun hc => ?_) (fun hc => ?_) <;> ((have hd := hc); (try simp at hd); (try subst hd); apply runQ; simp [zS, zW, clsOf, mkBlk, guardA, Heap.lay, ontoF, *, SS.post]; exact rfl))
   | (with_reducible refine gate_split (fun hc => ?_) (fun hc => ?_) <;> ((have hd := hc); (try simp at hd); (try subst hd); apply runE; simp [zS, *, SS.post]; exact rfl))
   | (with_reducible refine pick_split (fun hc => ?_) (fun hc => ?_) <;> ((have hd := hc); (try simp at hd); (try subst hd); apply runE; simp [zS, *, SS.post]; exact rfl))
   | (refine wps_ct rfl ?_)
   | (refine wps_cf rfl ?_)
   | (refine wps_cond rfl (fun hc => ?_) (fun hc => ?_) <;> ((have hd := hc); (try simp at hd); (try subst hd)))
   | (with_reducible refine wps_skip ?_; simp only [thenQ, blockQ])
   | (with_reducible refine wps_exit ?_; simp [thenQ, blockQ])
   | (with_reducible refine wps_ret ?_; simp [retVal, Tryz.f40, oneOr, thenQ, blockQ])))
  all_goals first | (((try simp [retVal, Tryz.f40, oneOr]); refine ends_T2 (by simp [*]) (by first | rfl | (simp [*]; done)) (by simp [pureV, pureL]) (by omega) ne2 (by simp [getF]) (by simp [getF]) (by first | (simp [getF, Tk.cs]; done) | (simp [getF, Tk.cs, *]; done)))) | (exfalso; omega) | (trace_state; fail)
theorem inj_40t (x y : Unit) (h : (fun z : Unit => ([] : List AV)) x = (fun z : Unit => ([] : List AV)) y) : x = y := by
 rfl
noncomputable def e40t : Entry Tryz.prog := mkT 40 [] (fun z : Unit => []) (fun z x => (HtOk x.s) ∧ (x.t.attrs.length ≤ 14) ∧ (x.t.name = [104, 116, 109, 108]) ∧ (x.t.kind = 1)) (fun z x => .bool false) (fun z x => ⟨lendS x.s 0 [] x.t.attrs, x.t⟩) fun z x ne h => ⟨c40t (T := [e60t]) rfl ne  h.1 h.2.1 h.2.2.1 h.2.2.2, by simp [pureL, pureV], by simp [pureV, pureL], by (try exact ne2); (all_goals exact lendS_ne ne _ _ _)⟩
theorem m40t {T : List (Entry Tryz.prog)} (hT : findE 40 T = some e40t.g) {s : SS} {t : Tk} (ne : s.tree ≠ [])  (h : HtOk s) (ha : t.attrs.length ≤ 14) (hn : t.name = [104, 116, 109, 108]) (hk : t.kind = 1) {n k tb : Nat} {x : Nat × Blk} {fr : List (Nat × Blk)} (d : dT n k tb) (o1 : x.1 ≠ 0 ∧ x.1 ≠ k ∧ x.1 ≠ tb) (of : offT k tb fr) : callL (ctx T) (.fn 40) [.ptr 0 0, .ptr tb 0] ⟨n, [x :: (tb, .cells t.cs) :: fr, VS k s]⟩ = some (.bool false, ⟨n + 1, [x :: (tb, .cells (Tk.cs (t))) :: fr, VS n (lendS s 0 [] t.attrs)]⟩) :=
 mkT_eq (x := ⟨s, t⟩) (f1 := [x]) hT inj_40t () ne ⟨h, ha, hn, hk⟩ (by simp [pureL, pureV]) (by simp [thawL, thawA_ok]) d (by simp; exact o1) of
def comS (s : SS) (t : Tk) : SS := if t.kind = 4 then noteS s t (-1) else if t.kind = 5 then s else if t.kind = 1 ∧ t.name = [104, 116, 109, 108] then lendS s 0 [] t.attrs else s
def comB (t : Tk) : Bool := decide (t.kind = 4 ∨ t.kind = 5 ∨ (t.kind = 1 ∧ t.name = [104, 116, 109, 108]))
theorem comS_ne {s : SS} (ne : s.tree ≠ []) (t : Tk) : (comS s t).tree ≠ [] := by
 unfold comS
 split
 ·exact noteS_ne ne _ _
 split
 ·exact ne
 split
 ·exact lendS_ne ne _ _ _
 ·exact ne
theorem in_html (x : Str) : inW [104, 116, 109, 108] x = decide (x = [104, 116, 109, 108]) := by
 have : wsplit [104, 116, 109, 108] = [[104, 116, 109, 108]] := by decide
 simp [inW, this]
theorem c35 {T : List (Entry Tryz.prog)} (hc0 : findE 30 T = some e30.g) (hc1 : findE 32 T = some e32.g) (hc2 : findE 40 T = some e40t.g) {s : SS} {t : Tk} {b : Str} (ne : s.tree ≠ [])  (hf : s.foster = false) (ok : SOk s) (h : HtOk s) (ha : t.attrs.length ≤ 14) (hn : t.name.length ≤ 1000000000) : JC T 35 [] ⟨s, t, b⟩ (.tup [.bool (comB t), .bool false]) ⟨comS s t, t, b⟩ := by
 have kc0 := @k30 T hc0
 have kc1 := @k32 T hc1
 have kc2 := @m40t T hc2
 have g0 := @vg0
 have v0 := @vset
 obtain ⟨kd, nm, L, sf, dt⟩ := t
 have kN := fun n k jb tb fr => @kc0 s ⟨kd, nm, L, sf, dt⟩ b ne (-1) hf ok n k jb tb fr
 have kS := fun n k jb tb fr => @kc1 s ⟨kd, nm, L, sf, dt⟩ b ne [104, 116, 109, 108] (ascB (by decide)) (by decide) hn n k jb tb fr
 have kB := fun h1 h2 n k tb x fr => @kc2 s ⟨kd, nm, L, sf, dt⟩ ne h ha h1 h2 n k tb x fr
 have h9 := comS_ne ne ⟨kd, nm, L, sf, dt⟩
 clear kc0 kc1 kc2 hf ok h ha hn
 simp only [in_html, Tk.cs] at kN kS kB
 have n5 : noteS s ⟨kd, nm, L, sf, dt⟩ (-1) = if kd = 4 then noteS s ⟨kd, nm, L, sf, dt⟩ (-1) else s := by
  split
  ·rfl
  ·unfold noteS; rw [if_neg (by assumption)]
 rw [n5] at kN
 simp only [comS, comB] at *
 clear n5
 generalize noteS s ⟨kd, nm, L, sf, dt⟩ (-1) = s1 at *
 generalize lendS s 0 [] L = s2 at *
 by_cases k4 : kd = 4
 simp only [k4] at kN kS kB
 rotate_left
 by_cases k5 : kd = 5
 simp only [k5] at kN kS kB
 rotate_left
 by_cases k1 : kd = 1
 simp only [k1] at kN kS kB
 by_cases k2 : nm = [104, 116, 109, 108]
 simp only [k2] at kN kS kB
 all_goals
  (try simp only [Tk.cs] at *)
  refine callAt_body (fn := Tryz.f35) (s0 := ⟨[0, 2, 3], [.ptr 1 0, .undef, .undef], [], 29, ⟨4, [] :: [_]⟩⟩) Tryz.func35 rfl rfl rfl ?_
  refine permJ ?_
  try simp only [Tk.cs]
  (repeat' (first
   | with_reducible refine wps_seq ?_
   | with_reducible refine wps_block ?_
   | (with_reducible refine wps_label ?_; simp only [thenQ, blockQ])
   | (with_reducible refine wps_region callOK ?_; apply runE; simp [zS, *, SS.post]; exact rfl)
   | (with_reducible refine run_end ?_; simp only [thenQ, blockQ])
   | (refine wps_drawQ mixed callOK (by decide +kernel) (by decide +kernel) rfl ?_; apply runQ; simp [zS, zW, clsOf, mkBlk, guardA, Heap.lay, ontoF, *, SS.post]; exact rfl)
   | (with_reducible refine run_endQ ?_; refine ⟨by repeat first | exact okC_n | refine okC_c (by decide +kernel) ?_, ?_⟩; simp only [thenQ, blockQ, allPend, Heap.lay, ontoF])
   | (with_reducible refine gate_splitQ (fun hc => ?_) (fun hc => ?_) <;> ((have hd := hc); (try simp at hd); (try subst hd); apply runQ; simp [zS, zW, clsOf, mkBlk, guardA, Heap.lay, ontoF, *, SS.post]; exact rfl))
   | (with_reducible refine gate_splitX (fun hc => ?_) (fun hc => ?_) <;> ((have hd := hc); (try simp at hd); (try subst hd); apply runQ; simp [zS, zW, clsOf, mkBlk, guardA, Heap.lay, ontoF, *, SS.post]; exact rfl))
   | (with_reducible refine pick_splitQ (fun hc => ?_) (fun hc => ?_) <;> ((have hd := hc); (try simp at hd); (try subst hd); apply runQ; simp [zS, zW, clsOf, mkBlk, guardA, Heap.lay, ontoF, *, SS.post]; exact rfl))
   | (with_reducible refine gate_split (fun hc => ?_) (fun hc => ?_) <;> ((have hd := hc); (try simp at hd); (try subst hd); apply runE; simp [zS, *, SS.post]; exact rfl))
   | (with_reducible refine pick_split (fun hc => ?_) (fun hc => ?_) <;> ((have hd := hc); (try simp at hd); (try subst hd); apply runE; simp [zS, *, SS.post]; exact rfl))
   | (refine wps_ct rfl ?_)
   | (refine wps_cf rfl ?_)
   | (refine wps_cond rfl (fun hc => ?_) (fun hc => ?_) <;> ((have hd := hc); (try simp at hd); (try subst hd)))
   | (with_reducible refine wps_skip ?_; simp only [thenQ, blockQ])
   | (with_reducible refine wps_exit ?_; simp [thenQ, blockQ])
   | (with_reducible refine wps_ret ?_; simp [retVal, Tryz.f35, oneOr, thenQ, blockQ])))
  all_goals first | (((try simp [retVal, Tryz.f35, oneOr]); refine ends_J2 (by simp_all) (by first | rfl | (simp_all; done)) (by simp [pureV, pureL]) (by omega) h9 (by simp [getF]) (by simp [getF]) (by simp [getF]) (by first | (simp [getF, Tk.cs]; done) | (simp [getF, Tk.cs, *]; done)))) | (exfalso; omega) | (trace_state; fail)
theorem inj_35 (x y : Unit) (h : (fun z : Unit => ([] : List AV)) x = (fun z : Unit => ([] : List AV)) y) : x = y := by
 rfl
noncomputable def e35 : Entry Tryz.prog := mkJ 35 [] (fun z : Unit => []) (fun z x => (x.s.foster = false) ∧ (SOk x.s) ∧ (HtOk x.s) ∧ (x.t.attrs.length ≤ 14) ∧ (x.t.name.length ≤ 1000000000)) (fun z x => .tup [.bool (comB x.t), .bool false]) (fun z x => ⟨comS x.s x.t, x.t, x.b⟩) fun z x ne h => ⟨c35 (T := [e30, e32, e40t]) rfl rfl rfl ne  h.1 h.2.1 h.2.2.1 h.2.2.2.1 h.2.2.2.2, by simp [pureL, pureV], by simp [pureV, pureL], by (try exact h9); (all_goals exact comS_ne ne _)⟩
theorem k35 {T : List (Entry Tryz.prog)} (hT : findE 35 T = some e35.g) {s : SS} {t : Tk} {b : Str} (ne : s.tree ≠ [])  (hf : s.foster = false) (ok : SOk s) (h : HtOk s) (ha : t.attrs.length ≤ 14) (hn : t.name.length ≤ 1000000000) {n k jb tb : Nat} {fr : List (Nat × Blk)} (d : dJ n k jb tb) (of : offJ k jb tb fr) : callL (ctx T) (.fn 35) [.ptr jb 0] ⟨n, [(jb, .cells [.ptr 0 0, .ptr tb 0, .str b]) :: (tb, .cells t.cs) :: fr, VS k s]⟩ = some (.tup [.bool (comB t), .bool false], ⟨n + 1, [(jb, .cells [.ptr 0 0, .ptr tb 0, .str (b)]) :: (tb, .cells (Tk.cs (t))) :: fr, VS n (comS s t)]⟩) :=
 mkJ_eq (x := ⟨s, t, b⟩) hT inj_35 () ne ⟨hf, ok, h, ha, hn⟩ (by simp [pureL, pureV]) (by simp [thawL, thawA_ok]) d of
theorem addL {T : List (Entry Tryz.prog)} (hT : findE 9 T = some e9S.g) {s : SS} (ne : s.tree ≠ []) (x : Str) (hl : s.tree.length + 1 ≤ 1000000) {n k : Nat} {fr : List (Nat × Blk)} (k0 : 0 < k) (kn : k < n) (of : offS k fr) :
  callL (ctx T) (.fn 9) [.ptr 0 0, .agg [.int .i64 4, .int .i64 0, .str [], .nilS, .str x, .int .i64 0, .nilS]] ⟨n, [fr, VS k s]⟩ = some (.int .i64 (s.tree.length : Int), ⟨n + 1, [fr, VS n { s with tree := addT s.tree ⟨4, 0, [], [], x, 0, []⟩ }]⟩) :=
 mkS_eq hT inj_9S ⟨4, 0, [], [], x, 0, []⟩ ne ⟨hl, by simp⟩ (by simp [pureL, pureV]) (by simp [thawL, thawA, thawC, thaw1, okV, aNode, Nd.cs, aInt, aAttrs, aInts, pureV, pureL]) k0 kn of
theorem noteS_no {s : SS} {t : Tk} {up : Int} (h : ¬ t.kind = 4) : noteS s t up = s := if_neg h
def iniR (s : SS) (t : Tk) : Bool × SS :=
 if t.kind = 3 ∧ t.data.dropWhile sp = [] then (false, s)
 else if t.kind = 4 then (false, noteS s t 0)
 else if t.kind = 5 then (false, { s with mode := 1, tree := newT s.tree 0 ((s.tree.length + 1 : Nat) : Int) ⟨4, 0, [], [], t.name, 0, []⟩ })
 else (true, { s with mode := 1 })
theorem iniR_ne {s : SS} (ne : s.tree ≠ []) (t : Tk) : (iniR s t).2.tree ≠ [] := by
 unfold iniR
 split
 ·exact ne
 split
 ·exact noteS_ne ne _ _
 split
 ·exact newT_ne _ _ _ _
 ·exact ne
theorem c14 {T : List (Entry Tryz.prog)} (hc0 : findE 29 T = some e29.g) (hc1 : findE 30 T = some e30.g) (hc2 : findE 9 T = some e9S.g) (hc3 : findE 10 T = some e10S.g) {s : SS} {t : Tk} {b : Str} (ne : s.tree ≠ [])  (hf : s.foster = false) (ok : SOk s) (hl : t.data.length ≤ 1000000) : JC T 14 [] ⟨s, t, b⟩ (.bool (iniR s t).1) ⟨(iniR s t).2, blT t, blS t b⟩ := by
 have kc0 := @k29 T hc0
 have kc1 := @k30 T hc1
 have kc3 := @k10S T hc3
 have g0 := @vg0
 have v0 := @vset
 obtain ⟨kd, nm, L, sf, dt⟩ := t
 have kB := fun n k jb tb fr => @kc0 s ⟨kd, nm, L, sf, dt⟩ b ne hl n k jb tb fr
 have kN := fun dt b n k jb tb fr => @kc1 s ⟨kd, nm, L, sf, dt⟩ b ne 0 hf ok n k jb tb fr
 have kA := fun n k fr => @addL T hc2 ⟨s.tree, s.opn, s.act, 1, s.back, s.lex, s.form, s.head, s.foster, s.skip, s.inside⟩ ne nm (by have := ok.ln; simp only; omega) n k fr
 have kP := fun n k fr => @kc3 ⟨addT s.tree ⟨4, 0, [], [], nm, 0, []⟩, s.opn, s.act, 1, s.back, s.lex, s.form, s.head, s.foster, s.skip, s.inside⟩ (addT_ne _ _) 0 ((s.tree.length + 1 : Nat) : Int) (s.tree.length : Int) (by have := ok.ln; simp [addT]; omega) (kidsLe_add (fun n hn => by have := ok.kd n hn; omega) _) n k fr
 have bld : buildA Tryz.prog 43 [(0, .int .i64 4), (4, .str nm)] = some (.agg [.int .i64 4, .int .i64 0, .str [], .nilS, .str nm, .int .i64 0, .nilS]) := rfl
 have lA : (addT s.tree ⟨4, 0, [], [], nm, 0, []⟩).length = s.tree.length + 1 := by simp [addT]
 have lN := fun H k => lenN' (k := k) (t := addT s.tree ⟨4, 0, [], [], nm, 0, []⟩) H
 rw [lA] at lN
 have h9 := iniR_ne ne ⟨kd, nm, L, sf, dt⟩
 have nA : addT s.tree ⟨4, 0, [], [], nm, 0, []⟩ ≠ [] := addT_ne _ _
 have eN : newT s.tree 0 ((s.tree.length + 1 : Nat) : Int) ⟨4, 0, [], [], nm, 0, []⟩ = putT (addT s.tree ⟨4, 0, [], [], nm, 0, []⟩) 0 ((s.tree.length + 1 : Nat) : Int) (s.tree.length : Int) := rfl
 clear kc0 kc1 kc3 hf ok hl
 simp only [iniR, blB, blT, blS, Tk.cs, eN] at *
 clear eN lA
 generalize s.tree.length + 1 = m at kP lN h9 ⊢
 generalize putT (addT s.tree ⟨4, 0, [], [], nm, 0, []⟩) 0 (m : Int) (s.tree.length : Int) = t3 at *
 generalize addT s.tree ⟨4, 0, [], [], nm, 0, []⟩ = t2 at *
 generalize dt.takeWhile sp = d1 at kB h9 ⊢
 generalize dt.dropWhile sp = d2 at kB h9 ⊢
 by_cases k3 : kd = 3
 have c3 := eq_true k3
 have c4 : (kd = 4) = False := eq_false (by omega)
 have c5 : (kd = 5) = False := eq_false (by omega)
 by_cases k2 : d2 = []
 have c2 := eq_true k2
 simp only [c2, c3, c4, c5, if_true, if_false, decide_true, decide_false, Bool.true_and, Bool.false_and, and_true, and_false, true_and, false_and] at kB h9 ⊢
 simp only [k3, k2] at kB
 rotate_left
 have c2 := eq_false k2
 simp only [c2, c3, c4, c5, if_true, if_false, decide_true, decide_false, Bool.true_and, Bool.false_and, and_true, and_false, true_and, false_and] at kB h9 ⊢
 have n4 : ∀ dt, noteS s ⟨kd, nm, L, sf, dt⟩ 0 = s := fun dt => noteS_no (by simp only; omega)
 simp only [n4, c4, decide_false] at kN
 simp only [k3] at kB kN
 rotate_left
 have c3 := eq_false k3
 by_cases k4 : kd = 4
 have c4 := eq_true k4
 simp only [c3, c4, if_true, if_false, decide_true, decide_false, Bool.true_and, Bool.false_and, and_true, and_false, true_and, false_and] at kB kN h9 ⊢
 simp only [k4] at kB kN
 rotate_left
 have c4 := eq_false k4
 have n4 : ∀ dt, noteS s ⟨kd, nm, L, sf, dt⟩ 0 = s := fun dt => noteS_no (by simp only; omega)
 by_cases k5 : kd = 5
 have c5 := eq_true k5
 simp only [n4, c3, c4, c5, if_true, if_false, decide_true, decide_false, Bool.true_and, Bool.false_and, and_true, and_false, true_and, false_and] at kB kN h9 ⊢
 simp only [k5] at kB kN
 rotate_left
 have c5 := eq_false k5
 simp only [n4, c3, c4, c5, if_true, if_false, decide_true, decide_false, Bool.true_and, Bool.false_and, and_true, and_false, true_and, false_and] at kB kN h9 ⊢
 all_goals
  (try simp only [Tk.cs] at *)
  refine callAt_body (fn := Tryz.f14) (s0 := ⟨[0, 2, 3], [.ptr 1 0, .undef, .undef], [], 56, ⟨4, [] :: [_]⟩⟩) Tryz.func14 rfl rfl rfl ?_
  refine permJ ?_
  try simp only [Tk.cs]
  (repeat' (first
   | with_reducible refine wps_seq ?_
   | with_reducible refine wps_block ?_
   | (with_reducible refine wps_label ?_; simp only [thenQ, blockQ])
   | (with_reducible refine wps_region callOK ?_; apply runE; simp [zS, *, SS.post]; exact rfl)
   | (with_reducible refine run_end ?_; simp only [thenQ, blockQ])
   | (refine wps_drawQ mixed callOK (by decide +kernel) (by decide +kernel) rfl ?_; apply runQ; simp [zS, zW, clsOf, mkBlk, guardA, Heap.lay, ontoF, *, SS.post]; exact rfl)
   | (with_reducible refine run_endQ ?_; refine ⟨by repeat first | exact okC_n | refine okC_c (by decide +kernel) ?_, ?_⟩; simp only [thenQ, blockQ, allPend, Heap.lay, ontoF])
   | (with_reducible refine gate_splitQ (fun hc => ?_) (fun hc => ?_) <;> ((have hd := hc); (try simp at hd); (try subst hd); apply runQ; simp [zS, zW, clsOf, mkBlk, guardA, Heap.lay, ontoF, *, SS.post]; exact rfl))
   | (with_reducible refine gate_splitX (fun hc => ?_) (fun hc => ?_) <;> ((have hd := hc); (try simp at hd); (try subst hd); apply runQ; simp [zS, zW, clsOf, mkBlk, guardA, Heap.lay, ontoF, *, SS.post]; exact rfl))
   | (with_reducible refine pick_splitQ (fun hc => ?_) (fun hc => ?_) <;> ((have hd := hc); (try simp at hd); (try subst hd); apply runQ; simp [zS, zW, clsOf, mkBlk, guardA, Heap.lay, ontoF, *, SS.post]; exact rfl))
   | (with_reducible refine gate_split (fun hc => ?_) (fun hc => ?_) <;> ((have hd := hc); (try simp at hd); (try subst hd); apply runE; simp [zS, *, SS.post]; exact rfl))
   | (with_reducible refine pick_split (fun hc => ?_) (fun hc => ?_) <;> ((have hd := hc); (try simp at hd); (try subst hd); apply runE; simp [zS, *, SS.post]; exact rfl))
   | (refine wps_ct rfl ?_)
   | (refine wps_cf rfl ?_)
   | (refine wps_cond rfl (fun hc => ?_) (fun hc => ?_) <;> ((have hd := hc); (try simp at hd); (try subst hd)))
   | (with_reducible refine wps_skip ?_; simp only [thenQ, blockQ])
   | (with_reducible refine wps_exit ?_; simp [thenQ, blockQ])
   | (with_reducible refine wps_ret ?_; simp [retVal, Tryz.f14, oneOr, thenQ, blockQ])))
  all_goals first | (((try simp [retVal, Tryz.f14, oneOr]); refine ends_J2 (by simp [*]) (by first | rfl | (simp [*]; done)) (by simp [pureV, pureL]) (by omega) (by (try exact h9); (all_goals exact iniR_ne ne _)) (by simp [getF]) (by simp [getF]) (by simp [getF]) (by first | (simp [getF, Tk.cs]; done) | (simp [getF, Tk.cs, *]; done)))) | (exfalso; omega) | (trace_state; fail)
theorem inj_14 (x y : Unit) (h : (fun z : Unit => ([] : List AV)) x = (fun z : Unit => ([] : List AV)) y) : x = y := by
 rfl
noncomputable def e14 : Entry Tryz.prog := mkJ 14 [] (fun z : Unit => []) (fun z x => (x.s.foster = false) ∧ (SOk x.s) ∧ (x.t.data.length ≤ 1000000)) (fun z x => .bool (iniR x.s x.t).1) (fun z x => ⟨(iniR x.s x.t).2, blT x.t, blS x.t x.b⟩) fun z x ne h => ⟨c14 (T := [e29, e30, e9S, e10S]) rfl rfl rfl rfl ne  h.1 h.2.1 h.2.2, by simp [pureL, pureV], by simp [pureV, pureL], by (try exact h9); (all_goals exact iniR_ne ne _)⟩
theorem k14 {T : List (Entry Tryz.prog)} (hT : findE 14 T = some e14.g) {s : SS} {t : Tk} {b : Str} (ne : s.tree ≠ [])  (hf : s.foster = false) (ok : SOk s) (hl : t.data.length ≤ 1000000) {n k jb tb : Nat} {fr : List (Nat × Blk)} (d : dJ n k jb tb) (of : offJ k jb tb fr) : callL (ctx T) (.fn 14) [.ptr jb 0] ⟨n, [(jb, .cells [.ptr 0 0, .ptr tb 0, .str b]) :: (tb, .cells t.cs) :: fr, VS k s]⟩ = some (.bool (iniR s t).1, ⟨n + 1, [(jb, .cells [.ptr 0 0, .ptr tb 0, .str (blS t b)]) :: (tb, .cells (Tk.cs (blT t))) :: fr, VS n ((iniR s t).2)]⟩) :=
 mkJ_eq (x := ⟨s, t, b⟩) hT inj_14 () ne ⟨hf, ok, hl⟩ (by simp [pureL, pureV]) (by simp [thawL, thawA_ok]) d of
def m2S (s : SS) : SS := ⟨s.tree, s.opn, s.act, 2, s.back, s.lex, s.form, s.head, s.foster, s.skip, s.inside⟩
def bhR (s : SS) (t : Tk) : Bool × SS :=
 if t.kind = 3 ∧ t.data.dropWhile sp = [] then (false, s)
 else if t.kind = 4 then (false, noteS s t 0)
 else if t.kind = 5 then (false, s)
 else if t.kind = 2 ∧ inW [104, 101, 97, 100, 32, 98, 111, 100, 121, 32, 104, 116, 109, 108, 32, 98, 114] t.name = false then (false, s)
 else if t.kind = 1 ∧ t.name = [104, 116, 109, 108] then (false, elS (m2S s) 0 t.name t.attrs)
 else (true, elS (m2S s) 0 [104, 116, 109, 108] [])
theorem bhR_ne {s : SS} (ne : s.tree ≠ []) (t : Tk) : (bhR s t).2.tree ≠ [] := by
 unfold bhR
 split
 ·exact ne
 split
 ·exact noteS_ne ne _ _
 split
 ·exact ne
 split
 ·exact ne
 split
 ·exact newT_ne _ _ _ _
 ·exact newT_ne _ _ _ _
theorem c15 {T : List (Entry Tryz.prog)} (hc0 : findE 29 T = some e29.g) (hc1 : findE 30 T = some e30.g) (hc2 : findE 31 T = some e31.g) (hc3 : findE 32 T = some e32.g) (hc4 : findE 33 T = some e33.g) (hc5 : findE 34 T = some e34.g) {s : SS} {t : Tk} {b : Str} (ne : s.tree ≠ [])  (hf : s.foster = false) (ok : SOk s) (hl : t.data.length ≤ 1000000) (ha : t.attrs.length ≤ 1000000) (hn : t.name.length ≤ 1000000000) : JC T 15 [] ⟨s, t, b⟩ (.bool (bhR s t).1) ⟨(bhR s t).2, blT t, blS t b⟩ := by
 have kc0 := @k29 T hc0
 have kc1 := @k30 T hc1
 have kc2 := @k31 T hc2
 have kc3 := @k32 T hc3
 have kc4 := @k33 T hc4
 have kc5 := @k34 T hc5
 have g0 := @vg0
 have v0 := @vset
 obtain ⟨kd, nm, L, sf, dt⟩ := t
 have kB := fun n k jb tb fr => @kc0 s ⟨kd, nm, L, sf, dt⟩ b ne hl n k jb tb fr
 have kN := fun dt b n k jb tb fr => @kc1 s ⟨kd, nm, L, sf, dt⟩ b ne 0 hf ok n k jb tb fr
 have kP := fun dt b n k jb tb fr => @kc2 s ⟨kd, nm, L, sf, dt⟩ b ne [104, 101, 97, 100, 32, 98, 111, 100, 121, 32, 104, 116, 109, 108, 32, 98, 114] (ascB (by decide)) (by decide) hn n k jb tb fr
 have kS := fun dt b n k jb tb fr => @kc3 (m2S s) ⟨kd, nm, L, sf, dt⟩ b ne [104, 116, 109, 108] (ascB (by decide)) (by decide) hn n k jb tb fr
 have kO := fun dt b n k jb tb fr => @kc4 (m2S s) ⟨kd, nm, L, sf, dt⟩ b ne hf ⟨ok.ln, ok.kd, ok.op⟩ ha n k jb tb fr
 have kG := fun dt b n k jb tb fr => @kc5 (m2S s) ⟨kd, nm, L, sf, dt⟩ b ne [104, 116, 109, 108] hf ⟨ok.ln, ok.kd, ok.op⟩ n k jb tb fr
 have h9 := bhR_ne ne ⟨kd, nm, L, sf, dt⟩
 clear kc0 kc1 kc2 kc3 kc4 kc5 hf ok hl ha hn
 simp only [bhR, blB, blT, blS, Tk.cs, in_html] at kB kN kP kS kO kG h9 ⊢
 generalize elS (m2S s) 0 nm L = s1 at kO h9 ⊢
 generalize elS (m2S s) 0 [104, 116, 109, 108] [] = s2 at kG h9 ⊢
 generalize inW [104, 101, 97, 100, 32, 98, 111, 100, 121, 32, 104, 116, 109, 108, 32, 98, 114] nm = w at kP h9 ⊢
 generalize dt.takeWhile sp = d1 at kB h9 ⊢
 generalize dt.dropWhile sp = d2 at kB h9 ⊢
 simp only [m2S] at kS kO kG
 by_cases k3 : kd = 3
 subst k3
 simp [noteS_no] at kN
 by_cases k2 : d2 = []
 subst k2
 rotate_left 2
 by_cases k4 : kd = 4
 subst k4
 rotate_left
 have n4 : ∀ dt, noteS s ⟨kd, nm, L, sf, dt⟩ 0 = s := fun dt => noteS_no (by simp only; omega)
 simp only [n4, k4, decide_false] at kN
 by_cases k1 : kd = 1
 subst k1
 by_cases kn : nm = [104, 116, 109, 108]
 subst kn
 rotate_left 2
 by_cases k6 : kd = 2
 subst k6
 cases w
 all_goals simp at kB
 all_goals
  (try simp only [Tk.cs] at *)
  refine callAt_body (fn := Tryz.f15) (s0 := ⟨[0, 2], [.ptr 1 0, .undef], [], 35, ⟨4, [] :: [_]⟩⟩) Tryz.func15 rfl rfl rfl ?_
  refine permJ ?_
  try simp only [Tk.cs]
  (repeat' (first
   | with_reducible refine wps_seq ?_
   | with_reducible refine wps_block ?_
   | (with_reducible refine wps_label ?_; simp only [thenQ, blockQ])
   | (with_reducible refine wps_region callOK ?_; apply runE; simp [zS, *, SS.post]; exact rfl)
   | (with_reducible refine run_end ?_; simp only [thenQ, blockQ])
   | (refine wps_drawQ mixed callOK (by decide +kernel) (by decide +kernel) rfl ?_; apply runQ; simp [zS, zW, clsOf, mkBlk, guardA, Heap.lay, ontoF, *, SS.post]; exact rfl)
   | (with_reducible refine run_endQ ?_; refine ⟨by repeat first | exact okC_n | refine okC_c (by decide +kernel) ?_, ?_⟩; simp only [thenQ, blockQ, allPend, Heap.lay, ontoF])
   | (with_reducible refine gate_splitQ (fun hc => ?_) (fun hc => ?_) <;> ((have hd := hc); (try simp at hd); (try subst hd); apply runQ; simp [zS, zW, clsOf, mkBlk, guardA, Heap.lay, ontoF, *, SS.post]; exact rfl))
   | (with_reducible refine gate_splitX (fun hc => ?_) (fun hc => ?_) <;> ((have hd := hc); (try simp at hd); (try subst hd); apply runQ; simp [zS, zW, clsOf, mkBlk, guardA, Heap.lay, ontoF, *, SS.post]; exact rfl))
   | (with_reducible refine pick_splitQ (fun hc => ?_) (fun hc => ?_) <;> ((have hd := hc); (try simp at hd); (try subst hd); apply runQ; simp [zS, zW, clsOf, mkBlk, guardA, Heap.lay, ontoF, *, SS.post]; exact rfl))
   | (with_reducible refine gate_split (fun hc => ?_) (fun hc => ?_) <;> ((have hd := hc); (try simp at hd); (try subst hd); apply runE; simp [zS, *, SS.post]; exact rfl))
   | (with_reducible refine pick_split (fun hc => ?_) (fun hc => ?_) <;> ((have hd := hc); (try simp at hd); (try subst hd); apply runE; simp [zS, *, SS.post]; exact rfl))
   | (refine wps_ct rfl ?_)
   | (refine wps_cf rfl ?_)
   | (refine wps_cond rfl (fun hc => ?_) (fun hc => ?_) <;> ((have hd := hc); (try simp at hd); (try subst hd)))
   | (with_reducible refine wps_skip ?_; simp only [thenQ, blockQ])
   | (with_reducible refine wps_exit ?_; simp [thenQ, blockQ])
   | (with_reducible refine wps_ret ?_; simp [retVal, Tryz.f15, oneOr, thenQ, blockQ])))
  all_goals first | (((try simp [retVal, Tryz.f15, oneOr]); clear kB kN kP kS kO kG g0 v0; refine ends_J2 (by simp [*]) (by first | rfl | (simp [*]; done)) (by simp [pureV, pureL]) (by omega) (by first | (simp [*]; done) | (simp [*] at h9 ⊢; exact h9) | exact h9) (by simp [getF]) (by simp [getF]) (by first | (simp [getF]; done) | (simp [getF, *]; done)) (by first | (simp [getF, Tk.cs]; done) | (simp [getF, Tk.cs, *]; done)))) | (exfalso; omega) | (trace_state; fail)
theorem inj_15 (x y : Unit) (h : (fun z : Unit => ([] : List AV)) x = (fun z : Unit => ([] : List AV)) y) : x = y := by
 rfl
noncomputable def e15 : Entry Tryz.prog := mkJ 15 [] (fun z : Unit => []) (fun z x => (x.s.foster = false) ∧ (SOk x.s) ∧ (x.t.data.length ≤ 1000000) ∧ (x.t.attrs.length ≤ 1000000) ∧ (x.t.name.length ≤ 1000000000)) (fun z x => .bool (bhR x.s x.t).1) (fun z x => ⟨(bhR x.s x.t).2, blT x.t, blS x.t x.b⟩) fun z x ne h => ⟨c15 (T := [e29, e30, e31, e32, e33, e34]) rfl rfl rfl rfl rfl rfl ne  h.1 h.2.1 h.2.2.1 h.2.2.2.1 h.2.2.2.2, by simp [pureL, pureV], by simp [pureV, pureL], by (try exact h9); (all_goals exact bhR_ne ne _)⟩
theorem k15 {T : List (Entry Tryz.prog)} (hT : findE 15 T = some e15.g) {s : SS} {t : Tk} {b : Str} (ne : s.tree ≠ [])  (hf : s.foster = false) (ok : SOk s) (hl : t.data.length ≤ 1000000) (ha : t.attrs.length ≤ 1000000) (hn : t.name.length ≤ 1000000000) {n k jb tb : Nat} {fr : List (Nat × Blk)} (d : dJ n k jb tb) (of : offJ k jb tb fr) : callL (ctx T) (.fn 15) [.ptr jb 0] ⟨n, [(jb, .cells [.ptr 0 0, .ptr tb 0, .str b]) :: (tb, .cells t.cs) :: fr, VS k s]⟩ = some (.bool (bhR s t).1, ⟨n + 1, [(jb, .cells [.ptr 0 0, .ptr tb 0, .str (blS t b)]) :: (tb, .cells (Tk.cs (blT t))) :: fr, VS n ((bhR s t).2)]⟩) :=
 mkJ_eq (x := ⟨s, t, b⟩) hT inj_15 () ne ⟨hf, ok, hl, ha, hn⟩ (by simp [pureL, pureV]) (by simp [thawL, thawA_ok]) d of
end Go.Proofs.YtfgdcciaecajpaaGreatDoor