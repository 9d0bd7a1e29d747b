/- Attributes with one more: plain. No condition. -/
import Derived.Test.YtfgdcciaecajpaaGreatDoorML
import Derived.Test.YtfgdcciaecajpaaGreatDoorMM
import Derived.Test.YtfgdcciaecajpaaGreatDoorMG
namespace Go.Proofs.YtfgdcciaecajpaaGreatDoor
set_option linter.unusedSimpArgs false
set_option linter.unusedVariables false
open Go Go.RowKit
set_option maxRecDepth 100000
theorem putN0 {T : List (Entry Tryz.prog)} (hT : findE 53 T = some e53.g) {s : SS} (ne : s.tree ≠ []) (up at_ kd : Int) (x : Str) (ok : SOk s) {n k : Nat} {fr : List (Nat × Blk)} (k0 : 0 < k) (kn : k < n) (of : offS k fr) :
  callL (ctx T) (.fn 53) [.ptr 0 0, .int .i64 up, .int .i64 at_, .agg [.int .i64 kd, .int .i64 0, .str [], .nilS, .str x, .int .i64 0, .nilS]] ⟨n, [fr, VS k s]⟩ = some (.int .i64 (s.tree.length : Int), ⟨n + 1, [fr, VS n { s with tree := newT s.tree up at_ ⟨kd, 0, [], [], x, 0, []⟩ }]⟩) :=
 mkS_eq hT inj_53 (up, at_, ⟨kd, 0, [], [], x, 0, []⟩) ne ⟨ok, by simp⟩ (by simp [pureL, pureV]) (by simp [thawL, thawA, thawC, thaw1, okV, aNode, Nd.cs, aInt, aAttrs, aInts, pureV, pureL]) k0 kn of
def ntT (t : Tr) (up : Int) (data : Str) : Tr := newT t up ((nodeAt t up).kids.length : Int) ⟨3, 0, [], [], data, 0, []⟩
def ntP (s : SS) (up : Int) : Int := if isB s.tree up = true then up else whP s.tree (topI s.opn)
theorem c48 {T : List (Entry Tryz.prog)} (hc0 : findE 52 T = some e52.g) (hc1 : findE 51 T = some e51.g) (hc2 : findE 66 T = some e66.g) (hc3 : findE 53 T = some e53.g) {s : SS} (ne : s.tree ≠ []) (data : Str) (up : Int) (hf : s.foster = false) (ok : SOk s) : SC T 48 [.str data, .int .i64 up] s (.tup []) ({ s with tree := ntT s.tree (ntP s up) data }) := by
 have kc0 := @k52 T hc0
 have kc1 := @k51 T hc1
 have kc2 := @k66 T hc2
 have g0 := @vg0
 have v0 := @vset
 have kT := fun H => kc0 (L := s.opn) (by have := ok.op; omega) H
 have bld : buildA Tryz.prog 43 [(0, .int .i64 3), (4, .str data)] = some (.agg [.int .i64 3, .int .i64 0, .str [], .nilS, .str data, .int .i64 0, .nilS]) := rfl
 have kP := fun up at_ n k fr => @putN0 T hc3 s ne up at_ 3 data ok n k fr
 have ln := fun H k => lenN' (k := k) (t := s.tree) H
 have hw : ntP s up = if 0 ≤ up ∧ up < (s.tree.length : Int) then up else whP s.tree (topI s.opn) := by
  unfold ntP isB
  simp only [Bool.and_eq_true, decide_eq_true_eq]
 refine callAt_body (fn := Tryz.f48) (s0 := ⟨[0, 1, 2, 6], [.ptr 0 0, .str data, .int .i64 up, .undef], [], 41, ⟨2, [] :: [VS 1 s]⟩⟩) Tryz.func48 rfl rfl rfl ?_
 (repeat' (first
  | with_reducible refine wps_seq ?_
  | with_reducible refine wps_block ?_
  | (with_reducible refine wps_label ?_; simp only [thenQ, blockQ])
  | (with_reducible refine wps_region callOK ?_; apply runE; simp [zS, *, SS.post, whV, ln]; exact rfl)
  | (with_reducible refine run_end ?_; simp only [thenQ, blockQ])
  | (refine wps_drawQ mixed callOK (by decide +kernel) (by decide +kernel) rfl ?_; apply runQ; simp [zS, zW, clsOf, mkBlk, guardA, Heap.lay, ontoF, *, SS.post, whV, ln]; exact rfl)
  | (with_reducible refine run_endQ ?_; refine ⟨by repeat first | exact okC_n | refine okC_c (by decide +kernel) ?_, ?_⟩; simp only [thenQ, blockQ, allPend, Heap.lay, ontoF])
  | (with_reducible refine gate_splitQ (fun hc => ?_) (fun hc => ?_) <;> ((have hd := hc); (try simp at hd); (try subst hd); apply runQ; simp [zS, zW, clsOf, mkBlk, guardA, Heap.lay, ontoF, *, SS.post, whV, ln]; exact rfl))
  | (with_reducible refine gate_splitX (fun hc => ?_) (fun hc => ?_) <;> ((have hd := hc); (try simp at hd); (try subst hd); apply runQ; simp [zS, zW, clsOf, mkBlk, guardA, Heap.lay, ontoF, *, SS.post, whV, ln]; exact rfl))
  | (with_reducible refine pick_splitQ (fun hc => ?_) (fun hc => ?_) <;> ((have hd := hc); (try simp at hd); (try subst hd); apply runQ; simp [zS, zW, clsOf, mkBlk, guardA, Heap.lay, ontoF, *, SS.post, whV, ln]; exact rfl))
  | (with_reducible refine gate_split (fun hc => ?_) (fun hc => ?_) <;> ((have hd := hc); (try simp at hd); (try subst hd); apply runE; simp [zS, *, SS.post, whV, ln]; exact rfl))
  | (with_reducible refine pick_split (fun hc => ?_) (fun hc => ?_) <;> ((have hd := hc); (try simp at hd); (try subst hd); apply runE; simp [zS, *, SS.post, whV, ln]; exact rfl))
  | (refine wps_ct rfl ?_)
  | (refine wps_cf rfl ?_)
  | (refine wps_cond rfl (fun hc => ?_) (fun hc => ?_) <;> ((have hd := hc); (try simp at hd); (try subst hd)))
  | (with_reducible refine wps_skip ?_; simp only [thenQ, blockQ])
  | (with_reducible refine wps_exit ?_; simp [thenQ, blockQ])
  | (with_reducible refine wps_ret ?_; simp [retVal, Tryz.f48, oneOr, thenQ, blockQ])))
 all_goals first | ((try simp [retVal, Tryz.f48, oneOr]); exact ends_S (by rfl) (by simp only [hw, ntT, hf]; split <;> first | rfl | (exfalso; omega)) (by simp [pureV, pureL]) (by decide) (newT_ne _ _ _ _) rfl rfl) | (exfalso; omega)
theorem inj_48 (x y : Str × Int) (h : (fun z : Str × Int => ([.str z.1, .int .i64 z.2] : List AV)) x = (fun z : Str × Int => ([.str z.1, .int .i64 z.2] : List AV)) y) : x = y := by
 obtain ⟨x0, x1⟩ := x
 obtain ⟨y0, y1⟩ := y
 simp only [List.cons.injEq, and_true] at h
 obtain ⟨h0, h1⟩ := h
 have g0 : x0 = y0 := AV.str.inj h0
 have g1 : x1 = y1 := AV.int.inj h1 |>.2
 subst g0 g1
 rfl
noncomputable def e48 : Entry Tryz.prog := mkS 48 [[], []] (fun z : Str × Int => [.str z.1, .int .i64 z.2]) (fun z s => (s.foster = false) ∧ (SOk s)) (fun z s => .tup []) (fun z s => { s with tree := ntT s.tree (ntP s z.2) z.1 }) fun z s ne h => ⟨c48 (T := [e52, e51, e66, e53]) rfl rfl rfl rfl ne z.1 z.2 h.1 h.2, by simp [pureL, pureV], by simp [pureV, pureL], newT_ne _ _ _ _⟩
theorem k48 {T : List (Entry Tryz.prog)} (hT : findE 48 T = some e48.g) {s : SS} (ne : s.tree ≠ []) (data : Str) (up : Int) (hf : s.foster = false) (ok : SOk s) {n k : Nat} {fr : List (Nat × Blk)} (k0 : 0 < k) (kn : k < n) (of : offS k fr) : callL (ctx T) (.fn 48) [.ptr 0 0, .str data, .int .i64 up] ⟨n, [fr, VS k s]⟩ = some (.tup [], ⟨n + 1, [fr, VS n ({ s with tree := ntT s.tree (ntP s up) data })]⟩) :=
 mkS_eq hT inj_48 (data, up) ne ⟨hf, ok⟩ (by simp [pureL, pureV]) (by simp [thawL, thawA_ok]) k0 kn of
def setDt (t : Tr) (i : Nat) (s : Str) : Tr := t.take i ++ { nodeAt t i with data := s } :: t.drop (i + 1)
theorem setDt_ne (t : Tr) (i : Nat) (s : Str) : setDt t i s ≠ [] := by simp [setDt]
theorem setDt_len {t : Tr} {i : Nat} (h : i < t.length) (s : Str) : (setDt t i s).length = t.length := by simp [setDt]; omega
theorem lay_dt {t : Tr} {i : Nat} (h : i < t.length) (x : Str) : layL [.str x] (i * 7 + 4) (flatAV (t.map aNode)) = some (flatAV ((setDt t i x).map aNode)) := by
 have hl : (flatAV ((t.take i).map aNode)).length = i * 7 := by rw [(el_node _).len]; simp; omega
 have e1 : flatAV (t.map aNode) = (flatAV ((t.take i).map aNode) ++ [aInt (nodeAt t i).kind, aInt (nodeAt t i).space, .str (nodeAt t i).name, aAttrs (nodeAt t i).attrs]) ++ [.str (nodeAt t i).data] ++ ([aInt (nodeAt t i).up, aInts (nodeAt t i).kids] ++ flatAV ((t.drop (i + 1)).map aNode)) := by
  conv => lhs; rw [tree_split h]
  simp [flat_append, flatAV, Nd.cs]
 have e2 : flatAV ((setDt t i x).map aNode) = (flatAV ((t.take i).map aNode) ++ [aInt (nodeAt t i).kind, aInt (nodeAt t i).space, .str (nodeAt t i).name, aAttrs (nodeAt t i).attrs]) ++ [.str x] ++ ([aInt (nodeAt t i).up, aInts (nodeAt t i).kids] ++ flatAV ((t.drop (i + 1)).map aNode)) := by
  unfold setDt
  simp [flat_append, flatAV, Nd.cs]
 rw [e1, e2]
 have := layL_app (a := flatAV ((t.take i).map aNode) ++ [aInt (nodeAt t i).kind, aInt (nodeAt t i).space, .str (nodeAt t i).name, aAttrs (nodeAt t i).attrs]) (b := [.str (nodeAt t i).data]) (b' := [.str x]) (c := [aInt (nodeAt t i).up, aInts (nodeAt t i).kids] ++ flatAV ((t.drop (i + 1)).map aNode)) rfl
 rw [List.length_append, hl] at this
 exact this
theorem set_k {s : SS} {k : Nat} {t : Tr} (k0 : 0 < k) (ne : s.tree ≠ []) (hl : t.length = s.tree.length) : setF k (.cells (flatAV (t.map aNode))) (VS k s) = some (VS k { s with tree := t }) := by
 have ne' : t ≠ [] := by intro e; rw [e] at hl; exact ne (List.length_eq_zero_iff.1 hl.symm)
 rw [VS_eq ne, VS_eq (by exact ne')]
 have b1 : Nat.beq 0 k = false := beqN_ne (by omega)
 simp [setF, b1, hl, SS.post]
def chN (t : Tr) (u : Int) (x : Str) : Tr := newT t u ((nodeAt t u).kids.length : Int) ⟨2, 0, [], [], x, 0, []⟩
def chT (t : Tr) (top : Int) (x : Str) : Tr :=
 if x = [] ∨ whP t top = 0 then t else match (nodeAt t (whP t top)).kids.getLast? with
  | some k => if (nodeAt t k).kind = 2 then setDt t k.toNat ((nodeAt t k).data ++ x) else chN t (whP t top) x
  | none => chN t (whP t top) x
theorem chT_ne {t : Tr} (ne : t ≠ []) (top : Int) (x : Str) : chT t top x ≠ [] := by
 unfold chT
 split
 ·exact ne
 ·split
  ·split
   ·exact setDt_ne _ _ _
   ·exact newT_ne _ _ _ _
  ·exact newT_ne _ _ _ _
structure KOk (t : Tr) : Prop where
 kr : ∀ n, n ∈ t → ∀ k, k ∈ n.kids → 0 ≤ k ∧ k < (t.length : Int)
 dl : ∀ n, n ∈ t → n.data.length ≤ 1000000000
theorem c36 {T : List (Entry Tryz.prog)} (hc0 : findE 52 T = some e52.g) (hc1 : findE 51 T = some e51.g) (hc2 : findE 53 T = some e53.g) {s : SS} (ne : s.tree ≠ []) (x : Str) (hf : s.foster = false) (ok : SOk s) (kk : KOk s.tree) (hx : x.length ≤ 1000000000) : SC T 36 [.str x] s (.tup []) ({ s with tree := chT s.tree (topI s.opn) x }) := by
 have kc0 := @k52 T hc0
 have kc1 := @k51 T hc1
 have g0 := @vg0
 have v0 := @vset
 have kT := fun H => kc0 (L := s.opn) (by have := ok.op; omega) H
 have bld : buildA Tryz.prog 43 [(0, .int .i64 2), (4, .str x)] = some (.agg [.int .i64 2, .int .i64 0, .str [], .nilS, .str x, .int .i64 0, .nilS]) := rfl
 have kP := fun up at_ n k fr => @putN0 T hc2 s ne up at_ 2 x ok n k fr
 clear kc0
 obtain ⟨u, hu, hul⟩ := whP_nat ne (topI s.opn)
 obtain ⟨K, hK⟩ : ∃ K, K = (nodeAt s.tree (u : Int)).kids := ⟨_, rfl⟩
 have kr : ∀ k, k ∈ K → 0 ≤ k ∧ k < (s.tree.length : Int) := fun k hk => kk.kr _ (nodeAt_mem (by omega) (by omega)) k (hK ▸ hk)
 have hwv : whV s.tree (u : Int) = .tup [.int .i64 (u : Int), .int .i64 (K.length : Int)] := by rw [hK]; rfl
 have hKl : K.length ≤ 100000 := hK ▸ ok.kd _ (nodeAt_mem (by omega) (by omega))
 by_cases h1 : x = []
 ·have e : chT s.tree (topI s.opn) x = s.tree := by unfold chT; rw [if_pos (.inl h1)]
  rw [e]
  refine callAt_body (fn := Tryz.f36) (s0 := ⟨[0, 1, 4, 5, 6], [.ptr 0 0, .str x, .undef, .undef, .undef], [], 63, ⟨2, [] :: [VS 1 s]⟩⟩) Tryz.func36 rfl rfl rfl ?_
  (repeat' (first
   | with_reducible refine wps_seq ?_
   | with_reducible refine wps_block ?_
   | (with_reducible refine wps_label ?_; simp only [thenQ, blockQ])
   | (with_reducible refine wps_region callOK ?_; apply runE; simp [zS, *, SS.post]; exact rfl)
   | (with_reducible refine run_end ?_; simp only [thenQ, blockQ])
   | (refine wps_drawQ mixed callOK (by decide +kernel) (by decide +kernel) rfl ?_; apply runQ; simp [zS, zW, clsOf, mkBlk, guardA, Heap.lay, ontoF, *, SS.post]; exact rfl)
   | (with_reducible refine run_endQ ?_; refine ⟨by repeat first | exact okC_n | refine okC_c (by decide +kernel) ?_, ?_⟩; simp only [thenQ, blockQ, allPend, Heap.lay, ontoF])
   | (with_reducible refine gate_splitQ (fun hc => ?_) (fun hc => ?_) <;> ((have hd := hc); (try simp at hd); (try subst hd); apply runQ; simp [zS, zW, clsOf, mkBlk, guardA, Heap.lay, ontoF, *, SS.post]; exact rfl))
   | (with_reducible refine gate_splitX (fun hc => ?_) (fun hc => ?_) <;> ((have hd := hc); (try simp at hd); (try subst hd); apply runQ; simp [zS, zW, clsOf, mkBlk, guardA, Heap.lay, ontoF, *, SS.post]; exact rfl))
   | (with_reducible refine pick_splitQ (fun hc => ?_) (fun hc => ?_) <;> ((have hd := hc); (try simp at hd); (try subst hd); apply runQ; simp [zS, zW, clsOf, mkBlk, guardA, Heap.lay, ontoF, *, SS.post]; exact rfl))
   | (with_reducible refine gate_split (fun hc => ?_) (fun hc => ?_) <;> ((have hd := hc); (try simp at hd); (try subst hd); apply runE; simp [zS, *, SS.post]; exact rfl))
   | (with_reducible refine pick_split (fun hc => ?_) (fun hc => ?_) <;> ((have hd := hc); (try simp at hd); (try subst hd); apply runE; simp [zS, *, SS.post]; exact rfl))
   | (refine wps_ct rfl ?_)
   | (refine wps_cf rfl ?_)
   | (refine wps_cond rfl (fun hc => ?_) (fun hc => ?_) <;> ((have hd := hc); (try simp at hd); (try subst hd)))
   | (with_reducible refine wps_skip ?_; simp only [thenQ, blockQ])
   | (with_reducible refine wps_exit ?_; simp [thenQ, blockQ])
   | (with_reducible refine wps_ret ?_; simp [retVal, Tryz.f36, oneOr, thenQ, blockQ])))
  all_goals first | ((try simp [retVal, Tryz.f36, oneOr]); exact ends_S rfl (by first | rfl | (simp [*]; done)) rfl (by decide) ne rfl rfl) | (exfalso; omega)
 ·by_cases h0 : u = 0
  ·have e : chT s.tree (topI s.opn) x = s.tree := by unfold chT; rw [if_pos (.inr (by rw [hu, h0]; rfl))]
   rw [e]
   subst h0
   rw [show (((0 : Nat)) : Int) = 0 from rfl] at hwv
   refine callAt_body (fn := Tryz.f36) (s0 := ⟨[0, 1, 4, 5, 6], [.ptr 0 0, .str x, .undef, .undef, .undef], [], 63, ⟨2, [] :: [VS 1 s]⟩⟩) Tryz.func36 rfl rfl rfl ?_
   (repeat' (first
    | with_reducible refine wps_seq ?_
    | with_reducible refine wps_block ?_
    | (with_reducible refine wps_label ?_; simp only [thenQ, blockQ])
    | (with_reducible refine wps_region callOK ?_; apply runE; simp [zS, *, SS.post]; exact rfl)
    | (with_reducible refine run_end ?_; simp only [thenQ, blockQ])
    | (refine wps_drawQ mixed callOK (by decide +kernel) (by decide +kernel) rfl ?_; apply runQ; simp [zS, zW, clsOf, mkBlk, guardA, Heap.lay, ontoF, *, SS.post]; exact rfl)
    | (with_reducible refine run_endQ ?_; refine ⟨by repeat first | exact okC_n | refine okC_c (by decide +kernel) ?_, ?_⟩; simp only [thenQ, blockQ, allPend, Heap.lay, ontoF])
    | (with_reducible refine gate_splitQ (fun hc => ?_) (fun hc => ?_) <;> ((have hd := hc); (try simp at hd); (try subst hd); apply runQ; simp [zS, zW, clsOf, mkBlk, guardA, Heap.lay, ontoF, *, SS.post]; exact rfl))
    | (with_reducible refine gate_splitX (fun hc => ?_) (fun hc => ?_) <;> ((have hd := hc); (try simp at hd); (try subst hd); apply runQ; simp [zS, zW, clsOf, mkBlk, guardA, Heap.lay, ontoF, *, SS.post]; exact rfl))
    | (with_reducible refine pick_splitQ (fun hc => ?_) (fun hc => ?_) <;> ((have hd := hc); (try simp at hd); (try subst hd); apply runQ; simp [zS, zW, clsOf, mkBlk, guardA, Heap.lay, ontoF, *, SS.post]; exact rfl))
    | (with_reducible refine gate_split (fun hc => ?_) (fun hc => ?_) <;> ((have hd := hc); (try simp at hd); (try subst hd); apply runE; simp [zS, *, SS.post]; exact rfl))
    | (with_reducible refine pick_split (fun hc => ?_) (fun hc => ?_) <;> ((have hd := hc); (try simp at hd); (try subst hd); apply runE; simp [zS, *, SS.post]; exact rfl))
    | (refine wps_ct rfl ?_)
    | (refine wps_cf rfl ?_)
    | (refine wps_cond rfl (fun hc => ?_) (fun hc => ?_) <;> ((have hd := hc); (try simp at hd); (try subst hd)))
    | (with_reducible refine wps_skip ?_; simp only [thenQ, blockQ])
    | (with_reducible refine wps_exit ?_; simp [thenQ, blockQ])
    | (with_reducible refine wps_ret ?_; simp [retVal, Tryz.f36, oneOr, thenQ, blockQ])))
   all_goals first | ((try simp [retVal, Tryz.f36, oneOr]); exact ends_S rfl (by first | rfl | (simp [*]; done)) rfl (by decide) ne rfl rfl) | (exfalso; omega)
  ·have h0' : ¬ ((u : Int) = 0) := by omega
   have e : chT s.tree (topI s.opn) x = match K.getLast? with
     | some k => if (nodeAt s.tree k).kind = 2 then setDt s.tree k.toNat ((nodeAt s.tree k).data ++ x) else chN s.tree (u : Int) x
     | none => chN s.tree (u : Int) x := by unfold chT; rw [if_neg (by rw [hu]; exact fun h => h.elim h1 h0'), hu, ← hK]
   rw [e]
   clear e
   rcases List.eq_nil_or_concat K with hn | ⟨K0, k, hc⟩
   ·rw [hn]
    simp only [List.getLast?_nil]
    have e2 : chN s.tree (u : Int) x = newT s.tree (u : Int) (0 : Nat) ⟨2, 0, [], [], x, 0, []⟩ := by unfold chN; rw [← hK, hn]; rfl
    rw [e2]
    subst hn
    clear e2 hK kr
    refine callAt_body (fn := Tryz.f36) (s0 := ⟨[0, 1, 4, 5, 6], [.ptr 0 0, .str x, .undef, .undef, .undef], [], 63, ⟨2, [] :: [VS 1 s]⟩⟩) Tryz.func36 rfl rfl rfl ?_
    (repeat' (first
     | with_reducible refine wps_seq ?_
     | with_reducible refine wps_block ?_
     | (with_reducible refine wps_label ?_; simp only [thenQ, blockQ])
     | (with_reducible refine wps_region callOK ?_; apply runE; simp [zS, *, SS.post]; exact rfl)
     | (with_reducible refine run_end ?_; simp only [thenQ, blockQ])
     | (refine wps_drawQ mixed callOK (by decide +kernel) (by decide +kernel) rfl ?_; apply runQ; simp [zS, zW, clsOf, mkBlk, guardA, Heap.lay, ontoF, *, SS.post]; exact rfl)
     | (with_reducible refine run_endQ ?_; refine ⟨by repeat first | exact okC_n | refine okC_c (by decide +kernel) ?_, ?_⟩; simp only [thenQ, blockQ, allPend, Heap.lay, ontoF])
     | (with_reducible refine gate_splitQ (fun hc => ?_) (fun hc => ?_) <;> ((have hd := hc); (try simp at hd); (try subst hd); apply runQ; simp [zS, zW, clsOf, mkBlk, guardA, Heap.lay, ontoF, *, SS.post]; exact rfl))
     | (with_reducible refine gate_splitX (fun hc => ?_) (fun hc => ?_) <;> ((have hd := hc); (try simp at hd); (try subst hd); apply runQ; simp [zS, zW, clsOf, mkBlk, guardA, Heap.lay, ontoF, *, SS.post]; exact rfl))
     | (with_reducible refine pick_splitQ (fun hc => ?_) (fun hc => ?_) <;> ((have hd := hc); (try simp at hd); (try subst hd); apply runQ; simp [zS, zW, clsOf, mkBlk, guardA, Heap.lay, ontoF, *, SS.post]; exact rfl))
     | (with_reducible refine gate_split (fun hc => ?_) (fun hc => ?_) <;> ((have hd := hc); (try simp at hd); (try subst hd); apply runE; simp [zS, *, SS.post]; exact rfl))
     | (with_reducible refine pick_split (fun hc => ?_) (fun hc => ?_) <;> ((have hd := hc); (try simp at hd); (try subst hd); apply runE; simp [zS, *, SS.post]; exact rfl))
     | (refine wps_ct rfl ?_)
     | (refine wps_cf rfl ?_)
     | (refine wps_cond rfl (fun hc => ?_) (fun hc => ?_) <;> ((have hd := hc); (try simp at hd); (try subst hd)))
     | (with_reducible refine wps_skip ?_; simp only [thenQ, blockQ])
     | (with_reducible refine wps_exit ?_; simp [thenQ, blockQ])
     | (with_reducible refine wps_ret ?_; simp [retVal, Tryz.f36, oneOr, thenQ, blockQ])))
    all_goals first | ((try simp [retVal, Tryz.f36, oneOr]); exact ends_S rfl (by first | rfl | (simp [*]; done)) rfl (by decide) (newT_ne _ _ _ _) rfl rfl) | (exfalso; omega)
   ·rw [List.concat_eq_append] at hc
    obtain ⟨kn, rfl⟩ : ∃ kn : Nat, k = (kn : Int) := ⟨k.toNat, by have := (kr k (by rw [hc]; simp)).1; omega⟩
    have hkn : kn < s.tree.length := by have := (kr (kn : Int) (by rw [hc]; simp)).2; omega
    rw [hc]
    simp only [List.getLast?_append, List.getLast?_singleton, Option.some_or]
    have hlen : K.length = K0.length + 1 := by rw [hc]; simp
    have hw : wr .i64 ((K0.length : Int) + 1 - 1) = some (K0.length : Int) := by
     have := sub_one (q := K0.length) (by omega)
     rwa [show (((K0.length + 1 : Nat) : Int) - 1) = (K0.length : Int) + 1 - 1 by omega] at this
    have hw2 : wr .i64 (K0.length : Int) = some (K0.length : Int) := by rwa [Int.add_sub_cancel] at hw
    have hat : indexAddrA Tryz.prog 32 (aInts K) (.int .i64 (K0.length : Int)) = some (.fptr [.int .i64 (kn : Int)] 0) := by
     rw [atI (by omega)]
     simp [hc]
    have lK : ∀ H, lenA Tryz.prog H 32 (aInts K) = some (K0.length + 1) := fun H => by rw [lenI, hlen]
    have hpos : (0 : Int) < (K0.length : Int) + 1 := by omega
    have gk := fun k => vgk (k := k) (s := s)
    have ix := fun k => ixN (k := k) hul
    have gN := getN (c := 6) hul (by omega)
    rw [show (nodeAt s.tree (u : Int)).cs = [aInt (nodeAt s.tree (u : Int)).kind, aInt (nodeAt s.tree (u : Int)).space, .str (nodeAt s.tree (u : Int)).name, aAttrs (nodeAt s.tree (u : Int)).attrs, .str (nodeAt s.tree (u : Int)).data, aInt (nodeAt s.tree (u : Int)).up, aInts K] by rw [hK]; rfl] at gN
    have ix2 := fun k => ixN (k := k) hkn
    have gN0 := getN (c := 0) hkn (by omega)
    rw [Nat.add_zero] at gN0
    have gN4 := getN (c := 4) hkn (by omega)
    have hcat := catStr (x := (nodeAt s.tree (kn : Int)).data) (y := x) (by have := kk.dl _ (nodeAt_mem (t := s.tree) (i := (kn : Int)) (by omega) (by omega)); omega)
    have hld := lay_dt hkn ((nodeAt s.tree (kn : Int)).data ++ x)
    have hsk := fun k k0 => @set_k s k (setDt s.tree kn ((nodeAt s.tree (kn : Int)).data ++ x)) k0 ne (setDt_len hkn _)
    have hwv' : whV s.tree (u : Int) = .tup [.int .i64 (u : Int), .int .i64 ((K0.length : Int) + 1)] := by rw [hwv, hlen]; rfl
    clear hwv
    by_cases h2 : (nodeAt s.tree (kn : Int)).kind = 2
    ·rw [if_pos h2]
     have e3 : (kn : Int).toNat = kn := by simp
     rw [e3]
     clear e3 hK hc kr hlen
     refine callAt_body (fn := Tryz.f36) (s0 := ⟨[0, 1, 4, 5, 6], [.ptr 0 0, .str x, .undef, .undef, .undef], [], 63, ⟨2, [] :: [VS 1 s]⟩⟩) Tryz.func36 rfl rfl rfl ?_
     (repeat' (first
      | with_reducible refine wps_seq ?_
      | with_reducible refine wps_block ?_
      | (with_reducible refine wps_label ?_; simp only [thenQ, blockQ])
      | (with_reducible refine wps_region callOK ?_; apply runE; simp [zS, *, SS.post, Nd.cs, aInt]; exact rfl)
      | (with_reducible refine run_end ?_; simp only [thenQ, blockQ])
      | (refine wps_drawQ mixed callOK (by decide +kernel) (by decide +kernel) rfl ?_; apply runQ; simp [zS, zW, clsOf, mkBlk, guardA, Heap.lay, ontoF, *, SS.post, Nd.cs, aInt]; exact rfl)
      | (with_reducible refine run_endQ ?_; refine ⟨by repeat first | exact okC_n | refine okC_c (by decide +kernel) ?_, ?_⟩; simp only [thenQ, blockQ, allPend, Heap.lay, ontoF])
      | (with_reducible refine gate_splitQ (fun hc => ?_) (fun hc => ?_) <;> ((have hd := hc); (try simp at hd); (try subst hd); apply runQ; simp [zS, zW, clsOf, mkBlk, guardA, Heap.lay, ontoF, *, SS.post, Nd.cs, aInt]; exact rfl))
      | (with_reducible refine gate_splitX (fun hc => ?_) (fun hc => ?_) <;> ((have hd := hc); (try simp at hd); (try subst hd); apply runQ; simp [zS, zW, clsOf, mkBlk, guardA, Heap.lay, ontoF, *, SS.post, Nd.cs, aInt]; exact rfl))
      | (with_reducible refine pick_splitQ (fun hc => ?_) (fun hc => ?_) <;> ((have hd := hc); (try simp at hd); (try subst hd); apply runQ; simp [zS, zW, clsOf, mkBlk, guardA, Heap.lay, ontoF, *, SS.post, Nd.cs, aInt]; exact rfl))
      | (with_reducible refine gate_split (fun hc => ?_) (fun hc => ?_) <;> ((have hd := hc); (try simp at hd); (try subst hd); apply runE; simp [zS, *, SS.post, Nd.cs, aInt]; exact rfl))
      | (with_reducible refine pick_split (fun hc => ?_) (fun hc => ?_) <;> ((have hd := hc); (try simp at hd); (try subst hd); apply runE; simp [zS, *, SS.post, Nd.cs, aInt]; exact rfl))
      | (refine wps_ct rfl ?_)
      | (refine wps_cf rfl ?_)
      | (refine wps_cond rfl (fun hc => ?_) (fun hc => ?_) <;> ((have hd := hc); (try simp at hd); (try subst hd)))
      | (with_reducible refine wps_skip ?_; simp only [thenQ, blockQ])
      | (with_reducible refine wps_exit ?_; simp [thenQ, blockQ])
      | (with_reducible refine wps_ret ?_; simp [retVal, Tryz.f36, oneOr, thenQ, blockQ])))
     all_goals first | ((try simp [retVal, Tryz.f36, oneOr]); exact ends_S rfl (by first | rfl | (simp [*]; done)) rfl (by decide) (setDt_ne _ _ _) rfl rfl) | (exfalso; omega)
    ·rw [if_neg h2]
     have e2 : chN s.tree (u : Int) x = newT s.tree (u : Int) ((K0.length : Int) + 1) ⟨2, 0, [], [], x, 0, []⟩ := by unfold chN; rw [← hK, hlen]; rfl
     rw [e2]
     clear e2 hK hc kr hlen
     refine callAt_body (fn := Tryz.f36) (s0 := ⟨[0, 1, 4, 5, 6], [.ptr 0 0, .str x, .undef, .undef, .undef], [], 63, ⟨2, [] :: [VS 1 s]⟩⟩) Tryz.func36 rfl rfl rfl ?_
     (repeat' (first
      | with_reducible refine wps_seq ?_
      | with_reducible refine wps_block ?_
      | (with_reducible refine wps_label ?_; simp only [thenQ, blockQ])
      | (with_reducible refine wps_region callOK ?_; apply runE; simp [zS, *, SS.post, Nd.cs, aInt]; exact rfl)
      | (with_reducible refine run_end ?_; simp only [thenQ, blockQ])
      | (refine wps_drawQ mixed callOK (by decide +kernel) (by decide +kernel) rfl ?_; apply runQ; simp [zS, zW, clsOf, mkBlk, guardA, Heap.lay, ontoF, *, SS.post, Nd.cs, aInt]; exact rfl)
      | (with_reducible refine run_endQ ?_; refine ⟨by repeat first | exact okC_n | refine okC_c (by decide +kernel) ?_, ?_⟩; simp only [thenQ, blockQ, allPend, Heap.lay, ontoF])
      | (with_reducible refine gate_splitQ (fun hc => ?_) (fun hc => ?_) <;> ((have hd := hc); (try simp at hd); (try subst hd); apply runQ; simp [zS, zW, clsOf, mkBlk, guardA, Heap.lay, ontoF, *, SS.post, Nd.cs, aInt]; exact rfl))
      | (with_reducible refine gate_splitX (fun hc => ?_) (fun hc => ?_) <;> ((have hd := hc); (try simp at hd); (try subst hd); apply runQ; simp [zS, zW, clsOf, mkBlk, guardA, Heap.lay, ontoF, *, SS.post, Nd.cs, aInt]; exact rfl))
      | (with_reducible refine pick_splitQ (fun hc => ?_) (fun hc => ?_) <;> ((have hd := hc); (try simp at hd); (try subst hd); apply runQ; simp [zS, zW, clsOf, mkBlk, guardA, Heap.lay, ontoF, *, SS.post, Nd.cs, aInt]; exact rfl))
      | (with_reducible refine gate_split (fun hc => ?_) (fun hc => ?_) <;> ((have hd := hc); (try simp at hd); (try subst hd); apply runE; simp [zS, *, SS.post, Nd.cs, aInt]; exact rfl))
      | (with_reducible refine pick_split (fun hc => ?_) (fun hc => ?_) <;> ((have hd := hc); (try simp at hd); (try subst hd); apply runE; simp [zS, *, SS.post, Nd.cs, aInt]; exact rfl))
      | (refine wps_ct rfl ?_)
      | (refine wps_cf rfl ?_)
      | (refine wps_cond rfl (fun hc => ?_) (fun hc => ?_) <;> ((have hd := hc); (try simp at hd); (try subst hd)))
      | (with_reducible refine wps_skip ?_; simp only [thenQ, blockQ])
      | (with_reducible refine wps_exit ?_; simp [thenQ, blockQ])
      | (with_reducible refine wps_ret ?_; simp [retVal, Tryz.f36, oneOr, thenQ, blockQ])))
     all_goals first | ((try simp [retVal, Tryz.f36, oneOr]); exact ends_S rfl (by first | rfl | (simp [*]; done)) rfl (by decide) (newT_ne _ _ _ _) rfl rfl) | (exfalso; omega)
theorem inj_36 (x y : Str) (h : (fun z : Str => ([.str z] : List AV)) x = (fun z : Str => ([.str z] : List AV)) y) : x = y := by
 simp only [List.cons.injEq, and_true] at h
 exact AV.str.inj h
noncomputable def e36 : Entry Tryz.prog := mkS 36 [[]] (fun z : Str => [.str z]) (fun z s => (s.foster = false) ∧ (SOk s) ∧ (KOk s.tree) ∧ (z.length ≤ 1000000000)) (fun z s => .tup []) (fun z s => { s with tree := chT s.tree (topI s.opn) z }) fun z s ne h => ⟨c36 (T := [e52, e51, e53]) rfl rfl rfl ne z h.1 h.2.1 h.2.2.1 h.2.2.2, by simp [pureL, pureV], by simp [pureV, pureL], chT_ne ne _ _⟩
theorem k36 {T : List (Entry Tryz.prog)} (hT : findE 36 T = some e36.g) {s : SS} (ne : s.tree ≠ []) (x : Str) (hf : s.foster = false) (ok : SOk s) (kk : KOk s.tree) (hx : x.length ≤ 1000000000) {n k : Nat} {fr : List (Nat × Blk)} (k0 : 0 < k) (kn : k < n) (of : offS k fr) : callL (ctx T) (.fn 36) [.ptr 0 0, .str x] ⟨n, [fr, VS k s]⟩ = some (.tup [], ⟨n + 1, [fr, VS n ({ s with tree := chT s.tree (topI s.opn) x })]⟩) :=
 mkS_eq hT inj_36 (x) ne ⟨hf, ok, kk, hx⟩ (by simp [pureL, pureV]) (by simp [thawL, thawA_ok]) k0 kn of
def nmOk (t : Tr) : Prop := ∀ i, (nodeS t i).name.length ≤ 1000000000
end Go.Proofs.YtfgdcciaecajpaaGreatDoor
namespace Go.Proofs.YtfgdcciaecajpaaGreatDoor
set_option linter.unusedSimpArgs false
set_option linter.unusedVariables false
open Go Go.RowKit
def addA (L : List At1) (a : At1) : List At1 := if placeL L a.1 < 0 then L ++ [a] else L
theorem addA_len (L : List At1) (a : At1) : (addA L a).length ≤ L.length + 1 := by
 unfold addA; split <;> simp
theorem foldA_len : ∀ (l L : List At1), (l.foldl addA L).length ≤ L.length + l.length
 | [], L => by simp
 | a :: r, L => by
  have h1 := foldA_len r (addA L a)
  have h2 := addA_len L a
  simp only [List.foldl_cons, List.length_cons]; omega
end Go.Proofs.YtfgdcciaecajpaaGreatDoor