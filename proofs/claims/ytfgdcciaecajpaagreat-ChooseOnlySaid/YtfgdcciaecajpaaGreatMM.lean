/- Attributes with one more: plain. No condition. -/
import Derived.Test.YtfgdcciaecajpaaGreatML
import Derived.Test.YtfgdcciaecajpaaGreatMG
namespace Go.Proofs.YtfgdcciaecajpaaGreat
set_option linter.unusedSimpArgs false
set_option linter.unusedVariables false
open Go Go.RowKit
set_option maxRecDepth 100000
def goHas (t : Tr) (W : Str) (sc : Int) (i : Int) : Option Bool := if namedS (nodeS t i) W = true then some true else if stopsB sc (nodeS t i).space (nodeS t i).name = true then some false else none
def hasS (t : Tr) (L : List Int) (W : Str) (sc : Int) : Bool := (runB (fun j => goHas t W sc (L.getD j 0)) L.length).getD false
noncomputable def kHas (t : Tr) (L : List Int) (W : Str) (sc : Int) : RgK := ⟨[0, 1, 2, 3, 4, 6, 7, 8, 10, 11, 13, 14, 15], [aTree t, aInts L, .str W, .int .i64 sc, .ptr 0 0, .ptr 1 0, .ptr 2 0, .ptr 3 0, .undef, .undef, bkVI L, .undef, .undef], 31, [14, 15], rgA Tryz.f95.body, rgB Tryz.f95.body⟩
def rHas (t : Tr) (W : Str) (sc : Int) (r : Option Bool) : List (Nat × Blk) := [(3, .cells [.bool (r.getD false)]), (2, .cells [.int .i64 sc]), (1, .cells [.str W]), (0, .cells [aNodes t])]
theorem kHas_ok (t : Tr) (L : List Int) (W : Str) (sc : Int) : (kHas t L W sc).Ok 4 (rHas t W sc) where
 vs := fun σ hσ => by simp [kHas, fitL, fitV, hσ 0 (by omega), hσ 1 (by omega), hσ 2 (by omega), hσ 3 (by omega), pure_bkVI, pureV]
 rows := fun c => by cases c <;> simp [rHas, rowsB, pureL, pureV]
theorem round_has {T : List (Entry Tryz.prog)} (hN : findE 96 T = some e96.g) (hI : findE 65 T = some e65.g) (hS : findE 74 T = some e74.g) (t : Tr) (L : List Int) (W : Str) (sc i : Int) (hW : asciiB W) (hl : W.length ≤ 100000) (hx : (nodeS t i).name.length ≤ 1000000000) (j : Int) :
  YieldAt (ctx T) 4 [.int .i64 j, .int .i64 i] ⟨5, [[], (4, (kHas t L W sc).blk .ready none []) :: rHas t W sc none]⟩ (.bool (goHas t W sc i).isNone) ⟨5, [[], (kHas t L W sc).rows 4 (rHas t W sc) (goHas t W sc i)]⟩ := by
 have kn := fun H => k96 hN t i H
 have ki := fun (H : Heap) => q65 hI (H := H) (a := .agg [aNodes t]) (t := t) (by simp [thawA, okV, pureL, aTree]) i hW hl hx
 have ks := fun (H : Heap) => k74 hS sc (nodeS t i).space (nodeS t i).name hx H
 simp only [aTree] at kn
 refine round_K (kHas_ok t L W sc) (s1 := ⟨[0, 1, 2, 3, 4, 6, 7, 8, 10, 11, 13, 14, 15], [aTree t, aInts L, .str W, .int .i64 sc, .ptr 0 0, .ptr 1 0, .ptr 2 0, .ptr 3 0, .undef, .undef, bkVI L, .int .i64 j, .int .i64 i], [], 31, ⟨5, [[], [], (4, (kHas t L W sc).blk .ready none []) :: rHas t W sc none]⟩⟩) rfl fun l => ?_
 generalize (kHas t L W sc).blk .ready none [] = B0
 generalize (kHas t L W sc).blk .busy none [] = B1
 have hg : goHas t W sc i = if namedS (nodeS t i) W = true then some true else if stopsB sc (nodeS t i).space (nodeS t i).name = true then some false else none := rfl
 rw [hg]
 clear hg
 generalize namedS (nodeS t i) W = b1 at *
 generalize stopsB sc (nodeS t i).space (nodeS t i).name = b2 at *
 generalize nodeS t i = n at *
 simp only [kHas, rgA, rgB, rgIn, Tryz.f95, Option.bind_some]
 repeat apply wq
 refine wps_region callOK ?_
 simp [zN]
 refine ⟨_, _, ⟨rfl, rfl⟩, rfl, ?_⟩
 simp only [rHas, Option.getD_none]
 (repeat' (first
  | with_reducible refine wps_seq ?_
  | with_reducible refine wps_block ?_
  | (with_reducible refine wps_label ?_; simp only [thenQ, blockQ])
  | (with_reducible refine wps_region callOK ?_; apply runE; simp [zS, *, Nd.cs, aNode, aInt]; exact rfl)
  | (with_reducible refine run_end ?_; simp only [thenQ, blockQ])
  | (refine wps_drawQ mixed callOK (by decide +kernel) (by decide +kernel) rfl ?_; apply runQ; simp [zS, zW, clsOf, mkBlk, guardA, Heap.lay, ontoF, *, Nd.cs, aNode, aInt]; exact rfl)
  | (with_reducible refine run_endQ ?_; refine ⟨by repeat first | exact okC_n | refine okC_c (by decide +kernel) ?_, ?_⟩; simp only [thenQ, blockQ, allPend, Heap.lay, ontoF])
  | (with_reducible refine gate_splitQ (fun hc => ?_) (fun hc => ?_) <;> ((have hd := hc); (try simp at hd); (try subst hd); apply runQ; simp [zS, zW, clsOf, mkBlk, guardA, Heap.lay, ontoF, *, Nd.cs, aNode, aInt]; exact rfl))
  | (with_reducible refine gate_splitX (fun hc => ?_) (fun hc => ?_) <;> ((have hd := hc); (try simp at hd); (try subst hd); apply runQ; simp [zS, zW, clsOf, mkBlk, guardA, Heap.lay, ontoF, *, Nd.cs, aNode, aInt]; exact rfl))
  | (with_reducible refine pick_splitQ (fun hc => ?_) (fun hc => ?_) <;> ((have hd := hc); (try simp at hd); (try subst hd); apply runQ; simp [zS, zW, clsOf, mkBlk, guardA, Heap.lay, ontoF, *, Nd.cs, aNode, aInt]; exact rfl))
  | (with_reducible refine gate_split (fun hc => ?_) (fun hc => ?_) <;> ((have hd := hc); (try simp at hd); (try subst hd); apply runE; simp [zS, *, Nd.cs, aNode, aInt]; exact rfl))
  | (with_reducible refine pick_split (fun hc => ?_) (fun hc => ?_) <;> ((have hd := hc); (try simp at hd); (try subst hd); apply runE; simp [zS, *, Nd.cs, aNode, aInt]; exact rfl))
  | (refine wps_ct rfl ?_)
  | (refine wps_cf rfl ?_)
  | (refine wps_cond rfl (fun hc => ?_) (fun hc => ?_) <;> ((have hd := hc); (try simp at hd); (try subst hd)))
  | (with_reducible refine wps_skip ?_; simp only [thenQ, blockQ])
  | (with_reducible refine wps_exit ?_; simp [thenQ, blockQ])
  | (with_reducible refine wps_ret ?_; simp [retVal, Tryz.f95, oneOr, thenQ, blockQ])))
 all_goals first | ((first | exact ⟨6, _, fun i hi => getF_none1 (by omega), ⟨rfl, rfl⟩, rfl⟩ | exact ⟨6, _, fun i hi => getF_none1 (by omega), rfl, rfl⟩)) | (exfalso; omega)
theorem c95 {T : List (Entry Tryz.prog)} (hc0 : findE 96 T = some e96.g) (hc1 : findE 65 T = some e65.g) (hc2 : findE 74 T = some e74.g) (hc3 : findE 103 T = some e103.g) (t : Tr) (L : List Int) (W : Str) (sc : Int) (hW : asciiB W) (hl : W.length ≤ 100000) (hL : L.length ≤ 1000000) (hx : ∀ i, i ∈ L → (nodeS t i).name.length ≤ 1000000000) : CallAt (ctx T) 95 [aTree t, aInts L, .str W, .int .i64 sc] ⟨0, []⟩ (.bool (hasS t L W sc)) ⟨0, []⟩ := by
 have kc0 := @k96 T hc0
 have kc2 := @k74 T hc2
 have kc3 := @k103 T hc3
 have kb := fun H => k103 hc3 L H
 clear kc0 kc2 kc3
 refine callAt_body (fn := Tryz.f95) (s0 := ⟨[0, 1, 2, 3, 4, 6, 7, 8, 10, 11, 13, 14, 15], [aTree t, aInts L, .str W, .int .i64 sc, .undef, .undef, .undef, .undef, .undef, .undef, .undef, .undef, .undef], [], 31, ⟨0, [[]]⟩⟩) Tryz.func95 rfl rfl rfl ?_
 repeat apply wq
 refine wps_region callOK ?_
 simp [zS, aTree]
 repeat apply wq
 refine wps_region callOK ?_
 simp [zS, kb]
 repeat apply wq
 refine wps_block ?_
 refine wps_backI (K := kHas t L W sc) (b := 4) (R := rHas t W sc) (kHas_ok t L W sc) L hL (fun j => goHas t W sc (L.getD j 0)) (fun j hj => ?_) rfl rfl ?_
 ·have := round_has hc0 hc1 hc2 t L W sc L[j] hW hl (hx _ (List.getElem_mem hj)) (j : Int)
  rw [show L.getD j 0 = L[j] by simp [List.getD_eq_getElem?_getD, hj]]
  exact this
 ·obtain ⟨r, hr⟩ : ∃ r, runB (fun j => goHas t W sc (L.getD j 0)) L.length = r := ⟨_, rfl⟩
  unfold hasS
  rw [hr]
  cases r with
  | none =>
   simp [outB, kHas, rHas]
   repeat apply wq
   refine wps_region callOK ?_
   simp [zS]
   repeat apply wq
   refine wps_ret ?_
   simp [retVal, Tryz.f95, oneOr]
   exact ⟨[.bool false], rfl, [], [], fitV_pure rfl, FitH.empty⟩
  | some i =>
   simp [outB, kHas, rHas, thenQ, blockQ]
   exact ⟨[.bool i], rfl, [], [], fitV_pure rfl, FitH.empty⟩
theorem inj_95 (x y : Tr × List Int × Str × Int) (h : (fun z : Tr × List Int × Str × Int => ([aTree z.1, aInts z.2.1, .str z.2.2.1, .int .i64 z.2.2.2] : List AV)) x = (fun z : Tr × List Int × Str × Int => ([aTree z.1, aInts z.2.1, .str z.2.2.1, .int .i64 z.2.2.2] : List AV)) y) : x = y := by
 obtain ⟨x0, x1, x2, x3⟩ := x
 obtain ⟨y0, y1, y2, y3⟩ := y
 simp only [List.cons.injEq, and_true] at h
 obtain ⟨h0, h1, h2, h3⟩ := h
 have g0 : x0 = y0 := inj_aTree h0
 have g1 : x1 = y1 := inj_aInts h1
 have g2 : x2 = y2 := AV.str.inj h2
 have g3 : x3 = y3 := AV.int.inj h3 |>.2
 subst g0 g1 g2 g3
 rfl
noncomputable def e95 : Entry Tryz.prog := mkE 95 [[7], [1], [], []] (fun z : Tr × List Int × Str × Int => [aTree z.1, aInts z.2.1, .str z.2.2.1, .int .i64 z.2.2.2]) (fun z => (asciiB z.2.2.1) ∧ (z.2.2.1.length ≤ 100000) ∧ (z.2.1.length ≤ 1000000) ∧ (∀ i, i ∈ z.2.1 → (nodeS z.1 i).name.length ≤ 1000000000)) (fun z => .bool (hasS z.1 z.2.1 z.2.2.1 z.2.2.2)) fun z h => c95 (T := [e96, e65, e74, e103]) rfl rfl rfl rfl z.1 z.2.1 z.2.2.1 z.2.2.2 h.1 h.2.1 h.2.2.1 h.2.2.2
theorem q95 {T : List (Entry Tryz.prog)} (hT : findE 95 T = some e95.g) {H : Heap} {a0 : AV} {t : Tr} (b0 : thawA H [7] a0 = some (aTree t)) {a1 : AV} {L : List Int} (b1 : thawA H [1] a1 = some (aInts L)) (W : Str) (sc : Int) (hW : asciiB W) (hl : W.length ≤ 100000) (hL : L.length ≤ 1000000) (hx : ∀ i, i ∈ L → (nodeS t i).name.length ≤ 1000000000) : callL (ctx T) (.fn 95) [a0, a1, .str W, .int .i64 sc] H = some (.bool (hasS t L W sc), H) :=
 mkE_scalar hT inj_95 (t, L, W, sc) ⟨hW, hl, hL, hx⟩ rfl (by simp [b0, b1])
theorem fit_ownI {H : Heap} {b : Nat} {L : List Int} (h : L ≠ [] → H.get b = some (.cells (L.map aInt))) : ∃ σ Φ, fitV σ Φ (ownV b 1 (L.map aInt)) (ownV 0 1 (L.map aInt)) ∧ FitH 0 σ Φ H ⟨1, [ownF 0 (L.map aInt)]⟩ := by
 cases L with
 | nil => exact ⟨[], [], by simp [ownV, fitV], .keep0 rfl⟩
 | cons x r =>
  refine ⟨[(b, 0)], [], fitV_own (by simp [lookN]), .keep1 (h (by simp)) (pureI _) ?_⟩
  simp [ownF, fl_ints]
  rw [← List.map_cons (f := aInt), fl_ints]
def popL (t : Tr) (L : List Int) (W : Str) : List Int := (cutR (fun (b : Bool) _ => !b) (fun b i => if b = true then true else namedS (nodeS t i) W) false L.reverse).1.reverse
def rPop (t : Tr) (W : Str) (b : Bool) : List (Nat × Blk) := [(2, .cells [.bool b]), (1, .cells [.str W]), (0, .cells [aNodes t])]
theorem cut_pop {T : List (Entry Tryz.prog)} (hI : findE 65 T = some e65.g) (t : Tr) (W : Str) (i : Int) (hW : asciiB W) (hl : W.length ≤ 100000) (hx : (nodeS t i).name.length ≤ 1000000000) (b : Bool) :
  CallAt (ctx T) 122 (.int .i64 i :: [.ptr 2 0, .ptr 0 0, .ptr 1 0]) ⟨3, [[], rPop t W b]⟩ (.bool !b) ⟨3, [[], rPop t W (if b = true then true else namedS (nodeS t i) W)]⟩ := by
 have ki := fun (H : Heap) => q65 hI (H := H) (a := .agg [aNodes t]) (t := t) (by simp [thawA, okV, pureL, aTree]) i hW hl hx
 generalize namedS (nodeS t i) W = b1 at *
 have fin : ∀ b n, FitH 3 (idn 3) [] ⟨n, [[], [], rPop t W b]⟩ ⟨3, [[], rPop t W b]⟩ := fun b n => fit_any (Nat.le_refl 3) (by simp [Heap.ents, rPop]) (fun e he => by
  simp [Heap.ents, rPop] at he
  rcases he with rfl | rfl | rfl <;> exact ⟨by simp, self_pure (by simp [pureL, pureV]), by simp [Heap.get, getFs, getF, rPop]⟩) (Nat.le_refl 3)
 unfold rPop at fin ⊢
 cases b with
 | true =>
  refine callAt_body (fn := Tryz.f122) (s0 := ⟨[0, 1, 2, 3, 5], [.int .i64 i, .ptr 2 0, .ptr 0 0, .ptr 1 0, .undef], [], 11, ⟨3, [] :: [[], [(2, .cells [.bool true]), (1, .cells [.str W]), (0, .cells [aNodes t])]]⟩⟩) Tryz.func122 rfl rfl rfl ?_
  (repeat' (first
   | with_reducible refine wps_seq ?_
   | with_reducible refine wps_block ?_
   | (with_reducible refine wps_label ?_; simp only [thenQ, blockQ])
   | (with_reducible refine wps_region callOK ?_; apply runE; simp [zS, *]; exact rfl)
   | (with_reducible refine run_end ?_; simp only [thenQ, blockQ])
   | (refine wps_drawQ mixed callOK (by decide +kernel) (by decide +kernel) rfl ?_; apply runQ; simp [zS, zW, clsOf, mkBlk, guardA, Heap.lay, ontoF, *]; exact rfl)
   | (with_reducible refine run_endQ ?_; refine ⟨by repeat first | exact okC_n | refine okC_c (by decide +kernel) ?_, ?_⟩; simp only [thenQ, blockQ, allPend, Heap.lay, ontoF])
   | (with_reducible refine gate_splitQ (fun hc => ?_) (fun hc => ?_) <;> ((have hd := hc); (try simp at hd); (try subst hd); apply runQ; simp [zS, zW, clsOf, mkBlk, guardA, Heap.lay, ontoF, *]; exact rfl))
   | (with_reducible refine gate_splitX (fun hc => ?_) (fun hc => ?_) <;> ((have hd := hc); (try simp at hd); (try subst hd); apply runQ; simp [zS, zW, clsOf, mkBlk, guardA, Heap.lay, ontoF, *]; exact rfl))
   | (with_reducible refine pick_splitQ (fun hc => ?_) (fun hc => ?_) <;> ((have hd := hc); (try simp at hd); (try subst hd); apply runQ; simp [zS, zW, clsOf, mkBlk, guardA, Heap.lay, ontoF, *]; exact rfl))
   | (with_reducible refine gate_split (fun hc => ?_) (fun hc => ?_) <;> ((have hd := hc); (try simp at hd); (try subst hd); apply runE; simp [zS, *]; exact rfl))
   | (with_reducible refine pick_split (fun hc => ?_) (fun hc => ?_) <;> ((have hd := hc); (try simp at hd); (try subst hd); apply runE; simp [zS, *]; exact rfl))
   | (refine wps_ct rfl ?_)
   | (refine wps_cf rfl ?_)
   | (refine wps_cond rfl (fun hc => ?_) (fun hc => ?_) <;> ((have hd := hc); (try simp at hd); (try subst hd)))
   | (with_reducible refine wps_skip ?_; simp only [thenQ, blockQ])
   | (with_reducible refine wps_exit ?_; simp [thenQ, blockQ])
   | (with_reducible refine wps_ret ?_; simp [retVal, Tryz.f122, oneOr, thenQ, blockQ])))
  all_goals first | (exact ⟨_, _, by simp [fitV, pureV], fin true _⟩) | (exfalso; omega)
 | false =>
  refine callAt_body (fn := Tryz.f122) (s0 := ⟨[0, 1, 2, 3, 5], [.int .i64 i, .ptr 2 0, .ptr 0 0, .ptr 1 0, .undef], [], 11, ⟨3, [] :: [[], [(2, .cells [.bool false]), (1, .cells [.str W]), (0, .cells [aNodes t])]]⟩⟩) Tryz.func122 rfl rfl rfl ?_
  (repeat' (first
   | with_reducible refine wps_seq ?_
   | with_reducible refine wps_block ?_
   | (with_reducible refine wps_label ?_; simp only [thenQ, blockQ])
   | (with_reducible refine wps_region callOK ?_; apply runE; simp [zS, *]; exact rfl)
   | (with_reducible refine run_end ?_; simp only [thenQ, blockQ])
   | (refine wps_drawQ mixed callOK (by decide +kernel) (by decide +kernel) rfl ?_; apply runQ; simp [zS, zW, clsOf, mkBlk, guardA, Heap.lay, ontoF, *]; exact rfl)
   | (with_reducible refine run_endQ ?_; refine ⟨by repeat first | exact okC_n | refine okC_c (by decide +kernel) ?_, ?_⟩; simp only [thenQ, blockQ, allPend, Heap.lay, ontoF])
   | (with_reducible refine gate_splitQ (fun hc => ?_) (fun hc => ?_) <;> ((have hd := hc); (try simp at hd); (try subst hd); apply runQ; simp [zS, zW, clsOf, mkBlk, guardA, Heap.lay, ontoF, *]; exact rfl))
   | (with_reducible refine gate_splitX (fun hc => ?_) (fun hc => ?_) <;> ((have hd := hc); (try simp at hd); (try subst hd); apply runQ; simp [zS, zW, clsOf, mkBlk, guardA, Heap.lay, ontoF, *]; exact rfl))
   | (with_reducible refine pick_splitQ (fun hc => ?_) (fun hc => ?_) <;> ((have hd := hc); (try simp at hd); (try subst hd); apply runQ; simp [zS, zW, clsOf, mkBlk, guardA, Heap.lay, ontoF, *]; exact rfl))
   | (with_reducible refine gate_split (fun hc => ?_) (fun hc => ?_) <;> ((have hd := hc); (try simp at hd); (try subst hd); apply runE; simp [zS, *]; exact rfl))
   | (with_reducible refine pick_split (fun hc => ?_) (fun hc => ?_) <;> ((have hd := hc); (try simp at hd); (try subst hd); apply runE; simp [zS, *]; exact rfl))
   | (refine wps_ct rfl ?_)
   | (refine wps_cf rfl ?_)
   | (refine wps_cond rfl (fun hc => ?_) (fun hc => ?_) <;> ((have hd := hc); (try simp at hd); (try subst hd)))
   | (with_reducible refine wps_skip ?_; simp only [thenQ, blockQ])
   | (with_reducible refine wps_exit ?_; simp [thenQ, blockQ])
   | (with_reducible refine wps_ret ?_; simp [retVal, Tryz.f122, oneOr, thenQ, blockQ])))
  all_goals first | (exact ⟨_, _, by simp [fitV, pureV], fin b1 _⟩) | (exfalso; omega)
theorem c102 {T : List (Entry Tryz.prog)} (hC : findE 34 T = some e34.g) (hI : findE 65 T = some e65.g) (t : Tr) (L : List Int) (W : Str) (hW : asciiB W) (hl : W.length ≤ 100000) (hL : L.length ≤ 1000000) (hx : ∀ i, i ∈ L → (nodeS t i).name.length ≤ 1000000000) :
  CallAt (ctx T) 102 [aTree t, aInts L, .str W] ⟨0, []⟩ (ownV 0 1 ((popL t L W).map aInt)) ⟨1, [ownF 0 ((popL t L W).map aInt)]⟩ := by
 have hc := cut_at (T := T) hC (m := 3) (rows := rPop t W) (fn := 122) (cap := [.ptr 2 0, .ptr 0 0, .ptr 1 0]) (fun x => ⟨by simp [rPop], fun e he => by
  simp [rPop] at he
  rcases he with rfl | rfl | rfl <;> exact ⟨by simp, _, rfl, by simp [pureL, pureV]⟩⟩) L hL (by simp [fitL, fitV, lookN_idn]) (fun x i hi => cut_pop hI t W i hW hl (hx i hi) x) false
 rw [show (cutR (fun (b : Bool) _ => !b) (fun b i => if b = true then true else namedS (nodeS t i) W) false L.reverse).1.reverse = popL t L W from rfl] at hc
 generalize (cutR (fun (b : Bool) _ => !b) (fun b i => if b = true then true else namedS (nodeS t i) W) false L.reverse).2 = b at hc
 generalize popL t L W = M at *
 unfold rPop at hc
 refine callAt_body (fn := Tryz.f102) (s0 := ⟨[0, 1, 2, 3, 5, 6, 7], [aTree t, aInts L, .str W, .undef, .undef, .undef, .undef], [], 11, ⟨0, [[]]⟩⟩) Tryz.func102 rfl rfl rfl ?_
 repeat apply wq
 refine wps_region callOK ?_
 simp [zS, aTree]
 repeat apply wq
 refine wps_region callOK ?_
 simp [zS]
 repeat apply wq
 refine wps_region (callOKF [⟨118, _, _, _, _, hc⟩]) ?_
 simp [zS, callF]
 repeat apply wq
 refine wps_ret ?_
 simp [retVal, Tryz.f102, oneOr]
 exact fit_ownI fun hne => by rw [(own_I hne).2]; simp [Heap.get, getFs, getF]
theorem inj_tlw (x y : Tr × List Int × Str) (h : ([aTree x.1, aInts x.2.1, .str x.2.2] : List AV) = [aTree y.1, aInts y.2.1, .str y.2.2]) : x = y := by
 simp only [List.cons.injEq, and_true, AV.str.injEq] at h
 exact Prod.ext (inj_aTree h.1) (Prod.ext (inj_aInts h.2.1) h.2.2)
noncomputable def e102 : Entry Tryz.prog := mkL 102 [[7], [1], []] (fun x : Tr × List Int × Str => [aTree x.1, aInts x.2.1, .str x.2.2]) (fun x => asciiB x.2.2 ∧ x.2.2.length ≤ 100000 ∧ x.2.1.length ≤ 1000000 ∧ ∀ i, i ∈ x.2.1 → (nodeS x.1 i).name.length ≤ 1000000000) (fun x => popL x.1 x.2.1 x.2.2)
 fun x h => c102 (T := [e34, e65]) rfl rfl x.1 x.2.1 x.2.2 h.1 h.2.1 h.2.2.1 h.2.2.2
theorem k102 {T : List (Entry Tryz.prog)} (hT : findE 102 T = some e102.g) {t : Tr} {L : List Int} {W : Str} (hW : asciiB W) (hl : W.length ≤ 100000) (hL : L.length ≤ 1000000) (hx : ∀ i, i ∈ L → (nodeS t i).name.length ≤ 1000000000) {a : AV} {H : Heap} (ha : thawA H [7] a = some (aTree t)) :
  callL (ctx T) (.fn 102) [a, aInts L, .str W] H = some (aInts (popL t L W), H) :=
 mkL_eq hT inj_tlw (t, L, W) ⟨hW, hl, hL, hx⟩ (by simp [thawL, ha, thawA_ok])
theorem putN0 {T : List (Entry Tryz.prog)} (hT : findE 41 T = some e41.g) {s : SS} (ne : s.tree ≠ []) (up at_ kd : Int) (x : Str) (ok : SOk s) {n k : Nat} {fr : List (Nat × Blk)} (k0 : 0 < k) (kn : k < n) (of : offS k fr) :
  callL (ctx T) (.fn 41) [.ptr 0 0, .int .i64 up, .int .i64 at_, .agg [.int .i64 kd, .int .i64 0, .str [], .nilS, .str x, .int .i64 0, .nilS]] ⟨n, [fr, VS k s]⟩ = some (.int .i64 (s.tree.length : Int), ⟨n + 1, [fr, VS n { s with tree := newT s.tree up at_ ⟨kd, 0, [], [], x, 0, []⟩ }]⟩) :=
 mkS_eq hT inj_41 (up, at_, ⟨kd, 0, [], [], x, 0, []⟩) ne ⟨ok, by simp⟩ (by simp [pureL, pureV]) (by simp [thawL, thawA, thawC, thaw1, okV, aNode, Nd.cs, aInt, aAttrs, aInts, pureV, pureL]) k0 kn of
def ntT (t : Tr) (up : Int) (data : Str) : Tr := newT t up ((nodeAt t up).kids.length : Int) ⟨3, 0, [], [], data, 0, []⟩
def ntP (s : SS) (up : Int) : Int := if isB s.tree up = true then up else whP s.tree (topI s.opn)
theorem c20 {T : List (Entry Tryz.prog)} (hc0 : findE 40 T = some e40.g) (hc1 : findE 39 T = some e39.g) (hc2 : findE 42 T = some e42.g) (hc3 : findE 41 T = some e41.g) {s : SS} (ne : s.tree ≠ []) (data : Str) (up : Int) (hf : s.foster = false) (ok : SOk s) : SC T 20 [.str data, .int .i64 up] s (.tup []) ({ s with tree := ntT s.tree (ntP s up) data }) := by
 have kc0 := @k40 T hc0
 have kc1 := @k39 T hc1
 have kc2 := @k42 T hc2
 have g0 := @vg0
 have v0 := @vset
 have kT := fun H => kc0 (L := s.opn) (by have := ok.op; omega) H
 have bld : buildA Tryz.prog 41 [(0, .int .i64 3), (4, .str data)] = some (.agg [.int .i64 3, .int .i64 0, .str [], .nilS, .str data, .int .i64 0, .nilS]) := rfl
 have kP := fun up at_ n k fr => @putN0 T hc3 s ne up at_ 3 data ok n k fr
 have ln := fun H k => lenN' (k := k) (t := s.tree) H
 have hw : ntP s up = if 0 ≤ up ∧ up < (s.tree.length : Int) then up else whP s.tree (topI s.opn) := by
  unfold ntP isB
  simp only [Bool.and_eq_true, decide_eq_true_eq]
 refine callAt_body (fn := Tryz.f20) (s0 := ⟨[0, 1, 2, 6], [.ptr 0 0, .str data, .int .i64 up, .undef], [], 41, ⟨2, [] :: [VS 1 s]⟩⟩) Tryz.func20 rfl rfl rfl ?_
 (repeat' (first
  | with_reducible refine wps_seq ?_
  | with_reducible refine wps_block ?_
  | (with_reducible refine wps_label ?_; simp only [thenQ, blockQ])
  | (with_reducible refine wps_region callOK ?_; apply runE; simp [zS, *, SS.post, whV, ln]; exact rfl)
  | (with_reducible refine run_end ?_; simp only [thenQ, blockQ])
  | (refine wps_drawQ mixed callOK (by decide +kernel) (by decide +kernel) rfl ?_; apply runQ; simp [zS, zW, clsOf, mkBlk, guardA, Heap.lay, ontoF, *, SS.post, whV, ln]; exact rfl)
  | (with_reducible refine run_endQ ?_; refine ⟨by repeat first | exact okC_n | refine okC_c (by decide +kernel) ?_, ?_⟩; simp only [thenQ, blockQ, allPend, Heap.lay, ontoF])
  | (with_reducible refine gate_splitQ (fun hc => ?_) (fun hc => ?_) <;> ((have hd := hc); (try simp at hd); (try subst hd); apply runQ; simp [zS, zW, clsOf, mkBlk, guardA, Heap.lay, ontoF, *, SS.post, whV, ln]; exact rfl))
  | (with_reducible refine gate_splitX (fun hc => ?_) (fun hc => ?_) <;> ((have hd := hc); (try simp at hd); (try subst hd); apply runQ; simp [zS, zW, clsOf, mkBlk, guardA, Heap.lay, ontoF, *, SS.post, whV, ln]; exact rfl))
  | (with_reducible refine pick_splitQ (fun hc => ?_) (fun hc => ?_) <;> ((have hd := hc); (try simp at hd); (try subst hd); apply runQ; simp [zS, zW, clsOf, mkBlk, guardA, Heap.lay, ontoF, *, SS.post, whV, ln]; exact rfl))
  | (with_reducible refine gate_split (fun hc => ?_) (fun hc => ?_) <;> ((have hd := hc); (try simp at hd); (try subst hd); apply runE; simp [zS, *, SS.post, whV, ln]; exact rfl))
  | (with_reducible refine pick_split (fun hc => ?_) (fun hc => ?_) <;> ((have hd := hc); (try simp at hd); (try subst hd); apply runE; simp [zS, *, SS.post, whV, ln]; exact rfl))
  | (refine wps_ct rfl ?_)
  | (refine wps_cf rfl ?_)
  | (refine wps_cond rfl (fun hc => ?_) (fun hc => ?_) <;> ((have hd := hc); (try simp at hd); (try subst hd)))
  | (with_reducible refine wps_skip ?_; simp only [thenQ, blockQ])
  | (with_reducible refine wps_exit ?_; simp [thenQ, blockQ])
  | (with_reducible refine wps_ret ?_; simp [retVal, Tryz.f20, oneOr, thenQ, blockQ])))
 all_goals first | ((try simp [retVal, Tryz.f20, oneOr]); exact ends_S (by rfl) (by simp only [hw, ntT, hf]; split <;> first | rfl | (exfalso; omega)) (by simp [pureV, pureL]) (by decide) (newT_ne _ _ _ _) rfl rfl) | (exfalso; omega)
theorem inj_20 (x y : Str × Int) (h : (fun z : Str × Int => ([.str z.1, .int .i64 z.2] : List AV)) x = (fun z : Str × Int => ([.str z.1, .int .i64 z.2] : List AV)) y) : x = y := by
 obtain ⟨x0, x1⟩ := x
 obtain ⟨y0, y1⟩ := y
 simp only [List.cons.injEq, and_true] at h
 obtain ⟨h0, h1⟩ := h
 have g0 : x0 = y0 := AV.str.inj h0
 have g1 : x1 = y1 := AV.int.inj h1 |>.2
 subst g0 g1
 rfl
noncomputable def e20 : Entry Tryz.prog := mkS 20 [[], []] (fun z : Str × Int => [.str z.1, .int .i64 z.2]) (fun z s => (s.foster = false) ∧ (SOk s)) (fun z s => .tup []) (fun z s => { s with tree := ntT s.tree (ntP s z.2) z.1 }) fun z s ne h => ⟨c20 (T := [e40, e39, e42, e41]) rfl rfl rfl rfl ne z.1 z.2 h.1 h.2, by simp [pureL, pureV], by simp [pureV, pureL], newT_ne _ _ _ _⟩
theorem k20 {T : List (Entry Tryz.prog)} (hT : findE 20 T = some e20.g) {s : SS} (ne : s.tree ≠ []) (data : Str) (up : Int) (hf : s.foster = false) (ok : SOk s) {n k : Nat} {fr : List (Nat × Blk)} (k0 : 0 < k) (kn : k < n) (of : offS k fr) : callL (ctx T) (.fn 20) [.ptr 0 0, .str data, .int .i64 up] ⟨n, [fr, VS k s]⟩ = some (.tup [], ⟨n + 1, [fr, VS n ({ s with tree := ntT s.tree (ntP s up) data })]⟩) :=
 mkS_eq hT inj_20 (data, up) ne ⟨hf, ok⟩ (by simp [pureL, pureV]) (by simp [thawL, thawA_ok]) k0 kn of
def setDt (t : Tr) (i : Nat) (s : Str) : Tr := t.take i ++ { nodeAt t i with data := s } :: t.drop (i + 1)
theorem setDt_ne (t : Tr) (i : Nat) (s : Str) : setDt t i s ≠ [] := by simp [setDt]
theorem setDt_len {t : Tr} {i : Nat} (h : i < t.length) (s : Str) : (setDt t i s).length = t.length := by simp [setDt]; omega
theorem lay_dt {t : Tr} {i : Nat} (h : i < t.length) (x : Str) : layL [.str x] (i * 7 + 4) (flatAV (t.map aNode)) = some (flatAV ((setDt t i x).map aNode)) := by
 have hl : (flatAV ((t.take i).map aNode)).length = i * 7 := by rw [(el_node _).len]; simp; omega
 have e1 : flatAV (t.map aNode) = (flatAV ((t.take i).map aNode) ++ [aInt (nodeAt t i).kind, aInt (nodeAt t i).space, .str (nodeAt t i).name, aAttrs (nodeAt t i).attrs]) ++ [.str (nodeAt t i).data] ++ ([aInt (nodeAt t i).up, aInts (nodeAt t i).kids] ++ flatAV ((t.drop (i + 1)).map aNode)) := by
  conv => lhs; rw [tree_split h]
  simp [flat_append, flatAV, Nd.cs]
 have e2 : flatAV ((setDt t i x).map aNode) = (flatAV ((t.take i).map aNode) ++ [aInt (nodeAt t i).kind, aInt (nodeAt t i).space, .str (nodeAt t i).name, aAttrs (nodeAt t i).attrs]) ++ [.str x] ++ ([aInt (nodeAt t i).up, aInts (nodeAt t i).kids] ++ flatAV ((t.drop (i + 1)).map aNode)) := by
  unfold setDt
  simp [flat_append, flatAV, Nd.cs]
 rw [e1, e2]
 have := layL_app (a := flatAV ((t.take i).map aNode) ++ [aInt (nodeAt t i).kind, aInt (nodeAt t i).space, .str (nodeAt t i).name, aAttrs (nodeAt t i).attrs]) (b := [.str (nodeAt t i).data]) (b' := [.str x]) (c := [aInt (nodeAt t i).up, aInts (nodeAt t i).kids] ++ flatAV ((t.drop (i + 1)).map aNode)) rfl
 rw [List.length_append, hl] at this
 exact this
theorem set_k {s : SS} {k : Nat} {t : Tr} (k0 : 0 < k) (ne : s.tree ≠ []) (hl : t.length = s.tree.length) : setF k (.cells (flatAV (t.map aNode))) (VS k s) = some (VS k { s with tree := t }) := by
 have ne' : t ≠ [] := by intro e; rw [e] at hl; exact ne (List.length_eq_zero_iff.1 hl.symm)
 rw [VS_eq ne, VS_eq (by exact ne')]
 have b1 : Nat.beq 0 k = false := beqN_ne (by omega)
 simp [setF, b1, hl, SS.post]
def chN (t : Tr) (u : Int) (x : Str) : Tr := newT t u ((nodeAt t u).kids.length : Int) ⟨2, 0, [], [], x, 0, []⟩
def chT (t : Tr) (top : Int) (x : Str) : Tr :=
 if x = [] ∨ whP t top = 0 then t else match (nodeAt t (whP t top)).kids.getLast? with
  | some k => if (nodeAt t k).kind = 2 then setDt t k.toNat ((nodeAt t k).data ++ x) else chN t (whP t top) x
  | none => chN t (whP t top) x
theorem chT_ne {t : Tr} (ne : t ≠ []) (top : Int) (x : Str) : chT t top x ≠ [] := by
 unfold chT
 split
 ·exact ne
 ·split
  ·split
   ·exact setDt_ne _ _ _
   ·exact newT_ne _ _ _ _
  ·exact newT_ne _ _ _ _
structure KOk (t : Tr) : Prop where
 kr : ∀ n, n ∈ t → ∀ k, k ∈ n.kids → 0 ≤ k ∧ k < (t.length : Int)
 dl : ∀ n, n ∈ t → n.data.length ≤ 1000000000
theorem c19 {T : List (Entry Tryz.prog)} (hc0 : findE 40 T = some e40.g) (hc1 : findE 39 T = some e39.g) (hc2 : findE 41 T = some e41.g) {s : SS} (ne : s.tree ≠ []) (x : Str) (hf : s.foster = false) (ok : SOk s) (kk : KOk s.tree) (hx : x.length ≤ 1000000000) : SC T 19 [.str x] s (.tup []) ({ s with tree := chT s.tree (topI s.opn) x }) := by
 have kc0 := @k40 T hc0
 have kc1 := @k39 T hc1
 have g0 := @vg0
 have v0 := @vset
 have kT := fun H => kc0 (L := s.opn) (by have := ok.op; omega) H
 have bld : buildA Tryz.prog 41 [(0, .int .i64 2), (4, .str x)] = some (.agg [.int .i64 2, .int .i64 0, .str [], .nilS, .str x, .int .i64 0, .nilS]) := rfl
 have kP := fun up at_ n k fr => @putN0 T hc2 s ne up at_ 2 x ok n k fr
 clear kc0
 obtain ⟨u, hu, hul⟩ := whP_nat ne (topI s.opn)
 obtain ⟨K, hK⟩ : ∃ K, K = (nodeAt s.tree (u : Int)).kids := ⟨_, rfl⟩
 have kr : ∀ k, k ∈ K → 0 ≤ k ∧ k < (s.tree.length : Int) := fun k hk => kk.kr _ (nodeAt_mem (by omega) (by omega)) k (hK ▸ hk)
 have hwv : whV s.tree (u : Int) = .tup [.int .i64 (u : Int), .int .i64 (K.length : Int)] := by rw [hK]; rfl
 have hKl : K.length ≤ 100000 := hK ▸ ok.kd _ (nodeAt_mem (by omega) (by omega))
 by_cases h1 : x = []
 ·have e : chT s.tree (topI s.opn) x = s.tree := by unfold chT; rw [if_pos (.inl h1)]
  rw [e]
  refine callAt_body (fn := Tryz.f19) (s0 := ⟨[0, 1, 4, 5, 6], [.ptr 0 0, .str x, .undef, .undef, .undef], [], 63, ⟨2, [] :: [VS 1 s]⟩⟩) Tryz.func19 rfl rfl rfl ?_
  (repeat' (first
   | with_reducible refine wps_seq ?_
   | with_reducible refine wps_block ?_
   | (with_reducible refine wps_label ?_; simp only [thenQ, blockQ])
   | (with_reducible refine wps_region callOK ?_; apply runE; simp [zS, *, SS.post]; exact rfl)
   | (with_reducible refine run_end ?_; simp only [thenQ, blockQ])
   | (refine wps_drawQ mixed callOK (by decide +kernel) (by decide +kernel) rfl ?_; apply runQ; simp [zS, zW, clsOf, mkBlk, guardA, Heap.lay, ontoF, *, SS.post]; exact rfl)
   | (with_reducible refine run_endQ ?_; refine ⟨by repeat first | exact okC_n | refine okC_c (by decide +kernel) ?_, ?_⟩; simp only [thenQ, blockQ, allPend, Heap.lay, ontoF])
   | (with_reducible refine gate_splitQ (fun hc => ?_) (fun hc => ?_) <;> ((have hd := hc); (try simp at hd); (try subst hd); apply runQ; simp [zS, zW, clsOf, mkBlk, guardA, Heap.lay, ontoF, *, SS.post]; exact rfl))
   | (with_reducible refine gate_splitX (fun hc => ?_) (fun hc => ?_) <;> ((have hd := hc); (try simp at hd); (try subst hd); apply runQ; simp [zS, zW, clsOf, mkBlk, guardA, Heap.lay, ontoF, *, SS.post]; exact rfl))
   | (with_reducible refine pick_splitQ (fun hc => ?_) (fun hc => ?_) <;> ((have hd := hc); (try simp at hd); (try subst hd); apply runQ; simp [zS, zW, clsOf, mkBlk, guardA, Heap.lay, ontoF, *, SS.post]; exact rfl))
   | (with_reducible refine gate_split (fun hc => ?_) (fun hc => ?_) <;> ((have hd := hc); (try simp at hd); (try subst hd); apply runE; simp [zS, *, SS.post]; exact rfl))
   | (with_reducible refine pick_split (fun hc => ?_) (fun hc => ?_) <;> ((have hd := hc); (try simp at hd); (try subst hd); apply runE; simp [zS, *, SS.post]; exact rfl))
   | (refine wps_ct rfl ?_)
   | (refine wps_cf rfl ?_)
   | (refine wps_cond rfl (fun hc => ?_) (fun hc => ?_) <;> ((have hd := hc); (try simp at hd); (try subst hd)))
   | (with_reducible refine wps_skip ?_; simp only [thenQ, blockQ])
   | (with_reducible refine wps_exit ?_; simp [thenQ, blockQ])
   | (with_reducible refine wps_ret ?_; simp [retVal, Tryz.f19, oneOr, thenQ, blockQ])))
  all_goals first | ((try simp [retVal, Tryz.f19, oneOr]); exact ends_S rfl (by first | rfl | (simp [*]; done)) rfl (by decide) ne rfl rfl) | (exfalso; omega)
 ·by_cases h0 : u = 0
  ·have e : chT s.tree (topI s.opn) x = s.tree := by unfold chT; rw [if_pos (.inr (by rw [hu, h0]; rfl))]
   rw [e]
   subst h0
   rw [show (((0 : Nat)) : Int) = 0 from rfl] at hwv
   refine callAt_body (fn := Tryz.f19) (s0 := ⟨[0, 1, 4, 5, 6], [.ptr 0 0, .str x, .undef, .undef, .undef], [], 63, ⟨2, [] :: [VS 1 s]⟩⟩) Tryz.func19 rfl rfl rfl ?_
   (repeat' (first
    | with_reducible refine wps_seq ?_
    | with_reducible refine wps_block ?_
    | (with_reducible refine wps_label ?_; simp only [thenQ, blockQ])
    | (with_reducible refine wps_region callOK ?_; apply runE; simp [zS, *, SS.post]; exact rfl)
    | (with_reducible refine run_end ?_; simp only [thenQ, blockQ])
    | (refine wps_drawQ mixed callOK (by decide +kernel) (by decide +kernel) rfl ?_; apply runQ; simp [zS, zW, clsOf, mkBlk, guardA, Heap.lay, ontoF, *, SS.post]; exact rfl)
    | (with_reducible refine run_endQ ?_; refine ⟨by repeat first | exact okC_n | refine okC_c (by decide +kernel) ?_, ?_⟩; simp only [thenQ, blockQ, allPend, Heap.lay, ontoF])
    | (with_reducible refine gate_splitQ (fun hc => ?_) (fun hc => ?_) <;> ((have hd := hc); (try simp at hd); (try subst hd); apply runQ; simp [zS, zW, clsOf, mkBlk, guardA, Heap.lay, ontoF, *, SS.post]; exact rfl))
    | (with_reducible refine gate_splitX (fun hc => ?_) (fun hc => ?_) <;> ((have hd := hc); (try simp at hd); (try subst hd); apply runQ; simp [zS, zW, clsOf, mkBlk, guardA, Heap.lay, ontoF, *, SS.post]; exact rfl))
    | (with_reducible refine pick_splitQ (fun hc => ?_) (fun hc => ?_) <;> ((have hd := hc); (try simp at hd); (try subst hd); apply runQ; simp [zS, zW, clsOf, mkBlk, guardA, Heap.lay, ontoF, *, SS.post]; exact rfl))
    | (with_reducible refine gate_split (fun hc => ?_) (fun hc => ?_) <;> ((have hd := hc); (try simp at hd); (try subst hd); apply runE; simp [zS, *, SS.post]; exact rfl))
    | (with_reducible refine pick_split (fun hc => ?_) (fun hc => ?_) <;> ((have hd := hc); (try simp at hd); (try subst hd); apply runE; simp [zS, *, SS.post]; exact rfl))
    | (refine wps_ct rfl ?_)
    | (refine wps_cf rfl ?_)
    | (refine wps_cond rfl (fun hc => ?_) (fun hc => ?_) <;> ((have hd := hc); (try simp at hd); (try subst hd)))
    | (with_reducible refine wps_skip ?_; simp only [thenQ, blockQ])
    | (with_reducible refine wps_exit ?_; simp [thenQ, blockQ])
    | (with_reducible refine wps_ret ?_; simp [retVal, Tryz.f19, oneOr, thenQ, blockQ])))
   all_goals first | ((try simp [retVal, Tryz.f19, oneOr]); exact ends_S rfl (by first | rfl | (simp [*]; done)) rfl (by decide) ne rfl rfl) | (exfalso; omega)
  ·have h0' : ¬ ((u : Int) = 0) := by omega
   have e : chT s.tree (topI s.opn) x = match K.getLast? with
     | some k => if (nodeAt s.tree k).kind = 2 then setDt s.tree k.toNat ((nodeAt s.tree k).data ++ x) else chN s.tree (u : Int) x
     | none => chN s.tree (u : Int) x := by unfold chT; rw [if_neg (by rw [hu]; exact fun h => h.elim h1 h0'), hu, ← hK]
   rw [e]
   clear e
   rcases List.eq_nil_or_concat K with hn | ⟨K0, k, hc⟩
   ·rw [hn]
    simp only [List.getLast?_nil]
    have e2 : chN s.tree (u : Int) x = newT s.tree (u : Int) (0 : Nat) ⟨2, 0, [], [], x, 0, []⟩ := by unfold chN; rw [← hK, hn]; rfl
    rw [e2]
    subst hn
    clear e2 hK kr
    refine callAt_body (fn := Tryz.f19) (s0 := ⟨[0, 1, 4, 5, 6], [.ptr 0 0, .str x, .undef, .undef, .undef], [], 63, ⟨2, [] :: [VS 1 s]⟩⟩) Tryz.func19 rfl rfl rfl ?_
    (repeat' (first
     | with_reducible refine wps_seq ?_
     | with_reducible refine wps_block ?_
     | (with_reducible refine wps_label ?_; simp only [thenQ, blockQ])
     | (with_reducible refine wps_region callOK ?_; apply runE; simp [zS, *, SS.post]; exact rfl)
     | (with_reducible refine run_end ?_; simp only [thenQ, blockQ])
     | (refine wps_drawQ mixed callOK (by decide +kernel) (by decide +kernel) rfl ?_; apply runQ; simp [zS, zW, clsOf, mkBlk, guardA, Heap.lay, ontoF, *, SS.post]; exact rfl)
     | (with_reducible refine run_endQ ?_; refine ⟨by repeat first | exact okC_n | refine okC_c (by decide +kernel) ?_, ?_⟩; simp only [thenQ, blockQ, allPend, Heap.lay, ontoF])
     | (with_reducible refine gate_splitQ (fun hc => ?_) (fun hc => ?_) <;> ((have hd := hc); (try simp at hd); (try subst hd); apply runQ; simp [zS, zW, clsOf, mkBlk, guardA, Heap.lay, ontoF, *, SS.post]; exact rfl))
     | (with_reducible refine gate_splitX (fun hc => ?_) (fun hc => ?_) <;> ((have hd := hc); (try simp at hd); (try subst hd); apply runQ; simp [zS, zW, clsOf, mkBlk, guardA, Heap.lay, ontoF, *, SS.post]; exact rfl))
     | (with_reducible refine pick_splitQ (fun hc => ?_) (fun hc => ?_) <;> ((have hd := hc); (try simp at hd); (try subst hd); apply runQ; simp [zS, zW, clsOf, mkBlk, guardA, Heap.lay, ontoF, *, SS.post]; exact rfl))
     | (with_reducible refine gate_split (fun hc => ?_) (fun hc => ?_) <;> ((have hd := hc); (try simp at hd); (try subst hd); apply runE; simp [zS, *, SS.post]; exact rfl))
     | (with_reducible refine pick_split (fun hc => ?_) (fun hc => ?_) <;> ((have hd := hc); (try simp at hd); (try subst hd); apply runE; simp [zS, *, SS.post]; exact rfl))
     | (refine wps_ct rfl ?_)
     | (refine wps_cf rfl ?_)
     | (refine wps_cond rfl (fun hc => ?_) (fun hc => ?_) <;> ((have hd := hc); (try simp at hd); (try subst hd)))
     | (with_reducible refine wps_skip ?_; simp only [thenQ, blockQ])
     | (with_reducible refine wps_exit ?_; simp [thenQ, blockQ])
     | (with_reducible refine wps_ret ?_; simp [retVal, Tryz.f19, oneOr, thenQ, blockQ])))
    all_goals first | ((try simp [retVal, Tryz.f19, oneOr]); exact ends_S rfl (by first | rfl | (simp [*]; done)) rfl (by decide) (newT_ne _ _ _ _) rfl rfl) | (exfalso; omega)
   ·rw [List.concat_eq_append] at hc
    obtain ⟨kn, rfl⟩ : ∃ kn : Nat, k = (kn : Int) := ⟨k.toNat, by have := (kr k (by rw [hc]; simp)).1; omega⟩
    have hkn : kn < s.tree.length := by have := (kr (kn : Int) (by rw [hc]; simp)).2; omega
    rw [hc]
    simp only [List.getLast?_append, List.getLast?_singleton, Option.some_or]
    have hlen : K.length = K0.length + 1 := by rw [hc]; simp
    have hw : wr .i64 ((K0.length : Int) + 1 - 1) = some (K0.length : Int) := by
     have := sub_one (q := K0.length) (by omega)
     rwa [show (((K0.length + 1 : Nat) : Int) - 1) = (K0.length : Int) + 1 - 1 by omega] at this
    have hw2 : wr .i64 (K0.length : Int) = some (K0.length : Int) := by rwa [Int.add_sub_cancel] at hw
    have hat : indexAddrA Tryz.prog 32 (aInts K) (.int .i64 (K0.length : Int)) = some (.fptr [.int .i64 (kn : Int)] 0) := by
     rw [atI (by omega)]
     simp [hc]
    have lK : ∀ H, lenA Tryz.prog H 32 (aInts K) = some (K0.length + 1) := fun H => by rw [lenI, hlen]
    have hpos : (0 : Int) < (K0.length : Int) + 1 := by omega
    have gk := fun k => vgk (k := k) (s := s)
    have ix := fun k => ixN (k := k) hul
    have gN := getN (c := 6) hul (by omega)
    rw [show (nodeAt s.tree (u : Int)).cs = [aInt (nodeAt s.tree (u : Int)).kind, aInt (nodeAt s.tree (u : Int)).space, .str (nodeAt s.tree (u : Int)).name, aAttrs (nodeAt s.tree (u : Int)).attrs, .str (nodeAt s.tree (u : Int)).data, aInt (nodeAt s.tree (u : Int)).up, aInts K] by rw [hK]; rfl] at gN
    have ix2 := fun k => ixN (k := k) hkn
    have gN0 := getN (c := 0) hkn (by omega)
    rw [Nat.add_zero] at gN0
    have gN4 := getN (c := 4) hkn (by omega)
    have hcat := catStr (x := (nodeAt s.tree (kn : Int)).data) (y := x) (by have := kk.dl _ (nodeAt_mem (t := s.tree) (i := (kn : Int)) (by omega) (by omega)); omega)
    have hld := lay_dt hkn ((nodeAt s.tree (kn : Int)).data ++ x)
    have hsk := fun k k0 => @set_k s k (setDt s.tree kn ((nodeAt s.tree (kn : Int)).data ++ x)) k0 ne (setDt_len hkn _)
    have hwv' : whV s.tree (u : Int) = .tup [.int .i64 (u : Int), .int .i64 ((K0.length : Int) + 1)] := by rw [hwv, hlen]; rfl
    clear hwv
    by_cases h2 : (nodeAt s.tree (kn : Int)).kind = 2
    ·rw [if_pos h2]
     have e3 : (kn : Int).toNat = kn := by simp
     rw [e3]
     clear e3 hK hc kr hlen
     refine callAt_body (fn := Tryz.f19) (s0 := ⟨[0, 1, 4, 5, 6], [.ptr 0 0, .str x, .undef, .undef, .undef], [], 63, ⟨2, [] :: [VS 1 s]⟩⟩) Tryz.func19 rfl rfl rfl ?_
     (repeat' (first
      | with_reducible refine wps_seq ?_
      | with_reducible refine wps_block ?_
      | (with_reducible refine wps_label ?_; simp only [thenQ, blockQ])
      | (with_reducible refine wps_region callOK ?_; apply runE; simp [zS, *, SS.post, Nd.cs, aInt]; exact rfl)
      | (with_reducible refine run_end ?_; simp only [thenQ, blockQ])
      | (refine wps_drawQ mixed callOK (by decide +kernel) (by decide +kernel) rfl ?_; apply runQ; simp [zS, zW, clsOf, mkBlk, guardA, Heap.lay, ontoF, *, SS.post, Nd.cs, aInt]; exact rfl)
      | (with_reducible refine run_endQ ?_; refine ⟨by repeat first | exact okC_n | refine okC_c (by decide +kernel) ?_, ?_⟩; simp only [thenQ, blockQ, allPend, Heap.lay, ontoF])
      | (with_reducible refine gate_splitQ (fun hc => ?_) (fun hc => ?_) <;> ((have hd := hc); (try simp at hd); (try subst hd); apply runQ; simp [zS, zW, clsOf, mkBlk, guardA, Heap.lay, ontoF, *, SS.post, Nd.cs, aInt]; exact rfl))
      | (with_reducible refine gate_splitX (fun hc => ?_) (fun hc => ?_) <;> ((have hd := hc); (try simp at hd); (try subst hd); apply runQ; simp [zS, zW, clsOf, mkBlk, guardA, Heap.lay, ontoF, *, SS.post, Nd.cs, aInt]; exact rfl))
      | (with_reducible refine pick_splitQ (fun hc => ?_) (fun hc => ?_) <;> ((have hd := hc); (try simp at hd); (try subst hd); apply runQ; simp [zS, zW, clsOf, mkBlk, guardA, Heap.lay, ontoF, *, SS.post, Nd.cs, aInt]; exact rfl))
      | (with_reducible refine gate_split (fun hc => ?_) (fun hc => ?_) <;> ((have hd := hc); (try simp at hd); (try subst hd); apply runE; simp [zS, *, SS.post, Nd.cs, aInt]; exact rfl))
      | (with_reducible refine pick_split (fun hc => ?_) (fun hc => ?_) <;> ((have hd := hc); (try simp at hd); (try subst hd); apply runE; simp [zS, *, SS.post, Nd.cs, aInt]; exact rfl))
      | (refine wps_ct rfl ?_)
      | (refine wps_cf rfl ?_)
      | (refine wps_cond rfl (fun hc => ?_) (fun hc => ?_) <;> ((have hd := hc); (try simp at hd); (try subst hd)))
      | (with_reducible refine wps_skip ?_; simp only [thenQ, blockQ])
      | (with_reducible refine wps_exit ?_; simp [thenQ, blockQ])
      | (with_reducible refine wps_ret ?_; simp [retVal, Tryz.f19, oneOr, thenQ, blockQ])))
     all_goals first | ((try simp [retVal, Tryz.f19, oneOr]); exact ends_S rfl (by first | rfl | (simp [*]; done)) rfl (by decide) (setDt_ne _ _ _) rfl rfl) | (exfalso; omega)
    ·rw [if_neg h2]
     have e2 : chN s.tree (u : Int) x = newT s.tree (u : Int) ((K0.length : Int) + 1) ⟨2, 0, [], [], x, 0, []⟩ := by unfold chN; rw [← hK, hlen]; rfl
     rw [e2]
     clear e2 hK hc kr hlen
     refine callAt_body (fn := Tryz.f19) (s0 := ⟨[0, 1, 4, 5, 6], [.ptr 0 0, .str x, .undef, .undef, .undef], [], 63, ⟨2, [] :: [VS 1 s]⟩⟩) Tryz.func19 rfl rfl rfl ?_
     (repeat' (first
      | with_reducible refine wps_seq ?_
      | with_reducible refine wps_block ?_
      | (with_reducible refine wps_label ?_; simp only [thenQ, blockQ])
      | (with_reducible refine wps_region callOK ?_; apply runE; simp [zS, *, SS.post, Nd.cs, aInt]; exact rfl)
      | (with_reducible refine run_end ?_; simp only [thenQ, blockQ])
      | (refine wps_drawQ mixed callOK (by decide +kernel) (by decide +kernel) rfl ?_; apply runQ; simp [zS, zW, clsOf, mkBlk, guardA, Heap.lay, ontoF, *, SS.post, Nd.cs, aInt]; exact rfl)
      | (with_reducible refine run_endQ ?_; refine ⟨by repeat first | exact okC_n | refine okC_c (by decide +kernel) ?_, ?_⟩; simp only [thenQ, blockQ, allPend, Heap.lay, ontoF])
      | (with_reducible refine gate_splitQ (fun hc => ?_) (fun hc => ?_) <;> ((have hd := hc); (try simp at hd); (try subst hd); apply runQ; simp [zS, zW, clsOf, mkBlk, guardA, Heap.lay, ontoF, *, SS.post, Nd.cs, aInt]; exact rfl))
      | (with_reducible refine gate_splitX (fun hc => ?_) (fun hc => ?_) <;> ((have hd := hc); (try simp at hd); (try subst hd); apply runQ; simp [zS, zW, clsOf, mkBlk, guardA, Heap.lay, ontoF, *, SS.post, Nd.cs, aInt]; exact rfl))
      | (with_reducible refine pick_splitQ (fun hc => ?_) (fun hc => ?_) <;> ((have hd := hc); (try simp at hd); (try subst hd); apply runQ; simp [zS, zW, clsOf, mkBlk, guardA, Heap.lay, ontoF, *, SS.post, Nd.cs, aInt]; exact rfl))
      | (with_reducible refine gate_split (fun hc => ?_) (fun hc => ?_) <;> ((have hd := hc); (try simp at hd); (try subst hd); apply runE; simp [zS, *, SS.post, Nd.cs, aInt]; exact rfl))
      | (with_reducible refine pick_split (fun hc => ?_) (fun hc => ?_) <;> ((have hd := hc); (try simp at hd); (try subst hd); apply runE; simp [zS, *, SS.post, Nd.cs, aInt]; exact rfl))
      | (refine wps_ct rfl ?_)
      | (refine wps_cf rfl ?_)
      | (refine wps_cond rfl (fun hc => ?_) (fun hc => ?_) <;> ((have hd := hc); (try simp at hd); (try subst hd)))
      | (with_reducible refine wps_skip ?_; simp only [thenQ, blockQ])
      | (with_reducible refine wps_exit ?_; simp [thenQ, blockQ])
      | (with_reducible refine wps_ret ?_; simp [retVal, Tryz.f19, oneOr, thenQ, blockQ])))
     all_goals first | ((try simp [retVal, Tryz.f19, oneOr]); exact ends_S rfl (by first | rfl | (simp [*]; done)) rfl (by decide) (newT_ne _ _ _ _) rfl rfl) | (exfalso; omega)
theorem inj_19 (x y : Str) (h : (fun z : Str => ([.str z] : List AV)) x = (fun z : Str => ([.str z] : List AV)) y) : x = y := by
 simp only [List.cons.injEq, and_true] at h
 exact AV.str.inj h
noncomputable def e19 : Entry Tryz.prog := mkS 19 [[]] (fun z : Str => [.str z]) (fun z s => (s.foster = false) ∧ (SOk s) ∧ (KOk s.tree) ∧ (z.length ≤ 1000000000)) (fun z s => .tup []) (fun z s => { s with tree := chT s.tree (topI s.opn) z }) fun z s ne h => ⟨c19 (T := [e40, e39, e41]) rfl rfl rfl ne z h.1 h.2.1 h.2.2.1 h.2.2.2, by simp [pureL, pureV], by simp [pureV, pureL], chT_ne ne _ _⟩
theorem k19 {T : List (Entry Tryz.prog)} (hT : findE 19 T = some e19.g) {s : SS} (ne : s.tree ≠ []) (x : Str) (hf : s.foster = false) (ok : SOk s) (kk : KOk s.tree) (hx : x.length ≤ 1000000000) {n k : Nat} {fr : List (Nat × Blk)} (k0 : 0 < k) (kn : k < n) (of : offS k fr) : callL (ctx T) (.fn 19) [.ptr 0 0, .str x] ⟨n, [fr, VS k s]⟩ = some (.tup [], ⟨n + 1, [fr, VS n ({ s with tree := chT s.tree (topI s.opn) x })]⟩) :=
 mkS_eq hT inj_19 (x) ne ⟨hf, ok, kk, hx⟩ (by simp [pureL, pureV]) (by simp [thawL, thawA_ok]) k0 kn of
def nmOk (t : Tr) : Prop := ∀ i, (nodeS t i).name.length ≤ 1000000000
theorem c89 {T : List (Entry Tryz.prog)} (hc0 : findE 40 T = some e40.g) (hc1 : findE 65 T = some e65.g) {s : SS} (ne : s.tree ≠ []) (W : Str) (hW : asciiB W) (hl : W.length ≤ 100000) (hn : nmOk s.tree) (ho : s.opn.length ≤ 100000) : SC T 89 [.str W] s (.bool (namedS (nodeS s.tree (topI s.opn)) W)) (s) := by
 have kc0 := @k40 T hc0
 have g0 := @vg0
 have v0 := @vset
 have kT := fun H => kc0 (L := s.opn) (by omega) H
 have kI := fun n k f (k0 : 0 < k) (hf : getF k f = none) => q65 hc1 (thS (n := n) k0 ne hf) (topI s.opn) hW hl (hn _)
 refine callAt_body (fn := Tryz.f89) (s0 := ⟨[0, 1, 4], [.ptr 0 0, .str W, .undef], [], 16, ⟨2, [] :: [VS 1 s]⟩⟩) Tryz.func89 rfl rfl rfl ?_
 (repeat' (first
  | with_reducible refine wps_seq ?_
  | with_reducible refine wps_block ?_
  | (with_reducible refine wps_label ?_; simp only [thenQ, blockQ])
  | (with_reducible refine wps_region callOK ?_; apply runE; simp [zS, *, SS.post]; exact rfl)
  | (with_reducible refine run_end ?_; simp only [thenQ, blockQ])
  | (refine wps_drawQ mixed callOK (by decide +kernel) (by decide +kernel) rfl ?_; apply runQ; simp [zS, zW, clsOf, mkBlk, guardA, Heap.lay, ontoF, *, SS.post]; exact rfl)
  | (with_reducible refine run_endQ ?_; refine ⟨by repeat first | exact okC_n | refine okC_c (by decide +kernel) ?_, ?_⟩; simp only [thenQ, blockQ, allPend, Heap.lay, ontoF])
  | (with_reducible refine gate_splitQ (fun hc => ?_) (fun hc => ?_) <;> ((have hd := hc); (try simp at hd); (try subst hd); apply runQ; simp [zS, zW, clsOf, mkBlk, guardA, Heap.lay, ontoF, *, SS.post]; exact rfl))
  | (with_reducible refine gate_splitX (fun hc => ?_) (fun hc => ?_) <;> ((have hd := hc); (try simp at hd); (try subst hd); apply runQ; simp [zS, zW, clsOf, mkBlk, guardA, Heap.lay, ontoF, *, SS.post]; exact rfl))
  | (with_reducible refine pick_splitQ (fun hc => ?_) (fun hc => ?_) <;> ((have hd := hc); (try simp at hd); (try subst hd); apply runQ; simp [zS, zW, clsOf, mkBlk, guardA, Heap.lay, ontoF, *, SS.post]; exact rfl))
  | (with_reducible refine gate_split (fun hc => ?_) (fun hc => ?_) <;> ((have hd := hc); (try simp at hd); (try subst hd); apply runE; simp [zS, *, SS.post]; exact rfl))
  | (with_reducible refine pick_split (fun hc => ?_) (fun hc => ?_) <;> ((have hd := hc); (try simp at hd); (try subst hd); apply runE; simp [zS, *, SS.post]; exact rfl))
  | (refine wps_ct rfl ?_)
  | (refine wps_cf rfl ?_)
  | (refine wps_cond rfl (fun hc => ?_) (fun hc => ?_) <;> ((have hd := hc); (try simp at hd); (try subst hd)))
  | (with_reducible refine wps_skip ?_; simp only [thenQ, blockQ])
  | (with_reducible refine wps_exit ?_; simp [thenQ, blockQ])
  | (with_reducible refine wps_ret ?_; simp [retVal, Tryz.f89, oneOr, thenQ, blockQ])))
 all_goals first | ((try simp [retVal, Tryz.f89, oneOr]); exact ends_S (by simp [*]) (by first | rfl | (simp [*]; done)) (by simp [pureV, pureL]) (by decide) (ne) rfl rfl) | (exfalso; omega)
theorem inj_89 (x y : Str) (h : (fun z : Str => ([.str z] : List AV)) x = (fun z : Str => ([.str z] : List AV)) y) : x = y := by
 simp only [List.cons.injEq, and_true] at h
 exact AV.str.inj h
noncomputable def e89 : Entry Tryz.prog := mkS 89 [[]] (fun z : Str => [.str z]) (fun z s => (asciiB z) ∧ (z.length ≤ 100000) ∧ (nmOk s.tree) ∧ (s.opn.length ≤ 100000)) (fun z s => .bool (namedS (nodeS s.tree (topI s.opn)) z)) (fun z s => s) fun z s ne h => ⟨c89 (T := [e40, e65]) rfl rfl ne z h.1 h.2.1 h.2.2.1 h.2.2.2, by simp [pureL, pureV], by simp [pureV, pureL], ne⟩
theorem k89 {T : List (Entry Tryz.prog)} (hT : findE 89 T = some e89.g) {s : SS} (ne : s.tree ≠ []) (W : Str) (hW : asciiB W) (hl : W.length ≤ 100000) (hn : nmOk s.tree) (ho : s.opn.length ≤ 100000) {n k : Nat} {fr : List (Nat × Blk)} (k0 : 0 < k) (kn : k < n) (of : offS k fr) : callL (ctx T) (.fn 89) [.ptr 0 0, .str W] ⟨n, [fr, VS k s]⟩ = some (.bool (namedS (nodeS s.tree (topI s.opn)) W), ⟨n + 1, [fr, VS n (s)]⟩) :=
 mkS_eq hT inj_89 (W) ne ⟨hW, hl, hn, ho⟩ (by simp [pureL, pureV]) (by simp [thawL, thawA_ok]) k0 kn of
theorem c61 {T : List (Entry Tryz.prog)} (hc0 : findE 95 T = some e95.g) {s : SS} (ne : s.tree ≠ []) (W : Str) (sc : Int) (hW : asciiB W) (hl : W.length ≤ 100000) (hn : nmOk s.tree) (ho : s.opn.length ≤ 100000) : SC T 61 [.str W, .int .i64 sc] s (.bool (hasS s.tree s.opn W sc)) (s) := by
 have g0 := @vg0
 have v0 := @vset
 have kI := fun n k f (k0 : 0 < k) (hf : getF k f = none) => q95 hc0 (thS (n := n) k0 ne hf) (a1 := aInts s.opn) (L := s.opn) (thawA_ok (by simp [okV, pureV])) W sc hW hl (by omega) (fun i _ => hn i)
 refine callAt_body (fn := Tryz.f61) (s0 := ⟨[0, 1, 2, 6], [.ptr 0 0, .str W, .int .i64 sc, .undef], [], 18, ⟨2, [] :: [VS 1 s]⟩⟩) Tryz.func61 rfl rfl rfl ?_
 (repeat' (first
  | with_reducible refine wps_seq ?_
  | with_reducible refine wps_block ?_
  | (with_reducible refine wps_label ?_; simp only [thenQ, blockQ])
  | (with_reducible refine wps_region callOK ?_; apply runE; simp [zS, *, SS.post]; exact rfl)
  | (with_reducible refine run_end ?_; simp only [thenQ, blockQ])
  | (refine wps_drawQ mixed callOK (by decide +kernel) (by decide +kernel) rfl ?_; apply runQ; simp [zS, zW, clsOf, mkBlk, guardA, Heap.lay, ontoF, *, SS.post]; exact rfl)
  | (with_reducible refine run_endQ ?_; refine ⟨by repeat first | exact okC_n | refine okC_c (by decide +kernel) ?_, ?_⟩; simp only [thenQ, blockQ, allPend, Heap.lay, ontoF])
  | (with_reducible refine gate_splitQ (fun hc => ?_) (fun hc => ?_) <;> ((have hd := hc); (try simp at hd); (try subst hd); apply runQ; simp [zS, zW, clsOf, mkBlk, guardA, Heap.lay, ontoF, *, SS.post]; exact rfl))
  | (with_reducible refine gate_splitX (fun hc => ?_) (fun hc => ?_) <;> ((have hd := hc); (try simp at hd); (try subst hd); apply runQ; simp [zS, zW, clsOf, mkBlk, guardA, Heap.lay, ontoF, *, SS.post]; exact rfl))
  | (with_reducible refine pick_splitQ (fun hc => ?_) (fun hc => ?_) <;> ((have hd := hc); (try simp at hd); (try subst hd); apply runQ; simp [zS, zW, clsOf, mkBlk, guardA, Heap.lay, ontoF, *, SS.post]; exact rfl))
  | (with_reducible refine gate_split (fun hc => ?_) (fun hc => ?_) <;> ((have hd := hc); (try simp at hd); (try subst hd); apply runE; simp [zS, *, SS.post]; exact rfl))
  | (with_reducible refine pick_split (fun hc => ?_) (fun hc => ?_) <;> ((have hd := hc); (try simp at hd); (try subst hd); apply runE; simp [zS, *, SS.post]; exact rfl))
  | (refine wps_ct rfl ?_)
  | (refine wps_cf rfl ?_)
  | (refine wps_cond rfl (fun hc => ?_) (fun hc => ?_) <;> ((have hd := hc); (try simp at hd); (try subst hd)))
  | (with_reducible refine wps_skip ?_; simp only [thenQ, blockQ])
  | (with_reducible refine wps_exit ?_; simp [thenQ, blockQ])
  | (with_reducible refine wps_ret ?_; simp [retVal, Tryz.f61, oneOr, thenQ, blockQ])))
 all_goals first | ((try simp [retVal, Tryz.f61, oneOr]); exact ends_S (by simp [*]) (by first | rfl | (simp [*]; done)) (by simp [pureV, pureL]) (by decide) (ne) rfl rfl) | (exfalso; omega)
theorem inj_61 (x y : Str × Int) (h : (fun z : Str × Int => ([.str z.1, .int .i64 z.2] : List AV)) x = (fun z : Str × Int => ([.str z.1, .int .i64 z.2] : List AV)) y) : x = y := by
 obtain ⟨x0, x1⟩ := x
 obtain ⟨y0, y1⟩ := y
 simp only [List.cons.injEq, and_true] at h
 obtain ⟨h0, h1⟩ := h
 have g0 : x0 = y0 := AV.str.inj h0
 have g1 : x1 = y1 := AV.int.inj h1 |>.2
 subst g0 g1
 rfl
noncomputable def e61 : Entry Tryz.prog := mkS 61 [[], []] (fun z : Str × Int => [.str z.1, .int .i64 z.2]) (fun z s => (asciiB z.1) ∧ (z.1.length ≤ 100000) ∧ (nmOk s.tree) ∧ (s.opn.length ≤ 100000)) (fun z s => .bool (hasS s.tree s.opn z.1 z.2)) (fun z s => s) fun z s ne h => ⟨c61 (T := [e95]) rfl ne z.1 z.2 h.1 h.2.1 h.2.2.1 h.2.2.2, by simp [pureL, pureV], by simp [pureV, pureL], ne⟩
theorem k61 {T : List (Entry Tryz.prog)} (hT : findE 61 T = some e61.g) {s : SS} (ne : s.tree ≠ []) (W : Str) (sc : Int) (hW : asciiB W) (hl : W.length ≤ 100000) (hn : nmOk s.tree) (ho : s.opn.length ≤ 100000) {n k : Nat} {fr : List (Nat × Blk)} (k0 : 0 < k) (kn : k < n) (of : offS k fr) : callL (ctx T) (.fn 61) [.ptr 0 0, .str W, .int .i64 sc] ⟨n, [fr, VS k s]⟩ = some (.bool (hasS s.tree s.opn W sc), ⟨n + 1, [fr, VS n (s)]⟩) :=
 mkS_eq hT inj_61 (W, sc) ne ⟨hW, hl, hn, ho⟩ (by simp [pureL, pureV]) (by simp [thawL, thawA_ok]) k0 kn of
theorem c78 {T : List (Entry Tryz.prog)} (hc0 : findE 102 T = some e102.g) {s : SS} (ne : s.tree ≠ []) (W : Str) (hW : asciiB W) (hl : W.length ≤ 100000) (hn : nmOk s.tree) (ho : s.opn.length ≤ 100000) : SC T 78 [.str W] s (.tup []) ({ s with opn := popL s.tree s.opn W }) := by
 have g0 := @vg0
 have v0 := @vset
 have kI := fun n k f (k0 : 0 < k) (hf : getF k f = none) => k102 hc0 hW hl (L := s.opn) (by omega) (fun i _ => hn i) (thS (n := n) k0 ne hf)
 refine callAt_body (fn := Tryz.f78) (s0 := ⟨[0, 1], [.ptr 0 0, .str W], [], 17, ⟨2, [] :: [VS 1 s]⟩⟩) Tryz.func78 rfl rfl rfl ?_
 (repeat' (first
  | with_reducible refine wps_seq ?_
  | with_reducible refine wps_block ?_
  | (with_reducible refine wps_label ?_; simp only [thenQ, blockQ])
  | (with_reducible refine wps_region callOK ?_; apply runE; simp [zS, *, SS.post]; exact rfl)
  | (with_reducible refine run_end ?_; simp only [thenQ, blockQ])
  | (refine wps_drawQ mixed callOK (by decide +kernel) (by decide +kernel) rfl ?_; apply runQ; simp [zS, zW, clsOf, mkBlk, guardA, Heap.lay, ontoF, *, SS.post]; exact rfl)
  | (with_reducible refine run_endQ ?_; refine ⟨by repeat first | exact okC_n | refine okC_c (by decide +kernel) ?_, ?_⟩; simp only [thenQ, blockQ, allPend, Heap.lay, ontoF])
  | (with_reducible refine gate_splitQ (fun hc => ?_) (fun hc => ?_) <;> ((have hd := hc); (try simp at hd); (try subst hd); apply runQ; simp [zS, zW, clsOf, mkBlk, guardA, Heap.lay, ontoF, *, SS.post]; exact rfl))
  | (with_reducible refine gate_splitX (fun hc => ?_) (fun hc => ?_) <;> ((have hd := hc); (try simp at hd); (try subst hd); apply runQ; simp [zS, zW, clsOf, mkBlk, guardA, Heap.lay, ontoF, *, SS.post]; exact rfl))
  | (with_reducible refine pick_splitQ (fun hc => ?_) (fun hc => ?_) <;> ((have hd := hc); (try simp at hd); (try subst hd); apply runQ; simp [zS, zW, clsOf, mkBlk, guardA, Heap.lay, ontoF, *, SS.post]; exact rfl))
  | (with_reducible refine gate_split (fun hc => ?_) (fun hc => ?_) <;> ((have hd := hc); (try simp at hd); (try subst hd); apply runE; simp [zS, *, SS.post]; exact rfl))
  | (with_reducible refine pick_split (fun hc => ?_) (fun hc => ?_) <;> ((have hd := hc); (try simp at hd); (try subst hd); apply runE; simp [zS, *, SS.post]; exact rfl))
  | (refine wps_ct rfl ?_)
  | (refine wps_cf rfl ?_)
  | (refine wps_cond rfl (fun hc => ?_) (fun hc => ?_) <;> ((have hd := hc); (try simp at hd); (try subst hd)))
  | (with_reducible refine wps_skip ?_; simp only [thenQ, blockQ])
  | (with_reducible refine wps_exit ?_; simp [thenQ, blockQ])
  | (with_reducible refine wps_ret ?_; simp [retVal, Tryz.f78, oneOr, thenQ, blockQ])))
 all_goals first | ((try simp [retVal, Tryz.f78, oneOr]); exact ends_S (by simp [*]) (by first | rfl | (simp [*]; done)) (by simp [pureV, pureL]) (by decide) (ne) rfl rfl) | (exfalso; omega)
theorem inj_78 (x y : Str) (h : (fun z : Str => ([.str z] : List AV)) x = (fun z : Str => ([.str z] : List AV)) y) : x = y := by
 simp only [List.cons.injEq, and_true] at h
 exact AV.str.inj h
noncomputable def e78 : Entry Tryz.prog := mkS 78 [[]] (fun z : Str => [.str z]) (fun z s => (asciiB z) ∧ (z.length ≤ 100000) ∧ (nmOk s.tree) ∧ (s.opn.length ≤ 100000)) (fun z s => .tup []) (fun z s => { s with opn := popL s.tree s.opn z }) fun z s ne h => ⟨c78 (T := [e102]) rfl ne z h.1 h.2.1 h.2.2.1 h.2.2.2, by simp [pureL, pureV], by simp [pureV, pureL], ne⟩
theorem k78 {T : List (Entry Tryz.prog)} (hT : findE 78 T = some e78.g) {s : SS} (ne : s.tree ≠ []) (W : Str) (hW : asciiB W) (hl : W.length ≤ 100000) (hn : nmOk s.tree) (ho : s.opn.length ≤ 100000) {n k : Nat} {fr : List (Nat × Blk)} (k0 : 0 < k) (kn : k < n) (of : offS k fr) : callL (ctx T) (.fn 78) [.ptr 0 0, .str W] ⟨n, [fr, VS k s]⟩ = some (.tup [], ⟨n + 1, [fr, VS n ({ s with opn := popL s.tree s.opn W })]⟩) :=
 mkS_eq hT inj_78 (W) ne ⟨hW, hl, hn, ho⟩ (by simp [pureL, pureV]) (by simp [thawL, thawA_ok]) k0 kn of
end Go.Proofs.YtfgdcciaecajpaaGreat
namespace Go.Proofs.YtfgdcciaecajpaaGreat
set_option linter.unusedSimpArgs false
set_option linter.unusedVariables false
open Go Go.RowKit
def addA (L : List At1) (a : At1) : List At1 := if placeL L a.1 < 0 then L ++ [a] else L
theorem addA_len (L : List At1) (a : At1) : (addA L a).length ≤ L.length + 1 := by
 unfold addA; split <;> simp
theorem foldA_len : ∀ (l L : List At1), (l.foldl addA L).length ≤ L.length + l.length
 | [], L => by simp
 | a :: r, L => by
  have h1 := foldA_len r (addA L a)
  have h2 := addA_len L a
  simp only [List.foldl_cons, List.length_cons]; omega
end Go.Proofs.YtfgdcciaecajpaaGreat