/- ChooseOnly's walk. No condition. -/
import Derived.Test.YtfgdcciaecajpaaGreatMO
import Derived.Test.YtfgdcciaecajpaaGreatMQ
import Derived.Test.YtfgdcciaecajpaaGreatMN
import Derived.Test.YtfgdcciaecajpaaGreatMG
namespace Go.Proofs.YtfgdcciaecajpaaGreat
set_option linter.unusedSimpArgs false
set_option linter.unusedVariables false
open Go Go.RowKit
set_option maxRecDepth 100000
def fewTk (t : Tk) : Bool := decide (t.name.length ≤ 40) && (decide (t.data.length ≤ 200) && fewAts t.attrs)
theorem few_tk {t : Tk} (h : fewTk t = true) : TkOk t := by
 simp only [fewTk, fewAts, Bool.and_eq_true, decide_eq_true_eq] at h
 exact ⟨h.1, h.2.2.1, h.2.1⟩
theorem c6 {T : List (Entry Tryz.prog)} (hc0 : findE 17 T = some e17.g) (t : Tk) : CallAt (ctx T) 6 [aTok t] ⟨0, []⟩ (.bool (fewTk t)) ⟨0, []⟩ := by
 have kc0 := @k17 T hc0
 have hk := fun H => k17 hc0 t.attrs H
 obtain ⟨kd, nm, L, sf, dt⟩ := t
 rcases Bool.eq_false_or_eq_true (decide ((nm.length : Int) ≤ 40)) with b1 | b1 <;> rcases Bool.eq_false_or_eq_true (decide ((dt.length : Int) ≤ 200)) with b2 | b2
 all_goals
  have c1 := b1
  have c2 := b2
  simp only [decide_eq_true_eq, decide_eq_false_iff_not] at c1 c2
  refine callAt_body (fn := Tryz.f6) (s0 := ⟨[0, 1, 2], [aTok ⟨kd, nm, L, sf, dt⟩, .undef, .undef], [], 18, ⟨0, [[]]⟩⟩) Tryz.func6 rfl rfl rfl ?_
  (repeat (first
   | (refine wps_seq ?_)
   | (refine wps_block ?_)
   | (refine wps_label ?_; simp only [thenQ, blockQ])
   | ((refine wps_region callOK ?_); simp [zS, aTok, Tk.cs, c1, c2, hk])
   | (refine wps_ct rfl ?_)
   | (refine wps_cf rfl ?_)
   | ((refine wps_skip ?_); simp only [thenQ, blockQ])
   | ((refine wps_exit ?_); simp [thenQ, blockQ])))
  have e1 : (nm.length ≤ 40) ↔ ((nm.length : Int) ≤ 40) := by omega
  have e2 : (dt.length ≤ 200) ↔ ((dt.length : Int) ≤ 200) := by omega
  repeat apply wq
  refine wps_ret ?_
  simp [retVal, Tryz.f6, oneOr, thenQ, blockQ]
  exact ends_pure rfl (by simp only [fewTk, e1, e2, b1, b2]; simp)
theorem inj_6 (x y : Tk) (h : (fun z : Tk => ([aTok z] : List AV)) x = (fun z : Tk => ([aTok z] : List AV)) y) : x = y := by
 simp only [List.cons.injEq, and_true] at h
 exact inj_aTok h
noncomputable def e6 : Entry Tryz.prog := mkE 6 [[0, 0, 2, 0, 0]] (fun z : Tk => [aTok z]) (fun z => True) (fun z => .bool (fewTk z)) fun z h => c6 (T := [e17]) rfl z 
theorem k6 {T : List (Entry Tryz.prog)} (hT : findE 6 T = some e6.g) (t : Tk) (H : Heap) : callL (ctx T) (.fn 6) [aTok t] H = some (.bool (fewTk t), H) :=
 mkE_scalar hT inj_6 (t) trivial rfl (by simp [thawA_ok])
theorem c10h {T : List (Entry Tryz.prog)} (hc0 : findE 27 T = some e27.g) (hc1 : findE 28 T = some e28.g) (t : Tr) (h : okTr t) : CallAt (ctx T) 10 [aTree t] ⟨0, []⟩ (.bool (rightB t)) ⟨0, []⟩ := by
 exact c10 hc0 hc1 t h
theorem inj_10h (x y : Tr) (h : (fun z : Tr => ([aTree z] : List AV)) x = (fun z : Tr => ([aTree z] : List AV)) y) : x = y := by
 simp only [List.cons.injEq, and_true] at h
 exact inj_aTree h
noncomputable def e10h : Entry Tryz.prog := mkE 10 [[7]] (fun z : Tr => [aTree z]) (fun z => (okTr z)) (fun z => .bool (rightB z)) fun z h => c10h (T := [e27, e28]) rfl rfl z h
theorem q10h {T : List (Entry Tryz.prog)} (hT : findE 10 T = some e10h.g) {H : Heap} {a0 : AV} {t : Tr} (b0 : thawA H [7] a0 = some (aTree t))  (h : okTr t) : callL (ctx T) (.fn 10) [a0] H = some (.bool (rightB t), H) :=
 mkE_scalar hT inj_10h (t) h rfl (by simp [b0])
theorem wps_joinI {C : Ctx} {n : Nat} {r : Option Nat} {c d : Code} {s : St} {Q : Out → St → Prop} {ι : Type} (inv : ι → St) (φ : ι → Prop) (h1 : ∀ x, φ x → WpSr C n r d (inv x) Q) (h2 : (∀ s' x, φ x → (∃ σ Φ, Fit n σ Φ s' (inv x)) → WpSr C n r d s' Q) → WpSr C n r c s (thenQ (fun s' => WpSr C n r d s' Q) Q)) : WpSr C n r (.seq c d) s Q :=
 wps_seq (h2 fun s' x hx ⟨σ, Φ, f⟩ => .fit σ Φ f (h1 x hx))
theorem fitT {s : SS} {k n k' m' b : Nat} {f : List (Nat × Blk)} {cs cs' : List AV} (k0 : 0 < k) (h' : 0 < k') (km : k' < m') (hne : s.tree ≠ []) (hb : b ≠ 0 ∧ b ≠ k) (hf0 : getF 0 f = none) (hfk : getF k f = none) (hfb : getF b f = some (.cells cs)) (hc : fitL [(k, k'), (0, 0)] [(b, cs')] cs cs') (hp : pureL cs' = true) :
  FitH 0 [(k, k'), (0, 0)] [(b, cs')] ⟨n, [f, VS k s]⟩ ⟨m', [[], VS k' s]⟩ where
 nd1 := by simp; omega
 nd2 := by simp; omega
 nd3 := by rw [VS_eq hne]; simp [Heap.ents]; omega
 lt := by simp; omega
 idn := by simp
 num := by simp
 src := by
  intro e he
  rw [VS_eq hne] at he
  simp only [Heap.ents, List.flatten_cons, List.flatten_nil, List.append_nil, List.nil_append, List.mem_cons, List.not_mem_nil, or_false] at he
  rcases he with rfl | rfl
  ·refine ⟨0, _, by simp, sget0 hne hf0, ?_⟩
   simp only [fitB, fitL]
   exact ⟨by simp [fitV, lookN], fitL_pure (pure_post s)⟩
  ·exact ⟨k, _, by simp, sgetk k0 hne hfk, fitL_pure (el_node s.tree).pure⟩
 frz := fun x h => by
  simp only [List.mem_singleton] at h
  subst h
  exact ⟨cs, by simp [Heap.get, getFs, hfb], hc, hp⟩
theorem atTk {l : List Tk} {i : Nat} (h : i < l.length) : indexAddrA Tryz.prog 22 (.fslc 5 (l.map aTok)) (.int .i64 (i : Int)) = some (.fptr l[i].cs 0) := by
 simp [indexAddrA, idx_nat h, getL_get, aTok, AV.cells, h]
theorem lenTk (H : Heap) (l : List Tk) : lenA Tryz.prog H 22 (.fslc 5 (l.map aTok)) = some l.length := by simp [lenA]
def tk1 : Tk := ⟨1, [115, 101, 108, 101, 99, 116], [], false, []⟩
section
variable {T : List (Entry Tryz.prog)} (hq1 : findE 29 T = some e29.g) (hq2 : findE 66 T = some e66G.g) (hq3 : findE 30 T = some e30.g) (hq4 : findE 31 T = some e31.g) (hq5 : findE 34 T = some e34.g) (hq6 : findE 15 T = some e15.g) (hq7 : findE 16 T = some e16d.g)
 (hA : findE 11 T = some e11.g) (hB : findE 7 T = some e7s.g) (hS : findE 9 T = some e9.g) (hP : findE 6 T = some e6.g) (hR : findE 10 T = some e10h.g)
include hq1 hq2 hq3 hq4 hq5 hq6 hq7 hA hB hS hP hR
theorem c4 (l : List Tk) : CallAt (ctx T) 4 [.fslc 5 (l.map aTok)] ⟨0, []⟩ (.bool true) ⟨0, []⟩ := by
 have hnew := (c5 (T := T) hq1 hq2 hq3 hq4 hq5 hq6 hq7).perm (H2 := ⟨0, [[]]⟩) (H2' := ⟨3, [[], VS 2 s0]⟩) rfl rfl (by simp [Heap.ents]) (by simp [Heap.ents])
 have ka := fun H => k11 hA H
 have ne0 : s0.tree ≠ [] := by simp [s0]
 have ne1 : s1.tree ≠ [] := by rw [s1_tree]; simp
 have kB := fun n k fr => @k7s T hB s0 ne0 tk1 rfl rfl ⟨by decide, fun n hn => by simp [s0] at hn; rcases hn with rfl | rfl <;> simp, by decide⟩ (by decide) rfl rfl rfl n k fr
 have es1 : selS s0 tk1 = s1 := rfl
 rw [es1] at kB
 have bT : buildA Tryz.prog 27 [(0, .int .i64 1), (1, .str [115, 101, 108, 101, 99, 116])] = some (.agg [.int .i64 1, .str [115, 101, 108, 101, 99, 116], .nilS, .bool false, .str []]) := rfl
 have bN : binA Tryz.prog .eql 23 (.ptr 0 0) .nilP = some (.bool false) := rfl
 have htk := fun i (h : i < l.length) => @atTk l i h
 have hlk := fun H => lenTk H l
 have ln2 : ∀ H, lenA Tryz.prog H 32 (.fslc 1 [.int .i64 1, .int .i64 2]) = some 2 := fun _ => rfl
 have hat : indexAddrA Tryz.prog 32 (.fslc 1 [.int .i64 1, .int .i64 2]) (.int .i64 1) = some (.fptr [.int .i64 2] 0) := rfl
 have g0 := @vg0
 have v0 := @vset
 obtain ⟨u, hu, hli, ho1, ne1⟩ : ∃ u, s1 = u ∧ LI 0 u ∧ u.opn = [1, 2] ∧ u.tree ≠ [] := ⟨_, rfl, s1_li, rfl, ne1⟩
 rw [hu] at kB
 clear hu es1
 refine callAt_body (fn := Tryz.f4) (s0 := ⟨[0, 2, 3, 4, 5, 6, 7, 9, 10, 29, 30, 31, 63, 64, 65], [.fslc 5 (l.map aTok), .undef, .undef, .undef, .undef, .undef, .undef, .undef, .undef, .undef, .undef, .undef, .undef, .undef, .undef], [], 112, ⟨0, [[]]⟩⟩) Tryz.func4 rfl rfl rfl ?_
 repeat apply wq
 refine wps_region callOK ?_
 simp [zS]
 repeat apply wq
 refine wps_region (callOKF [⟨5, _, _, _, _, hnew⟩]) ?_
 simp [zS, callF]
 repeat apply wq
 refine wps_region callOK ?_
 simp [zS, bN]
 repeat apply wq
 refine wps_cf rfl ?_
 repeat apply wq
 refine wps_skip ?_
 simp
 repeat apply wq
 refine wps_region callOK ?_
 simp [zS, bT]
 repeat apply wq
 refine .fit (s' := (⟨[0, 2, 3, 4, 5, 6, 7, 9, 10, 29, 30, 31, 63, 64, 65], [.fslc 5 (l.map aTok), .undef, .ptr 0 0, .fptr tk1.cs 0, .undef, .undef, .undef, .undef, .undef, .undef, .undef, .undef, .undef, .undef, .undef], [], 112, ⟨3, [[], VS 2 s0]⟩⟩ : St)) [(2, 2), (0, 0)] [(3, tk1.cs)] ⟨rfl, rfl, rfl, ?_, ?_⟩ ?_
 ·simp [fitL, fitV, lookN, pureV, lookC]
 ·exact fitT (by omega) (by omega) (by omega) ne0 (by omega) (by simp [getF]) (by simp [getF]) (by simp [getF]; rfl) (by simp [tk1, Tk.cs, fitL, fitV, aAttrs, pureV]) (by simp)
 repeat apply wq
 refine wps_region callOK ?_
 simp [zS, kB]
 repeat apply wq
 refine wps_region callOK ?_
 simp [zS, g0, ne1, SS.post, ho1, aInts, aInt, ln2]
 repeat apply wq
 refine wps_cf rfl ?_
 repeat apply wq
 refine wps_skip ?_
 simp
 repeat apply wq
 refine wps_region callOK ?_
 simp [zS, g0, ne1, SS.post, ho1, aInts, aInt, hat]
 clear kB bT bN hat ln2 ho1
 refine wps_joinI (fun x : Nat × SS => (⟨[0, 2, 3, 4, 5, 6, 7, 9, 10, 29, 30, 31, 63, 64, 65], [.undef, .undef, .ptr 0 0, .undef, .int .i64 2, .undef, .undef, .undef, .undef, .undef, .undef, .undef, .undef, .undef, .undef], [], 112, ⟨3, [[], VS 2 x.2]⟩⟩ : St)) (fun x => x.1 ≤ 40 ∧ LI x.1 x.2) ?rest fun hE => ?_
 case rest =>
  clear hli ne1 u
  rintro ⟨j, s⟩ ⟨hj, hs⟩
  simp only at hj hs
  have ne : s.tree ≠ [] := fun e => by have := hs.1.n0; rw [e] at this; simp at this
  have n0 := hs.1.n0
  have n1 := hs.1.n1
  have hok : okTr s.tree := ⟨by omega, all_nd fun i hi => ⟨by have := hs.1.kl i hi; omega, by have := hs.1.al i hi; omega⟩⟩
  have kR := fun n k f (k0 : 0 < k) (hf : getF k f = none) => q10h hR (thS (n := n) (f := f) k0 ne hf) hok
  rw [hs.1.right] at kR
  have gk := @vgk
  repeat apply wq
  refine wps_region callOK ?_
  simp [zS, g0, ne, SS.post, kR]
  repeat apply wq
  refine wps_cf rfl ?_
  repeat apply wq
  refine wps_skip ?_
  simp
  have lN := fun H => lenN' (k := 2) (t := s.tree) H
  repeat apply wq
  refine wps_region callOK ?_
  simp [zS, g0, ne, SS.post, lN]
  repeat apply wq
  refine wps_block ?_
  have hX : ∀ (f : List (Nat × Blk)) (n : Nat), getF 0 f = none → getF 2 f = none → FitH 0 [(2, 2), (0, 0)] [] ⟨n, [f, VS 2 s]⟩ ⟨3, [[], VS 2 s]⟩ := fun f n h1 h2 => fitS1 ⟨by omega, by omega, by omega⟩ (by omega) (by omega) ne h1 h2
  repeat apply wq
  refine wps_loop' (fun i : Nat => (⟨[0, 2, 3, 4, 5, 6, 7, 9, 10, 29, 30, 31, 63, 64, 65], [.undef, .undef, .ptr 0 0, .undef, .int .i64 2, .undef, .undef, .undef, .undef, .undef, .undef, .undef, nV 2 s.tree, .int .i64 (s.tree.length : Int), .int .i64 (i : Int)], [], 112, ⟨3, [[], VS 2 s]⟩⟩ : St)) (fun i => i ≤ s.tree.length) (fun i => s.tree.length - i) [(2, 2), (0, 0)] [] 0 (Nat.zero_le _)
   ⟨rfl, rfl, rfl, by simp [fitL, fitV, lookN, pureV, nV], hX _ _ (by simp [getF]) (by simp [getF])⟩ ?_
  intro i hi B hB
  repeat apply wq
  refine wps_region callOK ?_
  simp [zS]
  repeat apply wq
  refine wps_cond rfl (fun h => ?_) fun h => ?_
  ·simp at h
   repeat apply wq
   refine wps_skip ?_
   simp
   repeat apply wq
   refine wps_block ?_
   have ix := ixN (k := 2) h
   have sb := subN h
   repeat apply wq
   refine wps_region callOK ?_
   simp [zS, ix, gk, sb, ne, nV]
   repeat apply wq
   refine .fit (s' := (⟨[0, 2, 3, 4, 5, 6, 7, 9, 10, 29, 30, 31, 63, 64, 65], [.undef, .undef, .ptr 0 0, .undef, .int .i64 2, .undef, .undef, .fptr (nodeAt s.tree i).cs 0, .undef, .undef, .undef, .undef, nV 2 s.tree, .int .i64 (s.tree.length : Int), .int .i64 (i : Int)], [], 112, ⟨3, [[], VS 2 s]⟩⟩ : St)) [(2, 2), (0, 0)] [(3, (nodeAt s.tree i).cs)] ⟨rfl, rfl, rfl, ?_, ?_⟩ ?_
   ·simp [fitL, fitV, lookN, pureV, lookC]
   ·exact fitT (by omega) (by omega) (by omega) ne (by omega) (by simp [getF]) (by simp [getF]) (by simp [getF]) (fitL_pure (pure_cs _)) (pure_cs _)
   have hup : -1 ≤ (nodeAt s.tree i).up ∧ (nodeAt s.tree i).up < (s.tree.length : Int) ∧ (i < 3 → (nodeAt s.tree i).up < 2) := by
    refine ⟨?_, hs.1.upl i h, fun h3 => ?_⟩
    ·by_cases e : i = 0
     ·subst e; have := hs.1.u0; simp only [Int.natCast_zero]; omega
     ·have := (hs.1.up i (by omega) h).1; omega
    ·by_cases e : i = 0
     ·subst e; have := hs.1.u0; simp only [Int.natCast_zero]; omega
     ·have := (hs.1.up i (by omega) h).2.1; omega
   have hnm : 3 ≤ i → (nodeAt s.tree i).kind = 1 → nmB (nodeAt s.tree i).name = true := fun h3 => (hs.1.nm i h3 h).2
   generalize nodeAt s.tree i = nd at hup hnm
   obtain ⟨kd, sp, nm, L, dt, up, K⟩ := nd
   simp only at hup hnm
   repeat apply wq
   refine wps_region callOK ?_
   simp [zS, Nd.cs, aInt]
   refine wps_joinI (fun w : Int => (⟨[0, 2, 3, 4, 5, 6, 7, 9, 10, 29, 30, 31, 63, 64, 65], [.undef, .undef, .ptr 0 0, .undef, .int .i64 2, .undef, .undef, .fptr [.int .i64 kd, .int .i64 sp, .str nm, aAttrs L, .str dt, .int .i64 up, aInts K] 0, .int .i64 w, .undef, .undef, .undef, nV 2 s.tree, .int .i64 (s.tree.length : Int), .int .i64 (i : Int)], [], 112, ⟨3, [[], VS 2 s]⟩⟩ : St)) (fun w => w ≤ 0 ∨ (w = 2 ∧ 3 ≤ i)) ?rest2 fun hE => ?_
   case rest2 =>
    have fin : ∀ w : Int, w ≤ 0 ∨ (w = 2 ∧ 3 ≤ i) → ¬ (w = 2 ∧ kd = 1 ∧ ¬ nm = [111, 112, 116, 105, 111, 110] ∧ ¬ nm = [111, 112, 116, 103, 114, 111, 117, 112] ∧ ¬ nm = [115, 99, 114, 105, 112, 116]) := fun w hw ⟨h1, h2, h3, h4, h5⟩ => by
     have := hnm (by omega) h2
     simp [nmB, h3, h4, h5] at this
    intro w hw
    have fw := fin w hw
    have add1 := add_one (show i ≤ 1000000000 by omega)
    clear hnm hup fin hw
    by_cases d0 : w = 2
    case neg =>
     repeat apply wq
     refine wps_region callOK ?_
     simp [zS, d0]
     repeat apply wq
     refine wps_cf rfl ?_
     repeat apply wq
     refine wps_skip ?_
     simp
     repeat apply wq
     refine wps_region callOK ?_
     simp [zS, add1]
     exact hB _ (i + 1) (by omega) (by omega) ⟨[(2, 2), (0, 0)], [], rfl, rfl, rfl, by simp [fitL, fitV, lookN, pureV, nV], hX _ _ (by simp [getF]) (by simp [getF])⟩
    by_cases d1 : kd = 1
    case neg =>
     repeat apply wq
     refine wps_region callOK ?_
     simp [zS, d0, d1]
     repeat apply wq
     refine wps_cf rfl ?_
     repeat apply wq
     refine wps_skip ?_
     simp
     repeat apply wq
     refine wps_region callOK ?_
     simp [zS, add1]
     exact hB _ (i + 1) (by omega) (by omega) ⟨[(2, 2), (0, 0)], [], rfl, rfl, rfl, by simp [fitL, fitV, lookN, pureV, nV], hX _ _ (by simp [getF]) (by simp [getF])⟩
    by_cases d2 : nm = [111, 112, 116, 105, 111, 110]
    case pos =>
     repeat apply wq
     refine wps_region callOK ?_
     simp [zS, d0, d1, d2]
     repeat apply wq
     refine wps_cf rfl ?_
     repeat apply wq
     refine wps_skip ?_
     simp
     repeat apply wq
     refine wps_region callOK ?_
     simp [zS, add1]
     exact hB _ (i + 1) (by omega) (by omega) ⟨[(2, 2), (0, 0)], [], rfl, rfl, rfl, by simp [fitL, fitV, lookN, pureV, nV], hX _ _ (by simp [getF]) (by simp [getF])⟩
    by_cases d3 : nm = [111, 112, 116, 103, 114, 111, 117, 112]
    case pos =>
     repeat apply wq
     refine wps_region callOK ?_
     simp [zS, d0, d1, d3]
     repeat apply wq
     refine wps_cf rfl ?_
     repeat apply wq
     refine wps_skip ?_
     simp
     repeat apply wq
     refine wps_region callOK ?_
     simp [zS, add1]
     exact hB _ (i + 1) (by omega) (by omega) ⟨[(2, 2), (0, 0)], [], rfl, rfl, rfl, by simp [fitL, fitV, lookN, pureV, nV], hX _ _ (by simp [getF]) (by simp [getF])⟩
    by_cases d4 : nm = [115, 99, 114, 105, 112, 116]
    case pos =>
     repeat apply wq
     refine wps_region callOK ?_
     simp [zS, d0, d1, d4]
     repeat apply wq
     refine wps_cf rfl ?_
     repeat apply wq
     refine wps_skip ?_
     simp
     repeat apply wq
     refine wps_region callOK ?_
     simp [zS, add1]
     exact hB _ (i + 1) (by omega) (by omega) ⟨[(2, 2), (0, 0)], [], rfl, rfl, rfl, by simp [fitL, fitV, lookN, pureV, nV], hX _ _ (by simp [getF]) (by simp [getF])⟩
    exact absurd ⟨d0, d1, d2, d3, d4⟩ fw
   repeat apply wq
   refine wps_block ?_
   repeat apply wq
   refine wps_loop' (fun w : Int => (⟨[0, 2, 3, 4, 5, 6, 7, 9, 10, 29, 30, 31, 63, 64, 65], [.undef, .undef, .ptr 0 0, .undef, .int .i64 2, .undef, .undef, .fptr [.int .i64 kd, .int .i64 sp, .str nm, aAttrs L, .str dt, .int .i64 up, aInts K] 0, .int .i64 w, .undef, .undef, .undef, nV 2 s.tree, .int .i64 (s.tree.length : Int), .int .i64 (i : Int)], [], 112, ⟨3, [[], VS 2 s]⟩⟩ : St)) (fun w => -1 ≤ w ∧ w < (s.tree.length : Int) ∧ (i < 3 → w < 2)) (fun w => w.toNat) [(2, 2), (0, 0)] [] up hup
    ⟨rfl, rfl, rfl, by simp [fitL, fitV, lookN, pureV, pureL, nV, aAttrs, aInts], hX _ _ (by simp [getF]) (by simp [getF])⟩ ?_
   rintro w ⟨w0, w1, w3⟩ B2 hB2
   by_cases e1 : 0 < w
   case neg =>
    repeat apply wq
    refine wps_region callOK ?_
    simp [zS, e1]
    repeat apply wq
    refine wps_cf rfl ?_
    repeat apply wq
    refine wps_exit ?_
    simp
    exact hE _ w (.inl (by omega)) ⟨[(2, 2), (0, 0)], [], rfl, rfl, rfl, by simp [fitL, fitV, lookN, pureV, pureL, nV, aAttrs, aInts], hX _ _ (by simp [getF]) (by simp [getF])⟩
   by_cases e2 : w = 2
   case pos =>
    repeat apply wq
    refine wps_region callOK ?_
    simp [zS, e1, e2]
    repeat apply wq
    refine wps_cf rfl ?_
    repeat apply wq
    refine wps_exit ?_
    simp
    exact hE _ 2 (.inr ⟨rfl, by omega⟩) ⟨[(2, 2), (0, 0)], [], rfl, rfl, rfl, by simp [fitL, fitV, lookN, pureV, pureL, nV, aAttrs, aInts], hX _ _ (by simp [getF]) (by simp [getF])⟩
   obtain ⟨p, rfl⟩ : ∃ p : Nat, w = p := ⟨w.toNat, by omega⟩
   have hp : p < s.tree.length := by omega
   have ixp := ixN (k := 2) hp
   have gp := getN hp (show 5 < 7 by omega)
   have hq := hs.1.up p (by omega) hp
   have e1' : 0 < p := by omega
   have e2' : ¬ p = 2 := by omega
   repeat apply wq
   refine wps_region callOK ?_
   simp [zS, e1, e2, e1', e2']
   repeat apply wq
   refine wps_ct rfl ?_
   repeat apply wq
   refine wps_skip ?_
   simp
   repeat apply wq
   refine wps_block ?_
   repeat apply wq
   refine wps_region callOK ?_
   simp [zS, g0, gk, ne, ixp, gp, nV, Nd.cs, aInt]
   exact hB2 _ (nodeAt s.tree p).up (by omega) ⟨by omega, by omega, fun h3 => by have := w3 h3; omega⟩ ⟨[(2, 2), (0, 0)], [], rfl, rfl, rfl, by simp [fitL, fitV, lookN, pureV, pureL, nV, aAttrs, aInts], hX _ _ (by simp [getF]) (by simp [getF])⟩
  ·simp at h
   repeat apply wq
   refine wps_exit ?_
   simp
   repeat apply wq
   refine wps_region callOK ?_
   simp [zS, ka]
   repeat apply wq
   refine wps_ret ?_
   simp [retVal, Tryz.f4, oneOr, thenQ, blockQ]
   exact ends_pure rfl (by rfl)
 repeat apply wq
 refine wps_region callOK ?_
 simp [zS, hlk]
 repeat apply wq
 refine wps_block ?_
 repeat apply wq
 refine wps_loop' (fun x : Nat × SS => (⟨[0, 2, 3, 4, 5, 6, 7, 9, 10, 29, 30, 31, 63, 64, 65], [.undef, .undef, .ptr 0 0, .undef, .int .i64 2, .undef, .undef, .undef, .undef, .fslc 5 (l.map aTok), .int .i64 (l.length : Int), .int .i64 (x.1 : Int), .undef, .undef, .undef], [], 112, ⟨3, [[], VS 2 x.2]⟩⟩ : St)) (fun x => x.1 ≤ l.length ∧ x.1 ≤ 40 ∧ LI x.1 x.2) (fun x => l.length - x.1) [(3, 2), (0, 0)] [] (0, u) ⟨Nat.zero_le _, by simp, hli⟩
  ⟨rfl, rfl, rfl, by simp [fitL, fitV, lookN, pureV], fitS1 ⟨by omega, by omega, by omega⟩ (by omega) (by omega) ne1 (by simp [getF]) (by simp [getF])⟩ ?_
 clear hli ne1 u
 rintro ⟨j, s⟩ ⟨hj, hj4, hs⟩ B hB
 simp only at hj hj4 hs
 have ne : s.tree ≠ [] := fun e => by have := hs.1.n0; rw [e] at this; simp at this
 repeat apply wq
 refine wps_region callOK ?_
 simp [zS]
 repeat apply wq
 refine wps_cond rfl (fun h => ?_) fun h => ?_
 ·simp at h
  repeat apply wq
  refine wps_skip ?_
  simp
  repeat apply wq
  refine wps_block ?_
  obtain ⟨t, ht⟩ : ∃ t, t = l[j] := ⟨_, rfl⟩
  have hix := htk j h
  rw [← ht] at hix
  have kP := fun H => k6 hP t H
  repeat apply wq
  refine wps_region callOK ?_
  simp [zS, hix, Tk.cs]
  simp only [aTok, Tk.cs] at kP
  have hX : ∀ (f : List (Nat × Blk)) (n : Nat), getF 0 f = none → getF 2 f = none → FitH 0 [(2, 2), (0, 0)] [] ⟨n, [f, VS 2 s]⟩ ⟨3, [[], VS 2 s]⟩ := fun f n h1 h2 => fitS1 ⟨by omega, by omega, by omega⟩ (by omega) (by omega) ne h1 h2
  by_cases c1 : (40 : Int) ≤ (j : Int)
  ·have c1' : 40 ≤ j := by omega
   repeat apply wq
   refine wps_region callOK ?_
   simp [zS, c1, c1']
   repeat apply wq
   refine wps_ct rfl ?_
   repeat apply wq
   refine wps_exit ?_
   simp
   exact hE _ (j, s) ⟨hj4, hs⟩ ⟨[(2, 2), (0, 0)], [], rfl, rfl, rfl, by simp [fitL, fitV, lookN, pureV], hX _ _ (by simp [getF]) (by simp [getF])⟩
  have c1' : ¬ 40 ≤ j := by omega
  cases hf : fewTk t with
  | false =>
   rw [hf] at kP
   repeat apply wq
   refine wps_region callOK ?_
   simp [zS, c1, c1', kP]
   repeat apply wq
   refine wps_ct rfl ?_
   repeat apply wq
   refine wps_exit ?_
   simp
   exact hE _ (j, s) ⟨hj4, hs⟩ ⟨[(2, 2), (0, 0)], [], rfl, rfl, rfl, by simp [fitL, fitV, lookN, pureV], hX _ _ (by simp [getF]) (by simp [getF])⟩
  | true =>
   rw [hf] at kP
   by_cases hm : s.mode = 13
   case neg =>
    repeat apply wq
    refine wps_region callOK ?_
    simp [zS, c1, c1', kP, g0, ne, SS.post, hm]
    repeat apply wq
    refine wps_ct rfl ?_
    repeat apply wq
    refine wps_exit ?_
    simp
    exact hE _ (j, s) ⟨hj4, hs⟩ ⟨[(2, 2), (0, 0)], [], rfl, rfl, rfl, by simp [fitL, fitV, lookN, pureV], hX _ _ (by simp [getF]) (by simp [getF])⟩
   have hsi := hs.2 hm
   have htk2 := few_tk hf
   have kS := fun n k fr => @k9 T hS s ne t (hsi.ch (by omega)) htk2 hm n k fr
   have hs2 := hsi.step htk2
   have ne2 := stepC_ne ne t
   repeat apply wq
   refine wps_region callOK ?_
   simp [zS, c1, c1', kP, g0, ne, SS.post, hm]
   repeat apply wq
   refine wps_cf rfl ?_
   repeat apply wq
   refine wps_skip ?_
   simp
   repeat apply wq
   refine .fit (s' := (⟨[0, 2, 3, 4, 5, 6, 7, 9, 10, 29, 30, 31, 63, 64, 65], [.undef, .undef, .ptr 0 0, .undef, .int .i64 2, .undef, .fptr t.cs 0, .undef, .undef, .fslc 5 (l.map aTok), .int .i64 (l.length : Int), .int .i64 (j : Int), .undef, .undef, .undef], [], 112, ⟨3, [[], VS 2 s]⟩⟩ : St)) [(2, 2), (0, 0)] [(3, t.cs)] ⟨rfl, rfl, rfl, ?_, ?_⟩ ?_
   ·simp [fitL, fitV, lookN, pureV, lookC]
   ·exact fitT (by omega) (by omega) (by omega) ne (by omega) (by simp [getF]) (by simp [getF]) (by simp [getF]; rfl) (fitL_pure (by simp)) (by simp)
   repeat apply wq
   refine wps_region callOK ?_
   simp [zS, kS]
   repeat apply wq
   refine wps_region callOK ?_
   simp [zS, add_one (show j ≤ 1000000000 by omega)]
   refine hB _ (j + 1, stepC s t) (by simp only; omega) ⟨by simp only; omega, by simp only; omega, hs2⟩ ⟨[(3, 2), (0, 0)], [], rfl, rfl, rfl, by simp [fitL, fitV, lookN, pureV], fitS1 ⟨by omega, by omega, by omega⟩ (by omega) (by omega) ne2 (by simp [getF]) (by simp [getF])⟩
 ·simp at h
  repeat apply wq
  refine wps_exit ?_
  simp
  exact hE _ (j, s) ⟨hj4, hs⟩ ⟨[(2, 2), (0, 0)], [], rfl, rfl, rfl, by simp [fitL, fitV, lookN, pureV], fitS1 ⟨by omega, by omega, by omega⟩ (by omega) (by omega) ne (by simp [getF]) (by simp [getF])⟩
end
end Go.Proofs.YtfgdcciaecajpaaGreat