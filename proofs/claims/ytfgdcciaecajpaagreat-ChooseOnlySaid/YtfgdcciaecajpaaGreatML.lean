/- Headings, markers, void elements, in both codes. No condition. -/
import Derived.Test.YtfgdcciaecajpaaGreatMJ
import Derived.Test.YtfgdcciaecajpaaGreatMI
import Derived.Test.YtfgdcciaecajpaaGreatMK
import Derived.Test.YtfgdcciaecajpaaGreatMF
namespace Go.Proofs.YtfgdcciaecajpaaGreat
set_option linter.unusedSimpArgs false
set_option linter.unusedVariables false
open Go Go.RowKit
set_option maxRecDepth 100000
@[simp] theorem szT23 : sizeT Tryz.prog 23 = some 1 := rfl
@[simp] theorem agT23 : aggT Tryz.prog 23 = some false := rfl
@[simp] theorem byT23 : bytesT Tryz.prog 23 = some 8 := rfl
@[simp] theorem alT23 (H : Heap) : alV Tryz.prog H 23 = some (.ptr H.n 0, H.new (.cells [.nilP])) := rfl
@[simp] theorem zeT23 : zeroOf Tryz.prog 23 = some (.nilP) := rfl
attribute [simp] Tryz.underlying23
@[simp 500] theorem rvF23 (H : Heap) (cs : List AV) (o : Nat) : readVar Tryz.prog H 23 (.fptr cs o) = getL cs o := rfl
@[simp 500] theorem rvP23 (H : Heap) (b o : Nat) : readVar Tryz.prog H 23 (.ptr b o) = (H.get b).bind fun k => k.rd.bind fun cs => getL cs o := rfl
@[simp] theorem szT27 : sizeT Tryz.prog 27 = some 5 := rfl
@[simp] theorem agT27 : aggT Tryz.prog 27 = some true := rfl
@[simp] theorem byT27 : bytesT Tryz.prog 27 = some 72 := rfl
@[simp] theorem alT27 (H : Heap) : alV Tryz.prog H 27 = some (.ptr H.n 0, H.new (.cells [.int .i64 0, .str [], .nilS, .bool false, .str []])) := rfl
@[simp] theorem zeT27 : zeroOf Tryz.prog 27 = some (.agg [.int .i64 0, .str [], .nilS, .bool false, .str []]) := rfl
attribute [simp] Tryz.underlying27
@[simp 500] theorem rvF27 (H : Heap) (cs : List AV) (o : Nat) : readVar Tryz.prog H 27 (.fptr cs o) = (subL o 5 cs).bind fun cs => some (.agg cs) := rfl
@[simp 500] theorem rvP27 (H : Heap) (b o : Nat) : readVar Tryz.prog H 27 (.ptr b o) = (readCells H b o 5).bind fun cs => some (.agg cs) := rfl
@[simp] theorem fa27_0 (x : AV) : fieldAddrA Tryz.prog 27 x 0 = (match x with | .ptr b o => some (.ptr b (o + 0)) | .fptr cs o => some (.fptr cs (o + 0)) | _ => none) := rfl
@[simp] theorem fd27_0 (cs : List AV) : fieldA Tryz.prog 27 (.agg cs) 0 = getL cs 0 := rfl
@[simp] theorem fa27_1 (x : AV) : fieldAddrA Tryz.prog 27 x 1 = (match x with | .ptr b o => some (.ptr b (o + 1)) | .fptr cs o => some (.fptr cs (o + 1)) | _ => none) := rfl
@[simp] theorem fd27_1 (cs : List AV) : fieldA Tryz.prog 27 (.agg cs) 1 = getL cs 1 := rfl
@[simp] theorem fa27_2 (x : AV) : fieldAddrA Tryz.prog 27 x 2 = (match x with | .ptr b o => some (.ptr b (o + 2)) | .fptr cs o => some (.fptr cs (o + 2)) | _ => none) := rfl
@[simp] theorem fd27_2 (cs : List AV) : fieldA Tryz.prog 27 (.agg cs) 2 = getL cs 2 := rfl
@[simp] theorem fa27_3 (x : AV) : fieldAddrA Tryz.prog 27 x 3 = (match x with | .ptr b o => some (.ptr b (o + 3)) | .fptr cs o => some (.fptr cs (o + 3)) | _ => none) := rfl
@[simp] theorem fd27_3 (cs : List AV) : fieldA Tryz.prog 27 (.agg cs) 3 = getL cs 3 := rfl
@[simp] theorem fa27_4 (x : AV) : fieldAddrA Tryz.prog 27 x 4 = (match x with | .ptr b o => some (.ptr b (o + 4)) | .fptr cs o => some (.fptr cs (o + 4)) | _ => none) := rfl
@[simp] theorem fd27_4 (cs : List AV) : fieldA Tryz.prog 27 (.agg cs) 4 = getL cs 4 := rfl
@[simp] theorem szT34 : sizeT Tryz.prog 34 = some 11 := rfl
@[simp] theorem agT34 : aggT Tryz.prog 34 = some true := rfl
@[simp] theorem byT34 : bytesT Tryz.prog 34 = some 136 := rfl
@[simp] theorem alT34 (H : Heap) : alV Tryz.prog H 34 = some (.ptr H.n 0, H.new (.cells [.nilS, .nilS, .nilS, .int .i64 0, .int .i64 0, .int .i64 0, .int .i64 0, .int .i64 0, .bool false, .bool false, .str []])) := rfl
@[simp] theorem zeT34 : zeroOf Tryz.prog 34 = some (.agg [.nilS, .nilS, .nilS, .int .i64 0, .int .i64 0, .int .i64 0, .int .i64 0, .int .i64 0, .bool false, .bool false, .str []]) := rfl
attribute [simp] Tryz.underlying34
@[simp 500] theorem rvF34 (H : Heap) (cs : List AV) (o : Nat) : readVar Tryz.prog H 34 (.fptr cs o) = (subL o 11 cs).bind fun cs => some (.agg cs) := rfl
@[simp 500] theorem rvP34 (H : Heap) (b o : Nat) : readVar Tryz.prog H 34 (.ptr b o) = (readCells H b o 11).bind fun cs => some (.agg cs) := rfl
@[simp] theorem fa34_0 (x : AV) : fieldAddrA Tryz.prog 34 x 0 = (match x with | .ptr b o => some (.ptr b (o + 0)) | .fptr cs o => some (.fptr cs (o + 0)) | _ => none) := rfl
@[simp] theorem fd34_0 (cs : List AV) : fieldA Tryz.prog 34 (.agg cs) 0 = (subL 0 1 cs).bind fun r => some (.agg r) := rfl
@[simp] theorem fa34_1 (x : AV) : fieldAddrA Tryz.prog 34 x 1 = (match x with | .ptr b o => some (.ptr b (o + 1)) | .fptr cs o => some (.fptr cs (o + 1)) | _ => none) := rfl
@[simp] theorem fd34_1 (cs : List AV) : fieldA Tryz.prog 34 (.agg cs) 1 = getL cs 1 := rfl
@[simp] theorem fa34_2 (x : AV) : fieldAddrA Tryz.prog 34 x 2 = (match x with | .ptr b o => some (.ptr b (o + 2)) | .fptr cs o => some (.fptr cs (o + 2)) | _ => none) := rfl
@[simp] theorem fd34_2 (cs : List AV) : fieldA Tryz.prog 34 (.agg cs) 2 = getL cs 2 := rfl
@[simp] theorem fa34_3 (x : AV) : fieldAddrA Tryz.prog 34 x 3 = (match x with | .ptr b o => some (.ptr b (o + 3)) | .fptr cs o => some (.fptr cs (o + 3)) | _ => none) := rfl
@[simp] theorem fd34_3 (cs : List AV) : fieldA Tryz.prog 34 (.agg cs) 3 = getL cs 3 := rfl
@[simp] theorem fa34_4 (x : AV) : fieldAddrA Tryz.prog 34 x 4 = (match x with | .ptr b o => some (.ptr b (o + 4)) | .fptr cs o => some (.fptr cs (o + 4)) | _ => none) := rfl
@[simp] theorem fd34_4 (cs : List AV) : fieldA Tryz.prog 34 (.agg cs) 4 = getL cs 4 := rfl
@[simp] theorem fa34_5 (x : AV) : fieldAddrA Tryz.prog 34 x 5 = (match x with | .ptr b o => some (.ptr b (o + 5)) | .fptr cs o => some (.fptr cs (o + 5)) | _ => none) := rfl
@[simp] theorem fd34_5 (cs : List AV) : fieldA Tryz.prog 34 (.agg cs) 5 = getL cs 5 := rfl
@[simp] theorem fa34_6 (x : AV) : fieldAddrA Tryz.prog 34 x 6 = (match x with | .ptr b o => some (.ptr b (o + 6)) | .fptr cs o => some (.fptr cs (o + 6)) | _ => none) := rfl
@[simp] theorem fd34_6 (cs : List AV) : fieldA Tryz.prog 34 (.agg cs) 6 = getL cs 6 := rfl
@[simp] theorem fa34_7 (x : AV) : fieldAddrA Tryz.prog 34 x 7 = (match x with | .ptr b o => some (.ptr b (o + 7)) | .fptr cs o => some (.fptr cs (o + 7)) | _ => none) := rfl
@[simp] theorem fd34_7 (cs : List AV) : fieldA Tryz.prog 34 (.agg cs) 7 = getL cs 7 := rfl
@[simp] theorem fa34_8 (x : AV) : fieldAddrA Tryz.prog 34 x 8 = (match x with | .ptr b o => some (.ptr b (o + 8)) | .fptr cs o => some (.fptr cs (o + 8)) | _ => none) := rfl
@[simp] theorem fd34_8 (cs : List AV) : fieldA Tryz.prog 34 (.agg cs) 8 = getL cs 8 := rfl
@[simp] theorem fa34_9 (x : AV) : fieldAddrA Tryz.prog 34 x 9 = (match x with | .ptr b o => some (.ptr b (o + 9)) | .fptr cs o => some (.fptr cs (o + 9)) | _ => none) := rfl
@[simp] theorem fd34_9 (cs : List AV) : fieldA Tryz.prog 34 (.agg cs) 9 = getL cs 9 := rfl
@[simp] theorem fa34_10 (x : AV) : fieldAddrA Tryz.prog 34 x 10 = (match x with | .ptr b o => some (.ptr b (o + 10)) | .fptr cs o => some (.fptr cs (o + 10)) | _ => none) := rfl
@[simp] theorem fd34_10 (cs : List AV) : fieldA Tryz.prog 34 (.agg cs) 10 = getL cs 10 := rfl
@[simp] theorem szT36 : sizeT Tryz.prog 36 = some 1 := rfl
@[simp] theorem agT36 : aggT Tryz.prog 36 = some false := rfl
@[simp] theorem byT36 : bytesT Tryz.prog 36 = some 8 := rfl
@[simp] theorem alT36 (H : Heap) : alV Tryz.prog H 36 = some (.ptr H.n 0, H.new (.cells [.nilP])) := rfl
@[simp] theorem zeT36 : zeroOf Tryz.prog 36 = some (.nilP) := rfl
attribute [simp] Tryz.underlying36
@[simp 500] theorem rvF36 (H : Heap) (cs : List AV) (o : Nat) : readVar Tryz.prog H 36 (.fptr cs o) = getL cs o := rfl
@[simp 500] theorem rvP36 (H : Heap) (b o : Nat) : readVar Tryz.prog H 36 (.ptr b o) = (H.get b).bind fun k => k.rd.bind fun cs => getL cs o := rfl
section
variable {s s' : SS} {n k : Nat} {f : List (Nat × Blk)}
theorem vset {t : Tr} (hs : s.tree = t) (hne : t ≠ []) (o a : List Int) (m1 m2 m3 m4 m5 : Int) (b1 b2 : Bool) (i : Str) :
  setF 0 (.cells [nV k t, aInts o, aInts a, .int .i64 m1, .int .i64 m2, .int .i64 m3, .int .i64 m4, .int .i64 m5, .bool b1, .bool b2, .str i]) (VS k s) = some (VS k ⟨t, o, a, m1, m2, m3, m4, m5, b1, b2, i⟩) := by
 subst hs
 rw [VS_eq hne, VS_eq (by exact hne)]
 rfl
theorem ends_S {v v' : AV} (e : v = v') (es : s = s') (hv : pureV v' = true) (k0 : 0 < k) (hne : s'.tree ≠ []) (hf0 : getF 0 f = none) (hfk : getF k f = none) : ∃ σ Φ, fitV σ Φ v v' ∧ FitH 2 σ Φ ⟨n, [f, VS k s]⟩ ⟨3, [VS 2 s']⟩ :=
 by subst e; subst es; exact ⟨_, [], fitV_pure hv, fitS ⟨by omega, by omega, by omega⟩ (by omega) k0 hne hf0 hfk⟩
end
@[simp] theorem clA (L : List At1) : (aAttrs L).cells = [aAttrs L] := rfl
@[simp] theorem sgA (L : List At1) : (aAttrs L).single = true := rfl
@[simp] theorem sgI (L : List Int) : (AV.fslc 1 (L.map aInt)).single = true := rfl
@[simp] theorem rfA (L : List At1) (n : Nat) : refs n (aAttrs L) = [] := refs_pure _ _ (by simp)
@[simp] theorem rfI (L : List Int) (n : Nat) : refs n (AV.fslc 1 (L.map aInt)) = [] := refs_pure _ _ (by simp)
def whV (t : Tr) (i : Int) : AV := .tup [.int .i64 i, .int .i64 ((nodeAt t i).kids.length : Int)]
@[simp] theorem pure_whV (t : Tr) (i : Int) : pureV (whV t i) = true := by simp [whV, pureV, pureL]
theorem c42 {T : List (Entry Tryz.prog)} {s : SS} (ne : s.tree ≠ []) (x : Int) (h0 : 0 ≤ x) (h1 : x < (s.tree.length : Int)) : SC T 42 [.int .i64 x] s (whV s.tree x) (s) := by
 have g0 := @vg0
 have v0 := @vset
 obtain ⟨u, e⟩ : ∃ u : Nat, x = (u : Int) := ⟨x.toNat, by omega⟩
 have hu : u < s.tree.length := by omega
 have gk := vgk (k := 1) (s := s) (by omega) ne
 have ix := ixN (k := 1) hu
 have gN := getN (c := 6) hu (by omega)
 have lI : ∀ H, lenA Tryz.prog H 32 (aInts (nodeAt s.tree (u : Int)).kids) = some (nodeAt s.tree (u : Int)).kids.length := fun H => lenI
 refine callAt_body (fn := Tryz.f42) (s0 := ⟨[0, 1, 4, 5], [.ptr 0 0, .int .i64 x, .undef, .undef], [], 17, ⟨2, [] :: [VS 1 s]⟩⟩) Tryz.func42 rfl rfl rfl ?_
 (repeat' (first
  | with_reducible refine wps_seq ?_
  | with_reducible refine wps_block ?_
  | (with_reducible refine wps_label ?_; simp only [thenQ, blockQ])
  | (with_reducible refine wps_region callOK ?_; apply runE; simp [zS, *, SS.post, gk, ix, gN, lI, Nd.cs]; exact rfl)
  | (refine wps_drawK mixed callOK (by decide +kernel) (by decide +kernel) ?_; apply runE; simp [zS, evalK_c, evalK_nil, thenK_some, *, SS.post, gk, ix, gN, lI, Nd.cs]; exact rfl)
  | (with_reducible refine run_end ?_; simp only [thenQ, blockQ])
  | (with_reducible refine gate_splitK (fun hc => ?_) (fun hc => ?_) <;> ((have hd := hc); (try simp at hd); (try subst hd); apply runE; simp [zS, evalK_c, evalK_nil, thenK_some, *, SS.post, gk, ix, gN, lI, Nd.cs]; exact rfl))
  | (with_reducible refine pick_splitK (fun hc => ?_) (fun hc => ?_) <;> ((have hd := hc); (try simp at hd); (try subst hd); apply runE; simp [zS, evalK_c, evalK_nil, thenK_some, *, SS.post, gk, ix, gN, lI, Nd.cs]; exact rfl))
  | (with_reducible refine gate_split (fun hc => ?_) (fun hc => ?_) <;> ((have hd := hc); (try simp at hd); (try subst hd); apply runE; simp [zS, *, SS.post, gk, ix, gN, lI, Nd.cs]; exact rfl))
  | (with_reducible refine pick_split (fun hc => ?_) (fun hc => ?_) <;> ((have hd := hc); (try simp at hd); (try subst hd); apply runE; simp [zS, *, SS.post, gk, ix, gN, lI, Nd.cs]; exact rfl))
  | (refine wps_ct rfl ?_)
  | (refine wps_cf rfl ?_)
  | (refine wps_cond rfl (fun hc => ?_) (fun hc => ?_) <;> ((have hd := hc); (try simp at hd); (try subst hd)))
  | (with_reducible refine wps_skip ?_; simp only [thenQ, blockQ])
  | (with_reducible refine wps_exit ?_; simp [thenQ, blockQ])
  | (with_reducible refine wps_ret ?_; simp [retVal, Tryz.f42, oneOr, thenQ, blockQ])))
 all_goals first | ((try simp [retVal, Tryz.f42, oneOr]); exact ends_S (by subst e; rfl) (by first | rfl | (simp [*]; done)) (by simp [pureV, pureL]) (by decide) (ne) rfl rfl) | (exfalso; omega)
theorem inj_42 (x y : Int) (h : (fun z : Int => ([.int .i64 z] : List AV)) x = (fun z : Int => ([.int .i64 z] : List AV)) y) : x = y := by
 simp only [List.cons.injEq, and_true] at h
 exact AV.int.inj h |>.2
noncomputable def e42 : Entry Tryz.prog := mkS 42 [[]] (fun z : Int => [.int .i64 z]) (fun z s => (0 ≤ z) ∧ (z < (s.tree.length : Int))) (fun z s => whV s.tree z) (fun z s => s) fun z s ne h => ⟨c42 (T := [])  ne z h.1 h.2, by simp [pureL, pureV], by simp [pureV, pureL], ne⟩
theorem k42 {T : List (Entry Tryz.prog)} (hT : findE 42 T = some e42.g) {s : SS} (ne : s.tree ≠ []) (x : Int) (h0 : 0 ≤ x) (h1 : x < (s.tree.length : Int)) {n k : Nat} {fr : List (Nat × Blk)} (k0 : 0 < k) (kn : k < n) (of : offS k fr) : callL (ctx T) (.fn 42) [.ptr 0 0, .int .i64 x] ⟨n, [fr, VS k s]⟩ = some (whV s.tree x, ⟨n + 1, [fr, VS n (s)]⟩) :=
 mkS_eq hT inj_42 (x) ne ⟨h0, h1⟩ (by simp [pureL, pureV]) (by simp [thawL, thawA_ok]) k0 kn of
def whP (t : Tr) (i : Int) : Int := if isB t i = true then i else 0
theorem whP_nat {t : Tr} (hne : t ≠ []) (i : Int) : ∃ u : Nat, whP t i = (u : Int) ∧ u < t.length := by
 unfold whP
 split
 ·rename_i h
  obtain ⟨h1, h2⟩ := isB_iff.1 h
  exact ⟨i.toNat, by omega, by omega⟩
 ·exact ⟨0, rfl, by have := List.length_pos_iff.2 hne; omega⟩
theorem c39 {T : List (Entry Tryz.prog)} (hc0 : findE 42 T = some e42.g) {s : SS} (ne : s.tree ≠ []) (i : Int) (hf : s.foster = false) : SC T 39 [.int .i64 i] s (whV s.tree (whP s.tree i)) (s) := by
 have kc0 := @k42 T hc0
 have g0 := @vg0
 have v0 := @vset
 have ln := fun H k => lenN' (k := k) (t := s.tree) H
 have hp := List.length_pos_iff.2 ne
 have hx : ∀ x, whV s.tree x = .tup [.int .i64 x, .int .i64 ((nodeAt s.tree x).kids.length : Int)] := fun _ => rfl
 have hw : whP s.tree i = if 0 ≤ i ∧ i < (s.tree.length : Int) then i else 0 := by
  unfold whP isB
  simp only [Bool.and_eq_true, decide_eq_true_eq]
 refine callAt_body (fn := Tryz.f39) (s0 := ⟨[0, 1, 4, 5], [.ptr 0 0, .int .i64 i, .undef, .undef], [], 45, ⟨2, [] :: [VS 1 s]⟩⟩) Tryz.func39 rfl rfl rfl ?_
 (repeat' (first
  | with_reducible refine wps_seq ?_
  | with_reducible refine wps_block ?_
  | (with_reducible refine wps_label ?_; simp only [thenQ, blockQ])
  | (with_reducible refine wps_region callOK ?_; apply runE; simp [zS, *, SS.post, ln]; exact rfl)
  | (refine wps_drawK mixed callOK (by decide +kernel) (by decide +kernel) ?_; apply runE; simp [zS, evalK_c, evalK_nil, thenK_some, *, SS.post, ln]; exact rfl)
  | (with_reducible refine run_end ?_; simp only [thenQ, blockQ])
  | (with_reducible refine gate_splitK (fun hc => ?_) (fun hc => ?_) <;> ((have hd := hc); (try simp at hd); (try subst hd); apply runE; simp [zS, evalK_c, evalK_nil, thenK_some, *, SS.post, ln]; exact rfl))
  | (with_reducible refine pick_splitK (fun hc => ?_) (fun hc => ?_) <;> ((have hd := hc); (try simp at hd); (try subst hd); apply runE; simp [zS, evalK_c, evalK_nil, thenK_some, *, SS.post, ln]; exact rfl))
  | (with_reducible refine gate_split (fun hc => ?_) (fun hc => ?_) <;> ((have hd := hc); (try simp at hd); (try subst hd); apply runE; simp [zS, *, SS.post, ln]; exact rfl))
  | (with_reducible refine pick_split (fun hc => ?_) (fun hc => ?_) <;> ((have hd := hc); (try simp at hd); (try subst hd); apply runE; simp [zS, *, SS.post, ln]; exact rfl))
  | (refine wps_ct rfl ?_)
  | (refine wps_cf rfl ?_)
  | (refine wps_cond rfl (fun hc => ?_) (fun hc => ?_) <;> ((have hd := hc); (try simp at hd); (try subst hd)))
  | (with_reducible refine wps_skip ?_; simp only [thenQ, blockQ])
  | (with_reducible refine wps_exit ?_; simp [thenQ, blockQ])
  | (with_reducible refine wps_ret ?_; simp [retVal, Tryz.f39, oneOr, thenQ, blockQ])))
 all_goals first | ((try simp [retVal, Tryz.f39, oneOr]); exact ends_S (by (simp only [hw, hx]; split <;> first | rfl | (exfalso; omega))) (by first | rfl | (simp [*]; done)) (by simp [pureV, pureL]) (by decide) (ne) rfl rfl) | (exfalso; omega)
theorem inj_39 (x y : Int) (h : (fun z : Int => ([.int .i64 z] : List AV)) x = (fun z : Int => ([.int .i64 z] : List AV)) y) : x = y := by
 simp only [List.cons.injEq, and_true] at h
 exact AV.int.inj h |>.2
noncomputable def e39 : Entry Tryz.prog := mkS 39 [[]] (fun z : Int => [.int .i64 z]) (fun z s => (s.foster = false)) (fun z s => whV s.tree (whP s.tree z)) (fun z s => s) fun z s ne h => ⟨c39 (T := [e42]) rfl ne z h, by simp [pureL, pureV], by simp [pureV, pureL], ne⟩
theorem k39 {T : List (Entry Tryz.prog)} (hT : findE 39 T = some e39.g) {s : SS} (ne : s.tree ≠ []) (i : Int) (hf : s.foster = false) {n k : Nat} {fr : List (Nat × Blk)} (k0 : 0 < k) (kn : k < n) (of : offS k fr) : callL (ctx T) (.fn 39) [.ptr 0 0, .int .i64 i] ⟨n, [fr, VS k s]⟩ = some (whV s.tree (whP s.tree i), ⟨n + 1, [fr, VS n (s)]⟩) :=
 mkS_eq hT inj_39 (i) ne hf (by simp [pureL, pureV]) (by simp [thawL, thawA_ok]) k0 kn of
def addT (t : Tr) (nd : Nd) : Tr := t ++ [fresh nd]
@[simp] theorem addT_ne (t : Tr) (nd : Nd) : addT t nd ≠ [] := by simp [addT]
theorem putT_ne {t : Tr} (hne : t ≠ []) (up at_ kid : Int) : putT t up at_ kid ≠ [] := by
 unfold putT
 split
 ·simp [setUp]
 ·exact hne
theorem c13S {T : List (Entry Tryz.prog)} (hc0 : findE 29 T = some e29.g) {s : SS} (ne : s.tree ≠ []) (nd : Nd) (hl : s.tree.length + 1 ≤ 1000000) (ha : nd.attrs.length ≤ 1000000) : SC T 13 [aNode nd] s (.int .i64 (s.tree.length : Int)) ({ s with tree := addT s.tree nd }) := by
 have kc0 := @k29 T hc0
 have g0 := @vg0
 have v0 := @vset
 exact c13 (T := T) hc0 (ok_S s (k := 1) (m := 2) (by omega) (by omega)) hl nd ha
theorem inj_13S (x y : Nd) (h : (fun z : Nd => ([aNode z] : List AV)) x = (fun z : Nd => ([aNode z] : List AV)) y) : x = y := by
 simp only [List.cons.injEq, and_true] at h
 exact inj_aNode h
noncomputable def e13S : Entry Tryz.prog := mkS 13 [[0, 0, 0, 2, 0, 0, 1]] (fun z : Nd => [aNode z]) (fun z s => (s.tree.length + 1 ≤ 1000000) ∧ (z.attrs.length ≤ 1000000)) (fun z s => .int .i64 (s.tree.length : Int)) (fun z s => { s with tree := addT s.tree z }) fun z s ne h => ⟨c13S (T := [e29]) rfl ne z h.1 h.2, by simp [pureL, pureV], by simp [pureV, pureL], addT_ne _ _⟩
theorem k13S {T : List (Entry Tryz.prog)} (hT : findE 13 T = some e13S.g) {s : SS} (ne : s.tree ≠ []) (nd : Nd) (hl : s.tree.length + 1 ≤ 1000000) (ha : nd.attrs.length ≤ 1000000) {n k : Nat} {fr : List (Nat × Blk)} (k0 : 0 < k) (kn : k < n) (of : offS k fr) : callL (ctx T) (.fn 13) [.ptr 0 0, aNode nd] ⟨n, [fr, VS k s]⟩ = some (.int .i64 (s.tree.length : Int), ⟨n + 1, [fr, VS n ({ s with tree := addT s.tree nd })]⟩) :=
 mkS_eq hT inj_13S (nd) ne ⟨hl, ha⟩ (by simp [pureL, pureV]) (by simp [thawL, thawA_ok]) k0 kn of
theorem c14S {T : List (Entry Tryz.prog)} (hc0 : findE 66 T = some e66G.g) (hc1 : findE 30 T = some e30.g) (hc2 : findE 31 T = some e31.g) (hc3 : findE 34 T = some e34.g) {s : SS} (ne : s.tree ≠ []) (up : Int) (at_ : Int) (kid : Int) (ht : s.tree.length ≤ 1000000) (hk : kidsLe s.tree 999999) : SC T 14 [.int .i64 up, .int .i64 at_, .int .i64 kid] s (.tup []) ({ s with tree := putT s.tree up at_ kid }) := by
 have g0 := @vg0
 have v0 := @vset
 exact SC.of (c14G (T := T) hc0 hc1 hc2 hc3 (ok_S s (k := 1) (m := 2) (by omega) (by omega)) ne ht hk up at_ kid) rfl (putT_ne ne _ _ _)
theorem inj_14S (x y : Int × Int × Int) (h : (fun z : Int × Int × Int => ([.int .i64 z.1, .int .i64 z.2.1, .int .i64 z.2.2] : List AV)) x = (fun z : Int × Int × Int => ([.int .i64 z.1, .int .i64 z.2.1, .int .i64 z.2.2] : List AV)) y) : x = y := by
 obtain ⟨x0, x1, x2⟩ := x
 obtain ⟨y0, y1, y2⟩ := y
 simp only [List.cons.injEq, and_true] at h
 obtain ⟨h0, h1, h2⟩ := h
 have g0 : x0 = y0 := AV.int.inj h0 |>.2
 have g1 : x1 = y1 := AV.int.inj h1 |>.2
 have g2 : x2 = y2 := AV.int.inj h2 |>.2
 subst g0 g1 g2
 rfl
noncomputable def e14S : Entry Tryz.prog := mkS 14 [[], [], []] (fun z : Int × Int × Int => [.int .i64 z.1, .int .i64 z.2.1, .int .i64 z.2.2]) (fun z s => (s.tree.length ≤ 1000000) ∧ (kidsLe s.tree 999999)) (fun z s => .tup []) (fun z s => { s with tree := putT s.tree z.1 z.2.1 z.2.2 }) fun z s ne h => ⟨c14S (T := [e66G, e30, e31, e34]) rfl rfl rfl rfl ne z.1 z.2.1 z.2.2 h.1 h.2, by simp [pureL, pureV], by simp [pureV, pureL], putT_ne ne _ _ _⟩
theorem k14S {T : List (Entry Tryz.prog)} (hT : findE 14 T = some e14S.g) {s : SS} (ne : s.tree ≠ []) (up : Int) (at_ : Int) (kid : Int) (ht : s.tree.length ≤ 1000000) (hk : kidsLe s.tree 999999) {n k : Nat} {fr : List (Nat × Blk)} (k0 : 0 < k) (kn : k < n) (of : offS k fr) : callL (ctx T) (.fn 14) [.ptr 0 0, .int .i64 up, .int .i64 at_, .int .i64 kid] ⟨n, [fr, VS k s]⟩ = some (.tup [], ⟨n + 1, [fr, VS n ({ s with tree := putT s.tree up at_ kid })]⟩) :=
 mkS_eq hT inj_14S (up, at_, kid) ne ⟨ht, hk⟩ (by simp [pureL, pureV]) (by simp [thawL, thawA_ok]) k0 kn of
theorem kidsLe_add {t : Tr} {b : Nat} (h : kidsLe t b) (nd : Nd) : kidsLe (addT t nd) b := fun n hn => by
 rcases List.mem_append.1 hn with hn | hn
 ·exact h n hn
 ·simp at hn; subst hn; simp [fresh]
structure SOk (s : SS) : Prop where
 ln : s.tree.length ≤ 99999
 kd : kidsLe s.tree 100000
 op : s.opn.length ≤ 100000
def newT (t : Tr) (up at_ : Int) (nd : Nd) : Tr := putT (addT t nd) up at_ t.length
@[simp] theorem newT_ne (t : Tr) (up at_ : Int) (nd : Nd) : newT t up at_ nd ≠ [] := putT_ne (addT_ne _ _) _ _ _
theorem c41 {T : List (Entry Tryz.prog)} (hc0 : findE 13 T = some e13S.g) (hc1 : findE 14 T = some e14S.g) {s : SS} (ne : s.tree ≠ []) (up : Int) (at_ : Int) (nd : Nd) (ok : SOk s) (ha : nd.attrs.length ≤ 1000000) : SC T 41 [.int .i64 up, .int .i64 at_, aNode nd] s (.int .i64 (s.tree.length : Int)) ({ s with tree := newT s.tree up at_ nd }) := by
 have kc0 := @k13S T hc0
 have kc1 := @k14S T hc1
 have g0 := @vg0
 have v0 := @vset
 have hl := ok.ln
 simp only [aNode] at kc0
 have hl1 : s.tree.length + 1 ≤ 1000000 := by omega
 have hl2 : (addT s.tree nd).length ≤ 1000000 := by simp [addT]; omega
 have hk2 : kidsLe (addT s.tree nd) 999999 := kidsLe_add (fun n hn => Nat.le_trans (ok.kd n hn) (by omega)) nd
 refine callAt_body (fn := Tryz.f41) (s0 := ⟨[0, 1, 2, 3, 7, 8, 9], [.ptr 0 0, .int .i64 up, .int .i64 at_, aNode nd, .undef, .undef, .undef], [], 23, ⟨2, [] :: [VS 1 s]⟩⟩) Tryz.func41 rfl rfl rfl ?_
 (repeat' (first
  | with_reducible refine wps_seq ?_
  | with_reducible refine wps_block ?_
  | (with_reducible refine wps_label ?_; simp only [thenQ, blockQ])
  | (with_reducible refine wps_region callOK ?_; apply runE; simp [zS, *, SS.post, aNode]; exact rfl)
  | (with_reducible refine run_end ?_; simp only [thenQ, blockQ])
  | (refine wps_drawQ mixed callOK (by decide +kernel) (by decide +kernel) rfl ?_; apply runQ; simp [zS, zW, clsOf, mkBlk, guardA, Heap.lay, ontoF, *, SS.post, aNode]; exact rfl)
  | (with_reducible refine run_endQ ?_; refine ⟨by repeat first | exact okC_n | refine okC_c (by decide +kernel) ?_, ?_⟩; simp only [thenQ, blockQ, allPend, Heap.lay, ontoF])
  | (with_reducible refine gate_splitQ (fun hc => ?_) (fun hc => ?_) <;> ((have hd := hc); (try simp at hd); (try subst hd); apply runQ; simp [zS, zW, clsOf, mkBlk, guardA, Heap.lay, ontoF, *, SS.post, aNode]; exact rfl))
  | (with_reducible refine gate_splitX (fun hc => ?_) (fun hc => ?_) <;> ((have hd := hc); (try simp at hd); (try subst hd); apply runQ; simp [zS, zW, clsOf, mkBlk, guardA, Heap.lay, ontoF, *, SS.post, aNode]; exact rfl))
  | (with_reducible refine pick_splitQ (fun hc => ?_) (fun hc => ?_) <;> ((have hd := hc); (try simp at hd); (try subst hd); apply runQ; simp [zS, zW, clsOf, mkBlk, guardA, Heap.lay, ontoF, *, SS.post, aNode]; exact rfl))
  | (with_reducible refine gate_split (fun hc => ?_) (fun hc => ?_) <;> ((have hd := hc); (try simp at hd); (try subst hd); apply runE; simp [zS, *, SS.post, aNode]; exact rfl))
  | (with_reducible refine pick_split (fun hc => ?_) (fun hc => ?_) <;> ((have hd := hc); (try simp at hd); (try subst hd); apply runE; simp [zS, *, SS.post, aNode]; exact rfl))
  | (refine wps_ct rfl ?_)
  | (refine wps_cf rfl ?_)
  | (refine wps_cond rfl (fun hc => ?_) (fun hc => ?_) <;> ((have hd := hc); (try simp at hd); (try subst hd)))
  | (with_reducible refine wps_skip ?_; simp only [thenQ, blockQ])
  | (with_reducible refine wps_exit ?_; simp [thenQ, blockQ])
  | (with_reducible refine wps_ret ?_; simp [retVal, Tryz.f41, oneOr, thenQ, blockQ])))
 all_goals first | ((try simp [retVal, Tryz.f41, oneOr]); exact ends_S (by rfl) (by first | rfl | (simp [*]; done)) (by simp [pureV, pureL]) (by decide) (newT_ne _ _ _ _) rfl rfl) | (exfalso; omega)
theorem inj_41 (x y : Int × Int × Nd) (h : (fun z : Int × Int × Nd => ([.int .i64 z.1, .int .i64 z.2.1, aNode z.2.2] : List AV)) x = (fun z : Int × Int × Nd => ([.int .i64 z.1, .int .i64 z.2.1, aNode z.2.2] : List AV)) y) : x = y := by
 obtain ⟨x0, x1, x2⟩ := x
 obtain ⟨y0, y1, y2⟩ := y
 simp only [List.cons.injEq, and_true] at h
 obtain ⟨h0, h1, h2⟩ := h
 have g0 : x0 = y0 := AV.int.inj h0 |>.2
 have g1 : x1 = y1 := AV.int.inj h1 |>.2
 have g2 : x2 = y2 := inj_aNode h2
 subst g0 g1 g2
 rfl
noncomputable def e41 : Entry Tryz.prog := mkS 41 [[], [], [0, 0, 0, 2, 0, 0, 1]] (fun z : Int × Int × Nd => [.int .i64 z.1, .int .i64 z.2.1, aNode z.2.2]) (fun z s => (SOk s) ∧ (z.2.2.attrs.length ≤ 1000000)) (fun z s => .int .i64 (s.tree.length : Int)) (fun z s => { s with tree := newT s.tree z.1 z.2.1 z.2.2 }) fun z s ne h => ⟨c41 (T := [e13S, e14S]) rfl rfl ne z.1 z.2.1 z.2.2 h.1 h.2, by simp [pureL, pureV], by simp [pureV, pureL], newT_ne _ _ _ _⟩
structure Tk where
 kind : Int
 name : Str
 attrs : List At1
 self : Bool
 data : Str
def Tk.cs (t : Tk) : List AV := [.int .i64 t.kind, .str t.name, aAttrs t.attrs, .bool t.self, .str t.data]
def aTok (t : Tk) : AV := .agg t.cs
theorem inj_tcs {a b : Tk} (h : a.cs = b.cs) : a = b := by
 simp only [Tk.cs, List.cons.injEq, AV.int.injEq, AV.str.injEq, AV.bool.injEq, true_and, and_true] at h
 obtain ⟨h1, h2, h3, h4, h5⟩ := h
 have h3 := inj_aAttrs h3
 cases a; cases b
 simp_all
theorem inj_aTok {a b : Tk} (h : aTok a = aTok b) : a = b := inj_tcs (AV.agg.inj h)
theorem inj_ftok {a b : Tk} (h : AV.fptr a.cs 0 = .fptr b.cs 0) : a = b := inj_tcs (AV.fptr.inj h).1
@[simp] theorem pure_tcs (t : Tk) : pureL t.cs = true := by simp [Tk.cs, pureL, pureV]
@[simp] theorem pure_aTok (t : Tk) : pureV (aTok t) = true := by simp [aTok, pureV]
@[simp] theorem ok_fptr (cs : List AV) (o : Nat) : okV (.fptr cs o) = true := by simp [okV, pureV]
@[simp] theorem ok_aTok (t : Tk) : okV (aTok t) = true := by simp [aTok, okV, Tk.cs, pureL, pureV, aAttrs]
def elT (t : Tr) (top sp : Int) (nm : Str) (L : List At1) : Tr := newT t (whP t top) ((nodeAt t (whP t top)).kids.length : Int) ⟨1, sp, nm, L, [], 0, []⟩
def elS (s : SS) (sp : Int) (nm : Str) (L : List At1) : SS := { s with tree := elT s.tree (topI s.opn) sp nm L, opn := s.opn ++ [(s.tree.length : Int)] }
theorem putL {T : List (Entry Tryz.prog)} (hT : findE 41 T = some e41.g) {s : SS} (ne : s.tree ≠ []) (up at_ : Int) (nd : Nd) (hu : nd.up = 0) (hk : nd.kids = []) (ok : SOk s) (ha : nd.attrs.length ≤ 1000000) {n k : Nat} {fr : List (Nat × Blk)} (k0 : 0 < k) (kn : k < n) (of : offS k fr) :
  callL (ctx T) (.fn 41) [.ptr 0 0, .int .i64 up, .int .i64 at_, .agg [.int .i64 nd.kind, .int .i64 nd.space, .str nd.name, aAttrs nd.attrs, .str nd.data, .int .i64 0, .nilS]] ⟨n, [fr, VS k s]⟩ = some (.int .i64 (s.tree.length : Int), ⟨n + 1, [fr, VS n { s with tree := newT s.tree up at_ nd }]⟩) :=
 mkS_eq hT inj_41 (up, at_, nd) ne ⟨ok, ha⟩ (by simp [pureL, pureV]) (by
  cases nd
  simp only at hu hk
  subst hu hk
  simp [thawL, thawA, thawC, thaw1, okV, aNode, Nd.cs, aInt, aAttrs, aInts, pureV, pureL]) k0 kn of
def xV (L : List Int) : AV := match L with
 | [] => .zslc
 | _ :: _ => .xslc 1 (L.map aInt)
@[simp] theorem pureI (L : List Int) : pureL (L.map aInt) = true := by have := (el_int L).pure; rw [flat_ints] at this; exact this
theorem fl_ints (L : List Int) : flatAV (L.map aInt) = L.map aInt := flat_ints L
theorem sl_x (H : Heap) (L : List Int) : sliceA Tryz.prog H 32 (aInts L) none (some (.int .i64 (L.length : Int))) (some (.int .i64 (L.length : Int))) = some (xV L) := by
 have h1 : ∀ q, idx (L.length : Int) (q + L.length + 1) = some L.length := fun q => idx_nat (by omega)
 have h1 : idx (L.length : Int) (Nat.succ L.length) = some L.length := idx_nat (by omega)
 cases L with
 | nil => rfl
 | cons x r =>
  generalize hL : x :: r = L at *
  have hp : L.length ≠ 0 := by rw [← hL]; simp
  have e : xV L = .xslc 1 (L.map aInt) := by rw [← hL]; rfl
  rw [e]
  obtain ⟨m, hm⟩ : ∃ m, L.length = m + 1 := ⟨L.length - 1, by omega⟩
  have ht : (L.map aInt).take (m + 1) = L.map aInt := List.take_of_length_le (by simp [hm])
  simp only [sliceA, hiOK, Tryz.underlying32, szT3, Option.bind_some, Nat.beq_refl, bound, aInts, List.length_map, h1]
  simp only [hm, ht]
theorem ap_x (H : Heap) (L : List Int) (b : Nat) (i : Int) (hl : L.length ≤ 1000000) (hb : H.get b = some (.cells [.int .i64 i])) : appendA Tryz.prog H 3 (xV L) (.slc b 0 1 (.ex 1)) = some (.slc H.n 0 (L.length + 1) (.rest 1), H.new (.cells ((L ++ [i]).map aInt))) := by
 have hr : roomOK (L.length + 1) 8 = true := by unfold roomOK; rw [Nat.ble_eq]; omega
 have hx : srcCells H 1 1 (.slc b 0 1 (.ex 1)) = some [.int .i64 i] := by simp [srcCells, readCells, hb, Blk.rd]
 have ho : srcCells H 1 L.length (.fslc 1 (L.map aInt)) = some (L.map aInt) := by simp [srcCells, fl_ints, List.take_of_length_le]
 have c0 : (Nat.beq 1 0 || !(Nat.beq 1 1 && Nat.blt 0 8)) = false := rfl
 have hrow : ∀ cs, rowA Tryz.prog 3 cs = .cells cs := fun _ => rfl
 cases L with
 | nil =>
  simp only [appendA, xV, szT3, byT3, zeT3, Option.bind_some, srcLen, hx]
  rfl
 | cons x r =>
  generalize hL : x :: r = L at *
  have e : xV L = .xslc 1 (L.map aInt) := by rw [← hL]; rfl
  have hb2 : Nat.beq ([(.int .i64 i : AV)].length) (1 * 1) = true := rfl
  have hb3 : Nat.beq (L.map aInt).length (L.length * 1) = true := by simp
  rw [e]
  simp only [appendA, szT3, byT3, zeT3, Option.bind_some, srcLen, List.length_map, hx, ho, AV.cells, List.length_singleton, c0, hr, hb2, hb3, Bool.and_self, hrow, List.map_append, List.map_cons, List.map_nil, aInt]
  simp
theorem reach1q {n b : Nat} {cs : List AV} {g : List (Nat × Blk)} (hc : pureL cs = true) : reach (Nat.succ (Nat.succ n)) [b] ((b, .cells cs) :: g) [] = ([(b, .cells cs)], g) := by
 have e : getF b ((b, Blk.cells cs) :: g) = some (.cells cs) := by unfold getF; simp only [Nat.beq_refl]
 have hr : refsB (.cells cs) = [] := by simp only [refsB]; exact refsL_pure _ _ hc
 have hk : killF b ((b, Blk.cells cs) :: g) = g := by unfold killF; simp only [Nat.beq_refl]
 unfold reach
 simp only [e, hr, hk, List.nil_append]
 unfold reach
 rfl
theorem prom_S {s : SS} {k c : Nat} {cs : List AV} {g : List (Nat × Blk)} (hc : pureL cs = true) (ne : s.tree ≠ []) (h0 : getF 0 ((c, .cells cs) :: g) = none) : promote 0 [c] [] [(c, .cells cs) :: g, VS k s] = [g, (c, .cells cs) :: VS k s] := by
 have h1 := reach1q (n := 99998) (b := c) (g := g) hc
 have h2 : reach 100000 [c] ((c, .cells cs) :: g) [] = ([(c, .cells cs)], g) := h1
 unfold promote
 simp only [h0, h2]
 unfold promote
 simp only [vg0 ne, List.append_nil, List.cons_append, List.nil_append]
theorem setR {s : SS} {k : Nat} (ne : s.tree ≠ []) (X : Blk) : setF 0 X (VS k s) = some [(0, X), (k, .cells (flatAV (s.tree.map aNode)))] := by
 rw [VS_eq ne]; rfl
theorem fitV_ints {σ : List (Nat × Nat)} {Φ : List (Nat × List AV)} {c : Nat} {L : List Int} (h : lookC c Φ = some (L.map aInt)) : fitV σ Φ (.slc c 0 L.length (.rest 1)) (aInts L) := by
 simp only [fitV, aInts]
 refine .inl ⟨L.map aInt, h, ?_, by simp, ?_⟩
 ·rw [fl_ints]
  have := subL_app (a := []) (b := L.map aInt) (c := []) rfl rfl
  simpa using this
 ·exact (el_int L).size
theorem ends_SO {v v' : AV} {s' : SS} {H : Heap} {k c : Nat} (e : v = v') (hv : pureV v' = true) (ne : s'.tree ≠ []) (kc : 0 < k ∧ 0 < c ∧ k ≠ c) (h0 : H.get 0 = some (.cells (nV k s'.tree :: .slc c 0 s'.opn.length (.rest 1) :: s'.post.tail))) (hk : H.get k = some (.cells (flatAV (s'.tree.map aNode)))) (hc : H.get c = some (.cells (s'.opn.map aInt))) :
  ∃ σ Φ, fitV σ Φ v v' ∧ FitH 2 σ Φ H ⟨3, [VS 2 s']⟩ :=
 ⟨[(k, 2), (0, 0)], [(c, s'.opn.map aInt)], by subst e; exact fitV_pure hv, fitSG ⟨by omega, by omega, by simp⟩ (by omega) kc.1 ne h0 hk (by
  simp only [fitL, SS.post, List.tail_cons]
  refine ⟨by simp [fitV, lookN], fitV_ints (by simp [lookC]), ?_⟩
  have := pure_post s'
  simp only [SS.post, pureL, Bool.and_eq_true] at this
  simp [fitL, fitV, pureV]) (by simp; omega) (fun x hx => by simp at hx; subst hx; exact ⟨hc, pureI _⟩)⟩
theorem c37 {T : List (Entry Tryz.prog)} (hc0 : findE 40 T = some e40.g) (hc1 : findE 39 T = some e39.g) (hc2 : findE 41 T = some e41.g) {s : SS} (ne : s.tree ≠ []) (t : Tk) (sp : Int) (hf : s.foster = false) (ok : SOk s) (ha : t.attrs.length ≤ 1000000) : SC T 37 [aTok t, .int .i64 sp] s (.int .i64 (s.tree.length : Int)) (elS s sp t.name t.attrs) := by
 have kc0 := @k40 T hc0
 have kc1 := @k39 T hc1
 have g0 := @vg0
 have v0 := @vset
 have bld : buildA Tryz.prog 41 [(0, .int .i64 1), (1, .int .i64 sp), (2, .str t.name), (3, aAttrs t.attrs)] = some (.agg [.int .i64 1, .int .i64 sp, .str t.name, aAttrs t.attrs, .str [], .int .i64 0, .nilS]) := rfl
 have rS := @prom_S
 have sR := @setR
 clear v0
 have lI := fun H => lenI (H := H) (L := s.opn)
 have sX := fun H => sl_x H s.opn
 have aX := fun H b i => ap_x H s.opn b i (by have := ok.op; omega)
 have kT := fun H => kc0 (L := s.opn) (by have := ok.op; omega) H
 have kP := fun up at_ n k fr => @putL T hc2 s ne up at_ ⟨1, sp, t.name, t.attrs, [], 0, []⟩ rfl rfl ok ha n k fr
 have ec : t.cs = [.int .i64 t.kind, .str t.name, aAttrs t.attrs, .bool t.self, .str t.data] := rfl
 refine callAt_body (fn := Tryz.f37) (s0 := ⟨[0, 1, 2, 4, 6, 7, 8, 9], [.ptr 0 0, aTok t, .int .i64 sp, .undef, .undef, .undef, .undef, .undef], [], 52, ⟨2, [] :: [VS 1 s]⟩⟩) Tryz.func37 rfl rfl rfl ?_
 (repeat' (first
  | with_reducible refine wps_seq ?_
  | with_reducible refine wps_block ?_
  | (with_reducible refine wps_label ?_; simp only [thenQ, blockQ])
  | (with_reducible refine wps_region callOK ?_; apply runE; simp [zS, *, SS.post, aTok, whV, Tk.cs, pureL, pureV, aInt]; exact rfl)
  | (with_reducible refine run_end ?_; simp only [thenQ, blockQ])
  | (refine wps_drawQ mixed callOK (by decide +kernel) (by decide +kernel) rfl ?_; apply runQ; simp [zS, zW, clsOf, mkBlk, guardA, Heap.lay, ontoF, *, SS.post, aTok, whV, Tk.cs, pureL, pureV, aInt]; exact rfl)
  | (with_reducible refine run_endQ ?_; refine ⟨by repeat first | exact okC_n | refine okC_c (by decide +kernel) ?_, ?_⟩; simp only [thenQ, blockQ, allPend, Heap.lay, ontoF])
  | (with_reducible refine gate_splitQ (fun hc => ?_) (fun hc => ?_) <;> ((have hd := hc); (try simp at hd); (try subst hd); apply runQ; simp [zS, zW, clsOf, mkBlk, guardA, Heap.lay, ontoF, *, SS.post, aTok, whV, Tk.cs, pureL, pureV, aInt]; exact rfl))
  | (with_reducible refine gate_splitX (fun hc => ?_) (fun hc => ?_) <;> ((have hd := hc); (try simp at hd); (try subst hd); apply runQ; simp [zS, zW, clsOf, mkBlk, guardA, Heap.lay, ontoF, *, SS.post, aTok, whV, Tk.cs, pureL, pureV, aInt]; exact rfl))
  | (with_reducible refine pick_splitQ (fun hc => ?_) (fun hc => ?_) <;> ((have hd := hc); (try simp at hd); (try subst hd); apply runQ; simp [zS, zW, clsOf, mkBlk, guardA, Heap.lay, ontoF, *, SS.post, aTok, whV, Tk.cs, pureL, pureV, aInt]; exact rfl))
  | (with_reducible refine gate_split (fun hc => ?_) (fun hc => ?_) <;> ((have hd := hc); (try simp at hd); (try subst hd); apply runE; simp [zS, *, SS.post, aTok, whV, Tk.cs, pureL, pureV, aInt]; exact rfl))
  | (with_reducible refine pick_split (fun hc => ?_) (fun hc => ?_) <;> ((have hd := hc); (try simp at hd); (try subst hd); apply runE; simp [zS, *, SS.post, aTok, whV, Tk.cs, pureL, pureV, aInt]; exact rfl))
  | (refine wps_ct rfl ?_)
  | (refine wps_cf rfl ?_)
  | (refine wps_cond rfl (fun hc => ?_) (fun hc => ?_) <;> ((have hd := hc); (try simp at hd); (try subst hd)))
  | (with_reducible refine wps_skip ?_; simp only [thenQ, blockQ])
  | (with_reducible refine wps_exit ?_; simp [thenQ, blockQ])
  | (with_reducible refine wps_ret ?_; simp [retVal, Tryz.f37, oneOr, thenQ, blockQ])))
 all_goals first | ((try simp [retVal, Tryz.f37, oneOr]); exact ends_SO (k := 4) (c := 27) rfl rfl (newT_ne _ _ _ _) (by decide) (by simp [Heap.get, getFs, getF, elS, elT, SS.post, hf]) (by simp [Heap.get, getFs, getF, elS, elT]) (by simp [Heap.get, getFs, getF, elS, aInt])) | (exfalso; omega)
theorem inj_37 (x y : Tk × Int) (h : (fun z : Tk × Int => ([aTok z.1, .int .i64 z.2] : List AV)) x = (fun z : Tk × Int => ([aTok z.1, .int .i64 z.2] : List AV)) y) : x = y := by
 obtain ⟨x0, x1⟩ := x
 obtain ⟨y0, y1⟩ := y
 simp only [List.cons.injEq, and_true] at h
 obtain ⟨h0, h1⟩ := h
 have g0 : x0 = y0 := inj_aTok h0
 have g1 : x1 = y1 := AV.int.inj h1 |>.2
 subst g0 g1
 rfl
noncomputable def e37 : Entry Tryz.prog := mkS 37 [[0, 0, 2, 0, 0], []] (fun z : Tk × Int => [aTok z.1, .int .i64 z.2]) (fun z s => (s.foster = false) ∧ (SOk s) ∧ (z.1.attrs.length ≤ 1000000)) (fun z s => .int .i64 (s.tree.length : Int)) (fun z s => elS s z.2 z.1.name z.1.attrs) fun z s ne h => ⟨c37 (T := [e40, e39, e41]) rfl rfl rfl ne z.1 z.2 h.1 h.2.1 h.2.2, by simp [pureL, pureV], by simp [pureV, pureL], newT_ne _ _ _ _⟩
theorem k37 {T : List (Entry Tryz.prog)} (hT : findE 37 T = some e37.g) {s : SS} (ne : s.tree ≠ []) (t : Tk) (sp : Int) (hf : s.foster = false) (ok : SOk s) (ha : t.attrs.length ≤ 1000000) {n k : Nat} {fr : List (Nat × Blk)} (k0 : 0 < k) (kn : k < n) (of : offS k fr) : callL (ctx T) (.fn 37) [.ptr 0 0, aTok t, .int .i64 sp] ⟨n, [fr, VS k s]⟩ = some (.int .i64 (s.tree.length : Int), ⟨n + 1, [fr, VS n (elS s sp t.name t.attrs)]⟩) :=
 mkS_eq hT inj_37 (t, sp) ne ⟨hf, ok, ha⟩ (by simp [pureL, pureV]) (by simp [thawL, thawA_ok]) k0 kn of
end Go.Proofs.YtfgdcciaecajpaaGreat
namespace Go.Proofs.YtfgdcciaecajpaaGreat
noncomputable section
set_option linter.unusedSimpArgs false
set_option linter.unusedVariables false
open Go Go.RowKit
def Place.wat (ρ : Place) (a : Nat → Option Loc) : Place := { ρ with at_ := a }
theorem CallAt.lendF {C : Ctx} {f : FuncId} {args args' : List AV} {len : Nat} {cap : Cap} {cs : List AV} {v : AV} (h : CallAt C f args' ⟨0, []⟩ (.slc 0 0 len cap) ⟨1, [[(0, .cells cs)]]⟩) (hs : scalarL cs = true) (hp : pureL cs = true)
  (hv : fitV [] [(0, cs)] (.slc 0 0 len cap) v) {H : Heap} {Φ : List (Nat × List AV)} (hH : (H.ents.map (·.1)).Nodup → FitH 0 [] Φ H ⟨0, []⟩) (hf : fitL [] Φ args args') : CallAt C f args H v H := by
 intro ρ w xs sm hx
 have fh := hH sm.nodup
 have hx' : VRs (newPlace 0 [] Φ ρ w sm.below) args' xs := by
  obtain ⟨k1, k2⟩ := fitL_spec hf
  refine ⟨by rw [hx.1, k1], fun i h1 h2 => ?_⟩
  exact Fits.run (fh.fits sm) sm _ (Nat.le_refl _) (hx.2 i (by omega) h2) (k2 i (by omega) h1)
 have up : ∀ {x : Value} {ρ' : Place} {w' : World}, VR ρ' (.slc 0 0 len cap) x → Sim ρ' ⟨1, [[(0, .cells cs)]]⟩ w' → Step (newPlace 0 [] Φ ρ w sm.below) ⟨0, []⟩ w ρ' ⟨1, [[(0, .cells cs)]]⟩ w' →
   ∃ ρ2, VR ρ2 v x ∧ Sim ρ2 H w' ∧ Step ρ H w ρ2 H w' := by
  intro x ρ' w' h1 h2 h3
  obtain ⟨l, l1, l2, l3, l4⟩ := h2.live (0, .cells cs) (by simp [Heap.ents])
  simp only at l1
  have hrow : w.heap.size ≤ l.cb := by
   rcases h3.rows (0, .cells cs) (by simp [Heap.ents]) l l1 with ⟨e, he, _⟩ | h
   ·cases he
   ·exact h
  have hkeep : ∀ k, k < w.heap.size → w'.heap[k]? = w.heap[k]? := fun k hk => h3.keeps k hk fun e he => by cases he
  have hw : ∀ k, ρ.B k → w'.heap[k]? = ρ.W.heap[k]? := fun k hk => (hkeep k (sm.base k hk)).trans (sm.below k hk)
  have hB : ∀ k, (newPlace 0 [] [] ρ w' hw).B k → ρ.B k := fun k hk => by
   rcases hk with hk | ⟨b, c, l, hm, _⟩
   ·exact hk
   ·cases hm
  have hat : ((newPlace 0 [] [] ρ w' hw).upd 0 l) 0 = some l := Place.upd_same
  have sme : Sim ((newPlace 0 [] [] ρ w' hw).upd 0 l) ⟨1, [[(0, .cells cs)]]⟩ w' := by
   refine ⟨fun k hk => Nat.lt_of_lt_of_le (sm.base k (hB k hk)) h3.size, fun k hk => rfl, rfl, rfl, rfl, fun b hb => ?_, by simp [Heap.ents], fun e he => ?_, fun e e' he he' m m' _ _ _ => ?_⟩
   ·have hb : 1 ≤ b := hb
    rw [Place.upd_other (by omega)]
    rfl
   ·simp [Heap.ents] at he
    subst he
    refine ⟨l, hat, fun hk => ?_, l3, l4.1, l4.2.1, fun i hi => ?_⟩
    ·have := sm.base _ (hB _ hk); omega
    ·obtain ⟨y, hy, hv⟩ := l4.2.2 i hi
     exact ⟨y, hy, hv.scalar (scalarL_get hs i hi)⟩
   ·simp [Heap.ents] at he he'
    rw [he, he']
  have vre : VR ((newPlace 0 [] [] ρ w' hw).upd 0 l) (.slc 0 0 len cap) x := by
   cases h1 with
   | slcE b o len' c l' hl' hcap => rw [l1] at hl'; cases hl'; exact .slcE _ _ _ c l hat hcap
   | slcR b o len' sz c l' hl' hcap hfin => rw [l1] at hl'; cases hl'; exact .slcR _ _ _ _ c l hat hcap hfin
  have fe : FitH 0 [] [(0, cs)] ⟨1, [[(0, .cells cs)]]⟩ ⟨0, []⟩ := {
   nd1 := by simp
   nd2 := List.nodup_nil
   nd3 := List.nodup_nil
   lt := fun x h => by cases h
   idn := fun x h => by cases h
   num := Nat.le_refl _
   src := fun e he => by simp [Heap.ents] at he
   frz := fun x hx => by
    simp at hx; subst hx
    exact ⟨cs, by simp [Heap.get, getFs, getF], fitL_pure hp, hp⟩ }
  have vr2 := Fits.run (fe.fits sme) sme _ (Nat.le_refl _) vre hv
  have hB2 : ∀ k, (newPlace 0 [] [(0, cs)] ((newPlace 0 [] [] ρ w' hw).upd 0 l) w' sme.below).B k → ρ.B k ∨ k = l.cb := fun k hk => by
   rcases hk with hk | ⟨b, c, m, hm, hl, rfl⟩
   ·exact .inl (hB k hk)
   ·simp at hm
    obtain ⟨rfl, _⟩ := hm
    rw [hat] at hl; cases hl
    exact .inr rfl
  have hle : ρ.le ((newPlace 0 [] [(0, cs)] ((newPlace 0 [] [] ρ w' hw).upd 0 l) w' sme.below).wat ρ.at_) :=
   ⟨fun _ _ h => h, fun k hk => ⟨.inl (.inl hk), hw k hk⟩, (h2.os.trans h3.le.os).trans sm.os, (h2.tape.trans h3.le.tape).trans sm.tape, (h2.output.trans h3.le.output).trans sm.output⟩
  have vr3 : VR ((newPlace 0 [] [(0, cs)] ((newPlace 0 [] [] ρ w' hw).upd 0 l) w' sme.below).wat ρ.at_) v x := by
   have hl2 : (newPlace 0 [] [(0, cs)] ((newPlace 0 [] [] ρ w' hw).upd 0 l) w' sme.below).le ((newPlace 0 [] [(0, cs)] ((newPlace 0 [] [] ρ w' hw).upd 0 l) w' sme.below).wat ρ.at_) := ⟨fun b m hb => by simp [newPlace, lookR] at hb, fun _ hk => ⟨hk, rfl⟩, rfl, rfl, rfl⟩
   exact vr2.mono hl2
  refine ⟨((newPlace 0 [] [(0, cs)] ((newPlace 0 [] [] ρ w' hw).upd 0 l) w' sme.below).wat ρ.at_), vr3, ⟨fun k hk => ?_, fun k hk => rfl, rfl, rfl, rfl, sm.dom, sm.nodup, fun e he => ?_, sm.inj⟩, ⟨hle, h3.size, fun k hk _ => hkeep k hk, fun e he l hl => .inl ⟨e, he, l, hl, rfl⟩, Nat.le_refl _, fun _ _ => rfl, fun k hk => ?_⟩⟩
  ·rcases hB2 k hk with hk | rfl
   ·exact Nat.lt_of_lt_of_le (sm.base k hk) h3.size
   ·exact l3
  ·obtain ⟨m, g1, g2, g3, g4⟩ := sm.live e he
   refine ⟨m, g1, fun hk => ?_, Nat.lt_of_lt_of_le g3 h3.size, (g4.same (hkeep _ g3)).mono hle⟩
   rcases hB2 _ hk with hk | hk
   ·exact g2 hk
   ·omega
  ·rcases hB2 k hk with hk | rfl
   ·exact .inl hk
   ·exact .inr (.inr hrow)
 rcases h _ w xs (fh.sim sm (Nat.zero_le _)) hx' with ⟨x, ρ', w', h0, h1, h2, h3⟩ | ⟨g, ys, h0, h1⟩
 ·obtain ⟨ρ2, k1, k2, k3⟩ := up h1 h2 h3
  exact .inl ⟨x, ρ2, w', h0, k1, k2, k3⟩
 ·refine .inr ⟨g, ys, h0, h1.mono ?_⟩
  rintro e w' ⟨x, ρ', rfl, m1, m2, m3⟩
  obtain ⟨ρ2, k1, k2, k3⟩ := up m1 m2 m3
  exact ⟨x, ρ2, rfl, k1, k2, k3⟩
end
end Go.Proofs.YtfgdcciaecajpaaGreat
namespace Go.Proofs.YtfgdcciaecajpaaGreat
set_option linter.unusedSimpArgs false
set_option linter.unusedVariables false
open Go Go.RowKit
set_option maxRecDepth 100000
theorem scI : ∀ L : List Int, scalarL (L.map aInt) = true
 | [] => rfl
 | x :: r => by simp only [List.map_cons, scalarL, scI r, aInt, scalarV, Bool.and_self]
theorem own_I {k : Nat} {L : List Int} (h : L ≠ []) : ownV k 1 (L.map aInt) = .slc k 0 L.length (.rest 1) ∧ ownF k (L.map aInt) = [(k, .cells (L.map aInt))] := by
 have h' : L.map aInt ≠ [] := by simpa using h
 rw [ownV_ne h', ownF_ne h', fl_ints]
 simp
theorem CallAt.lendI {C : Ctx} {f : FuncId} {args args' : List AV} {L : List Int} (h : CallAt C f args' ⟨0, []⟩ (ownV 0 1 (L.map aInt)) ⟨1, [ownF 0 (L.map aInt)]⟩) {H : Heap} {Φ : List (Nat × List AV)} (hH : (H.ents.map (·.1)).Nodup → FitH 0 [] Φ H ⟨0, []⟩) (hf : fitL [] Φ args args') : CallAt C f args H (aInts L) H := by
 cases L with
 | nil =>
  have h' : CallAt C f args' ⟨0, []⟩ (aInts []) ⟨0, []⟩ := h.post (σ := []) (Φ := []) (by simp [ownV, fitV, aInts]) (.keep0 rfl)
  exact h'.borrow rfl hH hf
 | cons x r =>
  obtain ⟨e1, e2⟩ := own_I (k := 0) (L := x :: r) (by simp)
  rw [e1, e2] at h
  exact h.lendF (scI _) (pureI _) (fitV_ints (by simp [lookC])) hH hf
section
variable {α : Type} (f : FuncId) (ss : List (List Nat)) (enc : α → List AV) (pre : α → Prop) (L : α → List Int)
open Classical in
noncomputable def lenG (args : List AV) (H : Heap) : Option (AV × Heap) := if h : ∃ x, thawL H ss args = some (enc x) ∧ pre x then some (aInts (L h.choose), H) else none
noncomputable def mkL (h : ∀ x, pre x → CallAt ⟨Tryz.prog, fun _ => [], fun _ => none⟩ f (enc x) ⟨0, []⟩ (ownV 0 1 ((L x).map aInt)) ⟨1, [ownF 0 ((L x).map aInt)]⟩) : Entry Tryz.prog :=
 ⟨f, lenG ss enc pre L, fun args H v H' hv => by
  unfold lenG at hv
  split at hv
  ·rename_i hx
   simp only [Option.some.injEq, Prod.mk.injEq] at hv
   obtain ⟨rfl, rfl⟩ := hv
   intro ρ w xs sm hxs
   exact (h _ hx.choose_spec.2).lendI (fun hn => pure_fitH hn) (thawL_fit sm.nodup hx.choose_spec.1) ρ w xs sm hxs
  ·cases hv⟩
variable {f ss enc pre L}
theorem mkL_eq {h : ∀ x, pre x → CallAt ⟨Tryz.prog, fun _ => [], fun _ => none⟩ f (enc x) ⟨0, []⟩ (ownV 0 1 ((L x).map aInt)) ⟨1, [ownF 0 ((L x).map aInt)]⟩} {T : List (Entry Tryz.prog)} (hT : findE f T = some (mkL f ss enc pre L h).g) (inj : ∀ x y, enc x = enc y → x = y) (x : α) (hx : pre x) {args : List AV} {H : Heap} (ht : thawL H ss args = some (enc x)) :
  callL (ctx T) (.fn f) args H = some (aInts (L x), H) := by
 rw [callL_summ (C := ctx T) (g := (mkL f ss enc pre L h).g) hT]
 show lenG ss enc pre L _ _ = _
 unfold lenG
 have hex : ∃ y, thawL H ss args = some (enc y) ∧ pre y := ⟨x, ht, hx⟩
 rw [dif_pos hex, inj _ _ (Option.some.inj (hex.choose_spec.1.symm.trans ht))]
end
def cutR {X : Type} (goes : X → Int → Bool) (nx : X → Int → X) : X → List Int → List Int × X
 | x, [] => ([], x)
 | x, i :: r => match r with
  | [] => ([i], x)
  | _ :: _ => if goes x i = true then cutR goes nx (nx x i) r else (i :: r, nx x i)
theorem cut_at {T : List (Entry Tryz.prog)} (hC : findE 34 T = some e34.g) {X : Type} {m : Nat} {rows : X → List (Nat × Blk)} {fn : FuncId} {cap : List AV} {goes : X → Int → Bool} {nx : X → Int → X}
  (rk : ∀ x, ((rows x).map (·.1)).Nodup ∧ ∀ e, e ∈ rows x → e.1 < m ∧ ∃ cs, e.2 = .cells cs ∧ pureL cs = true) (L : List Int) (hl : L.length ≤ 1000000) (hcap : fitL (idn m) [] cap cap)
  (hF : ∀ x i, i ∈ L → CallAt (ctx T) fn (.int .i64 i :: cap) ⟨m, [[], rows x]⟩ (.bool (goes x i)) ⟨m, [[], rows (nx x i)]⟩) (x : X) :
  CallAt (ctx T) 118 [aInts L, .func (.func fn) [] cap] ⟨m, [rows x]⟩ (ownV m 1 ((cutR goes nx x L.reverse).1.reverse.map aInt)) ⟨m + 1, [ownF m ((cutR goes nx x L.reverse).1.reverse.map aInt) ++ rows (cutR goes nx x L.reverse).2]⟩ := by
 have lnL := fun H => lenI (H := H) (L := L)
 have hcf : fitV (idn m) [] (.func (.func fn) [] cap) (.func (.func fn) [] cap) := by simp only [fitV]; exact .inl ⟨trivial, by simp [fitL], hcap⟩
 have fitR : ∀ y n', FitH m (idn m) [] ⟨n', [[], rows y]⟩ ⟨m, [[], rows y]⟩ := fun y n' => fit_any (Nat.le_refl m) (by simpa [Heap.ents] using (rk y).1) (fun e he => by
  have he : e ∈ rows y := by simpa [Heap.ents] using he
  obtain ⟨h1, cs, h2, h3⟩ := (rk y).2 e he
  exact ⟨h1, by rw [h2]; exact self_pure h3, by simp only [Heap.get, getFs, getF]; rw [gF_of (rk y).1 he]⟩) (Nat.le_refl m)
 obtain ⟨R, hR⟩ : ∃ R, R = cutR goes nx x L.reverse := ⟨_, rfl⟩
 rw [← hR]
 have tail : ∀ (q : Nat) (y : X), q ≤ L.length → R = ((L.take q).reverse, y) → ∀ n', FitH m (idn (m + 1)) [] ⟨n', [ownF m (R.1.reverse.map aInt), rows y]⟩ ⟨m + 1, [ownF m (R.1.reverse.map aInt) ++ rows R.2]⟩ := fun q y hq hRq n' => by
  have ey : R.2 = y := by rw [hRq]
  rw [ey]
  generalize R.1.reverse = M
  refine fit_any (Nat.le_succ m) ?_ (fun e he => ?_) (Nat.le_refl _)
  ·simp only [Heap.ents, List.flatten_cons, List.flatten_nil, List.append_nil, List.map_append]
   rw [List.nodup_append]
   refine ⟨by cases M <;> simp [ownF], (rk y).1, fun a ha b hb => ?_⟩
   obtain ⟨e, he, rfl⟩ := List.mem_map.1 hb
   have := ((rk y).2 e he).1
   cases M with
   | nil => simp [ownF] at ha
   | cons z r => simp [ownF] at ha; omega
  ·simp only [Heap.ents, List.flatten_cons, List.flatten_nil, List.append_nil, List.mem_append] at he
   rcases he with he | he
   ·cases M with
    | nil => simp [ownF] at he
    | cons z r =>
     simp only [List.map_cons, ownF, List.mem_singleton] at he
     subst he
     exact ⟨Nat.lt_succ_self m, self_pure (by rw [← List.map_cons, fl_ints]; exact pureI _), by simp [Heap.get, getFs, getF, ownF]⟩
   ·obtain ⟨h1, cs, h2, h3⟩ := (rk y).2 e he
    refine ⟨by omega, by rw [h2]; exact self_pure h3, ?_⟩
    have : getF e.1 (ownF m (M.map aInt)) = none := by
     cases M with
     | nil => rfl
     | cons z r => simp [ownF, getF, beqN_ne (show m ≠ e.1 by omega)]
    simp only [Heap.get, getFs, this]
    rw [gF_of (rk y).1 he]
 obtain ⟨M, hM⟩ : ∃ M, M = R.1.reverse := ⟨_, rfl⟩
 rw [← hM] at tail ⊢
 refine callAt_body (fn := Tryz.f118) (s0 := ⟨[0, 1, 4, 5], [aInts L, .func (.func fn) [] cap, .undef, .undef], [], 25, ⟨m, [] :: [rows x]⟩⟩) Tryz.func118 rfl rfl rfl ?_
 repeat apply wq
 refine wps_region callOK ?_
 simp [zS, lnL]
 repeat apply wq
 refine wps_region callOK ?_
 simp [zS, lnL]
 repeat apply wq
 refine wps_block (wps_loop' (fun q : Nat × X => (⟨[0, 1, 4, 5], [aInts L, .func (.func fn) [] cap, .nilS, .int .i64 (q.1 : Int)], [], 25, ⟨m, [[], rows q.2]⟩⟩ : St)) (fun q => q.1 ≤ L.length ∧ cutR goes nx q.2 (L.take q.1).reverse = R) (fun q => q.1) (idn m) [] (L.length, x) ⟨Nat.le_refl _, by simp [hR]⟩ ⟨rfl, rfl, rfl, by simp [fitL, fitV, hcap, pureV, pureL], fitR _ _⟩ ?_)
 rintro ⟨q, y⟩ ⟨hq, hx⟩ B hB
 simp only at hq hx
 have hslc : ∀ H, sliceA Tryz.prog H 32 (aInts L) none (some (.int .i64 (q : Int))) none = some (.fslc 1 ((L.take q).map aInt)) := fun H => by
  have h1 : idx (q : Int) (Nat.succ L.length) = some q := idx_nat (by omega)
  simp [sliceA, hiOK, bound, aInts, h1, List.map_take]
 have kcl := fun H => k34 hC (L := L.take q) (by simp; omega) H
 simp only [List.map_take, aInts] at kcl
 rcases Nat.lt_or_ge q 2 with h2 | h2
 ·have hgt : ¬ ((1 : Int) < (q : Int)) := by omega
  have hRq : R = ((L.take q).reverse, y) := by
   rw [← hx]
   match q, h2 with
   | 0, _ => simp [cutR]
   | 1, _ => 
    cases L with
    | nil => simp [cutR]
    | cons z r => simp [cutR]
  repeat apply wq
  refine wps_region callOK ?_
  simp [zS, hgt]
  repeat apply wq
  refine wps_cf rfl ?_
  repeat apply wq
  refine wps_exit ?_
  simp
  repeat apply wq
  refine wps_region callOK ?_
  simp [zS, hslc, kcl, own_heapA]
  repeat apply wq
  refine wps_ret ?_
  have eM : M = L.take q := by rw [hM, hRq]; simp
  simp [retVal, Tryz.f118, oneOr]
  rw [← List.map_take, ← eM]
  exact ⟨_, _, fitV_own (lookN_idn (Nat.lt_succ_self m)), tail q y hq hRq _⟩
 ·obtain ⟨k, hk0⟩ : ∃ k, q = k + 1 := ⟨q - 1, by omega⟩
  have hk : k < L.length := by omega
  have hgt : ((1 : Int) < (q : Int)) := by omega
  have hw : wr .i64 ((q : Int) - 1) = some (k : Int) := by rw [hk0]; exact sub_one (by omega)
  have hat := atI (L := L) (i := k) hk
  have hf := hF y L[k] (List.getElem_mem hk)
  have e1 : (L.take q).reverse = L[k] :: (L.take k).reverse := by rw [hk0, List.take_succ_eq_append_getElem hk]; simp
  have hne : (L.take k).reverse ≠ [] := by intro e; have := congrArg List.length e; simp only [List.length_reverse, List.length_take, List.length_nil] at this; omega
  have hx2 : (if goes y L[k] = true then cutR goes nx (nx y L[k]) (L.take k).reverse else ((L.take q).reverse, nx y L[k])) = R := by
   rw [← hx, e1]
   generalize (L.take k).reverse = Z at *
   cases Z with
   | nil => exact absurd rfl hne
   | cons z r => rfl
  generalize L[k] = i at *
  clear e1 hne hx
  cases hg : goes y i with
  | false =>
   rw [hg] at hf hx2
   simp only [Bool.false_eq_true, if_false] at hx2
   repeat apply wq
   refine wps_region (callOKF [⟨fn, _, _, _, _, hf⟩]) ?_
   simp [zS, callF, hgt, hw, hat]
   repeat apply wq
   refine wps_cf rfl ?_
   repeat apply wq
   refine wps_exit ?_
   simp
   repeat apply wq
   refine wps_region callOK ?_
   simp [zS, hslc, kcl, own_heapA]
   repeat apply wq
   refine wps_ret ?_
   have eM : M = L.take q := by rw [hM, ← hx2]; simp
   simp [retVal, Tryz.f118, oneOr]
   rw [← List.map_take, ← eM]
   exact ⟨_, _, fitV_own (lookN_idn (Nat.lt_succ_self m)), tail q _ hq hx2.symm _⟩
  | true =>
   rw [hg] at hf hx2
   simp only [if_true] at hx2
   repeat apply wq
   refine wps_region (callOKF [⟨fn, _, _, _, _, hf⟩]) ?_
   simp [zS, callF, hgt, hw, hat]
   repeat apply wq
   refine wps_ct rfl ?_
   repeat apply wq
   refine wps_skip ?_
   simp
   repeat apply wq
   refine wps_block ?_
   repeat apply wq
   refine wps_region callOK ?_
   simp [zS, hw]
   exact hB _ (k, nx y i) (by simp only; omega) ⟨by simp only; omega, hx2⟩ ⟨idn m, [], rfl, rfl, rfl, by simp [fitL, fitV, hcap, pureV, pureL], fitR _ _⟩
structure FactR (C : Ctx) where
 b : Nat
 args : List AV
 H : Heap
 v : AV
 H' : Heap
 ok : YieldAt C b args H v H'
open Classical in
noncomputable def callR {C : Ctx} : List (FactR C) → CallE → CallE
 | [], call, c, args, H => call c args H
 | x :: r, call, c, args, H => if c = .yl x.b ∧ args = x.args ∧ H = x.H then some (x.v, x.H') else callR r call c args H
theorem callR_ok {C : Ctx} {call : CallE} (hc : CallOK C call) : ∀ (l : List (FactR C)), CallOK C (callR l call)
 | [] => hc
 | x :: r => {
  fn := fun f args H v H' h => by
   unfold callR at h
   split at h
   ·rename_i hx
    cases hx.1
   ·exact (callR_ok hc r).fn f args H v H' h
  yl := fun b args H v H' h => by
   unfold callR at h
   split at h
   ·rename_i hx
    obtain ⟨hf, rfl, rfl⟩ := hx
    simp only [Option.some.injEq, Prod.mk.injEq] at h
    obtain ⟨rfl, rfl⟩ := h
    cases hf
    exact x.ok
   ·exact (callR_ok hc r).yl b args H v H' h }
theorem callOKR {T : List (Entry Tryz.prog)} (l : List (FactR (ctx T))) : CallOK (ctx T) (callR l (callL (ctx T))) := callR_ok callOK l
theorem callR_hit {C : Ctx} {b : Nat} {args : List AV} {H H' : Heap} {v : AV} {ok : YieldAt C b args H v H'} {r : List (FactR C)} {call : CallE} : callR (⟨b, args, H, v, H', ok⟩ :: r) call (.yl b) args H = some (v, H') := by simp [callR]
section
variable {C : Ctx} {call : CallE} {ops : Array Oper} {H0 : Heap} {s : St} {o : Oper} {l : List Oper} {P : St → Prop}
theorem gate_splitK {b : Bool} (h1 : b = true → ∃ s', thenK C call ops H0 (gateV C call s o (some true)) l = some s' ∧ P s') (h2 : b = false → ∃ s', thenK C call ops H0 (gateV C call s o (some false)) l = some s' ∧ P s') :
  ∃ s', thenK C call ops H0 (gateV C call s o (some b)) l = some s' ∧ P s' := by
 cases b with
 | true => exact h1 rfl
 | false => exact h2 rfl
theorem pick_splitK {H : Heap} {d : Option Tmp} {p q : Option AV} {b : Bool} (h1 : b = true → ∃ s', thenK C call ops H0 (putV s d (pickV H (some (.bool true)) p q)) l = some s' ∧ P s') (h2 : b = false → ∃ s', thenK C call ops H0 (putV s d (pickV H (some (.bool false)) p q)) l = some s' ∧ P s') :
  ∃ s', thenK C call ops H0 (putV s d (pickV H (some (.bool b)) p q)) l = some s' ∧ P s' := by
 cases b with
 | true => exact h1 rfl
 | false => exact h2 rfl
end
theorem getF_none1 {b k : Nat} {x : Blk} (h : k ≠ b) : getF b [(k, x)] = none := by unfold getF; rw [beqN_ne h]; rfl
open Classical in
def rgIn : Code → Option (Code × Code)
 | .rangeFunc _ _ a b => some (a, b)
 | .seq a b => match rgIn a with
  | some x => some x
  | none => rgIn b
 | .block _ b => rgIn b
 | .loop b => rgIn b
 | .cond _ a b => match rgIn a with
  | some x => some x
  | none => rgIn b
 | _ => none
def rgA (o : Option Code) : Code := match o.bind rgIn with
 | some x => x.1
 | none => .skip
def rgB (o : Option Code) : Code := match o.bind rgIn with
 | some x => x.2
 | none => .skip
def rowsB (b : Nat) (R : List (Nat × Blk)) : Prop := (R.map (·.1)).Nodup ∧ ∀ e, e ∈ R → e.1 < b ∧ ∃ cs, e.2 = .cells cs ∧ pureL cs = true
structure RgK where
 ks : List Nat
 vs : List AV
 sz : Nat
 ps : List Nat
 as' : Code
 bd : Code
def RgK.blk (K : RgK) (st : LoopState) (pend : Option Code) (ts : List (Nat × AV)) : Blk := .loop st pend K.ks K.vs ts K.sz K.ps K.as' K.bd
def RgK.rows {ρ : Type} (K : RgK) (b : Nat) (R : Option ρ → List (Nat × Blk)) : Option ρ → List (Nat × Blk)
 | none => (b, K.blk .ready none []) :: R none
 | some r => (b, K.blk .done (some .ret) []) :: R (some r)
structure RgK.Ok {ρ : Type} (K : RgK) (b : Nat) (R : Option ρ → List (Nat × Blk)) : Prop where
 vs : ∀ σ, Idl b σ → fitL σ [] K.vs K.vs
 rows : ∀ c, rowsB b (R c)
section
variable {ρ : Type} {K : RgK} {b : Nat} {R : Option ρ → List (Nat × Blk)}
theorem RgK.Ok.self (h : K.Ok b R) (st : LoopState) (pend : Option Code) (ts : List (Nat × AV)) : ∀ σ, Idl (b + 1) σ → fitB σ [] (K.blk st pend ts) (K.blk st pend []) := fun σ hσ =>
 ⟨rfl, rfl, rfl, h.vs σ fun i hi => hσ i (by omega), rfl, rfl, rfl, rfl, rfl⟩
theorem RgK.Ok.fit (h : K.Ok b R) {N m : Nat} {st : LoopState} {pend : Option Code} {ts : List (Nat × AV)} {c : Option ρ} {H : Heap} (hN : N ≤ b + 1) (hm : b + 1 ≤ m) (hb : H.get b = some (K.blk st pend ts)) (hr : ∀ e, e ∈ R c → H.get e.1 = some e.2)
  {fs : List (List (Nat × Blk))} (hfs : fs.flatten = (b, K.blk st pend []) :: R c) : FitH N (idn (b + 1)) [] H ⟨m, fs⟩ where
 nd1 := by simpa using idn_nd (b + 1)
 nd2 := idn_nd2 (b + 1)
 nd3 := by
  simp only [Heap.ents, hfs, List.map_cons, List.nodup_cons]
  refine ⟨fun hx => ?_, (h.rows c).1⟩
  obtain ⟨e, he, hx⟩ := List.mem_map.1 hx
  have := ((h.rows c).2 e he).1
  omega
 lt := fun x hx => by
  obtain ⟨i, hi, rfl⟩ := List.mem_map.1 hx
  have : i < b + 1 := by simpa using hi
  show i < m; omega
 idn := fun x hx hlt => by
  obtain ⟨i, hi, rfl⟩ := List.mem_map.1 hx
  rfl
 num := by show N ≤ m; omega
 src := fun e he => by
  simp only [Heap.ents, hfs, List.mem_cons] at he
  rcases he with rfl | he
  ·exact ⟨b, _, idn_mem (Nat.lt_succ_self b), hb, h.self _ _ _ _ (idl_idn (b + 1))⟩
  ·obtain ⟨h1, cs, h2, h3⟩ := (h.rows c).2 e he
   refine ⟨e.1, e.2, idn_mem (by omega), hr e he, ?_⟩
   rw [h2]
   exact fitL_pure h3
 frz := fun x h => by cases h
def runB (go : Nat → Option ρ) : Nat → Option ρ
 | 0 => none
 | j + 1 => match go j with
  | some r => some r
  | none => runB go j
def outB : Option ρ → Out
 | none => .normal
 | some _ => .ret
theorem round_K {T : List (Entry Tryz.prog)} (h : K.Ok b R) {args : List AV} {g : Option ρ} {s1 : St} (hp : putPs ⟨K.ks, K.vs, [], K.sz, ⟨b + 1, [[], [], (b, K.blk .ready none []) :: R none]⟩⟩ K.ps args = some s1)
  (hw : ∀ l, WpSr (ctx T) (b + 1) (some l) K.as' s1 fun x s => x = .normal ∧ ∃ m f, s.H = ⟨m, [f, [], (b, K.blk .ready none []) :: R none]⟩ ∧ getF b f = none ∧
   ∀ B, B = K.blk .busy none [] → WpSr (ctx T) (b + 1) (some l) K.bd { s with H := ⟨m, [f, [], (b, B) :: R none]⟩ } fun x s' => ∃ m' f', (∀ i, i < b + 1 → getF i f' = none) ∧ s'.H = ⟨m', [f', [], (b, B) :: R g]⟩ ∧ x = outB g) :
  YieldAt (ctx T) b args ⟨b + 1, [[], (b, K.blk .ready none []) :: R none]⟩ (.bool g.isNone) ⟨b + 1, [[], K.rows b R g]⟩ := by
 refine yieldAt_body (pend := none) (ks := K.ks) (vs := K.vs) (ts := []) (sz := K.sz) (ps := K.ps) (assign := K.as') (body := K.bd) (by simp [Heap.get, getFs, getF, RgK.blk]) hp fun l => ?_
 refine (hw l).mono fun x s hs => ?_
 obtain ⟨rfl, m, f, hH, hf, hb⟩ := hs
 refine ⟨rfl, none, K.ks, K.vs, [], K.sz, K.ps, K.as', K.bd, ⟨m, [f, [], (b, K.blk .busy none []) :: R none]⟩, ?_, ?_, (hb _ rfl).mono fun x s' hs' => ?_⟩
 ·rw [hH]; simp [Heap.get, getFs, getF, hf, RgK.blk]
 ·rw [hH]
  have hn : setF b (K.blk .busy none []) f = none := sF_none hf
  unfold RgK.blk at hn
  simp [Heap.set, setFs, setF, hn, RgK.blk]
 ·obtain ⟨m', f', hf', hH', rfl⟩ := hs'
  have hfb := hf' b (Nat.lt_succ_self b)
  have hn : ∀ k, setF b k f' = none := fun k => sF_none hfb
  refine ⟨.busy, none, K.ks, K.vs, [], K.sz, K.ps, K.as', K.bd, ⟨m', [f', [], (b, K.blk (leaveA (outB g)).2.1 (leaveA (outB g)).2.2 []) :: R g]⟩, ?_, ?_, ?_, idn (b + 1), [], ?_⟩
  ·rw [hH']; simp [Heap.get, getFs, getF, hfb, RgK.blk]
  ·rw [hH']; simp [Heap.set, setFs, setF, hn, RgK.blk]
  ·cases g <;> rfl
  ·have hg : ∀ e, e ∈ R g → Heap.get ⟨m', [f', [], (b, K.blk (leaveA (outB g)).2.1 (leaveA (outB g)).2.2 []) :: R g]⟩ e.1 = some e.2 := fun e he => by
    have h1 := ((h.rows g).2 e he).1
    have h2 : Nat.beq b e.1 = false := beqN_ne (by omega)
    simp only [Heap.get, getFs, hf' e.1 (by omega), getF, h2]
    rw [gF_of (h.rows g).1 he]
   refine h.fit (c := g) (st := (leaveA (outB g)).2.1) (pend := (leaveA (outB g)).2.2) (ts := []) (Nat.le_refl _) (Nat.le_refl _) (by simp [Heap.get, getFs, getF, hfb]) hg ?_
   cases g <;> simp [RgK.rows, outB, leaveA]
end
def bkVI (L : List Int) : AV := .func (.func 123) [] [.fptr [aInts L] 0]
theorem pure_bkVI (L : List Int) : pureV (bkVI L) = true := by simp [bkVI, pureV, pureL]
theorem c103 {T : List (Entry Tryz.prog)} (L : List Int) : CallAt (ctx T) 103 [aInts L] ⟨0, []⟩ (bkVI L) ⟨0, []⟩ := by
 refine callAt_body (fn := Tryz.f103) (s0 := ⟨[0, 1, 2], [aInts L, .undef, .undef], [], 4, ⟨0, [[]]⟩⟩) Tryz.func103 rfl rfl rfl ?_
 repeat apply wq
 refine wps_region callOK ?_
 simp [zS]
 repeat apply wq
 refine wps_region callOK ?_
 simp [zS]
 repeat apply wq
 refine wps_ret ?_
 simp [retVal, Tryz.f103, oneOr]
 refine ⟨[], [(0, [aInts L])], by simp [bkVI, fitV, fitL, lookC], .froze (by simp) fun x hx => ?_⟩
 rw [List.mem_singleton] at hx
 subst hx
 exact ⟨[aInts L], by simp [Heap.get, getFs, getF], fitL_pure (by simp [pureL]), by simp [pureL]⟩
noncomputable def e103 : Entry Tryz.prog := mkE 103 [[1]] (fun L : List Int => [aInts L]) (fun _ => True) bkVI fun L _ => c103 (T := []) L
theorem k103 {T : List (Entry Tryz.prog)} (hT : findE 103 T = some e103.g) (L : List Int) (H : Heap) : callL (ctx T) (.fn 103) [aInts L] H = some (bkVI L, H) :=
 mkE_pure hT (fun x y h => by simp only [List.cons.injEq, and_true] at h; exact inj_aInts h) L trivial (by simp [pureL]) (by simp [thawL]) H
section
variable {ρ : Type} {K : RgK} {b : Nat} {R : Option ρ → List (Nat × Blk)}
theorem back_callI {T : List (Entry Tryz.prog)} (h : K.Ok b R) (L : List Int) (hl : L.length ≤ 1000000) (go : Nat → Option ρ) (hy : ∀ j (hj : j < L.length), YieldAt (ctx T) b [.int .i64 (j : Int), .int .i64 L[j]] ⟨b + 1, [[], (b, K.blk .ready none []) :: R none]⟩ (.bool (go j).isNone) ⟨b + 1, [[], K.rows b R (go j)]⟩) :
  CallAt (ctx T) 123 [.yld b, .fptr [aInts L] 0] ⟨b + 1, [(b, K.blk .ready none []) :: R none]⟩ (.tup []) ⟨b + 1, [K.rows b R (runB go L.length)]⟩ := by
 obtain ⟨w, hw⟩ : ∃ w : Int, w = (L.length : Int) - 1 := ⟨_, rfl⟩
 have hws : wr .i64 ((L.length : Int) - 1) = some w := by rw [hw]; exact wr_small (by omega) (by omega)
 have lb : lookN b (idn (b + 1)) = some b := lookN_idn (Nat.lt_succ_self b)
 have gb : ∀ {c : Option ρ} {n : Nat}, ∀ e, e ∈ R c → Heap.get ⟨n, [[], K.rows b R c]⟩ e.1 = some e.2 := fun {c n} e he => by
  have h1 := ((h.rows c).2 e he).1
  have h2 : Nat.beq b e.1 = false := beqN_ne (by omega)
  cases c with
  | none => simp only [Heap.get, getFs, getF, RgK.rows, h2]; rw [gF_of (h.rows _).1 he]
  | some r => simp only [Heap.get, getFs, getF, RgK.rows, h2]; rw [gF_of (h.rows _).1 he]
 have lnL : ∀ H, lenA Tryz.prog H 32 (aInts L) = some L.length := fun H => lenI
 refine callAt_body (fn := Tryz.f123) (s0 := ⟨[0, 1, 3], [.yld b, .fptr [aInts L] 0, .undef], [], 19, ⟨b + 1, [] :: [(b, K.blk .ready none []) :: R none]⟩⟩) Tryz.func123 rfl rfl rfl ?_
 repeat apply wq
 refine wps_region callOK ?_
 simp [zS, lnL, hws]
 repeat apply wq
 refine wps_block (wps_loop' (fun x : Nat × Int => (⟨[0, 1, 3], [.yld b, .fptr [aInts L] 0, .int .i64 x.2], [], 19, ⟨b + 1, [[], (b, K.blk .ready none []) :: R none]⟩⟩ : St))
  (fun x => x.1 ≤ L.length ∧ x.2 = (x.1 : Int) - 1 ∧ runB go L.length = runB go x.1) (fun x => x.1) (idn (b + 1)) [] (L.length, w) ⟨Nat.le_refl _, hw, rfl⟩
  ⟨rfl, rfl, rfl, by simp [fitL, fitV, pureV, pureL, lb], h.fit (c := none) (st := .ready) (pend := none) (ts := []) (Nat.le_refl _) (Nat.le_refl _) (by simp [Heap.get, getFs, getF, RgK.rows]) (gb (c := none)) (by simp)⟩ ?_)
 rintro ⟨j, v⟩ ⟨hj, hv, hx⟩ B hB
 simp only at hj hv hx
 cases j with
 | zero =>
  have hn : ¬ 0 ≤ v := by omega
  repeat apply wq
  refine wps_region callOK ?_
  simp [zS, hn]
  repeat apply wq
  refine wps_cf rfl ?_
  repeat apply wq
  refine wps_exit ?_
  simp
  refine ⟨[], rfl, idn (b + 1), [], by simp [oneOr, fitV, fitL], ?_⟩
  rw [hx]
  exact h.fit (c := none) (st := .ready) (pend := none) (ts := []) (Nat.le_refl _) (Nat.le_refl _) (by simp [Heap.get, getFs, getF, RgK.rows]) (gb (c := none)) (by simp [runB, RgK.rows])
 | succ q =>
  have hvq : v = (q : Int) := by omega
  subst hvq
  have hq : q < L.length := by omega
  have hyq := hy q hq
  have hix : indexAddrA Tryz.prog 32 (aInts L) (.int .i64 (q : Int)) = some (.fptr [.int .i64 L[q]] 0) := atIx hq
  have hn : (0 : Int) ≤ (q : Int) := by omega
  have hs1 : wr .i64 ((q : Int) - 1) = some ((q : Int) - 1) := wr_small (by omega) (by omega)
  simp only [runB] at hx
  generalize L[q] = x at *
  repeat apply wq
  refine wps_region callOK ?_
  simp [zS, hn]
  repeat apply wq
  refine wps_ct rfl ?_
  repeat apply wq
  refine wps_skip ?_
  simp
  repeat apply wq
  refine wps_block ?_
  obtain ⟨g, hg⟩ : ∃ g, go q = g := ⟨_, rfl⟩
  rw [hg] at hx hyq
  cases g with
  | some r =>
   simp only [Option.isNone_some] at hyq
   repeat apply wq
   refine wps_region (callOKR [⟨b, _, _, _, _, hyq⟩]) ?_
   simp [zS, hix, nd_fold, aInt, callR_hit]
   repeat apply wq
   refine wps_ct rfl ?_
   repeat apply wq
   refine wps_ret ?_
   simp [thenQ, blockQ]
   refine ⟨[], rfl, idn (b + 1), [], by simp [oneOr, fitV, fitL], ?_⟩
   rw [hx]
   exact h.fit (c := some r) (st := .done) (pend := some .ret) (ts := []) (Nat.le_refl _) (Nat.le_refl _) (by simp [Heap.get, getFs, getF, RgK.rows]) (gb (c := some r)) (by simp [RgK.rows])
  | none =>
   simp only [Option.isNone_none] at hyq
   repeat apply wq
   refine wps_region (callOKR [⟨b, _, _, _, _, hyq⟩]) ?_
   simp [zS, hix, nd_fold, aInt, callR_hit]
   repeat apply wq
   refine wps_cf rfl ?_
   repeat apply wq
   refine wps_skip ?_
   simp
   repeat apply wq
   refine wps_region callOK ?_
   simp [zS, hs1]
   exact hB _ (q, (q : Int) - 1) (by simp) ⟨by simp only; omega, rfl, hx⟩ ⟨idn (b + 1), [], rfl, rfl, rfl, by simp [fitL, fitV, pureV, pureL, lb], h.fit (c := none) (st := .ready) (pend := none) (ts := []) (Nat.le_refl _) (Nat.le_refl _) (by simp [Heap.get, getFs, getF, RgK.rows]) (gb (c := none)) (by simp)⟩
theorem back_rangeI {T : List (Entry Tryz.prog)} (h : K.Ok b R) (L : List Int) {ts : List (Nat × AV)} {g : Operand} {ps : Array Nat} (hps : ps.toList = K.ps) (ho : opnd ⟨K.ks, K.vs, ts, K.sz, ⟨b, [R none]⟩⟩ g = some (bkVI L)) {r : Option ρ} {call : CallE}
  (hc : call (.fn 123) [.yld b, .fptr [aInts L] 0] ⟨b + 1, [(b, K.blk .ready none ts) :: R none]⟩ = some (.tup [], ⟨b + 1, [K.rows b R r]⟩)) :
  evalRange (ctx T) call g ps K.as' K.bd ⟨K.ks, K.vs, ts, K.sz, ⟨b, [R none]⟩⟩ = some (outB r, ⟨K.ks, K.vs, ts, K.sz, ⟨b + 1, [R r]⟩⟩) := by
 have hent : entersF (ctx T) 123 = true := by kernel_rfl
 unfold evalRange
 rw [ho]
 simp only [Option.bind_some, hent, bkVI, hps]
 have e : call (.fn 123) ([] ++ [.yld b] ++ [.fptr [aInts L] 0]) (Heap.new ⟨b, [R none]⟩ (.loop .ready none K.ks K.vs ts K.sz K.ps K.as' K.bd)) = some (.tup [], ⟨b + 1, [K.rows b R r]⟩) := hc
 rw [e]
 cases r with
 | none => simp [Heap.get, getFs, getF, RgK.rows, RgK.blk, outB, St.wH, Heap.drop, killFs, killF]
 | some r => simp [Heap.get, getFs, getF, RgK.rows, RgK.blk, outB, St.wH, Heap.drop, killFs, killF, jumpOut]
theorem wps_backI {T : List (Entry Tryz.prog)} (h : K.Ok b R) (L : List Int) (hl : L.length ≤ 1000000) (go : Nat → Option ρ) (hy : ∀ j (hj : j < L.length), YieldAt (ctx T) b [.int .i64 (j : Int), .int .i64 L[j]] ⟨b + 1, [[], (b, K.blk .ready none []) :: R none]⟩ (.bool (go j).isNone) ⟨b + 1, [[], K.rows b R (go j)]⟩)
  {ts : List (Nat × AV)} {g : Operand} {ps : Array Nat} (hps : ps.toList = K.ps) (ho : opnd ⟨K.ks, K.vs, ts, K.sz, ⟨b, [R none]⟩⟩ g = some (bkVI L)) {n : Nat} {Q : Out → St → Prop} (hq : Q (outB (runB go L.length)) ⟨K.ks, K.vs, ts, K.sz, ⟨b + 1, [R (runB go L.length)]⟩⟩) :
  WpS (ctx T) n (.rangeFunc g ps K.as' K.bd) ⟨K.ks, K.vs, ts, K.sz, ⟨b, [R none]⟩⟩ Q := by
 have lb : lookN b (idn (b + 1)) = some b := lookN_idn (Nat.lt_succ_self b)
 have hcall : CallAt (ctx T) 123 [.yld b, .fptr [aInts L] 0] ⟨b + 1, [(b, K.blk .ready none ts) :: R none]⟩ (.tup []) ⟨b + 1, [K.rows b R (runB go L.length)]⟩ :=
  (back_callI h L hl go hy).drop (σ := idn (b + 1)) (Φ := []) (fun _ => h.fit (c := none) (st := .ready) (pend := none) (ts := ts) (Nat.le_refl _) (Nat.le_refl _) (by simp [Heap.get, getFs, getF]) (fun e he => by
   have h1 := ((h.rows none).2 e he).1
   have h2 : Nat.beq b e.1 = false := beqN_ne (by omega)
   simp only [Heap.get, getFs, getF, h2]; rw [gF_of (h.rows _).1 he]) (by simp)) (by simp [fitL, fitV, pureV, pureL, lb])
 exact wps_range (callOKF [⟨123, _, _, _, _, hcall⟩]) ⟨_, _, back_rangeI (T := T) h L hps ho (r := runB go L.length) (by simp [callF]), hq⟩
end
abbrev lsSvg : Str := [100, 101, 115, 99, 32, 102, 111, 114, 101, 105, 103, 110, 79, 98, 106, 101, 99, 116, 32, 116, 105, 116, 108, 101]
abbrev lsMath : Str := [109, 105, 32, 109, 110, 32, 109, 111, 32, 109, 115, 32, 109, 116, 101, 120, 116]
abbrev lsSpecial : Str := [97, 100, 100, 114, 101, 115, 115, 32, 97, 112, 112, 108, 101, 116, 32, 97, 114, 101, 97, 32, 97, 114, 116, 105, 99, 108, 101, 32, 97, 115, 105, 100, 101, 32, 98, 97, 115, 101, 32, 98, 97, 115, 101, 102, 111, 110, 116, 32, 98, 103, 115, 111, 117, 110, 100, 32, 98, 108, 111, 99, 107, 113, 117, 111, 116, 101, 32, 98, 111, 100, 121, 32, 98, 114, 32, 98, 117, 116, 116, 111, 110, 32, 99, 97, 112, 116, 105, 111, 110, 32, 99, 101, 110, 116, 101, 114, 32, 99, 111, 108, 32, 99, 111, 108, 103, 114, 111, 117, 112, 32, 100, 100, 32, 100, 101, 116, 97, 105, 108, 115, 32, 100, 105, 114, 32, 100, 105, 118, 32, 100, 108, 32, 100, 116, 32, 101, 109, 98, 101, 100, 32, 102, 105, 101, 108, 100, 115, 101, 116, 32, 102, 105, 103, 99, 97, 112, 116, 105, 111, 110, 32, 102, 105, 103, 117, 114, 101, 32, 102, 111, 111, 116, 101, 114, 32, 102, 111, 114, 109, 32, 102, 114, 97, 109, 101, 32, 102, 114, 97, 109, 101, 115, 101, 116, 32, 104, 49, 32, 104, 50, 32, 104, 51, 32, 104, 52, 32, 104, 53, 32, 104, 54, 32, 104, 101, 97, 100, 32, 104, 101, 97, 100, 101, 114, 32, 104, 103, 114, 111, 117, 112, 32, 104, 114, 32, 104, 116, 109, 108, 32, 105, 102, 114, 97, 109, 101, 32, 105, 109, 103, 32, 105, 110, 112, 117, 116, 32, 107, 101, 121, 103, 101, 110, 32, 108, 105, 32, 108, 105, 110, 107, 32, 108, 105, 115, 116, 105, 110, 103, 32, 109, 97, 105, 110, 32, 109, 97, 114, 113, 117, 101, 101, 32, 109, 101, 110, 117, 32, 109, 101, 116, 97, 32, 110, 97, 118, 32, 110, 111, 101, 109, 98, 101, 100, 32, 110, 111, 102, 114, 97, 109, 101, 115, 32, 110, 111, 115, 99, 114, 105, 112, 116, 32, 111, 98, 106, 101, 99, 116, 32, 111, 108, 32, 111, 112, 116, 103, 114, 111, 117, 112, 32, 111, 112, 116, 105, 111, 110, 32, 112, 32, 112, 97, 114, 97, 109, 32, 112, 108, 97, 105, 110, 116, 101, 120, 116, 32, 112, 114, 101, 32, 115, 99, 114, 105, 112, 116, 32, 115, 101, 97, 114, 99, 104, 32, 115, 101, 99, 116, 105, 111, 110, 32, 115, 101, 108, 101, 99, 116, 32, 115, 111, 117, 114, 99, 101, 32, 115, 116, 121, 108, 101, 32, 115, 117, 109, 109, 97, 114, 121, 32, 116, 97, 98, 108, 101, 32, 116, 98, 111, 100, 121, 32, 116, 100, 32, 116, 101, 109, 112, 108, 97, 116, 101, 32, 116, 101, 120, 116, 97, 114, 101, 97, 32, 116, 102, 111, 111, 116, 32, 116, 104, 32, 116, 104, 101, 97, 100, 32, 116, 105, 116, 108, 101, 32, 116, 114, 32, 116, 114, 97, 99, 107, 32, 117, 108, 32, 119, 98, 114, 32, 120, 109, 112]
abbrev lsEnds : Str := [97, 112, 112, 108, 101, 116, 32, 99, 97, 112, 116, 105, 111, 110, 32, 104, 116, 109, 108, 32, 109, 97, 114, 113, 117, 101, 101, 32, 111, 98, 106, 101, 99, 116, 32, 116, 97, 98, 108, 101, 32, 116, 100, 32, 116, 101, 109, 112, 108, 97, 116, 101, 32, 116, 104]
abbrev lsTable : Str := [104, 116, 109, 108, 32, 116, 97, 98, 108, 101, 32, 116, 101, 109, 112, 108, 97, 116, 101]
def specialB (sp : Int) (x : Str) : Bool := if sp = 1 then inW lsSvg x else if sp = 2 then decide (x = [97, 110, 110, 111, 116, 97, 116, 105, 111, 110, 45, 120, 109, 108]) || inW lsMath x else decide (sp = 0) && inW lsSpecial x
def stopsB (sc sp : Int) (x : Str) : Bool :=
 if sc = 3 then decide (sp = 0) && inW lsTable x
 else if sc = 0 ∨ sc = 1 ∨ sc = 2 then
  if sp = 0 then (if x = [111, 108] ∨ x = [117, 108] then decide (sc = 1) else if x = [98, 117, 116, 116, 111, 110] then decide (sc = 2) else inW lsEnds x) else specialB sp x
 else !decide (sc = 4) || !decide (sp = 0) || (!decide (x = [111, 112, 116, 103, 114, 111, 117, 112]) && !decide (x = [111, 112, 116, 105, 111, 110]))
theorem c86 {T : List (Entry Tryz.prog)} (hc0 : findE 60 T = some e60a.g) (sp : Int) (x : Str) (hx : x.length ≤ 1000000000) : CallAt (ctx T) 86 [.int .i64 sp, .str x] ⟨0, []⟩ (.bool (specialB sp x)) ⟨0, []⟩ := by
 have kw0 := fun (x : Str) (hx : x.length ≤ 1000000000) (H : Heap) => k60a (W := [100, 101, 115, 99, 32, 102, 111, 114, 101, 105, 103, 110, 79, 98, 106, 101, 99, 116, 32, 116, 105, 116, 108, 101]) (x := x) hc0 (ascB (by decide)) (by decide) hx H
 have kw1 := fun (x : Str) (hx : x.length ≤ 1000000000) (H : Heap) => k60a (W := [109, 105, 32, 109, 110, 32, 109, 111, 32, 109, 115, 32, 109, 116, 101, 120, 116]) (x := x) hc0 (ascB (by decide)) (by decide) hx H
 have kw2 := fun (x : Str) (hx : x.length ≤ 1000000000) (H : Heap) => k60a (W := [97, 100, 100, 114, 101, 115, 115, 32, 97, 112, 112, 108, 101, 116, 32, 97, 114, 101, 97, 32, 97, 114, 116, 105, 99, 108, 101, 32, 97, 115, 105, 100, 101, 32, 98, 97, 115, 101, 32, 98, 97, 115, 101, 102, 111, 110, 116, 32, 98, 103, 115, 111, 117, 110, 100, 32, 98, 108, 111, 99, 107, 113, 117, 111, 116, 101, 32, 98, 111, 100, 121, 32, 98, 114, 32, 98, 117, 116, 116, 111, 110, 32, 99, 97, 112, 116, 105, 111, 110, 32, 99, 101, 110, 116, 101, 114, 32, 99, 111, 108, 32, 99, 111, 108, 103, 114, 111, 117, 112, 32, 100, 100, 32, 100, 101, 116, 97, 105, 108, 115, 32, 100, 105, 114, 32, 100, 105, 118, 32, 100, 108, 32, 100, 116, 32, 101, 109, 98, 101, 100, 32, 102, 105, 101, 108, 100, 115, 101, 116, 32, 102, 105, 103, 99, 97, 112, 116, 105, 111, 110, 32, 102, 105, 103, 117, 114, 101, 32, 102, 111, 111, 116, 101, 114, 32, 102, 111, 114, 109, 32, 102, 114, 97, 109, 101, 32, 102, 114, 97, 109, 101, 115, 101, 116, 32, 104, 49, 32, 104, 50, 32, 104, 51, 32, 104, 52, 32, 104, 53, 32, 104, 54, 32, 104, 101, 97, 100, 32, 104, 101, 97, 100, 101, 114, 32, 104, 103, 114, 111, 117, 112, 32, 104, 114, 32, 104, 116, 109, 108, 32, 105, 102, 114, 97, 109, 101, 32, 105, 109, 103, 32, 105, 110, 112, 117, 116, 32, 107, 101, 121, 103, 101, 110, 32, 108, 105, 32, 108, 105, 110, 107, 32, 108, 105, 115, 116, 105, 110, 103, 32, 109, 97, 105, 110, 32, 109, 97, 114, 113, 117, 101, 101, 32, 109, 101, 110, 117, 32, 109, 101, 116, 97, 32, 110, 97, 118, 32, 110, 111, 101, 109, 98, 101, 100, 32, 110, 111, 102, 114, 97, 109, 101, 115, 32, 110, 111, 115, 99, 114, 105, 112, 116, 32, 111, 98, 106, 101, 99, 116, 32, 111, 108, 32, 111, 112, 116, 103, 114, 111, 117, 112, 32, 111, 112, 116, 105, 111, 110, 32, 112, 32, 112, 97, 114, 97, 109, 32, 112, 108, 97, 105, 110, 116, 101, 120, 116, 32, 112, 114, 101, 32, 115, 99, 114, 105, 112, 116, 32, 115, 101, 97, 114, 99, 104, 32, 115, 101, 99, 116, 105, 111, 110, 32, 115, 101, 108, 101, 99, 116, 32, 115, 111, 117, 114, 99, 101, 32, 115, 116, 121, 108, 101, 32, 115, 117, 109, 109, 97, 114, 121, 32, 116, 97, 98, 108, 101, 32, 116, 98, 111, 100, 121, 32, 116, 100, 32, 116, 101, 109, 112, 108, 97, 116, 101, 32, 116, 101, 120, 116, 97, 114, 101, 97, 32, 116, 102, 111, 111, 116, 32, 116, 104, 32, 116, 104, 101, 97, 100, 32, 116, 105, 116, 108, 101, 32, 116, 114, 32, 116, 114, 97, 99, 107, 32, 117, 108, 32, 119, 98, 114, 32, 120, 109, 112]) (x := x) hc0 (ascB (by decide)) (by decide) hx H
 refine callAt_body (fn := Tryz.f86) (s0 := ⟨[0, 1, 4, 5], [.int .i64 sp, .str x, .undef, .undef], [], 24, ⟨0, [[]]⟩⟩) Tryz.func86 rfl rfl rfl ?_
 (repeat' (first
  | with_reducible refine wps_seq ?_
  | with_reducible refine wps_block ?_
  | (with_reducible refine wps_label ?_; simp only [thenQ, blockQ])
  | (with_reducible refine wps_region callOK ?_; apply runE; simp [zS, *]; exact rfl)
  | (refine wps_drawK mixed callOK (by decide +kernel) (by decide +kernel) ?_; apply runE; simp [zS, evalK_c, evalK_nil, thenK_some, *]; exact rfl)
  | (with_reducible refine run_end ?_; simp only [thenQ, blockQ])
  | (with_reducible refine gate_splitK (fun hc => ?_) (fun hc => ?_) <;> ((have hd := hc); (try simp at hd); (try subst hd); apply runE; simp [zS, evalK_c, evalK_nil, thenK_some, *]; exact rfl))
  | (with_reducible refine pick_splitK (fun hc => ?_) (fun hc => ?_) <;> ((have hd := hc); (try simp at hd); (try subst hd); apply runE; simp [zS, evalK_c, evalK_nil, thenK_some, *]; exact rfl))
  | (with_reducible refine gate_split (fun hc => ?_) (fun hc => ?_) <;> ((have hd := hc); (try simp at hd); (try subst hd); apply runE; simp [zS, *]; exact rfl))
  | (with_reducible refine pick_split (fun hc => ?_) (fun hc => ?_) <;> ((have hd := hc); (try simp at hd); (try subst hd); apply runE; simp [zS, *]; exact rfl))
  | (refine wps_ct rfl ?_)
  | (refine wps_cf rfl ?_)
  | (refine wps_cond rfl (fun hc => ?_) (fun hc => ?_) <;> ((have hd := hc); (try simp at hd); (try subst hd)))
  | (with_reducible refine wps_skip ?_; simp only [thenQ, blockQ])
  | (with_reducible refine wps_exit ?_; simp [thenQ, blockQ])
  | (with_reducible refine wps_ret ?_; simp [retVal, Tryz.f86, oneOr, thenQ, blockQ])))
 all_goals first | exact ends_pure rfl (by simp [specialB, *]) | (exfalso; omega)
theorem inj_86 (x y : Int × Str) (h : (fun z : Int × Str => ([.int .i64 z.1, .str z.2] : List AV)) x = (fun z : Int × Str => ([.int .i64 z.1, .str z.2] : List AV)) y) : x = y := by
 obtain ⟨x0, x1⟩ := x
 obtain ⟨y0, y1⟩ := y
 simp only [List.cons.injEq, and_true] at h
 obtain ⟨h0, h1⟩ := h
 have g0 : x0 = y0 := AV.int.inj h0 |>.2
 have g1 : x1 = y1 := AV.str.inj h1
 subst g0 g1
 rfl
noncomputable def e86 : Entry Tryz.prog := mkE 86 [[], []] (fun z : Int × Str => [.int .i64 z.1, .str z.2]) (fun z => (z.2.length ≤ 1000000000)) (fun z => .bool (specialB z.1 z.2)) fun z h => c86 (T := [e60a]) rfl z.1 z.2 h
theorem k86 {T : List (Entry Tryz.prog)} (hT : findE 86 T = some e86.g) (sp : Int) (x : Str) (hx : x.length ≤ 1000000000) (H : Heap) : callL (ctx T) (.fn 86) [.int .i64 sp, .str x] H = some (.bool (specialB sp x), H) :=
 mkE_scalar hT inj_86 (sp, x) hx rfl (by simp [thawA_ok])
theorem c74 {T : List (Entry Tryz.prog)} (hc0 : findE 60 T = some e60a.g) (hc1 : findE 86 T = some e86.g) (sc : Int) (sp : Int) (x : Str) (hx : x.length ≤ 1000000000) : CallAt (ctx T) 74 [.int .i64 sc, .int .i64 sp, .str x] ⟨0, []⟩ (.bool (stopsB sc sp x)) ⟨0, []⟩ := by
 have kw0 := fun (x : Str) (hx : x.length ≤ 1000000000) (H : Heap) => k60a (W := [104, 116, 109, 108, 32, 116, 97, 98, 108, 101, 32, 116, 101, 109, 112, 108, 97, 116, 101]) (x := x) hc0 (ascB (by decide)) (by decide) hx H
 have kw1 := fun (x : Str) (hx : x.length ≤ 1000000000) (H : Heap) => k60a (W := [97, 112, 112, 108, 101, 116, 32, 99, 97, 112, 116, 105, 111, 110, 32, 104, 116, 109, 108, 32, 109, 97, 114, 113, 117, 101, 101, 32, 111, 98, 106, 101, 99, 116, 32, 116, 97, 98, 108, 101, 32, 116, 100, 32, 116, 101, 109, 112, 108, 97, 116, 101, 32, 116, 104]) (x := x) hc0 (ascB (by decide)) (by decide) hx H
 have kc1 := @k86 T hc1
 refine callAt_body (fn := Tryz.f74) (s0 := ⟨[0, 1, 2, 6, 7, 10, 32, 41, 42], [.int .i64 sc, .int .i64 sp, .str x, .undef, .undef, .undef, .undef, .undef, .undef], [], 53, ⟨0, [[]]⟩⟩) Tryz.func74 rfl rfl rfl ?_
 (repeat' (first
  | with_reducible refine wps_seq ?_
  | with_reducible refine wps_block ?_
  | (with_reducible refine wps_label ?_; simp only [thenQ, blockQ])
  | (with_reducible refine wps_region callOK ?_; apply runE; simp [zS, *]; exact rfl)
  | (refine wps_drawK mixed callOK (by decide +kernel) (by decide +kernel) ?_; apply runE; simp [zS, evalK_c, evalK_nil, thenK_some, *]; exact rfl)
  | (with_reducible refine run_end ?_; simp only [thenQ, blockQ])
  | (with_reducible refine gate_splitK (fun hc => ?_) (fun hc => ?_) <;> ((have hd := hc); (try simp at hd); (try subst hd); apply runE; simp [zS, evalK_c, evalK_nil, thenK_some, *]; exact rfl))
  | (with_reducible refine pick_splitK (fun hc => ?_) (fun hc => ?_) <;> ((have hd := hc); (try simp at hd); (try subst hd); apply runE; simp [zS, evalK_c, evalK_nil, thenK_some, *]; exact rfl))
  | (with_reducible refine gate_split (fun hc => ?_) (fun hc => ?_) <;> ((have hd := hc); (try simp at hd); (try subst hd); apply runE; simp [zS, *]; exact rfl))
  | (with_reducible refine pick_split (fun hc => ?_) (fun hc => ?_) <;> ((have hd := hc); (try simp at hd); (try subst hd); apply runE; simp [zS, *]; exact rfl))
  | (refine wps_ct rfl ?_)
  | (refine wps_cf rfl ?_)
  | (refine wps_cond rfl (fun hc => ?_) (fun hc => ?_) <;> ((have hd := hc); (try simp at hd); (try subst hd)))
  | (with_reducible refine wps_skip ?_; simp only [thenQ, blockQ])
  | (with_reducible refine wps_exit ?_; simp [thenQ, blockQ])
  | (with_reducible refine wps_ret ?_; simp [retVal, Tryz.f74, oneOr, thenQ, blockQ])))
 all_goals first | exact ends_pure rfl (by simp [stopsB, *]) | (exfalso; omega)
theorem inj_74 (x y : Int × Int × Str) (h : (fun z : Int × Int × Str => ([.int .i64 z.1, .int .i64 z.2.1, .str z.2.2] : List AV)) x = (fun z : Int × Int × Str => ([.int .i64 z.1, .int .i64 z.2.1, .str z.2.2] : List AV)) y) : x = y := by
 obtain ⟨x0, x1, x2⟩ := x
 obtain ⟨y0, y1, y2⟩ := y
 simp only [List.cons.injEq, and_true] at h
 obtain ⟨h0, h1, h2⟩ := h
 have g0 : x0 = y0 := AV.int.inj h0 |>.2
 have g1 : x1 = y1 := AV.int.inj h1 |>.2
 have g2 : x2 = y2 := AV.str.inj h2
 subst g0 g1 g2
 rfl
noncomputable def e74 : Entry Tryz.prog := mkE 74 [[], [], []] (fun z : Int × Int × Str => [.int .i64 z.1, .int .i64 z.2.1, .str z.2.2]) (fun z => (z.2.2.length ≤ 1000000000)) (fun z => .bool (stopsB z.1 z.2.1 z.2.2)) fun z h => c74 (T := [e60a, e86]) rfl rfl z.1 z.2.1 z.2.2 h
theorem k74 {T : List (Entry Tryz.prog)} (hT : findE 74 T = some e74.g) (sc : Int) (sp : Int) (x : Str) (hx : x.length ≤ 1000000000) (H : Heap) : callL (ctx T) (.fn 74) [.int .i64 sc, .int .i64 sp, .str x] H = some (.bool (stopsB sc sp x), H) :=
 mkE_scalar hT inj_74 (sc, sp, x) hx rfl (by simp [thawA_ok])
def lexedI (x : Str) : Int := if x = [116, 101, 120, 116, 97, 114, 101, 97] ∨ x = [116, 105, 116, 108, 101] then 1 else if x = [105, 102, 114, 97, 109, 101] ∨ x = [110, 111, 101, 109, 98, 101, 100] ∨ x = [110, 111, 102, 114, 97, 109, 101, 115] ∨ x = [115, 116, 121, 108, 101] ∨ x = [120, 109, 112] then 2 else if x = [115, 99, 114, 105, 112, 116] then 3 else if x = [112, 108, 97, 105, 110, 116, 101, 120, 116] then 4 else 0
theorem c15 {T : List (Entry Tryz.prog)} (x : Str) : CallAt (ctx T) 15 [.str x] ⟨0, []⟩ (.int .i64 (lexedI x)) ⟨0, []⟩ := by
 refine callAt_body (fn := Tryz.f15) (s0 := ⟨[0, 2, 3, 4, 7], [.str x, .undef, .undef, .undef, .undef], [], 17, ⟨0, [[]]⟩⟩) Tryz.func15 rfl rfl rfl ?_
 (repeat' (first
  | with_reducible refine wps_seq ?_
  | with_reducible refine wps_block ?_
  | (with_reducible refine wps_label ?_; simp only [thenQ, blockQ])
  | (with_reducible refine wps_region callOK ?_; apply runE; simp [zS, *]; exact rfl)
  | (refine wps_drawK mixed callOK (by decide +kernel) (by decide +kernel) ?_; apply runE; simp [zS, evalK_c, evalK_nil, thenK_some, *]; exact rfl)
  | (with_reducible refine run_end ?_; simp only [thenQ, blockQ])
  | (with_reducible refine gate_splitK (fun hc => ?_) (fun hc => ?_) <;> ((have hd := hc); (try simp at hd); (try subst hd); apply runE; simp [zS, evalK_c, evalK_nil, thenK_some, *]; exact rfl))
  | (with_reducible refine pick_splitK (fun hc => ?_) (fun hc => ?_) <;> ((have hd := hc); (try simp at hd); (try subst hd); apply runE; simp [zS, evalK_c, evalK_nil, thenK_some, *]; exact rfl))
  | (with_reducible refine gate_split (fun hc => ?_) (fun hc => ?_) <;> ((have hd := hc); (try simp at hd); (try subst hd); apply runE; simp [zS, *]; exact rfl))
  | (with_reducible refine pick_split (fun hc => ?_) (fun hc => ?_) <;> ((have hd := hc); (try simp at hd); (try subst hd); apply runE; simp [zS, *]; exact rfl))
  | (refine wps_ct rfl ?_)
  | (refine wps_cf rfl ?_)
  | (refine wps_cond rfl (fun hc => ?_) (fun hc => ?_) <;> ((have hd := hc); (try simp at hd); (try subst hd)))
  | (with_reducible refine wps_skip ?_; simp only [thenQ, blockQ])
  | (with_reducible refine wps_exit ?_; simp [thenQ, blockQ])
  | (with_reducible refine wps_ret ?_; simp [retVal, Tryz.f15, oneOr, thenQ, blockQ])))
 all_goals first | exact ends_pure rfl (by simp [lexedI, *]) | (exfalso; omega)
theorem inj_15 (x y : Str) (h : (fun z : Str => ([.str z] : List AV)) x = (fun z : Str => ([.str z] : List AV)) y) : x = y := by
 simp only [List.cons.injEq, and_true] at h
 exact AV.str.inj h
noncomputable def e15 : Entry Tryz.prog := mkE 15 [[]] (fun z : Str => [.str z]) (fun z => True) (fun z => .int .i64 (lexedI z)) fun z h => c15 (T := [])  z 
theorem k15 {T : List (Entry Tryz.prog)} (hT : findE 15 T = some e15.g) (x : Str) (H : Heap) : callL (ctx T) (.fn 15) [.str x] H = some (.int .i64 (lexedI x), H) :=
 mkE_scalar hT inj_15 (x) trivial rfl (by simp [thawA_ok])
end Go.Proofs.YtfgdcciaecajpaaGreat