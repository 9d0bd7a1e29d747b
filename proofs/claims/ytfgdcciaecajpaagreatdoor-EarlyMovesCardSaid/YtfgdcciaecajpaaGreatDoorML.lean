/- A state and a token, in rows; entries of calls that take them. No condition. -/
import Derived.Test.YtfgdcciaecajpaaGreatDoorMJ
import Derived.Test.YtfgdcciaecajpaaGreatDoorMI
import Derived.Test.YtfgdcciaecajpaaGreatDoorMK
import Derived.Test.YtfgdcciaecajpaaGreatDoorMG
import Derived.Test.YtfgdcciaecajpaaGreatDoorMH
namespace Go.Proofs.YtfgdcciaecajpaaGreatDoor
set_option linter.unusedSimpArgs false
set_option linter.unusedVariables false
open Go Go.RowKit
set_option maxRecDepth 100000
@[simp] theorem szT23 : sizeT Tryz.prog 23 = some 1 := rfl
@[simp] theorem agT23 : aggT Tryz.prog 23 = some false := rfl
@[simp] theorem byT23 : bytesT Tryz.prog 23 = some 8 := rfl
@[simp] theorem alT23 (H : Heap) : alV Tryz.prog H 23 = some (.ptr H.n 0, H.new (.cells [.nilP])) := rfl
@[simp] theorem zeT23 : zeroOf Tryz.prog 23 = some (.nilP) := rfl
attribute [simp] Tryz.underlying23
@[simp 500] theorem rvF23 (H : Heap) (cs : List AV) (o : Nat) : readVar Tryz.prog H 23 (.fptr cs o) = getL cs o := rfl
@[simp 500] theorem rvP23 (H : Heap) (b o : Nat) : readVar Tryz.prog H 23 (.ptr b o) = (H.get b).bind fun k => k.rd.bind fun cs => getL cs o := rfl
@[simp] theorem szT27 : sizeT Tryz.prog 27 = some 5 := rfl
@[simp] theorem agT27 : aggT Tryz.prog 27 = some true := rfl
@[simp] theorem byT27 : bytesT Tryz.prog 27 = some 72 := rfl
@[simp] theorem alT27 (H : Heap) : alV Tryz.prog H 27 = some (.ptr H.n 0, H.new (.cells [.int .i64 0, .str [], .nilS, .bool false, .str []])) := rfl
@[simp] theorem zeT27 : zeroOf Tryz.prog 27 = some (.agg [.int .i64 0, .str [], .nilS, .bool false, .str []]) := rfl
attribute [simp] Tryz.underlying27
@[simp 500] theorem rvF27 (H : Heap) (cs : List AV) (o : Nat) : readVar Tryz.prog H 27 (.fptr cs o) = (subL o 5 cs).bind fun cs => some (.agg cs) := rfl
@[simp 500] theorem rvP27 (H : Heap) (b o : Nat) : readVar Tryz.prog H 27 (.ptr b o) = (readCells H b o 5).bind fun cs => some (.agg cs) := rfl
@[simp] theorem fa27_0 (x : AV) : fieldAddrA Tryz.prog 27 x 0 = (match x with | .ptr b o => some (.ptr b (o + 0)) | .fptr cs o => some (.fptr cs (o + 0)) | _ => none) := rfl
@[simp] theorem fd27_0 (cs : List AV) : fieldA Tryz.prog 27 (.agg cs) 0 = getL cs 0 := rfl
@[simp] theorem fa27_1 (x : AV) : fieldAddrA Tryz.prog 27 x 1 = (match x with | .ptr b o => some (.ptr b (o + 1)) | .fptr cs o => some (.fptr cs (o + 1)) | _ => none) := rfl
@[simp] theorem fd27_1 (cs : List AV) : fieldA Tryz.prog 27 (.agg cs) 1 = getL cs 1 := rfl
@[simp] theorem fa27_2 (x : AV) : fieldAddrA Tryz.prog 27 x 2 = (match x with | .ptr b o => some (.ptr b (o + 2)) | .fptr cs o => some (.fptr cs (o + 2)) | _ => none) := rfl
@[simp] theorem fd27_2 (cs : List AV) : fieldA Tryz.prog 27 (.agg cs) 2 = getL cs 2 := rfl
@[simp] theorem fa27_3 (x : AV) : fieldAddrA Tryz.prog 27 x 3 = (match x with | .ptr b o => some (.ptr b (o + 3)) | .fptr cs o => some (.fptr cs (o + 3)) | _ => none) := rfl
@[simp] theorem fd27_3 (cs : List AV) : fieldA Tryz.prog 27 (.agg cs) 3 = getL cs 3 := rfl
@[simp] theorem fa27_4 (x : AV) : fieldAddrA Tryz.prog 27 x 4 = (match x with | .ptr b o => some (.ptr b (o + 4)) | .fptr cs o => some (.fptr cs (o + 4)) | _ => none) := rfl
@[simp] theorem fd27_4 (cs : List AV) : fieldA Tryz.prog 27 (.agg cs) 4 = getL cs 4 := rfl
@[simp] theorem szT34 : sizeT Tryz.prog 34 = some 11 := rfl
@[simp] theorem agT34 : aggT Tryz.prog 34 = some true := rfl
@[simp] theorem byT34 : bytesT Tryz.prog 34 = some 136 := rfl
@[simp] theorem alT34 (H : Heap) : alV Tryz.prog H 34 = some (.ptr H.n 0, H.new (.cells [.nilS, .nilS, .nilS, .int .i64 0, .int .i64 0, .int .i64 0, .int .i64 0, .int .i64 0, .bool false, .bool false, .str []])) := rfl
@[simp] theorem zeT34 : zeroOf Tryz.prog 34 = some (.agg [.nilS, .nilS, .nilS, .int .i64 0, .int .i64 0, .int .i64 0, .int .i64 0, .int .i64 0, .bool false, .bool false, .str []]) := rfl
attribute [simp] Tryz.underlying34
@[simp 500] theorem rvF34 (H : Heap) (cs : List AV) (o : Nat) : readVar Tryz.prog H 34 (.fptr cs o) = (subL o 11 cs).bind fun cs => some (.agg cs) := rfl
@[simp 500] theorem rvP34 (H : Heap) (b o : Nat) : readVar Tryz.prog H 34 (.ptr b o) = (readCells H b o 11).bind fun cs => some (.agg cs) := rfl
@[simp] theorem fa34_0 (x : AV) : fieldAddrA Tryz.prog 34 x 0 = (match x with | .ptr b o => some (.ptr b (o + 0)) | .fptr cs o => some (.fptr cs (o + 0)) | _ => none) := rfl
@[simp] theorem fd34_0 (cs : List AV) : fieldA Tryz.prog 34 (.agg cs) 0 = (subL 0 1 cs).bind fun r => some (.agg r) := rfl
@[simp] theorem fa34_1 (x : AV) : fieldAddrA Tryz.prog 34 x 1 = (match x with | .ptr b o => some (.ptr b (o + 1)) | .fptr cs o => some (.fptr cs (o + 1)) | _ => none) := rfl
@[simp] theorem fd34_1 (cs : List AV) : fieldA Tryz.prog 34 (.agg cs) 1 = getL cs 1 := rfl
@[simp] theorem fa34_2 (x : AV) : fieldAddrA Tryz.prog 34 x 2 = (match x with | .ptr b o => some (.ptr b (o + 2)) | .fptr cs o => some (.fptr cs (o + 2)) | _ => none) := rfl
@[simp] theorem fd34_2 (cs : List AV) : fieldA Tryz.prog 34 (.agg cs) 2 = getL cs 2 := rfl
@[simp] theorem fa34_3 (x : AV) : fieldAddrA Tryz.prog 34 x 3 = (match x with | .ptr b o => some (.ptr b (o + 3)) | .fptr cs o => some (.fptr cs (o + 3)) | _ => none) := rfl
@[simp] theorem fd34_3 (cs : List AV) : fieldA Tryz.prog 34 (.agg cs) 3 = getL cs 3 := rfl
@[simp] theorem fa34_4 (x : AV) : fieldAddrA Tryz.prog 34 x 4 = (match x with | .ptr b o => some (.ptr b (o + 4)) | .fptr cs o => some (.fptr cs (o + 4)) | _ => none) := rfl
@[simp] theorem fd34_4 (cs : List AV) : fieldA Tryz.prog 34 (.agg cs) 4 = getL cs 4 := rfl
@[simp] theorem fa34_5 (x : AV) : fieldAddrA Tryz.prog 34 x 5 = (match x with | .ptr b o => some (.ptr b (o + 5)) | .fptr cs o => some (.fptr cs (o + 5)) | _ => none) := rfl
@[simp] theorem fd34_5 (cs : List AV) : fieldA Tryz.prog 34 (.agg cs) 5 = getL cs 5 := rfl
@[simp] theorem fa34_6 (x : AV) : fieldAddrA Tryz.prog 34 x 6 = (match x with | .ptr b o => some (.ptr b (o + 6)) | .fptr cs o => some (.fptr cs (o + 6)) | _ => none) := rfl
@[simp] theorem fd34_6 (cs : List AV) : fieldA Tryz.prog 34 (.agg cs) 6 = getL cs 6 := rfl
@[simp] theorem fa34_7 (x : AV) : fieldAddrA Tryz.prog 34 x 7 = (match x with | .ptr b o => some (.ptr b (o + 7)) | .fptr cs o => some (.fptr cs (o + 7)) | _ => none) := rfl
@[simp] theorem fd34_7 (cs : List AV) : fieldA Tryz.prog 34 (.agg cs) 7 = getL cs 7 := rfl
@[simp] theorem fa34_8 (x : AV) : fieldAddrA Tryz.prog 34 x 8 = (match x with | .ptr b o => some (.ptr b (o + 8)) | .fptr cs o => some (.fptr cs (o + 8)) | _ => none) := rfl
@[simp] theorem fd34_8 (cs : List AV) : fieldA Tryz.prog 34 (.agg cs) 8 = getL cs 8 := rfl
@[simp] theorem fa34_9 (x : AV) : fieldAddrA Tryz.prog 34 x 9 = (match x with | .ptr b o => some (.ptr b (o + 9)) | .fptr cs o => some (.fptr cs (o + 9)) | _ => none) := rfl
@[simp] theorem fd34_9 (cs : List AV) : fieldA Tryz.prog 34 (.agg cs) 9 = getL cs 9 := rfl
@[simp] theorem fa34_10 (x : AV) : fieldAddrA Tryz.prog 34 x 10 = (match x with | .ptr b o => some (.ptr b (o + 10)) | .fptr cs o => some (.fptr cs (o + 10)) | _ => none) := rfl
@[simp] theorem fd34_10 (cs : List AV) : fieldA Tryz.prog 34 (.agg cs) 10 = getL cs 10 := rfl
@[simp] theorem szT36 : sizeT Tryz.prog 36 = some 1 := rfl
@[simp] theorem agT36 : aggT Tryz.prog 36 = some false := rfl
@[simp] theorem byT36 : bytesT Tryz.prog 36 = some 8 := rfl
@[simp] theorem alT36 (H : Heap) : alV Tryz.prog H 36 = some (.ptr H.n 0, H.new (.cells [.nilP])) := rfl
@[simp] theorem zeT36 : zeroOf Tryz.prog 36 = some (.nilP) := rfl
attribute [simp] Tryz.underlying36
@[simp 500] theorem rvF36 (H : Heap) (cs : List AV) (o : Nat) : readVar Tryz.prog H 36 (.fptr cs o) = getL cs o := rfl
@[simp 500] theorem rvP36 (H : Heap) (b o : Nat) : readVar Tryz.prog H 36 (.ptr b o) = (H.get b).bind fun k => k.rd.bind fun cs => getL cs o := rfl
section
variable {s s' : SS} {n k : Nat} {f : List (Nat × Blk)}
theorem vset {t : Tr} (hs : s.tree = t) (hne : t ≠ []) (o a : List Int) (m1 m2 m3 m4 m5 : Int) (b1 b2 : Bool) (i : Str) :
  setF 0 (.cells [nV k t, aInts o, aInts a, .int .i64 m1, .int .i64 m2, .int .i64 m3, .int .i64 m4, .int .i64 m5, .bool b1, .bool b2, .str i]) (VS k s) = some (VS k ⟨t, o, a, m1, m2, m3, m4, m5, b1, b2, i⟩) := by
 subst hs
 rw [VS_eq hne, VS_eq (by exact hne)]
 rfl
theorem ends_S {v v' : AV} (e : v = v') (es : s = s') (hv : pureV v' = true) (k0 : 0 < k) (hne : s'.tree ≠ []) (hf0 : getF 0 f = none) (hfk : getF k f = none) : ∃ σ Φ, fitV σ Φ v v' ∧ FitH 2 σ Φ ⟨n, [f, VS k s]⟩ ⟨3, [VS 2 s']⟩ :=
 by subst e; subst es; exact ⟨_, [], fitV_pure hv, fitS ⟨by omega, by omega, by omega⟩ (by omega) k0 hne hf0 hfk⟩
end
@[simp] theorem clA (L : List At1) : (aAttrs L).cells = [aAttrs L] := rfl
@[simp] theorem sgA (L : List At1) : (aAttrs L).single = true := rfl
@[simp] theorem sgI (L : List Int) : (AV.fslc 1 (L.map aInt)).single = true := rfl
@[simp] theorem rfA (L : List At1) (n : Nat) : refs n (aAttrs L) = [] := refs_pure _ _ (by simp)
@[simp] theorem rfI (L : List Int) (n : Nat) : refs n (AV.fslc 1 (L.map aInt)) = [] := refs_pure _ _ (by simp)
def whV (t : Tr) (i : Int) : AV := .tup [.int .i64 i, .int .i64 ((nodeAt t i).kids.length : Int)]
@[simp] theorem pure_whV (t : Tr) (i : Int) : pureV (whV t i) = true := by simp [whV, pureV, pureL]
theorem c66 {T : List (Entry Tryz.prog)} {s : SS} (ne : s.tree ≠ []) (x : Int) (h0 : 0 ≤ x) (h1 : x < (s.tree.length : Int)) : SC T 66 [.int .i64 x] s (whV s.tree x) (s) := by
 have g0 := @vg0
 have v0 := @vset
 obtain ⟨u, e⟩ : ∃ u : Nat, x = (u : Int) := ⟨x.toNat, by omega⟩
 have hu : u < s.tree.length := by omega
 have gk := vgk (k := 1) (s := s) (by omega) ne
 have ix := ixN (k := 1) hu
 have gN := getN (c := 6) hu (by omega)
 have lI : ∀ H, lenA Tryz.prog H 32 (aInts (nodeAt s.tree (u : Int)).kids) = some (nodeAt s.tree (u : Int)).kids.length := fun H => lenI
 refine callAt_body (fn := Tryz.f66) (s0 := ⟨[0, 1, 4, 5], [.ptr 0 0, .int .i64 x, .undef, .undef], [], 17, ⟨2, [] :: [VS 1 s]⟩⟩) Tryz.func66 rfl rfl rfl ?_
 (repeat' (first
  | with_reducible refine wps_seq ?_
  | with_reducible refine wps_block ?_
  | (with_reducible refine wps_label ?_; simp only [thenQ, blockQ])
  | (with_reducible refine wps_region callOK ?_; apply runE; simp [zS, *, SS.post, gk, ix, gN, lI, Nd.cs]; exact rfl)
  | (refine wps_drawK mixed callOK (by decide +kernel) (by decide +kernel) ?_; apply runE; simp [zS, evalK_c, evalK_nil, thenK_some, *, SS.post, gk, ix, gN, lI, Nd.cs]; exact rfl)
  | (with_reducible refine run_end ?_; simp only [thenQ, blockQ])
  | (with_reducible refine gate_splitK (fun hc => ?_) (fun hc => ?_) <;> ((have hd := hc); (try simp at hd); (try subst hd); apply runE; simp [zS, evalK_c, evalK_nil, thenK_some, *, SS.post, gk, ix, gN, lI, Nd.cs]; exact rfl))
  | (with_reducible refine pick_splitK (fun hc => ?_) (fun hc => ?_) <;> ((have hd := hc); (try simp at hd); (try subst hd); apply runE; simp [zS, evalK_c, evalK_nil, thenK_some, *, SS.post, gk, ix, gN, lI, Nd.cs]; exact rfl))
  | (with_reducible refine gate_split (fun hc => ?_) (fun hc => ?_) <;> ((have hd := hc); (try simp at hd); (try subst hd); apply runE; simp [zS, *, SS.post, gk, ix, gN, lI, Nd.cs]; exact rfl))
  | (with_reducible refine pick_split (fun hc => ?_) (fun hc => ?_) <;> ((have hd := hc); (try simp at hd); (try subst hd); apply runE; simp [zS, *, SS.post, gk, ix, gN, lI, Nd.cs]; exact rfl))
  | (refine wps_ct rfl ?_)
  | (refine wps_cf rfl ?_)
  | (refine wps_cond rfl (fun hc => ?_) (fun hc => ?_) <;> ((have hd := hc); (try simp at hd); (try subst hd)))
  | (with_reducible refine wps_skip ?_; simp only [thenQ, blockQ])
  | (with_reducible refine wps_exit ?_; simp [thenQ, blockQ])
  | (with_reducible refine wps_ret ?_; simp [retVal, Tryz.f66, oneOr, thenQ, blockQ])))
 all_goals first | ((try simp [retVal, Tryz.f66, oneOr]); exact ends_S (by subst e; rfl) (by first | rfl | (simp [*]; done)) (by simp [pureV, pureL]) (by decide) (ne) rfl rfl) | (exfalso; omega)
theorem inj_66 (x y : Int) (h : (fun z : Int => ([.int .i64 z] : List AV)) x = (fun z : Int => ([.int .i64 z] : List AV)) y) : x = y := by
 simp only [List.cons.injEq, and_true] at h
 exact AV.int.inj h |>.2
noncomputable def e66 : Entry Tryz.prog := mkS 66 [[]] (fun z : Int => [.int .i64 z]) (fun z s => (0 ≤ z) ∧ (z < (s.tree.length : Int))) (fun z s => whV s.tree z) (fun z s => s) fun z s ne h => ⟨c66 (T := [])  ne z h.1 h.2, by simp [pureL, pureV], by simp [pureV, pureL], ne⟩
theorem k66 {T : List (Entry Tryz.prog)} (hT : findE 66 T = some e66.g) {s : SS} (ne : s.tree ≠ []) (x : Int) (h0 : 0 ≤ x) (h1 : x < (s.tree.length : Int)) {n k : Nat} {fr : List (Nat × Blk)} (k0 : 0 < k) (kn : k < n) (of : offS k fr) : callL (ctx T) (.fn 66) [.ptr 0 0, .int .i64 x] ⟨n, [fr, VS k s]⟩ = some (whV s.tree x, ⟨n + 1, [fr, VS n (s)]⟩) :=
 mkS_eq hT inj_66 (x) ne ⟨h0, h1⟩ (by simp [pureL, pureV]) (by simp [thawL, thawA_ok]) k0 kn of
def whP (t : Tr) (i : Int) : Int := if isB t i = true then i else 0
theorem whP_nat {t : Tr} (hne : t ≠ []) (i : Int) : ∃ u : Nat, whP t i = (u : Int) ∧ u < t.length := by
 unfold whP
 split
 ·rename_i h
  obtain ⟨h1, h2⟩ := isB_iff.1 h
  exact ⟨i.toNat, by omega, by omega⟩
 ·exact ⟨0, rfl, by have := List.length_pos_iff.2 hne; omega⟩
theorem c51 {T : List (Entry Tryz.prog)} (hc0 : findE 66 T = some e66.g) {s : SS} (ne : s.tree ≠ []) (i : Int) (hf : s.foster = false) : SC T 51 [.int .i64 i] s (whV s.tree (whP s.tree i)) (s) := by
 have kc0 := @k66 T hc0
 have g0 := @vg0
 have v0 := @vset
 have ln := fun H k => lenN' (k := k) (t := s.tree) H
 have hp := List.length_pos_iff.2 ne
 have hx : ∀ x, whV s.tree x = .tup [.int .i64 x, .int .i64 ((nodeAt s.tree x).kids.length : Int)] := fun _ => rfl
 have hw : whP s.tree i = if 0 ≤ i ∧ i < (s.tree.length : Int) then i else 0 := by
  unfold whP isB
  simp only [Bool.and_eq_true, decide_eq_true_eq]
 refine callAt_body (fn := Tryz.f51) (s0 := ⟨[0, 1, 4, 5], [.ptr 0 0, .int .i64 i, .undef, .undef], [], 45, ⟨2, [] :: [VS 1 s]⟩⟩) Tryz.func51 rfl rfl rfl ?_
 (repeat' (first
  | with_reducible refine wps_seq ?_
  | with_reducible refine wps_block ?_
  | (with_reducible refine wps_label ?_; simp only [thenQ, blockQ])
  | (with_reducible refine wps_region callOK ?_; apply runE; simp [zS, *, SS.post, ln]; exact rfl)
  | (refine wps_drawK mixed callOK (by decide +kernel) (by decide +kernel) ?_; apply runE; simp [zS, evalK_c, evalK_nil, thenK_some, *, SS.post, ln]; exact rfl)
  | (with_reducible refine run_end ?_; simp only [thenQ, blockQ])
  | (with_reducible refine gate_splitK (fun hc => ?_) (fun hc => ?_) <;> ((have hd := hc); (try simp at hd); (try subst hd); apply runE; simp [zS, evalK_c, evalK_nil, thenK_some, *, SS.post, ln]; exact rfl))
  | (with_reducible refine pick_splitK (fun hc => ?_) (fun hc => ?_) <;> ((have hd := hc); (try simp at hd); (try subst hd); apply runE; simp [zS, evalK_c, evalK_nil, thenK_some, *, SS.post, ln]; exact rfl))
  | (with_reducible refine gate_split (fun hc => ?_) (fun hc => ?_) <;> ((have hd := hc); (try simp at hd); (try subst hd); apply runE; simp [zS, *, SS.post, ln]; exact rfl))
  | (with_reducible refine pick_split (fun hc => ?_) (fun hc => ?_) <;> ((have hd := hc); (try simp at hd); (try subst hd); apply runE; simp [zS, *, SS.post, ln]; exact rfl))
  | (refine wps_ct rfl ?_)
  | (refine wps_cf rfl ?_)
  | (refine wps_cond rfl (fun hc => ?_) (fun hc => ?_) <;> ((have hd := hc); (try simp at hd); (try subst hd)))
  | (with_reducible refine wps_skip ?_; simp only [thenQ, blockQ])
  | (with_reducible refine wps_exit ?_; simp [thenQ, blockQ])
  | (with_reducible refine wps_ret ?_; simp [retVal, Tryz.f51, oneOr, thenQ, blockQ])))
 all_goals first | ((try simp [retVal, Tryz.f51, oneOr]); exact ends_S (by (simp only [hw, hx]; split <;> first | rfl | (exfalso; omega))) (by first | rfl | (simp [*]; done)) (by simp [pureV, pureL]) (by decide) (ne) rfl rfl) | (exfalso; omega)
theorem inj_51 (x y : Int) (h : (fun z : Int => ([.int .i64 z] : List AV)) x = (fun z : Int => ([.int .i64 z] : List AV)) y) : x = y := by
 simp only [List.cons.injEq, and_true] at h
 exact AV.int.inj h |>.2
noncomputable def e51 : Entry Tryz.prog := mkS 51 [[]] (fun z : Int => [.int .i64 z]) (fun z s => (s.foster = false)) (fun z s => whV s.tree (whP s.tree z)) (fun z s => s) fun z s ne h => ⟨c51 (T := [e66]) rfl ne z h, by simp [pureL, pureV], by simp [pureV, pureL], ne⟩
theorem k51 {T : List (Entry Tryz.prog)} (hT : findE 51 T = some e51.g) {s : SS} (ne : s.tree ≠ []) (i : Int) (hf : s.foster = false) {n k : Nat} {fr : List (Nat × Blk)} (k0 : 0 < k) (kn : k < n) (of : offS k fr) : callL (ctx T) (.fn 51) [.ptr 0 0, .int .i64 i] ⟨n, [fr, VS k s]⟩ = some (whV s.tree (whP s.tree i), ⟨n + 1, [fr, VS n (s)]⟩) :=
 mkS_eq hT inj_51 (i) ne hf (by simp [pureL, pureV]) (by simp [thawL, thawA_ok]) k0 kn of
def addT (t : Tr) (nd : Nd) : Tr := t ++ [fresh nd]
@[simp] theorem addT_ne (t : Tr) (nd : Nd) : addT t nd ≠ [] := by simp [addT]
theorem putT_ne {t : Tr} (hne : t ≠ []) (up at_ kid : Int) : putT t up at_ kid ≠ [] := by
 unfold putT
 split
 ·simp [setUp]
 ·exact hne
theorem c9S {T : List (Entry Tryz.prog)} (hc0 : findE 22 T = some e22.g) {s : SS} (ne : s.tree ≠ []) (nd : Nd) (hl : s.tree.length + 1 ≤ 1000000) (ha : nd.attrs.length ≤ 1000000) : SC T 9 [aNode nd] s (.int .i64 (s.tree.length : Int)) ({ s with tree := addT s.tree nd }) := by
 have kc0 := @k22 T hc0
 have g0 := @vg0
 have v0 := @vset
 exact c9 (T := T) hc0 (ok_S s (k := 1) (m := 2) (by omega) (by omega)) hl nd ha
theorem inj_9S (x y : Nd) (h : (fun z : Nd => ([aNode z] : List AV)) x = (fun z : Nd => ([aNode z] : List AV)) y) : x = y := by
 simp only [List.cons.injEq, and_true] at h
 exact inj_aNode h
noncomputable def e9S : Entry Tryz.prog := mkS 9 [[0, 0, 0, 2, 0, 0, 1]] (fun z : Nd => [aNode z]) (fun z s => (s.tree.length + 1 ≤ 1000000) ∧ (z.attrs.length ≤ 1000000)) (fun z s => .int .i64 (s.tree.length : Int)) (fun z s => { s with tree := addT s.tree z }) fun z s ne h => ⟨c9S (T := [e22]) rfl ne z h.1 h.2, by simp [pureL, pureV], by simp [pureV, pureL], addT_ne _ _⟩
theorem k9S {T : List (Entry Tryz.prog)} (hT : findE 9 T = some e9S.g) {s : SS} (ne : s.tree ≠ []) (nd : Nd) (hl : s.tree.length + 1 ≤ 1000000) (ha : nd.attrs.length ≤ 1000000) {n k : Nat} {fr : List (Nat × Blk)} (k0 : 0 < k) (kn : k < n) (of : offS k fr) : callL (ctx T) (.fn 9) [.ptr 0 0, aNode nd] ⟨n, [fr, VS k s]⟩ = some (.int .i64 (s.tree.length : Int), ⟨n + 1, [fr, VS n ({ s with tree := addT s.tree nd })]⟩) :=
 mkS_eq hT inj_9S (nd) ne ⟨hl, ha⟩ (by simp [pureL, pureV]) (by simp [thawL, thawA_ok]) k0 kn of
theorem c10S {T : List (Entry Tryz.prog)} (hc0 : findE 42 T = some e42G.g) (hc1 : findE 23 T = some e23.g) (hc2 : findE 24 T = some e24.g) (hc3 : findE 27 T = some e27.g) {s : SS} (ne : s.tree ≠ []) (up : Int) (at_ : Int) (kid : Int) (ht : s.tree.length ≤ 1000000) (hk : kidsLe s.tree 999999) : SC T 10 [.int .i64 up, .int .i64 at_, .int .i64 kid] s (.tup []) ({ s with tree := putT s.tree up at_ kid }) := by
 have g0 := @vg0
 have v0 := @vset
 exact SC.of (c10G (T := T) hc0 hc1 hc2 hc3 (ok_S s (k := 1) (m := 2) (by omega) (by omega)) ne ht hk up at_ kid) rfl (putT_ne ne _ _ _)
theorem inj_10S (x y : Int × Int × Int) (h : (fun z : Int × Int × Int => ([.int .i64 z.1, .int .i64 z.2.1, .int .i64 z.2.2] : List AV)) x = (fun z : Int × Int × Int => ([.int .i64 z.1, .int .i64 z.2.1, .int .i64 z.2.2] : List AV)) y) : x = y := by
 obtain ⟨x0, x1, x2⟩ := x
 obtain ⟨y0, y1, y2⟩ := y
 simp only [List.cons.injEq, and_true] at h
 obtain ⟨h0, h1, h2⟩ := h
 have g0 : x0 = y0 := AV.int.inj h0 |>.2
 have g1 : x1 = y1 := AV.int.inj h1 |>.2
 have g2 : x2 = y2 := AV.int.inj h2 |>.2
 subst g0 g1 g2
 rfl
noncomputable def e10S : Entry Tryz.prog := mkS 10 [[], [], []] (fun z : Int × Int × Int => [.int .i64 z.1, .int .i64 z.2.1, .int .i64 z.2.2]) (fun z s => (s.tree.length ≤ 1000000) ∧ (kidsLe s.tree 999999)) (fun z s => .tup []) (fun z s => { s with tree := putT s.tree z.1 z.2.1 z.2.2 }) fun z s ne h => ⟨c10S (T := [e42G, e23, e24, e27]) rfl rfl rfl rfl ne z.1 z.2.1 z.2.2 h.1 h.2, by simp [pureL, pureV], by simp [pureV, pureL], putT_ne ne _ _ _⟩
theorem k10S {T : List (Entry Tryz.prog)} (hT : findE 10 T = some e10S.g) {s : SS} (ne : s.tree ≠ []) (up : Int) (at_ : Int) (kid : Int) (ht : s.tree.length ≤ 1000000) (hk : kidsLe s.tree 999999) {n k : Nat} {fr : List (Nat × Blk)} (k0 : 0 < k) (kn : k < n) (of : offS k fr) : callL (ctx T) (.fn 10) [.ptr 0 0, .int .i64 up, .int .i64 at_, .int .i64 kid] ⟨n, [fr, VS k s]⟩ = some (.tup [], ⟨n + 1, [fr, VS n ({ s with tree := putT s.tree up at_ kid })]⟩) :=
 mkS_eq hT inj_10S (up, at_, kid) ne ⟨ht, hk⟩ (by simp [pureL, pureV]) (by simp [thawL, thawA_ok]) k0 kn of
theorem kidsLe_add {t : Tr} {b : Nat} (h : kidsLe t b) (nd : Nd) : kidsLe (addT t nd) b := fun n hn => by
 rcases List.mem_append.1 hn with hn | hn
 ·exact h n hn
 ·simp at hn; subst hn; simp [fresh]
structure SOk (s : SS) : Prop where
 ln : s.tree.length ≤ 99999
 kd : kidsLe s.tree 100000
 op : s.opn.length ≤ 100000
def newT (t : Tr) (up at_ : Int) (nd : Nd) : Tr := putT (addT t nd) up at_ t.length
@[simp] theorem newT_ne (t : Tr) (up at_ : Int) (nd : Nd) : newT t up at_ nd ≠ [] := putT_ne (addT_ne _ _) _ _ _
theorem c53 {T : List (Entry Tryz.prog)} (hc0 : findE 9 T = some e9S.g) (hc1 : findE 10 T = some e10S.g) {s : SS} (ne : s.tree ≠ []) (up : Int) (at_ : Int) (nd : Nd) (ok : SOk s) (ha : nd.attrs.length ≤ 1000000) : SC T 53 [.int .i64 up, .int .i64 at_, aNode nd] s (.int .i64 (s.tree.length : Int)) ({ s with tree := newT s.tree up at_ nd }) := by
 have kc0 := @k9S T hc0
 have kc1 := @k10S T hc1
 have g0 := @vg0
 have v0 := @vset
 have hl := ok.ln
 simp only [aNode] at kc0
 have hl1 : s.tree.length + 1 ≤ 1000000 := by omega
 have hl2 : (addT s.tree nd).length ≤ 1000000 := by simp [addT]; omega
 have hk2 : kidsLe (addT s.tree nd) 999999 := kidsLe_add (fun n hn => Nat.le_trans (ok.kd n hn) (by omega)) nd
 refine callAt_body (fn := Tryz.f53) (s0 := ⟨[0, 1, 2, 3, 7, 8, 9], [.ptr 0 0, .int .i64 up, .int .i64 at_, aNode nd, .undef, .undef, .undef], [], 23, ⟨2, [] :: [VS 1 s]⟩⟩) Tryz.func53 rfl rfl rfl ?_
 (repeat' (first
  | with_reducible refine wps_seq ?_
  | with_reducible refine wps_block ?_
  | (with_reducible refine wps_label ?_; simp only [thenQ, blockQ])
  | (with_reducible refine wps_region callOK ?_; apply runE; simp [zS, *, SS.post, aNode]; exact rfl)
  | (with_reducible refine run_end ?_; simp only [thenQ, blockQ])
  | (refine wps_drawQ mixed callOK (by decide +kernel) (by decide +kernel) rfl ?_; apply runQ; simp [zS, zW, clsOf, mkBlk, guardA, Heap.lay, ontoF, *, SS.post, aNode]; exact rfl)
  | (with_reducible refine run_endQ ?_; refine ⟨by repeat first | exact okC_n | refine okC_c (by decide +kernel) ?_, ?_⟩; simp only [thenQ, blockQ, allPend, Heap.lay, ontoF])
  | (with_reducible refine gate_splitQ (fun hc => ?_) (fun hc => ?_) <;> ((have hd := hc); (try simp at hd); (try subst hd); apply runQ; simp [zS, zW, clsOf, mkBlk, guardA, Heap.lay, ontoF, *, SS.post, aNode]; exact rfl))
  | (with_reducible refine gate_splitX (fun hc => ?_) (fun hc => ?_) <;> ((have hd := hc); (try simp at hd); (try subst hd); apply runQ; simp [zS, zW, clsOf, mkBlk, guardA, Heap.lay, ontoF, *, SS.post, aNode]; exact rfl))
  | (with_reducible refine pick_splitQ (fun hc => ?_) (fun hc => ?_) <;> ((have hd := hc); (try simp at hd); (try subst hd); apply runQ; simp [zS, zW, clsOf, mkBlk, guardA, Heap.lay, ontoF, *, SS.post, aNode]; exact rfl))
  | (with_reducible refine gate_split (fun hc => ?_) (fun hc => ?_) <;> ((have hd := hc); (try simp at hd); (try subst hd); apply runE; simp [zS, *, SS.post, aNode]; exact rfl))
  | (with_reducible refine pick_split (fun hc => ?_) (fun hc => ?_) <;> ((have hd := hc); (try simp at hd); (try subst hd); apply runE; simp [zS, *, SS.post, aNode]; exact rfl))
  | (refine wps_ct rfl ?_)
  | (refine wps_cf rfl ?_)
  | (refine wps_cond rfl (fun hc => ?_) (fun hc => ?_) <;> ((have hd := hc); (try simp at hd); (try subst hd)))
  | (with_reducible refine wps_skip ?_; simp only [thenQ, blockQ])
  | (with_reducible refine wps_exit ?_; simp [thenQ, blockQ])
  | (with_reducible refine wps_ret ?_; simp [retVal, Tryz.f53, oneOr, thenQ, blockQ])))
 all_goals first | ((try simp [retVal, Tryz.f53, oneOr]); exact ends_S (by rfl) (by first | rfl | (simp [*]; done)) (by simp [pureV, pureL]) (by decide) (newT_ne _ _ _ _) rfl rfl) | (exfalso; omega)
theorem inj_53 (x y : Int × Int × Nd) (h : (fun z : Int × Int × Nd => ([.int .i64 z.1, .int .i64 z.2.1, aNode z.2.2] : List AV)) x = (fun z : Int × Int × Nd => ([.int .i64 z.1, .int .i64 z.2.1, aNode z.2.2] : List AV)) y) : x = y := by
 obtain ⟨x0, x1, x2⟩ := x
 obtain ⟨y0, y1, y2⟩ := y
 simp only [List.cons.injEq, and_true] at h
 obtain ⟨h0, h1, h2⟩ := h
 have g0 : x0 = y0 := AV.int.inj h0 |>.2
 have g1 : x1 = y1 := AV.int.inj h1 |>.2
 have g2 : x2 = y2 := inj_aNode h2
 subst g0 g1 g2
 rfl
noncomputable def e53 : Entry Tryz.prog := mkS 53 [[], [], [0, 0, 0, 2, 0, 0, 1]] (fun z : Int × Int × Nd => [.int .i64 z.1, .int .i64 z.2.1, aNode z.2.2]) (fun z s => (SOk s) ∧ (z.2.2.attrs.length ≤ 1000000)) (fun z s => .int .i64 (s.tree.length : Int)) (fun z s => { s with tree := newT s.tree z.1 z.2.1 z.2.2 }) fun z s ne h => ⟨c53 (T := [e9S, e10S]) rfl rfl ne z.1 z.2.1 z.2.2 h.1 h.2, by simp [pureL, pureV], by simp [pureV, pureL], newT_ne _ _ _ _⟩
structure Tk where
 kind : Int
 name : Str
 attrs : List At1
 self : Bool
 data : Str
def Tk.cs (t : Tk) : List AV := [.int .i64 t.kind, .str t.name, aAttrs t.attrs, .bool t.self, .str t.data]
def aTok (t : Tk) : AV := .agg t.cs
theorem inj_tcs {a b : Tk} (h : a.cs = b.cs) : a = b := by
 simp only [Tk.cs, List.cons.injEq, AV.int.injEq, AV.str.injEq, AV.bool.injEq, true_and, and_true] at h
 obtain ⟨h1, h2, h3, h4, h5⟩ := h
 have h3 := inj_aAttrs h3
 cases a; cases b
 simp_all
theorem inj_aTok {a b : Tk} (h : aTok a = aTok b) : a = b := inj_tcs (AV.agg.inj h)
@[simp] theorem pure_tcs (t : Tk) : pureL t.cs = true := by simp [Tk.cs, pureL, pureV]
@[simp] theorem pure_aTok (t : Tk) : pureV (aTok t) = true := by simp [aTok, pureV]
@[simp] theorem ok_fptr (cs : List AV) (o : Nat) : okV (.fptr cs o) = true := by simp [okV, pureV]
@[simp] theorem ok_aTok (t : Tk) : okV (aTok t) = true := by simp [aTok, okV, Tk.cs, pureL, pureV, aAttrs]
def elT (t : Tr) (top sp : Int) (nm : Str) (L : List At1) : Tr := newT t (whP t top) ((nodeAt t (whP t top)).kids.length : Int) ⟨1, sp, nm, L, [], 0, []⟩
def elS (s : SS) (sp : Int) (nm : Str) (L : List At1) : SS := { s with tree := elT s.tree (topI s.opn) sp nm L, opn := s.opn ++ [(s.tree.length : Int)] }
theorem putL {T : List (Entry Tryz.prog)} (hT : findE 53 T = some e53.g) {s : SS} (ne : s.tree ≠ []) (up at_ : Int) (nd : Nd) (hu : nd.up = 0) (hk : nd.kids = []) (ok : SOk s) (ha : nd.attrs.length ≤ 1000000) {n k : Nat} {fr : List (Nat × Blk)} (k0 : 0 < k) (kn : k < n) (of : offS k fr) :
  callL (ctx T) (.fn 53) [.ptr 0 0, .int .i64 up, .int .i64 at_, .agg [.int .i64 nd.kind, .int .i64 nd.space, .str nd.name, aAttrs nd.attrs, .str nd.data, .int .i64 0, .nilS]] ⟨n, [fr, VS k s]⟩ = some (.int .i64 (s.tree.length : Int), ⟨n + 1, [fr, VS n { s with tree := newT s.tree up at_ nd }]⟩) :=
 mkS_eq hT inj_53 (up, at_, nd) ne ⟨ok, ha⟩ (by simp [pureL, pureV]) (by
  cases nd
  simp only at hu hk
  subst hu hk
  simp [thawL, thawA, thawC, thaw1, okV, aNode, Nd.cs, aInt, aAttrs, aInts, pureV, pureL]) k0 kn of
def xV (L : List Int) : AV := match L with
 | [] => .zslc
 | _ :: _ => .xslc 1 (L.map aInt)
@[simp] theorem pureI (L : List Int) : pureL (L.map aInt) = true := by have := (el_int L).pure; rw [flat_ints] at this; exact this
theorem fl_ints (L : List Int) : flatAV (L.map aInt) = L.map aInt := flat_ints L
theorem sl_x (H : Heap) (L : List Int) : sliceA Tryz.prog H 32 (aInts L) none (some (.int .i64 (L.length : Int))) (some (.int .i64 (L.length : Int))) = some (xV L) := by
 have h1 : ∀ q, idx (L.length : Int) (q + L.length + 1) = some L.length := fun q => idx_nat (by omega)
 have h1 : idx (L.length : Int) (Nat.succ L.length) = some L.length := idx_nat (by omega)
 cases L with
 | nil => rfl
 | cons x r =>
  generalize hL : x :: r = L at *
  have hp : L.length ≠ 0 := by rw [← hL]; simp
  have e : xV L = .xslc 1 (L.map aInt) := by rw [← hL]; rfl
  rw [e]
  obtain ⟨m, hm⟩ : ∃ m, L.length = m + 1 := ⟨L.length - 1, by omega⟩
  have ht : (L.map aInt).take (m + 1) = L.map aInt := List.take_of_length_le (by simp [hm])
  simp only [sliceA, hiOK, Tryz.underlying32, szT3, Option.bind_some, Nat.beq_refl, bound, aInts, List.length_map, h1]
  simp only [hm, ht]
theorem ap_x (H : Heap) (L : List Int) (b : Nat) (i : Int) (hl : L.length ≤ 1000000) (hb : H.get b = some (.cells [.int .i64 i])) : appendA Tryz.prog H 3 (xV L) (.slc b 0 1 (.ex 1)) = some (.slc H.n 0 (L.length + 1) (.rest 1), H.new (.cells ((L ++ [i]).map aInt))) := by
 have hr : roomOK (L.length + 1) 8 = true := by unfold roomOK; rw [Nat.ble_eq]; omega
 have hx : srcCells H 1 1 (.slc b 0 1 (.ex 1)) = some [.int .i64 i] := by simp [srcCells, readCells, hb, Blk.rd]
 have ho : srcCells H 1 L.length (.fslc 1 (L.map aInt)) = some (L.map aInt) := by simp [srcCells, fl_ints, List.take_of_length_le]
 have c0 : (Nat.beq 1 0 || !(Nat.beq 1 1 && Nat.blt 0 8)) = false := rfl
 have hrow : ∀ cs, rowA Tryz.prog 3 cs = .cells cs := fun _ => rfl
 cases L with
 | nil =>
  simp only [appendA, xV, szT3, byT3, zeT3, Option.bind_some, srcLen, hx]
  rfl
 | cons x r =>
  generalize hL : x :: r = L at *
  have e : xV L = .xslc 1 (L.map aInt) := by rw [← hL]; rfl
  have hb2 : Nat.beq ([(.int .i64 i : AV)].length) (1 * 1) = true := rfl
  have hb3 : Nat.beq (L.map aInt).length (L.length * 1) = true := by simp
  rw [e]
  simp only [appendA, szT3, byT3, zeT3, Option.bind_some, srcLen, List.length_map, hx, ho, AV.cells, List.length_singleton, c0, hr, hb2, hb3, Bool.and_self, hrow, List.map_append, List.map_cons, List.map_nil, aInt]
  simp
theorem reach1q {n b : Nat} {cs : List AV} {g : List (Nat × Blk)} (hc : pureL cs = true) : reach (Nat.succ (Nat.succ n)) [b] ((b, .cells cs) :: g) [] = ([(b, .cells cs)], g) := by
 have e : getF b ((b, Blk.cells cs) :: g) = some (.cells cs) := by unfold getF; simp only [Nat.beq_refl]
 have hr : refsB (.cells cs) = [] := by simp only [refsB]; exact refsL_pure _ _ hc
 have hk : killF b ((b, Blk.cells cs) :: g) = g := by unfold killF; simp only [Nat.beq_refl]
 unfold reach
 simp only [e, hr, hk, List.nil_append]
 unfold reach
 rfl
theorem prom_S {s : SS} {k c : Nat} {cs : List AV} {g : List (Nat × Blk)} (hc : pureL cs = true) (ne : s.tree ≠ []) (h0 : getF 0 ((c, .cells cs) :: g) = none) : promote 0 [c] [] [(c, .cells cs) :: g, VS k s] = [g, (c, .cells cs) :: VS k s] := by
 have h1 := reach1q (n := 99998) (b := c) (g := g) hc
 have h2 : reach 100000 [c] ((c, .cells cs) :: g) [] = ([(c, .cells cs)], g) := h1
 unfold promote
 simp only [h0, h2]
 unfold promote
 simp only [vg0 ne, List.append_nil, List.cons_append, List.nil_append]
theorem setR {s : SS} {k : Nat} (ne : s.tree ≠ []) (X : Blk) : setF 0 X (VS k s) = some [(0, X), (k, .cells (flatAV (s.tree.map aNode)))] := by
 rw [VS_eq ne]; rfl
theorem fitV_ints {σ : List (Nat × Nat)} {Φ : List (Nat × List AV)} {c : Nat} {L : List Int} (h : lookC c Φ = some (L.map aInt)) : fitV σ Φ (.slc c 0 L.length (.rest 1)) (aInts L) := by
 simp only [fitV, aInts]
 refine .inl ⟨L.map aInt, h, ?_, by simp, ?_⟩
 ·rw [fl_ints]
  have := subL_app (a := []) (b := L.map aInt) (c := []) rfl rfl
  simpa using this
 ·exact (el_int L).size
theorem ends_SO {v v' : AV} {s' : SS} {H : Heap} {k c : Nat} (e : v = v') (hv : pureV v' = true) (ne : s'.tree ≠ []) (kc : 0 < k ∧ 0 < c ∧ k ≠ c) (h0 : H.get 0 = some (.cells (nV k s'.tree :: .slc c 0 s'.opn.length (.rest 1) :: s'.post.tail))) (hk : H.get k = some (.cells (flatAV (s'.tree.map aNode)))) (hc : H.get c = some (.cells (s'.opn.map aInt))) :
  ∃ σ Φ, fitV σ Φ v v' ∧ FitH 2 σ Φ H ⟨3, [VS 2 s']⟩ :=
 ⟨[(k, 2), (0, 0)], [(c, s'.opn.map aInt)], by subst e; exact fitV_pure hv, fitSG ⟨by omega, by omega, by simp⟩ (by omega) kc.1 ne h0 hk (by
  simp only [fitL, SS.post, List.tail_cons]
  refine ⟨by simp [fitV, lookN], fitV_ints (by simp [lookC]), ?_⟩
  have := pure_post s'
  simp only [SS.post, pureL, Bool.and_eq_true] at this
  simp [fitL, fitV, pureV]) (by simp; omega) (fun x hx => by simp at hx; subst hx; exact ⟨hc, pureI _⟩)⟩
theorem c50 {T : List (Entry Tryz.prog)} (hc0 : findE 52 T = some e52.g) (hc1 : findE 51 T = some e51.g) (hc2 : findE 53 T = some e53.g) {s : SS} (ne : s.tree ≠ []) (t : Tk) (sp : Int) (hf : s.foster = false) (ok : SOk s) (ha : t.attrs.length ≤ 1000000) : SC T 50 [aTok t, .int .i64 sp] s (.int .i64 (s.tree.length : Int)) (elS s sp t.name t.attrs) := by
 have kc0 := @k52 T hc0
 have kc1 := @k51 T hc1
 have g0 := @vg0
 have v0 := @vset
 have bld : buildA Tryz.prog 43 [(0, .int .i64 1), (1, .int .i64 sp), (2, .str t.name), (3, aAttrs t.attrs)] = some (.agg [.int .i64 1, .int .i64 sp, .str t.name, aAttrs t.attrs, .str [], .int .i64 0, .nilS]) := rfl
 have rS := @prom_S
 have sR := @setR
 clear v0
 have lI := fun H => lenI (H := H) (L := s.opn)
 have sX := fun H => sl_x H s.opn
 have aX := fun H b i => ap_x H s.opn b i (by have := ok.op; omega)
 have kT := fun H => kc0 (L := s.opn) (by have := ok.op; omega) H
 have kP := fun up at_ n k fr => @putL T hc2 s ne up at_ ⟨1, sp, t.name, t.attrs, [], 0, []⟩ rfl rfl ok ha n k fr
 have ec : t.cs = [.int .i64 t.kind, .str t.name, aAttrs t.attrs, .bool t.self, .str t.data] := rfl
 refine callAt_body (fn := Tryz.f50) (s0 := ⟨[0, 1, 2, 4, 6, 7, 8, 9], [.ptr 0 0, aTok t, .int .i64 sp, .undef, .undef, .undef, .undef, .undef], [], 52, ⟨2, [] :: [VS 1 s]⟩⟩) Tryz.func50 rfl rfl rfl ?_
 (repeat' (first
  | with_reducible refine wps_seq ?_
  | with_reducible refine wps_block ?_
  | (with_reducible refine wps_label ?_; simp only [thenQ, blockQ])
  | (with_reducible refine wps_region callOK ?_; apply runE; simp [zS, *, SS.post, aTok, whV, Tk.cs, pureL, pureV, aInt]; exact rfl)
  | (with_reducible refine run_end ?_; simp only [thenQ, blockQ])
  | (refine wps_drawQ mixed callOK (by decide +kernel) (by decide +kernel) rfl ?_; apply runQ; simp [zS, zW, clsOf, mkBlk, guardA, Heap.lay, ontoF, *, SS.post, aTok, whV, Tk.cs, pureL, pureV, aInt]; exact rfl)
  | (with_reducible refine run_endQ ?_; refine ⟨by repeat first | exact okC_n | refine okC_c (by decide +kernel) ?_, ?_⟩; simp only [thenQ, blockQ, allPend, Heap.lay, ontoF])
  | (with_reducible refine gate_splitQ (fun hc => ?_) (fun hc => ?_) <;> ((have hd := hc); (try simp at hd); (try subst hd); apply runQ; simp [zS, zW, clsOf, mkBlk, guardA, Heap.lay, ontoF, *, SS.post, aTok, whV, Tk.cs, pureL, pureV, aInt]; exact rfl))
  | (with_reducible refine gate_splitX (fun hc => ?_) (fun hc => ?_) <;> ((have hd := hc); (try simp at hd); (try subst hd); apply runQ; simp [zS, zW, clsOf, mkBlk, guardA, Heap.lay, ontoF, *, SS.post, aTok, whV, Tk.cs, pureL, pureV, aInt]; exact rfl))
  | (with_reducible refine pick_splitQ (fun hc => ?_) (fun hc => ?_) <;> ((have hd := hc); (try simp at hd); (try subst hd); apply runQ; simp [zS, zW, clsOf, mkBlk, guardA, Heap.lay, ontoF, *, SS.post, aTok, whV, Tk.cs, pureL, pureV, aInt]; exact rfl))
  | (with_reducible refine gate_split (fun hc => ?_) (fun hc => ?_) <;> ((have hd := hc); (try simp at hd); (try subst hd); apply runE; simp [zS, *, SS.post, aTok, whV, Tk.cs, pureL, pureV, aInt]; exact rfl))
  | (with_reducible refine pick_split (fun hc => ?_) (fun hc => ?_) <;> ((have hd := hc); (try simp at hd); (try subst hd); apply runE; simp [zS, *, SS.post, aTok, whV, Tk.cs, pureL, pureV, aInt]; exact rfl))
  | (refine wps_ct rfl ?_)
  | (refine wps_cf rfl ?_)
  | (refine wps_cond rfl (fun hc => ?_) (fun hc => ?_) <;> ((have hd := hc); (try simp at hd); (try subst hd)))
  | (with_reducible refine wps_skip ?_; simp only [thenQ, blockQ])
  | (with_reducible refine wps_exit ?_; simp [thenQ, blockQ])
  | (with_reducible refine wps_ret ?_; simp [retVal, Tryz.f50, oneOr, thenQ, blockQ])))
 all_goals first | ((try simp [retVal, Tryz.f50, oneOr]); exact ends_SO (k := 4) (c := 27) rfl rfl (newT_ne _ _ _ _) (by decide) (by simp [Heap.get, getFs, getF, elS, elT, SS.post, hf]) (by simp [Heap.get, getFs, getF, elS, elT]) (by simp [Heap.get, getFs, getF, elS, aInt])) | (exfalso; omega)
theorem inj_50 (x y : Tk × Int) (h : (fun z : Tk × Int => ([aTok z.1, .int .i64 z.2] : List AV)) x = (fun z : Tk × Int => ([aTok z.1, .int .i64 z.2] : List AV)) y) : x = y := by
 obtain ⟨x0, x1⟩ := x
 obtain ⟨y0, y1⟩ := y
 simp only [List.cons.injEq, and_true] at h
 obtain ⟨h0, h1⟩ := h
 have g0 : x0 = y0 := inj_aTok h0
 have g1 : x1 = y1 := AV.int.inj h1 |>.2
 subst g0 g1
 rfl
noncomputable def e50 : Entry Tryz.prog := mkS 50 [[0, 0, 2, 0, 0], []] (fun z : Tk × Int => [aTok z.1, .int .i64 z.2]) (fun z s => (s.foster = false) ∧ (SOk s) ∧ (z.1.attrs.length ≤ 1000000)) (fun z s => .int .i64 (s.tree.length : Int)) (fun z s => elS s z.2 z.1.name z.1.attrs) fun z s ne h => ⟨c50 (T := [e52, e51, e53]) rfl rfl rfl ne z.1 z.2 h.1 h.2.1 h.2.2, by simp [pureL, pureV], by simp [pureV, pureL], newT_ne _ _ _ _⟩
theorem k50 {T : List (Entry Tryz.prog)} (hT : findE 50 T = some e50.g) {s : SS} (ne : s.tree ≠ []) (t : Tk) (sp : Int) (hf : s.foster = false) (ok : SOk s) (ha : t.attrs.length ≤ 1000000) {n k : Nat} {fr : List (Nat × Blk)} (k0 : 0 < k) (kn : k < n) (of : offS k fr) : callL (ctx T) (.fn 50) [.ptr 0 0, aTok t, .int .i64 sp] ⟨n, [fr, VS k s]⟩ = some (.int .i64 (s.tree.length : Int), ⟨n + 1, [fr, VS n (elS s sp t.name t.attrs)]⟩) :=
 mkS_eq hT inj_50 (t, sp) ne ⟨hf, ok, ha⟩ (by simp [pureL, pureV]) (by simp [thawL, thawA_ok]) k0 kn of
theorem WpSr.perm {C : Ctx} {n : Nat} {r : Option Nat} {Q : Out → St → Prop} {c : Code} {ks : List Nat} {vs : List AV} {ts : List (Nat × AV)} {sz : Nat} {H : Heap} (H2 : Heap) (hn : H2.n = H.n) (p : H2.ents.Perm H.ents)
  (h : WpSr C n r c ⟨ks, vs, ts, sz, H2⟩ Q) : WpSr C n r c ⟨ks, vs, ts, sz, H⟩ Q := by
 intro b a w hb ha K hK
 obtain ⟨ρ, g1, g2, g3, g4⟩ := ha
 have g1' : Since b ρ H w := g1
 have g2' : Sim ρ H w := g2
 refine h b a w hb ⟨ρ, ?_, g2'.perm hn p, ⟨g3.size, g3.val⟩, ?_⟩ K hK
 ·exact { fz := g1.fz, os := g1.os, tape := g1.tape, output := g1.output, size := g1.size, keeps := g1.keeps, rows := fun e he => g1.rows e (p.mem_iff.1 he), cold := g1.cold, low := g1.low, num := by rw [show (St.mk ks vs ts sz H2).H.n = H2.n from rfl, hn]; exact g1'.num }
 ·have g4' : Dfr b.w.heap.size ρ H w a.defers b.ds := g4
  obtain ⟨rs, h1, h2, h3⟩ := g4'
  exact ⟨rs, h1, h2, fun r hr => ⟨(h3 r hr).ge, (h3 r hr).obj, (h3 r hr).cold, fun e he => (h3 r hr).apart e (p.mem_iff.1 he)⟩⟩
structure JS where
 s : SS
 t : Tk
 b : Str
def JR (jb tb : Nat) (x : JS) : List (Nat × Blk) := [(jb, .cells [.ptr 0 0, .ptr tb 0, .str x.b]), (tb, .cells x.t.cs)]
abbrev JC (T : List (Entry Tryz.prog)) (g : FuncId) (args : List AV) (x : JS) (v : AV) (x' : JS) : Prop := CallAt (ctx T) g (.ptr 1 0 :: args) ⟨4, [JR 1 2 x ++ VS 3 x.s]⟩ v ⟨5, [JR 1 2 x' ++ VS 4 x'.s]⟩
section
variable {x x' : JS} {n k jb tb : Nat} {f fr : List (Nat × Blk)}
theorem fitJ {N k' m' jb' tb' : Nat} (hN : (k' < N → k = k') ∧ (jb' < N → jb = jb') ∧ (tb' < N → tb = tb') ∧ N ≤ m') (d' : (k' ≠ 0 ∧ jb' ≠ 0 ∧ tb' ≠ 0) ∧ (k' ≠ jb' ∧ k' ≠ tb' ∧ jb' ≠ tb') ∧ k' < m' ∧ jb' < m' ∧ tb' < m') (d : (k ≠ 0 ∧ jb ≠ 0 ∧ tb ≠ 0) ∧ (k ≠ jb ∧ k ≠ tb ∧ jb ≠ tb))
  (hne : x.s.tree ≠ []) (hf0 : getF 0 f = none) (hfk : getF k f = none) (hj : getF jb f = some (.cells [.ptr 0 0, .ptr tb 0, .str x.b])) (ht : getF tb f = some (.cells x.t.cs)) :
  FitH N [(k, k'), (0, 0), (jb, jb'), (tb, tb')] [] ⟨n, [f, VS k x.s]⟩ ⟨m', [JR jb' tb' x ++ VS k' x.s]⟩ where
 nd1 := by simp; omega
 nd2 := by simp; omega
 nd3 := by rw [VS_eq hne]; simp [Heap.ents, JR]; omega
 lt := by simp; omega
 idn := by simp; omega
 num := by simp; omega
 src := by
  intro e he
  rw [VS_eq hne] at he
  simp only [Heap.ents, JR, List.flatten_cons, List.flatten_nil, List.append_nil, List.cons_append, List.nil_append, List.mem_cons, List.not_mem_nil, or_false] at he
  rcases he with rfl | rfl | rfl | rfl
  ·refine ⟨jb, .cells [.ptr 0 0, .ptr tb 0, .str x.b], by simp, by simp [Heap.get, getFs, hj], ?_⟩
   simp only [fitB, fitL]
   have b1 : ¬ 0 = k := by omega
   have b2 : ¬ tb = k := by omega
   have b3 : ¬ tb = 0 := by omega
   have b4 : ¬ tb = jb := by omega
   have c1 : ¬ k = 0 := by omega
   have c2 : ¬ k = tb := by omega
   have c3 : ¬ 0 = tb := by omega
   have c4 : ¬ jb = tb := by omega
   refine ⟨?_, ?_, fitV_pure (by simp [pureV]), trivial⟩
   ·simp [fitV, lookN, b1, c1]
   ·simp [fitV, lookN, b2, b3, b4, c2, c3, c4]
  ·exact ⟨tb, .cells x.t.cs, by simp, by simp [Heap.get, getFs, ht], fitL_pure (pure_tcs _)⟩
  ·refine ⟨0, _, by simp, sget0 hne hf0, ?_⟩
   simp only [fitB, fitL]
   exact ⟨by simp [fitV, lookN], fitL_pure (pure_post x.s)⟩
  ·exact ⟨k, _, by simp, sgetk (by omega) hne hfk, fitL_pure (el_node x.s.tree).pure⟩
 frz := fun x h => by cases h
def offJ (k jb tb : Nat) (fr : List (Nat × Blk)) : Prop := ∀ e, e ∈ fr → e.1 ≠ 0 ∧ e.1 ≠ k ∧ e.1 ≠ jb ∧ e.1 ≠ tb
@[simp] theorem offJ_nil : offJ k jb tb [] = True := by simp [offJ]
@[simp] theorem offJ_cons {e : Nat × Blk} {r : List (Nat × Blk)} : offJ k jb tb (e :: r) = ((e.1 ≠ 0 ∧ e.1 ≠ k ∧ e.1 ≠ jb ∧ e.1 ≠ tb) ∧ offJ k jb tb r) := by simp [offJ]
structure dJ (n k jb tb : Nat) : Prop where
 k0 : k ≠ 0
 j0 : jb ≠ 0
 t0 : tb ≠ 0
 kj : k ≠ jb
 kt : k ≠ tb
 jt : jb ≠ tb
 kn : k < n
 jn : jb < n
 tn : tb < n
theorem call_J {C : Ctx} {g : FuncId} {args : List AV} {v : AV} (h : CallAt C g (.ptr 1 0 :: args) ⟨4, [JR 1 2 x ++ VS 3 x.s]⟩ v ⟨5, [JR 1 2 x' ++ VS 4 x'.s]⟩) (ha : pureL args = true) (hv : pureV v = true) (d : dJ n k jb tb) (hne : x.s.tree ≠ []) (hne' : x'.s.tree ≠ []) (hfr : offJ k jb tb fr) :
  CallAt C g (.ptr jb 0 :: args) ⟨n, [JR jb tb x ++ fr, VS k x.s]⟩ v ⟨n + 1, [JR jb tb x' ++ fr, VS n x'.s]⟩ := by
 obtain ⟨k0, j0, t0, kj, kt, jt, kn, jn, tn⟩ := d
 have g0 : getF 0 (JR jb tb x ++ fr) = none := gF_no fun e he => by
  rcases List.mem_append.1 he with he | he
  ·simp [JR] at he; rcases he with rfl | rfl
   ·exact j0
   ·exact t0
  ·exact (hfr e he).1
 have gk : getF k (JR jb tb x ++ fr) = none := gF_no fun e he => by
  rcases List.mem_append.1 he with he | he
  ·simp [JR] at he; rcases he with rfl | rfl
   ·exact kj.symm
   ·exact kt.symm
  ·exact (hfr e he).2.1
 have gj : getF jb (JR jb tb x ++ fr) = some (.cells [.ptr 0 0, .ptr tb 0, .str x.b]) := by simp [JR, getF]
 have gt : getF tb (JR jb tb x ++ fr) = some (.cells x.t.cs) := by
  have b1 : Nat.beq jb tb = false := beqN_ne jt
  simp [JR, getF, b1]
 have fh : FitH 0 [(k, 3), (0, 0), (jb, 1), (tb, 2)] [] ⟨n, [JR jb tb x ++ fr, VS k x.s]⟩ ⟨4, [JR 1 2 x ++ VS 3 x.s]⟩ := fitJ ⟨by omega, by omega, by omega, by omega⟩ (by omega) ⟨⟨k0, j0, t0⟩, kj, kt, jt⟩ hne g0 gk gj gt
 have b1 : ¬ 0 = jb := j0.symm
 have := h.framed (H' := ⟨n + 1, [JR jb tb x' ++ fr, VS n x'.s]⟩) (args := .ptr jb 0 :: args) fh (by simp only [fitL]; exact ⟨by simp [fitV, lookN, b1, kj], fitL_pure ha⟩) ?_ (by simp)
 ·simpa [renV_pure _ hv] using this
 ·have e0 : outN [(k, 3), (0, 0), (jb, 1), (tb, 2)] n 4 0 = 0 := by simp [outN, lookR]
  have e1 : outN [(k, 3), (0, 0), (jb, 1), (tb, 2)] n 4 1 = jb := by simp [outN, lookR]
  have e2 : outN [(k, 3), (0, 0), (jb, 1), (tb, 2)] n 4 2 = tb := by simp [outN, lookR]
  have e4 : outN [(k, 3), (0, 0), (jb, 1), (tb, 2)] n 4 4 = n := by simp [outN, lookR]
  refine ⟨by simp, ?_, ?_⟩
  ·intro nd lt
   rw [VS_eq hne']
   simp only [Heap.ents, JR, List.flatten_cons, List.flatten_nil, List.append_nil, List.cons_append, List.nil_append, List.map_append, List.map_cons, List.nodup_cons, List.mem_cons, List.mem_append] at nd ⊢
   have l1 : ∀ e, e ∈ fr → e.1 < n := fun e he => lt e (by simp [Heap.ents, he])
   refine ⟨?_, ?_, ?_⟩
   ·rintro (h | h | h)
    ·exact jt h
    ·exact nd.1 (.inr (.inl h))
    ·simp at h; omega
   ·rintro (h | h)
    ·exact nd.2.1 (.inl h)
    ·simp at h; omega
   ·rw [List.nodup_append]
    refine ⟨(List.nodup_append.1 nd.2.2).1, by simp; omega, fun a ha b hb => ?_⟩
    obtain ⟨e, he, rfl⟩ := List.mem_map.1 ha
    have l1 := l1 e he
    have l2 := (hfr e he).1
    simp at hb
    rcases hb with rfl | rfl <;> omega
  ·intro e he
   simp only [Heap.ents, JR, List.flatten_cons, List.flatten_nil, List.append_nil, List.cons_append, List.nil_append, List.mem_cons, List.mem_append] at he ⊢
   rcases he with rfl | rfl | he | he
   ·refine .inl ⟨(1, .cells [.ptr 0 0, .ptr 2 0, .str x'.b]), by simp, ?_⟩
    simp only [renB, renL, renV, e0, e1, e2]
   ·refine .inl ⟨(2, .cells x'.t.cs), by simp, ?_⟩
    simp only [renB, e2, renL_pure _ (pure_tcs x'.t)]
   ·refine .inr ⟨.inr (.inr (.inl he)), fun y hy => ?_⟩
    have := hfr e he
    simp at hy
    rcases hy with rfl | rfl | rfl | rfl
    ·exact fun h => this.2.1 h.symm
    ·exact fun h => this.1 h.symm
    ·exact fun h => this.2.2.1 h.symm
    ·exact fun h => this.2.2.2 h.symm
   ·rw [VS_eq hne'] at he ⊢
    simp only [List.mem_cons, List.not_mem_nil, or_false] at he
    rcases he with rfl | rfl
    ·refine .inl ⟨(0, .cells (nV 4 x'.s.tree :: x'.s.post)), by simp, ?_⟩
     simp only [renB, renL, renL_pure _ (pure_post x'.s), renV, e0, e4]
    ·refine .inl ⟨(4, .cells (flatAV (x'.s.tree.map aNode))), by simp, ?_⟩
     simp only [renB, e4, renL_pure _ (el_node x'.s.tree).pure]
theorem ends_J {v v' : AV} {n : Nat} (e : v = v') (hv : pureV v' = true) (k3 : k = 3 ∨ 4 ≤ k) (hne : x.s.tree ≠ []) (hf0 : getF 0 f = none) (hfk : getF k f = none) (hj : getF 1 f = some (.cells [.ptr 0 0, .ptr 2 0, .str x.b])) (ht : getF 2 f = some (.cells x.t.cs)) :
  ∃ σ Φ, fitV σ Φ v v' ∧ FitH 4 σ Φ ⟨n, [f, VS k x.s]⟩ ⟨5, [JR 1 2 x ++ VS 4 x.s]⟩ :=
 ⟨_, [], by subst e; exact fitV_pure hv, fitJ (k' := 4) (jb' := 1) (tb' := 2) ⟨by omega, by omega, by omega, by omega⟩ (by omega) (by omega) hne hf0 hfk hj ht⟩
end
theorem JR_inj {jb tb jb' tb' : Nat} {x y : JS} {fr fr' : List (Nat × Blk)} (h : JR jb tb x ++ fr = JR jb' tb' y ++ fr') : tb = tb' ∧ x.t = y.t ∧ x.b = y.b ∧ fr = fr' := by
 simp only [JR, List.cons_append, List.nil_append, List.cons.injEq, Prod.mk.injEq, Blk.cells.injEq, AV.ptr.injEq, AV.str.injEq, and_true, true_and] at h
 obtain ⟨⟨_, h1, h2⟩, ⟨_, h3⟩, h4⟩ := h
 exact ⟨h1, inj_tcs h3, h2, h4⟩
section
variable {α : Type} (f : FuncId) (ss : List (List Nat)) (enc : α → List AV) (pre : α → JS → Prop) (post : α → JS → AV) (st : α → JS → JS)
structure JArg (args : List AV) (H : Heap) (z : α × JS × Nat × Nat × Nat × List (Nat × Blk)) : Prop where
 ar : ∃ rest, args = .ptr z.2.2.2.1 0 :: rest ∧ pureL rest = true ∧ thawL ⟨0, []⟩ ss rest = some (enc z.1)
 hp : H = ⟨H.n, [JR z.2.2.2.1 z.2.2.2.2.1 z.2.1 ++ z.2.2.2.2.2, VS z.2.2.1 z.2.1.s]⟩
 dj : dJ H.n z.2.2.1 z.2.2.2.1 z.2.2.2.2.1
 of : offJ z.2.2.1 z.2.2.2.1 z.2.2.2.2.1 z.2.2.2.2.2
 ne : z.2.1.s.tree ≠ []
 pr : pre z.1 z.2.1
open Classical in
noncomputable def jG (args : List AV) (H : Heap) : Option (AV × Heap) :=
 if h : ∃ z, JArg ss enc pre args H z then some (post h.choose.1 h.choose.2.1, ⟨H.n + 1, [JR h.choose.2.2.2.1 h.choose.2.2.2.2.1 (st h.choose.1 h.choose.2.1) ++ h.choose.2.2.2.2.2, VS H.n (st h.choose.1 h.choose.2.1).s]⟩) else none
noncomputable def mkJ (h : ∀ a x, x.s.tree ≠ [] → pre a x → CallAt ⟨Tryz.prog, fun _ => [], fun _ => none⟩ f (.ptr 1 0 :: enc a) ⟨4, [JR 1 2 x ++ VS 3 x.s]⟩ (post a x) ⟨5, [JR 1 2 (st a x) ++ VS 4 (st a x).s]⟩ ∧ pureL (enc a) = true ∧ pureV (post a x) = true ∧ (st a x).s.tree ≠ []) : Entry Tryz.prog :=
 ⟨f, jG ss enc pre post st, fun args H v H' hv => by
  unfold jG at hv
  split at hv
  ·rename_i hx
   simp only [Option.some.injEq, Prod.mk.injEq] at hv
   obtain ⟨rfl, rfl⟩ := hv
   have hs := hx.choose_spec
   generalize hx.choose = z at *
   obtain ⟨⟨rest, rfl, hp, ht⟩, hH, dj, of, ne, pr⟩ := hs
   obtain ⟨h1, h2, h3, h4⟩ := h z.1 z.2.1 ne pr
   have hf := thawL_fit (H := ⟨0, []⟩) List.nodup_nil ht
   have := (call_J h1 h2 h3 dj ne h4 of).norm1 hf
   rw [← hH] at this
   exact this
  ·cases hv⟩
variable {f ss enc pre post st}
theorem mkJ_eq {h : ∀ a x, x.s.tree ≠ [] → pre a x → CallAt ⟨Tryz.prog, fun _ => [], fun _ => none⟩ f (.ptr 1 0 :: enc a) ⟨4, [JR 1 2 x ++ VS 3 x.s]⟩ (post a x) ⟨5, [JR 1 2 (st a x) ++ VS 4 (st a x).s]⟩ ∧ pureL (enc a) = true ∧ pureV (post a x) = true ∧ (st a x).s.tree ≠ []}
  {T : List (Entry Tryz.prog)} (hT : findE f T = some (mkJ f ss enc pre post st h).g) (inj : ∀ x y, enc x = enc y → x = y) (a : α) {x : JS} (hne : x.s.tree ≠ []) (hx : pre a x) {rest : List AV} (hp : pureL rest = true) (ht : thawL ⟨0, []⟩ ss rest = some (enc a))
  {n k jb tb : Nat} {fr : List (Nat × Blk)} (d : dJ n k jb tb) (of : offJ k jb tb fr) : callL (ctx T) (.fn f) (.ptr jb 0 :: rest) ⟨n, [JR jb tb x ++ fr, VS k x.s]⟩ = some (post a x, ⟨n + 1, [JR jb tb (st a x) ++ fr, VS n (st a x).s]⟩) := by
 rw [callL_summ (C := ctx T) (g := (mkJ f ss enc pre post st h).g) hT]
 show jG ss enc pre post st _ _ = _
 unfold jG
 have hex : ∃ y, JArg ss enc pre (.ptr jb 0 :: rest) ⟨n, [JR jb tb x ++ fr, VS k x.s]⟩ y := ⟨(a, x, k, jb, tb, fr), ⟨rest, rfl, hp, ht⟩, rfl, d, of, hne, hx⟩
 rw [dif_pos hex]
 have hs := hex.choose_spec
 generalize hex.choose = y at *
 obtain ⟨⟨rest', e1, _, ht'⟩, hH, _, _, ne, _⟩ := hs
 obtain ⟨y1, y2, y3, y4, y5, y6⟩ := y
 simp only [List.cons.injEq, AV.ptr.injEq, and_true] at e1
 obtain ⟨e1, e2⟩ := e1
 subst e1 e2
 have ex : y1 = a := inj _ _ (Option.some.inj (ht'.symm.trans ht))
 simp only [Heap.mk.injEq, true_and, List.cons.injEq, and_true] at hH
 obtain ⟨hj, hv⟩ := hH
 obtain ⟨rfl, h2, h3, rfl⟩ := JR_inj hj
 obtain ⟨rfl, h5⟩ := VS_inj hne ne hv
 subst ex
 cases x; cases y2
 simp only at h2 h3 h5
 subst h2 h3 h5
 rfl
end
theorem CallAt.norm2 {C : Ctx} {f : FuncId} {a b : AV} {args args' : List AV} {H H' : Heap} {v : AV} (h : CallAt C f (a :: b :: args') H v H') (hf : fitL [] [] args args') : CallAt C f (a :: b :: args) H v H' := by
 intro ρ w xs sm hx
 have ft : Fits [] [] ρ ρ H w := ⟨ρ.bare_le, sm.below, fun _ _ h => (by cases h), fun _ _ h => (by cases h)⟩
 obtain ⟨k1, k2⟩ := fitL_spec hf
 refine h ρ w xs sm ⟨by rw [hx.1]; simp [k1], fun i h1 h2 => ?_⟩
 match i with
 | 0 => exact hx.2 0 (by simp) h2
 | 1 => exact hx.2 1 (by simp) h2
 | i + 2 =>
  simp only [List.length_cons] at h1
  have := hx.2 (i + 2) (by simp; omega) h2
  exact Fits.run ft sm _ (Nat.le_refl _) this (k2 i (by omega) (by omega))
structure TS where
 s : SS
 t : Tk
def TR (tb : Nat) (x : TS) : List (Nat × Blk) := [(tb, .cells x.t.cs)]
abbrev TC (T : List (Entry Tryz.prog)) (g : FuncId) (args : List AV) (x : TS) (v : AV) (x' : TS) : Prop := CallAt (ctx T) g (.ptr 0 0 :: .ptr 1 0 :: args) ⟨3, [TR 1 x ++ VS 2 x.s]⟩ v ⟨4, [TR 1 x' ++ VS 3 x'.s]⟩
section
variable {x x' : TS} {n k tb : Nat} {f fr : List (Nat × Blk)}
theorem fitTR {N k' m' tb' : Nat} (hN : (k' < N → k = k') ∧ (tb' < N → tb = tb') ∧ N ≤ m') (d' : (k' ≠ 0 ∧ tb' ≠ 0) ∧ k' ≠ tb' ∧ k' < m' ∧ tb' < m') (d : (k ≠ 0 ∧ tb ≠ 0) ∧ k ≠ tb)
  (hne : x.s.tree ≠ []) (hf0 : getF 0 f = none) (hfk : getF k f = none) (ht : getF tb f = some (.cells x.t.cs)) :
  FitH N [(k, k'), (0, 0), (tb, tb')] [] ⟨n, [f, VS k x.s]⟩ ⟨m', [TR tb' x ++ VS k' x.s]⟩ where
 nd1 := by simp; omega
 nd2 := by simp; omega
 nd3 := by rw [VS_eq hne]; simp [Heap.ents, TR]; omega
 lt := by simp; omega
 idn := by simp; omega
 num := by simp; omega
 src := by
  intro e he
  rw [VS_eq hne] at he
  simp only [Heap.ents, TR, List.flatten_cons, List.flatten_nil, List.append_nil, List.cons_append, List.nil_append, List.mem_cons, List.not_mem_nil, or_false] at he
  rcases he with rfl | rfl | rfl
  ·exact ⟨tb, .cells x.t.cs, by simp, by simp [Heap.get, getFs, ht], fitL_pure (pure_tcs _)⟩
  ·refine ⟨0, _, by simp, sget0 hne hf0, ?_⟩
   simp only [fitB, fitL]
   exact ⟨by simp [fitV, lookN], fitL_pure (pure_post x.s)⟩
  ·exact ⟨k, _, by simp, sgetk (by omega) hne hfk, fitL_pure (el_node x.s.tree).pure⟩
 frz := fun x h => by cases h
def offT (k tb : Nat) (fr : List (Nat × Blk)) : Prop := ∀ e, e ∈ fr → e.1 ≠ 0 ∧ e.1 ≠ k ∧ e.1 ≠ tb
@[simp] theorem offT_nil : offT k tb [] = True := by simp [offT]
@[simp] theorem offT_cons {e : Nat × Blk} {r : List (Nat × Blk)} : offT k tb (e :: r) = ((e.1 ≠ 0 ∧ e.1 ≠ k ∧ e.1 ≠ tb) ∧ offT k tb r) := by simp [offT]
structure dT (n k tb : Nat) : Prop where
 k0 : k ≠ 0
 t0 : tb ≠ 0
 kt : k ≠ tb
 kn : k < n
 tn : tb < n
theorem call_T {C : Ctx} {g : FuncId} {args : List AV} {v : AV} {f1 f2 : List (Nat × Blk)} (h : CallAt C g (.ptr 0 0 :: .ptr 1 0 :: args) ⟨3, [TR 1 x ++ VS 2 x.s]⟩ v ⟨4, [TR 1 x' ++ VS 3 x'.s]⟩) (ha : pureL args = true) (hv : pureV v = true) (d : dT n k tb) (hne : x.s.tree ≠ []) (hne' : x'.s.tree ≠ []) (h1 : offT k tb f1) (h2 : offT k tb f2) :
  CallAt C g (.ptr 0 0 :: .ptr tb 0 :: args) ⟨n, [f1 ++ (tb, .cells x.t.cs) :: f2, VS k x.s]⟩ v ⟨n + 1, [f1 ++ (tb, .cells x'.t.cs) :: f2, VS n x'.s]⟩ := by
 obtain ⟨k0, t0, kt, kn, tn⟩ := d
 have all : ∀ (c : List AV) e, e ∈ f1 ++ (tb, Blk.cells c) :: f2 → e = (tb, .cells c) ∨ (e.1 ≠ 0 ∧ e.1 ≠ k ∧ e.1 ≠ tb) := fun c e he => by
  rcases List.mem_append.1 he with he | he
  ·exact .inr (h1 e he)
  ·rcases List.mem_cons.1 he with rfl | he
   ·exact .inl rfl
   ·exact .inr (h2 e he)
 have g0 : getF 0 (f1 ++ (tb, .cells x.t.cs) :: f2) = none := gF_no fun e he => by
  rcases all _ e he with rfl | h
  ·exact t0
  ·exact h.1
 have gk : getF k (f1 ++ (tb, .cells x.t.cs) :: f2) = none := gF_no fun e he => by
  rcases all _ e he with rfl | h
  ·exact kt.symm
  ·exact h.2.1
 have gt : getF tb (f1 ++ (tb, .cells x.t.cs) :: f2) = some (.cells x.t.cs) := by
  have key : ∀ f1 : List (Nat × Blk), offT k tb f1 → getF tb (f1 ++ (tb, .cells x.t.cs) :: f2) = some (.cells x.t.cs) := by
   intro f1
   induction f1 with
   | nil => intro _; simp [getF]
   | cons e r ih =>
    intro h
    have b1 : Nat.beq e.1 tb = false := beqN_ne (h e (by simp)).2.2
    simp only [List.cons_append, getF, b1]
    exact ih fun e he => h e (by simp [he])
  exact key f1 h1
 have fh : FitH 0 [(k, 2), (0, 0), (tb, 1)] [] ⟨n, [f1 ++ (tb, .cells x.t.cs) :: f2, VS k x.s]⟩ ⟨3, [TR 1 x ++ VS 2 x.s]⟩ := fitTR ⟨by omega, by omega, by omega⟩ (by omega) ⟨⟨k0, t0⟩, kt⟩ hne g0 gk gt
 have b1 : ¬ 0 = tb := t0.symm
 have b2 : ¬ k = 0 := k0
 have := h.framed (H' := ⟨n + 1, [f1 ++ (tb, .cells x'.t.cs) :: f2, VS n x'.s]⟩) (args := .ptr 0 0 :: .ptr tb 0 :: args) fh (by simp only [fitL]; exact ⟨by simp [fitV, lookN, b2], by simp [fitV, lookN, b1, kt], fitL_pure ha⟩) ?_ (by simp)
 ·simpa [renV_pure _ hv] using this
 ·have e0 : outN [(k, 2), (0, 0), (tb, 1)] n 3 0 = 0 := by simp [outN, lookR]
  have e1 : outN [(k, 2), (0, 0), (tb, 1)] n 3 1 = tb := by simp [outN, lookR]
  have e3 : outN [(k, 2), (0, 0), (tb, 1)] n 3 3 = n := by simp [outN, lookR]
  refine ⟨by simp, ?_, ?_⟩
  ·intro nd lt
   have es : ∀ c : List AV, (f1 ++ (tb, Blk.cells c) :: f2).map (fun x : Nat × Blk => x.1) = f1.map (fun x : Nat × Blk => x.1) ++ tb :: f2.map (fun x : Nat × Blk => x.1) := fun c => by simp
   have nd1 : ((f1 ++ (tb, Blk.cells x.t.cs) :: f2).map (fun x : Nat × Blk => x.1)).Nodup := (List.Sublist.map (fun x : Nat × Blk => x.1) (show List.Sublist (f1 ++ (tb, Blk.cells x.t.cs) :: f2) (Heap.ents ⟨n, [f1 ++ (tb, Blk.cells x.t.cs) :: f2, VS k x.s]⟩) from by unfold Heap.ents; simp only [List.flatten_cons]; exact List.sublist_append_left _ _)).nodup nd
   rw [VS_eq hne']
   show (((f1 ++ (tb, Blk.cells x'.t.cs) :: f2) ++ ([(0, Blk.cells (nV n x'.s.tree :: x'.s.post)), (n, Blk.cells (flatAV (x'.s.tree.map aNode)))] ++ [])).map (fun x : Nat × Blk => x.1)).Nodup
   rw [List.map_append, List.nodup_append]
   refine ⟨by rw [es, ← es x.t.cs]; exact nd1, by simp; omega, fun a ha b hb => ?_⟩
   rw [es] at ha
   have hx : ∃ e, e ∈ f1 ++ (tb, Blk.cells x.t.cs) :: f2 ∧ e.1 = a := by
    rw [← es x.t.cs] at ha
    obtain ⟨e, he, h⟩ := List.mem_map.1 ha
    exact ⟨e, he, h⟩
   obtain ⟨e, he, rfl⟩ := hx
   have l1 := lt e (by simp only [Heap.ents, List.flatten_cons]; exact List.mem_append_left _ he)
   have l2 : e.1 ≠ 0 := by
    rcases all _ e he with rfl | h
    ·exact t0
    ·exact h.1
   simp only at l1
   simp at hb
   rcases hb with rfl | rfl <;> omega
  ·intro e he
   simp only [Heap.ents, TR, List.flatten_cons, List.flatten_nil, List.append_nil] at he ⊢
   rcases List.mem_append.1 he with he | he
   ·rcases List.mem_append.1 he with he | he
    ·refine .inr ⟨List.mem_append_left _ (List.mem_append_left _ he), fun y hy => ?_⟩
     have := h1 e he
     simp at hy
     rcases hy with rfl | rfl | rfl
     ·exact fun h => this.2.1 h.symm
     ·exact fun h => this.1 h.symm
     ·exact fun h => this.2.2 h.symm
    ·rcases List.mem_cons.1 he with rfl | he
     ·refine .inl ⟨(1, .cells x'.t.cs), by simp, ?_⟩
      simp only [renB, e1, renL_pure _ (pure_tcs x'.t)]
     ·refine .inr ⟨List.mem_append_left _ (List.mem_append_right _ (List.mem_cons_of_mem _ he)), fun y hy => ?_⟩
      have := h2 e he
      simp at hy
      rcases hy with rfl | rfl | rfl
      ·exact fun h => this.2.1 h.symm
      ·exact fun h => this.1 h.symm
      ·exact fun h => this.2.2 h.symm
   ·rw [VS_eq hne'] at he ⊢
    simp only [List.mem_cons, List.not_mem_nil, or_false] at he
    rcases he with rfl | rfl
    ·refine .inl ⟨(0, .cells (nV 3 x'.s.tree :: x'.s.post)), by simp, ?_⟩
     simp only [renB, renL, renL_pure _ (pure_post x'.s), renV, e0, e3]
    ·refine .inl ⟨(3, .cells (flatAV (x'.s.tree.map aNode))), by simp, ?_⟩
     simp only [renB, e3, renL_pure _ (el_node x'.s.tree).pure]
theorem ends_T {v v' : AV} {n : Nat} (e : v = v') (hv : pureV v' = true) (k3 : k = 2 ∨ 3 ≤ k) (hne : x.s.tree ≠ []) (hf0 : getF 0 f = none) (hfk : getF k f = none) (ht : getF 1 f = some (.cells x.t.cs)) :
  ∃ σ Φ, fitV σ Φ v v' ∧ FitH 3 σ Φ ⟨n, [f, VS k x.s]⟩ ⟨4, [TR 1 x ++ VS 3 x.s]⟩ :=
 ⟨_, [], by subst e; exact fitV_pure hv, fitTR (k' := 3) (tb' := 1) ⟨by omega, by omega, by omega⟩ (by omega) (by omega) hne hf0 hfk ht⟩
end
theorem app_inj {tb : Nat} {c d : List AV} : ∀ {f1 f2 g1 g2 : List (Nat × Blk)}, (∀ e, e ∈ f1 → e.1 ≠ tb) → (∀ e, e ∈ g1 → e.1 ≠ tb) → f1 ++ (tb, Blk.cells c) :: f2 = g1 ++ (tb, Blk.cells d) :: g2 → f1 = g1 ∧ c = d ∧ f2 = g2
 | [], f2, [], g2, _, _, h => by simp at h; exact ⟨rfl, h.1, h.2⟩
 | [], f2, y :: g1, g2, _, hg, h => by
  simp only [List.nil_append, List.cons_append, List.cons.injEq] at h
  exact absurd (by rw [← h.1]) (hg y (by simp))
 | x :: f1, f2, [], g2, hf, _, h => by
  simp only [List.nil_append, List.cons_append, List.cons.injEq] at h
  exact absurd (by rw [h.1]) (hf x (by simp))
 | x :: f1, f2, y :: g1, g2, hf, hg, h => by
  simp only [List.cons_append, List.cons.injEq] at h
  obtain ⟨a, b, c⟩ := app_inj (fun e he => hf e (by simp [he])) (fun e he => hg e (by simp [he])) h.2
  exact ⟨by rw [h.1, a], b, c⟩
section
variable {α : Type} (f : FuncId) (ss : List (List Nat)) (enc : α → List AV) (pre : α → TS → Prop) (post : α → TS → AV) (st : α → TS → TS)
structure TArg (args : List AV) (H : Heap) (z : α × TS × Nat × Nat × List (Nat × Blk) × List (Nat × Blk)) : Prop where
 ar : ∃ rest, args = .ptr 0 0 :: .ptr z.2.2.2.1 0 :: rest ∧ pureL rest = true ∧ thawL ⟨0, []⟩ ss rest = some (enc z.1)
 hp : H = ⟨H.n, [z.2.2.2.2.1 ++ (z.2.2.2.1, .cells z.2.1.t.cs) :: z.2.2.2.2.2, VS z.2.2.1 z.2.1.s]⟩
 dj : dT H.n z.2.2.1 z.2.2.2.1
 of1 : offT z.2.2.1 z.2.2.2.1 z.2.2.2.2.1
 of2 : offT z.2.2.1 z.2.2.2.1 z.2.2.2.2.2
 ne : z.2.1.s.tree ≠ []
 pr : pre z.1 z.2.1
open Classical in
noncomputable def tG (args : List AV) (H : Heap) : Option (AV × Heap) :=
 if h : ∃ z, TArg ss enc pre args H z then some (post h.choose.1 h.choose.2.1, ⟨H.n + 1, [h.choose.2.2.2.2.1 ++ (h.choose.2.2.2.1, .cells (st h.choose.1 h.choose.2.1).t.cs) :: h.choose.2.2.2.2.2, VS H.n (st h.choose.1 h.choose.2.1).s]⟩) else none
noncomputable def mkT (h : ∀ a x, x.s.tree ≠ [] → pre a x → CallAt ⟨Tryz.prog, fun _ => [], fun _ => none⟩ f (.ptr 0 0 :: .ptr 1 0 :: enc a) ⟨3, [TR 1 x ++ VS 2 x.s]⟩ (post a x) ⟨4, [TR 1 (st a x) ++ VS 3 (st a x).s]⟩ ∧ pureL (enc a) = true ∧ pureV (post a x) = true ∧ (st a x).s.tree ≠ []) : Entry Tryz.prog :=
 ⟨f, tG ss enc pre post st, fun args H v H' hv => by
  unfold tG at hv
  split at hv
  ·rename_i hx
   simp only [Option.some.injEq, Prod.mk.injEq] at hv
   obtain ⟨rfl, rfl⟩ := hv
   have hs := hx.choose_spec
   generalize hx.choose = z at *
   obtain ⟨⟨rest, rfl, hp, ht⟩, hH, dj, of1, of2, ne, pr⟩ := hs
   obtain ⟨h1, h2, h3, h4⟩ := h z.1 z.2.1 ne pr
   have hf := thawL_fit (H := ⟨0, []⟩) List.nodup_nil ht
   have := (call_T h1 h2 h3 dj ne h4 of1 of2).norm2 hf
   rw [← hH] at this
   exact this
  ·cases hv⟩
variable {f ss enc pre post st}
theorem mkT_eq {h : ∀ a x, x.s.tree ≠ [] → pre a x → CallAt ⟨Tryz.prog, fun _ => [], fun _ => none⟩ f (.ptr 0 0 :: .ptr 1 0 :: enc a) ⟨3, [TR 1 x ++ VS 2 x.s]⟩ (post a x) ⟨4, [TR 1 (st a x) ++ VS 3 (st a x).s]⟩ ∧ pureL (enc a) = true ∧ pureV (post a x) = true ∧ (st a x).s.tree ≠ []}
  {T : List (Entry Tryz.prog)} (hT : findE f T = some (mkT f ss enc pre post st h).g) (inj : ∀ x y, enc x = enc y → x = y) (a : α) {x : TS} (hne : x.s.tree ≠ []) (hx : pre a x) {rest : List AV} (hp : pureL rest = true) (ht : thawL ⟨0, []⟩ ss rest = some (enc a))
  {n k tb : Nat} {f1 f2 : List (Nat × Blk)} (d : dT n k tb) (of1 : offT k tb f1) (of2 : offT k tb f2) : callL (ctx T) (.fn f) (.ptr 0 0 :: .ptr tb 0 :: rest) ⟨n, [f1 ++ (tb, .cells x.t.cs) :: f2, VS k x.s]⟩ = some (post a x, ⟨n + 1, [f1 ++ (tb, .cells (st a x).t.cs) :: f2, VS n (st a x).s]⟩) := by
 rw [callL_summ (C := ctx T) (g := (mkT f ss enc pre post st h).g) hT]
 show tG ss enc pre post st _ _ = _
 unfold tG
 have hex : ∃ y, TArg ss enc pre (.ptr 0 0 :: .ptr tb 0 :: rest) ⟨n, [f1 ++ (tb, .cells x.t.cs) :: f2, VS k x.s]⟩ y := ⟨(a, x, k, tb, f1, f2), ⟨rest, rfl, hp, ht⟩, rfl, d, of1, of2, hne, hx⟩
 rw [dif_pos hex]
 have hs := hex.choose_spec
 generalize hex.choose = y at *
 obtain ⟨⟨rest', e1, _, ht'⟩, hH, _, o1, o2, ne, _⟩ := hs
 obtain ⟨y1, y2, y3, y4, y5, y6⟩ := y
 simp only [List.cons.injEq, AV.ptr.injEq, and_true, true_and] at e1
 obtain ⟨e1, e2⟩ := e1
 subst e1 e2
 have ex : y1 = a := inj _ _ (Option.some.inj (ht'.symm.trans ht))
 simp only [Heap.mk.injEq, true_and, List.cons.injEq, and_true] at hH
 obtain ⟨hj, hv⟩ := hH
 obtain ⟨rfl, h2, rfl⟩ := app_inj (fun e he => (of1 e he).2.2) (fun e he => (o1 e he).2.2) hj
 have h2 := inj_tcs h2
 obtain ⟨rfl, h5⟩ := VS_inj hne ne hv
 subst ex
 cases x; cases y2
 simp only at h2 h5
 subst h2 h5
 rfl
end
theorem permJ {C : Ctx} {n : Nat} {r : Option Nat} {Q : Out → St → Prop} {c : Code} {ks : List Nat} {vs : List AV} {ts : List (Nat × AV)} {sz : Nat} {s : SS} {t : Tk} {b : Str}
  (h : WpSr C n r c ⟨ks, vs, ts, sz, ⟨4, [[(1, .cells [.ptr 0 0, .ptr 2 0, .str b]), (2, .cells t.cs)], VS 3 s]⟩⟩ Q) : WpSr C n r c ⟨ks, vs, ts, sz, ⟨4, [[], JR 1 2 ⟨s, t, b⟩ ++ VS 3 s]⟩⟩ Q :=
 WpSr.perm ⟨4, [[(1, .cells [.ptr 0 0, .ptr 2 0, .str b]), (2, .cells t.cs)], VS 3 s]⟩ rfl (by simp [Heap.ents, JR]) h
theorem permT {C : Ctx} {n : Nat} {r : Option Nat} {Q : Out → St → Prop} {c : Code} {ks : List Nat} {vs : List AV} {ts : List (Nat × AV)} {sz : Nat} {s : SS} {t : Tk}
  (h : WpSr C n r c ⟨ks, vs, ts, sz, ⟨3, [[(1, .cells t.cs)], VS 2 s]⟩⟩ Q) : WpSr C n r c ⟨ks, vs, ts, sz, ⟨3, [[], TR 1 ⟨s, t⟩ ++ VS 2 s]⟩⟩ Q :=
 WpSr.perm ⟨3, [[(1, .cells t.cs)], VS 2 s]⟩ rfl (by simp [Heap.ents, TR]) h
theorem ends_J2 {s s' : SS} {t : Tk} {b : Str} {k n : Nat} {f : List (Nat × Blk)} {v v' : AV} (e : v = v') (es : s = s') (hv : pureV v' = true) (k3 : k = 3 ∨ 4 ≤ k) (hne : s'.tree ≠ []) (hf0 : getF 0 f = none) (hfk : getF k f = none) (hj : getF 1 f = some (.cells [.ptr 0 0, .ptr 2 0, .str b])) (ht : getF 2 f = some (.cells t.cs)) :
  ∃ σ Φ, fitV σ Φ v v' ∧ FitH 4 σ Φ ⟨n, [f, VS k s]⟩ ⟨5, [JR 1 2 ⟨s', t, b⟩ ++ VS 4 s']⟩ := by
 subst es
 exact ends_J (x := ⟨s, t, b⟩) e hv k3 hne hf0 hfk hj ht
theorem ends_T2 {s s' : SS} {t : Tk} {k n : Nat} {f : List (Nat × Blk)} {v v' : AV} (e : v = v') (es : s = s') (hv : pureV v' = true) (k3 : k = 2 ∨ 3 ≤ k) (hne : s'.tree ≠ []) (hf0 : getF 0 f = none) (hfk : getF k f = none) (ht : getF 1 f = some (.cells t.cs)) :
  ∃ σ Φ, fitV σ Φ v v' ∧ FitH 3 σ Φ ⟨n, [f, VS k s]⟩ ⟨4, [TR 1 ⟨s', t⟩ ++ VS 3 s']⟩ := by
 subst es
 exact ends_T (x := ⟨s, t⟩) e hv k3 hne hf0 hfk ht
@[simp] theorem dT_iff {n k tb : Nat} : dT n k tb = (k ≠ 0 ∧ tb ≠ 0 ∧ k ≠ tb ∧ k < n ∧ tb < n) := propext ⟨fun h => ⟨h.k0, h.t0, h.kt, h.kn, h.tn⟩, fun h => ⟨h.1, h.2.1, h.2.2.1, h.2.2.2.1, h.2.2.2.2⟩⟩
@[simp] theorem dJ_iff {n k jb tb : Nat} : dJ n k jb tb = (k ≠ 0 ∧ jb ≠ 0 ∧ tb ≠ 0 ∧ k ≠ jb ∧ k ≠ tb ∧ jb ≠ tb ∧ k < n ∧ jb < n ∧ tb < n) := propext ⟨fun h => ⟨h.k0, h.j0, h.t0, h.kj, h.kt, h.jt, h.kn, h.jn, h.tn⟩, fun h => ⟨h.1, h.2.1, h.2.2.1, h.2.2.2.1, h.2.2.2.2.1, h.2.2.2.2.2.1, h.2.2.2.2.2.2.1, h.2.2.2.2.2.2.2.1, h.2.2.2.2.2.2.2.2⟩⟩
end Go.Proofs.YtfgdcciaecajpaaGreatDoor