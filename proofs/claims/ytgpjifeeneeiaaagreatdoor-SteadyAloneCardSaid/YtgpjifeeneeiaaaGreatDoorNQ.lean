/- Attributes: the document's code. No condition. -/
import Derived.Test.YtgpjifeeneeiaaaGreatDoorNP
namespace Go.Proofs.YtgpjifeeneeiaaaGreatDoor
set_option linter.unusedSimpArgs false
set_option linter.unusedVariables false
open Go Go.RowKit
set_option maxRecDepth 100000
theorem FitH.fsV {n : Nat} {σ : List (Nat × Nat)} {Φ : List (Nat × List AV)} {H : Heap} {m : Nat} {f g : List (List (Nat × Blk))} (h : FitH n σ Φ H ⟨m, f⟩) (e : f.flatten = g.flatten) : FitH n σ Φ H ⟨m, g⟩ where
 nd1 := h.nd1
 nd2 := h.nd2
 nd3 := by have := h.nd3; simp only [Heap.ents] at this ⊢; rw [← e]; exact this
 lt := h.lt
 idn := h.idn
 num := h.num
 src := by have := h.src; simp only [Heap.ents] at this ⊢; rw [← e]; exact this
 frz := h.frz
def aBytes (s : Str) : AV := .fslc 1 (bytesAV s)
theorem bytes_all1 : ∀ (s : Str), allSize 1 (bytesAV s) = true
 | [] => rfl
 | c :: r => by simp [bytesAV, allSize, bytes_all1 r]
theorem bytes_flat : ∀ (s : Str), flatAV (bytesAV s) = bytesAV s
 | [] => rfl
 | c :: r => by simp [bytesAV, flatAV, bytes_flat r]
theorem fitV_bytes {σ : List (Nat × Nat)} {Φ : List (Nat × List AV)} {b : Nat} {s : Str} {cap : Cap} (h : lookC b Φ = some (bytesAV s)) : fitV σ Φ (.slc b 0 s.length cap) (aBytes s) := by
 simp only [fitV, aBytes]
 refine .inl ⟨bytesAV s, h, ?_, bytes_len s, bytes_all1 s⟩
 have := takeL_all (bytesAV s)
 rw [bytes_len] at this
 simp only [subL, List.drop_zero, Nat.mul_one, this, bytes_flat]
theorem pure_aBytes (s : Str) : pureV (aBytes s) = true := by simp [aBytes, pureV, bytes_flat, pure_bytes]
theorem atBy {s : Str} {i : Nat} (h : i < s.length) : indexAddrA Tryz.prog 100 (aBytes s) (.int .i64 (i : Int)) = some (.fptr [.int .u8 s[i].toNat] 0) := by
 have hb : i < (bytesAV s).length := by rw [bytes_len]; exact h
 simp [indexAddrA, aBytes, idx_nat hb, getL_bytes h, AV.cells]
def spelL (sp : Int) : List Str := if sp = 1 then [[118, 105, 101, 119, 66, 111, 120], [112, 114, 101, 115, 101, 114, 118, 101, 65, 115, 112, 101, 99, 116, 82, 97, 116, 105, 111], [103, 114, 97, 100, 105, 101, 110, 116, 85, 110, 105, 116, 115]] else if sp = 2 then [[100, 101, 102, 105, 110, 105, 116, 105, 111, 110, 85, 82, 76]] else []
theorem spel_len (sp : Int) : (spelL sp).length ≤ 3 := by
 unfold spelL
 split
 ·exact Nat.le_refl 3
 split
 ·exact (by decide : 1 ≤ 3)
 ·exact Nat.zero_le _
theorem c87 {T : List (Entry Tryz.prog)} (sp : Int) : CallAt (ctx T) 87 [.int .i64 sp] ⟨0, []⟩ (aStrs (spelL sp)) ⟨0, []⟩ := by
 by_cases h1 : sp = 1
 ·refine callAt_body (fn := Tryz.f87) (s0 := ⟨[0, 2, 3], [.int .i64 sp, .undef, .undef], [], 10, ⟨0, [[]]⟩⟩) Tryz.func87 rfl rfl rfl ?_
  (repeat' (first
   | with_reducible refine wps_seq ?_
   | with_reducible refine wps_block ?_
   | (with_reducible refine wps_region callOK ?_; apply runE; simp [zS, *]; exact rfl)
   | (with_reducible refine run_end ?_; simp only [thenQ, blockQ])
   | (refine wps_ct rfl ?_)
   | (with_reducible refine wps_ret ?_; simp [retVal, Tryz.f87, oneOr, thenQ, blockQ])))
  all_goals first | (skip) | (exfalso; omega)
  simp [spelL, h1]
  exact ends_slice rfl (by simp [flatAV]) (by simp [pureL, pureV]) rfl (by simp [allSize]) rfl
 ·by_cases h2 : sp = 2
  ·refine callAt_body (fn := Tryz.f87) (s0 := ⟨[0, 2, 3], [.int .i64 sp, .undef, .undef], [], 10, ⟨0, [[]]⟩⟩) Tryz.func87 rfl rfl rfl ?_
   (repeat' (first
    | with_reducible refine wps_seq ?_
    | with_reducible refine wps_block ?_
    | (with_reducible refine wps_region callOK ?_; apply runE; simp [zS, *]; exact rfl)
    | (with_reducible refine run_end ?_; simp only [thenQ, blockQ])
    | (refine wps_ct rfl ?_)
    | (refine wps_cf rfl ?_)
    | (with_reducible refine wps_ret ?_; simp [retVal, Tryz.f87, oneOr, thenQ, blockQ])))
   all_goals first | (skip) | (exfalso; omega)
   simp [spelL, h2]
   exact ends_slice rfl (by simp [flatAV]) (by simp [pureL, pureV]) rfl (by simp [allSize]) rfl
  ·refine callAt_body (fn := Tryz.f87) (s0 := ⟨[0, 2, 3], [.int .i64 sp, .undef, .undef], [], 10, ⟨0, [[]]⟩⟩) Tryz.func87 rfl rfl rfl ?_
   (repeat' (first
    | with_reducible refine wps_seq ?_
    | with_reducible refine wps_block ?_
    | (with_reducible refine wps_region callOK ?_; apply runE; simp [zS, *]; exact rfl)
    | (with_reducible refine run_end ?_; simp only [thenQ, blockQ])
    | (refine wps_cf rfl ?_)
    | (with_reducible refine wps_skip ?_; simp only [thenQ, blockQ])
    | (with_reducible refine wps_ret ?_; simp [retVal, Tryz.f87, oneOr, thenQ, blockQ])))
   all_goals first | (skip) | (exfalso; omega)
   simp [spelL, h1, h2]
   exact ends_nil
theorem inj_87 (x y : Int) (h : (fun z : Int => ([.int .i64 z] : List AV)) x = (fun z : Int => ([.int .i64 z] : List AV)) y) : x = y := by
 simp only [List.cons.injEq, and_true] at h
 exact AV.int.inj h |>.2
noncomputable def e87 : Entry Tryz.prog := mkE 87 [[]] (fun z : Int => [.int .i64 z]) (fun z => True) (fun z => aStrs (spelL z)) fun z h => c87 (T := [])  z 
theorem k87 {T : List (Entry Tryz.prog)} (hT : findE 87 T = some e87.g) (sp : Int) (H : Heap) : callL (ctx T) (.fn 87) [.int .i64 sp] H = some (aStrs (spelL sp), H) :=
 mkE_pure hT inj_87 (sp) trivial (by simp [pureL, pureV, thawA_ok]) (by simp [thawA_ok]) H
theorem c89 {T : List (Entry Tryz.prog)} (hL : findE 90 T = some e90.g) (x s : Str) (hx : x.length ≤ 1000000) : CallAt (ctx T) 89 [.str x, .fptr [.str s] 0] ⟨0, []⟩ (.bool (decide (lower x = s))) ⟨0, []⟩ := by
 have kl := fun H => k90 hL hx H
 refine callAt_body (fn := Tryz.f89) (s0 := ⟨[0, 1, 3], [.str x, .fptr [.str s] 0, .undef], [], 8, ⟨0, [[]]⟩⟩) Tryz.func89 rfl rfl rfl ?_
 repeat apply wq
 refine wps_region callOK ?_
 simp [zS]
 repeat apply wq
 refine wps_drawA mixed callOK (by decide +kernel) rfl fun B_ hB_ => ?_
 have hD_ : ahead B_ 1 2 = false ∧ ahead B_ 2 1 = false := by rw [hB_]; decide +kernel
 simp [zS, mkBlk, guardA, clsOf, wantedBy, unwantedBy, allPend, Heap.lay, ontoF, evalA_c, evalA_n, putA_s, valA_s, actA_s, layA_s, gateA_t, gateA_f, clsA_l, clsA_a, clsA_p, clsA_r, offA_a, offA_l, offA_p, offA_r, hD_, kl]
 refine ⟨_, _, ⟨rfl, rfl⟩, ?_⟩
 simp [allPend, Heap.lay, ontoF, thenQ]
 repeat apply wq
 refine wps_ret ?_
 simp [retVal, Tryz.f89, oneOr, thenQ, blockQ]
 exact ends_pure rfl (by rfl)
abbrev lsSigns : Str := [48, 49, 50, 51, 52, 53, 54, 55, 56, 57, 45, 95, 58]
def okCh (i : Nat) (c : UInt8) : Bool := (decide (97 ≤ (c.toNat : Int)) && decide ((c.toNat : Int) ≤ 122)) || (decide (0 < (i : Int)) && decide (0 ≤ Lib.indexByte lsSigns c))
def chFrom : Str → Nat → Bool
 | [], _ => true
 | c :: r, i => okCh i c && chFrom r (i + 1)
def lowIn (L : List Str) (s : Str) : Bool := L.any fun x => decide (lower x = s)
def nameB (sp : Int) (s : Str) : Bool := decide (s ∈ spelL sp) || (!(decide (s = []) || lowIn (spelL sp) s) && chFrom s 0)
theorem c52 {T : List (Entry Tryz.prog)} (hc0 : findE 87 T = some e87.g) (hc1 : findE 116 T = some e116.g) (hc2 : findE 90 T = some e90.g) (hc3 : findE 91 T = some e91.g) (sp : Int) (s : Str) (hs : s.length ≤ 1000000) : CallAt (ctx T) 52 [.int .i64 sp, .str s] ⟨0, []⟩ (.bool (nameB sp s)) ⟨0, []⟩ := by
 have kc0 := @k87 T hc0
 have kc1 := @k116 T hc1
 have kc2 := @k90 T hc2
 have kc3 := @k91 T hc3
 have k0 := fun H => kc0 sp H
 have k3 := fun c H => kc3 lsSigns c H
 have hsl := spel_len sp
 have hml : ∀ x, x ∈ spelL sp → x.length ≤ 1000000 := by
  unfold spelL
  intro x hx
  split at hx
  ·simp at hx; rcases hx with rfl | rfl | rfl <;> decide
  ·split at hx
   ·simp at hx; subst hx; decide
   ·cases hx
 have hC := c79 hc1 (spelL sp) s (by omega)
 have hF := c88 (T := T) (spelL sp) (by omega) 89 [.fptr [.str s] 0] rfl (fun x => decide (lower x = s)) (fun x hx => c89 hc2 x s (hml x hx))
 have hF2 := CallAt.thaw hF rfl [[1], []] (H := ⟨1, [[(0, .cells [.str s])]]⟩) (args := [aStrs (spelL sp), .func (.func 89) [] [.ptr 0 0]]) (by simp [thawA_ok, okV, pureV, pureL, thawA_clo (H := ⟨1, [[(0, .cells [.str s])]]⟩) (b := 0) (cs := [.str s]) rfl rfl])
 have el : (spelL sp).any (fun x => decide (lower x = s)) = lowIn (spelL sp) s := rfl
 rw [el] at hF2
 have hpu : pureL [aStrs (spelL sp), .str s] = true := by simp [pureL, pureV]
 unfold nameB
 clear hF el hml hsl kc0 kc1 kc2 kc3
 generalize lowIn (spelL sp) s = lb at *
 generalize decide (s ∈ spelL sp) = db at *
 generalize spelL sp = l at *
 have cb : convA Tryz.prog ⟨1, [[(0, .cells [.str s])]]⟩ 9 100 (.str s) = some (.slc 1 0 s.length (.rest 1), ⟨2, [[(1, .cells (bytesAV s)), (0, .cells [.str s])]]⟩) := by
  have hr : roomOK s.length 1 = true := by simp [roomOK]; omega
  simp [convA, hr, Heap.new, pushF]
 have ls : ∀ H, lenA Tryz.prog H 100 (.slc 1 0 s.length (.rest 1)) = some s.length := fun H => rfl
 refine callAt_body (fn := Tryz.f52) (s0 := ⟨[0, 1, 3, 4, 5, 6, 7, 21, 22, 23], [.int .i64 sp, .str s, .undef, .undef, .undef, .undef, .undef, .undef, .undef, .undef], [], 44, ⟨0, [[]]⟩⟩) Tryz.func52 rfl rfl rfl ?_
 repeat apply wq
 refine wps_region callOK ?_
 simp [zS]
 repeat apply wq
 refine wps_region callOK ?_
 simp [zS, k0]
 repeat apply wq
 refine wps_region (callOKP [⟨79, _, _, hpu, hC⟩]) ?_
 simp [zS, callP]
 cases db with
 | true =>
  repeat apply wq
  refine wps_ct rfl ?_
  repeat apply wq
  refine wps_region callOK ?_
  simp [zS]
  repeat apply wq
  refine wps_ret ?_
  simp [retVal, Tryz.f52, oneOr, thenQ, blockQ]
  exact ends_pure rfl (by rfl)
 | false =>
  repeat apply wq
  refine wps_cf rfl ?_
  repeat apply wq
  refine wps_skip ?_
  simp
  repeat apply wq
  refine wps_region (callOKF [⟨88, _, _, _, _, hF2⟩]) ?_
  by_cases he : s = []
  ·simp [zS, callF, he]
   repeat apply wq
   refine wps_ct rfl ?_
   repeat apply wq
   refine wps_region callOK ?_
   simp [zS]
   repeat apply wq
   refine wps_ret ?_
   simp [retVal, Tryz.f52, oneOr, thenQ, blockQ]
   exact ends_pure rfl (by simp)
  ·cases lb with
   | true =>
    simp [zS, callF, he]
    repeat apply wq
    refine wps_ct rfl ?_
    repeat apply wq
    refine wps_region callOK ?_
    simp [zS]
    repeat apply wq
    refine wps_ret ?_
    simp [retVal, Tryz.f52, oneOr, thenQ, blockQ]
    exact ends_pure rfl (by simp)
   | false =>
    simp [zS, callF, he]
    repeat apply wq
    refine wps_cf rfl ?_
    repeat apply wq
    refine wps_skip ?_
    simp
    repeat apply wq
    refine wps_region callOK ?_
    simp [zS, cb, ls]
    repeat apply wq
    refine wps_block (wps_loop' (fun i : Nat => (⟨[0, 1, 3, 4, 5, 6, 7, 21, 22, 23], [.int .i64 sp, .str s, .fptr [.str s] 0, .bool false, aStrs l, .undef, .undef, aBytes s, .int .i64 (s.length : Nat), .int .i64 (i : Int)], [], 44, ⟨0, [[]]⟩⟩ : St))
     (fun i => i ≤ s.length ∧ chFrom s 0 = chFrom (s.drop i) i) (fun i => s.length - i) [] [(1, bytesAV s), (0, [.str s])] 0 ⟨Nat.zero_le _, rfl⟩ ⟨rfl, rfl, rfl, ?_, ?_⟩ ?_)
    ·simp [fitL, fitV_bytes, lookC, pureV, pureL]
     simp [fitV, lookC, pureL, pureV]
    ·refine FitH.fsV (.froze (by simp) fun x hx => ?_) rfl
     simp at hx
     rcases hx with rfl | rfl
     ·exact ⟨bytesAV s, by simp [Heap.get, getFs, getF], fitL_pure (pure_bytes s), pure_bytes s⟩
     ·exact ⟨[.str s], by simp [Heap.get, getFs, getF], fitL_pure rfl, rfl⟩
    rintro i ⟨hi, hx⟩ B hB
    clear hC hF2 cb ls k0
    repeat apply wq
    refine wps_region callOK ?_
    simp [zS]
    repeat apply wq
    refine wps_cond rfl (fun h => ?_) fun h => ?_
    ·simp at h
     have hix := atBy h
     rw [List.drop_eq_getElem_cons h] at hx
     simp only [chFrom] at hx
     have ha := add_one (show i ≤ 1000000000 by omega)
     have w1 : wr .i64 1 = some 1 := rfl
     have hfit : (∃ σ Φ, Fit 0 σ Φ (⟨[0, 1, 3, 4, 5, 6, 7, 21, 22, 23], [.int .i64 sp, .str s, .fptr [.str s] 0, .bool false, aStrs l, .undef, .undef, aBytes s, .int .i64 (s.length : Nat), .int .i64 ((i + 1 : Nat) : Int)], [], 44, ⟨0, [[]]⟩⟩ : St) (⟨[0, 1, 3, 4, 5, 6, 7, 21, 22, 23], [.int .i64 sp, .str s, .fptr [.str s] 0, .bool false, aStrs l, .undef, .undef, aBytes s, .int .i64 (s.length : Nat), .int .i64 ((i + 1 : Nat) : Int)], [], 44, ⟨0, [[]]⟩⟩ : St)) := ⟨[], [], ⟨rfl, rfl, rfl, by simp [fitL, fitV, pureV, pureL, pure_aBytes], FitH.nothing⟩⟩
     unfold okCh at hx
     generalize s[i] = c at *
     have k3c := fun H => k3 c H
     clear k3
     generalize Lib.indexByte lsSigns c = ib at *
     repeat apply wq
     refine wps_skip ?_
     simp only [thenQ, blockQ]
     (repeat' (first
      | with_reducible refine wps_seq ?_
      | with_reducible refine wps_block ?_
      | (with_reducible refine wps_region callOK ?_; apply runE; simp [zS, *]; exact rfl)
      | (with_reducible refine run_end ?_; simp only [thenQ, blockQ])
      | (with_reducible refine gate_split (fun hc => ?_) (fun hc => ?_) <;> ((have hd := hc); (try simp at hd); (try subst hd); apply runE; simp [zS, *]; exact rfl))
      | (with_reducible refine pick_split (fun hc => ?_) (fun hc => ?_) <;> ((have hd := hc); (try simp at hd); (try subst hd); apply runE; simp [zS, *]; exact rfl))
      | (refine wps_ct rfl ?_)
      | (refine wps_cf rfl ?_)
      | (refine wps_cond rfl (fun hc => ?_) (fun hc => ?_) <;> ((have hd := hc); (try simp at hd); (try subst hd)))
      | (with_reducible refine wps_skip ?_; simp only [thenQ, blockQ])
      | (with_reducible refine wps_exit ?_; simp [thenQ, blockQ])
      | (with_reducible refine wps_ret ?_; simp [retVal, Tryz.f52, oneOr, thenQ, blockQ])))
     all_goals first | exact ends_pure rfl (by rw [hx]; simp [*]) | (exact hB _ (i + 1) (by omega) ⟨by omega, by rw [hx]; simp [*]⟩ ⟨[], [], ⟨rfl, rfl, rfl, by simp [fitL, fitV, pureV, pureL, pure_aBytes], FitH.nothing⟩⟩) | (exfalso; omega)
    ·simp at h
     repeat apply wq
     refine wps_exit ?_
     simp
     repeat apply wq
     refine wps_region callOK ?_
     simp [zS]
     repeat apply wq
     refine wps_ret ?_
     simp [retVal, Tryz.f52, oneOr, thenQ, blockQ]
     exact ends_pure rfl (by rw [hx, List.drop_eq_nil_of_le h]; simp [chFrom, he])
theorem inj_52 (x y : Int × Str) (h : (fun z : Int × Str => ([.int .i64 z.1, .str z.2] : List AV)) x = (fun z : Int × Str => ([.int .i64 z.1, .str z.2] : List AV)) y) : x = y := by
 obtain ⟨x0, x1⟩ := x
 obtain ⟨y0, y1⟩ := y
 simp only [List.cons.injEq, and_true] at h
 obtain ⟨h0, h1⟩ := h
 have g0 : x0 = y0 := AV.int.inj h0 |>.2
 have g1 : x1 = y1 := AV.str.inj h1
 subst g0 g1
 rfl
noncomputable def e52 : Entry Tryz.prog := mkE 52 [[], []] (fun z : Int × Str => [.int .i64 z.1, .str z.2]) (fun z => (z.2.length ≤ 1000000)) (fun z => .bool (nameB z.1 z.2)) fun z h => c52 (T := [e87, e116, e90, e91]) rfl rfl rfl rfl z.1 z.2 h
theorem k52 {T : List (Entry Tryz.prog)} (hT : findE 52 T = some e52.g) (sp : Int) (s : Str) (hs : s.length ≤ 1000000) (H : Heap) : callL (ctx T) (.fn 52) [.int .i64 sp, .str s] H = some (.bool (nameB sp s), H) :=
 mkE_scalar hT inj_52 (sp, s) hs rfl (by simp [thawA_ok])
@[simp] theorem szT69 : sizeT Tryz.prog 69 = some 1 := rfl
@[simp] theorem agT69 : aggT Tryz.prog 69 = some false := rfl
@[simp] theorem byT69 : bytesT Tryz.prog 69 = some 8 := rfl
@[simp] theorem alT69 (H : Heap) : alV Tryz.prog H 69 = some (.ptr H.n 0, H.new (.cells [.nilM])) := rfl
@[simp] theorem zeT69 : zeroOf Tryz.prog 69 = some (.nilM) := rfl
attribute [simp] Tryz.underlying69
@[simp 500] theorem rvF69 (H : Heap) (cs : List AV) (o : Nat) : readVar Tryz.prog H 69 (.fptr cs o) = getL cs o := rfl
@[simp 500] theorem rvP69 (H : Heap) (b o : Nat) : readVar Tryz.prog H 69 (.ptr b o) = (H.get b).bind fun k => k.rd.bind fun cs => getL cs o := rfl
def unitV (_ : Unit) : AV := .int .i64 1
def mapSV : MapT Tryz.prog 69 AV.str unitV where
 tk := 9
 te := 3
 kd := _
 hu := Tryz.underlying69
 hk := Tryz.underlying9
 eq := fun a b => by
  show some (eqB a b) = _
  rw [eqB_eq]
 pure := fun a v => rfl
def keysV (L : List Str) : List (Str × Unit) := L.map fun s => (s, ())
theorem getM_keys {x : Str} : ∀ {L : List Str}, getM x (keysV L) = if x ∈ L then some () else none
 | [] => rfl
 | y :: r => by
  unfold keysV
  rw [List.map_cons]
  unfold getM
  by_cases h : y = x
  ·simp [h]
  ·have h2 : ¬ x = y := fun e => h e.symm
   have := getM_keys (x := x) (L := r)
   unfold keysV at this
   simp [h, h2, this]
theorem set_keys {x : Str} {L : List Str} (h : x ∉ L) : setM x () (keysV L) = keysV (L ++ [x]) := by
 have hi : idxM x (keysV L) = none := by
  cases hq : idxM x (keysV L) with
  | none => rfl
  | some i =>
   obtain ⟨h1, h2, h3⟩ := idxM_get hq
   rw [getM_keys, if_neg h] at h3
   cases h3
 rw [setM_new hi]
 simp [keysV]
theorem fitB_keys (σ : List (Nat × Nat)) (Φ : List (Nat × List AV)) (S : List Str) : fitB σ Φ (.map (entsM AV.str unitV (keysV S))) (.map (entsM AV.str unitV (keysV S))) := by
 have e1 : (entsM AV.str unitV (keysV S)).map (·.1) = S.map AV.str := by simp [entsM, keysV, Function.comp_def]
 have e2 : (entsM AV.str unitV (keysV S)).map (·.2) = S.map fun _ => AV.int .i64 1 := by simp [entsM, keysV, Function.comp_def, unitV]
 have p1 : pureL ((entsM AV.str unitV (keysV S)).map (·.1)) = true := by
  rw [e1]
  clear e1 e2
  induction S with
  | nil => rfl
  | cons a r ih => simp only [List.map_cons, pureL, pureV, Bool.true_and]; exact ih
 have p2 : pureL ((entsM AV.str unitV (keysV S)).map (·.2)) = true := by
  rw [e2]
  clear e1 e2 p1
  induction S with
  | nil => rfl
  | cons a r ih => simp only [List.map_cons, pureL, pureV, Bool.true_and]; exact ih
 exact ⟨fitL_pure p1, fitL_pure p2⟩
def attG (sp : Int) : List Str → List At1 → Bool
 | _, [] => true
 | S, a :: r => !decide (a.1 ∈ S) && nameB sp a.1 && clearB a.2 && attG sp (S ++ [a.1]) r
def attrsB (n : Nd) : Bool := attG n.space [] n.attrs
def atNames (L : List At1) : List Str := L.map (·.1)
theorem c19 {T : List (Entry Tryz.prog)} (hc0 : findE 52 T = some e52.g) (hc1 : findE 45 T = some e45.g) (n : Nd) (h : okN n) : CallAt (ctx T) 19 [aNode n] ⟨0, []⟩ (.bool (attrsB n)) ⟨0, []⟩ := by
 have kc0 := @k52 T hc0
 have kc1 := @k45 T hc1
 have zi : zeroOf Tryz.prog (mapSV).te = some (.int .i64 0) := rfl
 obtain ⟨sp, hsp⟩ : ∃ sp, sp = n.space := ⟨_, rfl⟩
 refine callAt_body (fn := Tryz.f19) (s0 := ⟨[0, 1, 2, 3, 5, 8, 9, 10], [aNode n, .undef, .undef, .undef, .undef, .undef, .undef, .undef], [], 37, ⟨0, [[]]⟩⟩) Tryz.func19 rfl rfl rfl ?_
 repeat apply wq
 refine wps_region callOK ?_
 simp [zS, nd_fold]
 repeat apply wq
 refine wps_region callOK ?_
 simp [zS]
 repeat apply wq
 refine wps_region callOK ?_
 simp [zS, lenA1]
 repeat apply wq
 refine wps_block (wps_loop' (fun i : Nat => (⟨[0, 1, 2, 3, 5, 8, 9, 10], [aNode n, .fptr n.cs 0, .bool false, .map 0, .undef, aAttrs n.attrs, .int .i64 (n.attrs.length : Nat), .int .i64 (i : Int)], [], 37, ⟨1, [[(0, .map (entsM AV.str unitV (keysV (atNames (n.attrs.take i)))))]]⟩⟩ : St))
  (fun i => i ≤ n.attrs.length ∧ attrsB n = attG n.space (atNames (n.attrs.take i)) (n.attrs.drop i)) (fun i => n.attrs.length - i) [(1, 0)] [(0, n.cs)] 0 ⟨Nat.zero_le _, by simp [attrsB, atNames]⟩ ⟨rfl, rfl, rfl, ?_, ?_⟩ ?_)
 ·simp [fitL, fitV, lookN, lookC, pureV, pureL]
 ·exact {
   nd1 := by simp
   nd2 := by simp
   nd3 := by simp [Heap.ents]
   lt := by simp
   idn := by simp
   num := by simp
   src := fun e he => by
    simp [Heap.ents] at he
    subst he
    exact ⟨1, .map [], by simp, by simp [Heap.get, getFs, getF], by simp [fitB, fitL, entsM, keysV, atNames]⟩
   frz := fun x hx => by
    simp at hx
    subst hx
    exact ⟨n.cs, by simp [Heap.get, getFs, getF], fitL_pure (pure_cs n), pure_cs n⟩ }
 rintro i ⟨hi, hx⟩ B hB
 repeat apply wq
 refine wps_region callOK ?_
 simp [zS]
 repeat apply wq
 refine wps_cond rfl (fun h2 => ?_) fun h2 => ?_
 ·simp at h2
  have hix := atA h2
  rw [List.drop_eq_getElem_cons h2] at hx
  simp only [attG] at hx
  obtain ⟨l1, l2⟩ := h.2.2.2 _ (List.getElem_mem h2)
  have hT : atNames (n.attrs.take (i + 1)) = atNames (n.attrs.take i) ++ [n.attrs[i].1] := by
   rw [List.take_succ_eq_append_getElem h2]; unfold atNames; rw [List.map_append]; rfl
  have ha := add_one (show i ≤ 1000000000 by have := h.2.1; omega)
  have kn := fun H => kc0 n.space n.attrs[i].1 (by omega) H
  have kl := fun H => kc1 n.attrs[i].2 (by omega) H
  generalize n.attrs[i] = a at *
  obtain ⟨x, y⟩ := a
  simp only at hT l1 l2 kn kl hx hix
  have hlen := h.2.1
  generalize hS : atNames (n.attrs.take i) = S at *
  clear kc0 kc1 hc0 hc1 hS
  have lu : lookupA Tryz.prog ⟨2, [[(1, .cells [.str x, .str y]), (0, .map (entsM AV.str unitV (keysV S)))]]⟩ 69 (.map 0) (.str x) false = some (.int .i64 (if x ∈ S then 1 else 0)) := by
   rw [mapSV.look (b := 0) (M := keysV S) zi (by simp [Heap.get, getFs, getF]) x, getM_keys]
   by_cases hm : x ∈ S
   ·simp [hm, unitV]
   ·simp [hm]
  by_cases hm : x ∈ S
  ·simp only [hm, if_true, decide_true, Bool.not_true, Bool.false_and] at lu hx
   repeat apply wq
   refine wps_skip ?_
   simp only [thenQ, blockQ]
   (repeat' (first
    | with_reducible refine wps_seq ?_
    | with_reducible refine wps_block ?_
    | (with_reducible refine wps_region callOK ?_; apply runE; simp [zS, *]; exact rfl)
    | (with_reducible refine run_end ?_; simp only [thenQ, blockQ])
    | (refine wps_ct rfl ?_)
    | (with_reducible refine wps_ret ?_; simp [retVal, Tryz.f19, oneOr, thenQ, blockQ])))
   all_goals first | exact ends_pure rfl (by rw [hx]) | (exfalso; omega)
  ·simp only [hm, if_false, decide_false, Bool.not_false, Bool.true_and] at lu hx
   have mu : mapUpdA Tryz.prog ⟨2, [[(1, .cells [.str x, .str y]), (0, .map (entsM AV.str unitV (keysV S)))]]⟩ 69 (.map 0) (.str x) (.int .i64 1) = some ⟨2, [[(1, .cells [.str x, .str y]), (0, .map (entsM AV.str unitV (keysV (S ++ [x]))))]]⟩ := by
    have := mapSV.update (b := 0) (M := keysV S) (H := ⟨2, [[(1, .cells [.str x, .str y]), (0, .map (entsM AV.str unitV (keysV S)))]]⟩) (by simp [Heap.get, getFs, getF]) x ()
    rw [set_keys hm] at this
    rw [show AV.int .i64 1 = unitV () from rfl, this]
    simp [Heap.set, setFs, setF]
   have hfit : ∀ (v : Int) (w : List (Nat × AV)), v = ((i + 1 : Nat) : Int) → Fit 0 [(0, 0)] [] ⟨[0, 1, 2, 3, 5, 8, 9, 10], [aNode n, .fptr n.cs 0, .bool false, .map 0, .ptr 1 0, aAttrs n.attrs, .int .i64 (n.attrs.length : Nat), .int .i64 v], w, 37, ⟨2, [[(1, .cells [.str x, .str y]), (0, .map (entsM AV.str unitV (keysV (S ++ [x]))))]]⟩⟩
     (⟨[0, 1, 2, 3, 5, 8, 9, 10], [aNode n, .fptr n.cs 0, .bool false, .map 0, .undef, aAttrs n.attrs, .int .i64 (n.attrs.length : Nat), .int .i64 ((i + 1 : Nat) : Int)], [], 37, ⟨1, [[(0, .map (entsM AV.str unitV (keysV (atNames (n.attrs.take (i + 1))))))]]⟩⟩ : St) := by
    rintro v w rfl
    rw [hT]
    refine ⟨rfl, rfl, rfl, by simp [fitL, fitV, lookN, lookC, pureV, pureL], ?_⟩
    exact {
     nd1 := by simp
     nd2 := by simp
     nd3 := by simp [Heap.ents]
     lt := by simp
     idn := by simp
     num := by simp
     src := fun e he => by
      simp [Heap.ents] at he
      subst he
      exact ⟨0, .map (entsM AV.str unitV (keysV (S ++ [x]))), by simp, by simp [Heap.get, getFs, getF], fitB_keys _ _ _⟩
     frz := fun x hx => by cases hx }
   have hnx : nameB n.space x = true → clearB y = true → attrsB n = attG n.space (atNames (n.attrs.take (i + 1))) (n.attrs.drop (i + 1)) := fun q1 q2 => by rw [hx, hT, q1, q2]; rfl
   generalize nameB n.space x = b1 at *
   generalize clearB y = b2 at *
   repeat apply wq
   refine wps_skip ?_
   simp only [thenQ, blockQ]
   (repeat' (first
    | with_reducible refine wps_seq ?_
    | with_reducible refine wps_block ?_
    | (with_reducible refine wps_region callOK ?_; apply runE; simp [zS, *]; exact rfl)
    | (with_reducible refine run_end ?_; simp only [thenQ, blockQ])
    | (with_reducible refine gate_split (fun hc => ?_) (fun hc => ?_) <;> ((have hd := hc); (try simp at hd); (try subst hd); apply runE; simp [zS, *]; exact rfl))
    | (refine wps_ct rfl ?_)
    | (refine wps_cond rfl (fun hc => ?_) (fun hc => ?_) <;> ((have hd := hc); (try simp at hd); (try subst hd)))
    | (with_reducible refine wps_skip ?_; simp only [thenQ, blockQ])
    | (with_reducible refine wps_ret ?_; simp [retVal, Tryz.f19, oneOr, thenQ, blockQ])))
   all_goals first | exact ends_pure rfl (by rw [hx]; simp [*]) | (exact hB _ (i + 1) (by omega) ⟨by omega, hnx rfl rfl⟩ ⟨_, _, hfit _ _ (by simp)⟩) | (exfalso; omega)
 ·simp at h2
  repeat apply wq
  refine wps_exit ?_
  simp
  repeat apply wq
  refine wps_region callOK ?_
  simp [zS]
  repeat apply wq
  refine wps_ret ?_
  simp [retVal, Tryz.f19, oneOr, thenQ, blockQ]
  exact ends_pure rfl (by rw [hx, List.drop_eq_nil_of_le h2]; rfl)
theorem inj_19 (x y : Nd) (h : (fun z : Nd => ([aNode z] : List AV)) x = (fun z : Nd => ([aNode z] : List AV)) y) : x = y := by
 simp only [List.cons.injEq, and_true] at h
 exact inj_aNode h
noncomputable def e19 : Entry Tryz.prog := mkE 19 [[0, 0, 0, 2, 0, 0, 1]] (fun z : Nd => [aNode z]) (fun z => (okN z)) (fun z => .bool (attrsB z)) fun z h => c19 (T := [e52, e45]) rfl rfl z h
theorem k19 {T : List (Entry Tryz.prog)} (hT : findE 19 T = some e19.g) (n : Nd) (h : okN n) (H : Heap) : callL (ctx T) (.fn 19) [aNode n] H = some (.bool (attrsB n), H) :=
 mkE_scalar hT inj_19 (n) h rfl (by simp [thawA_ok])
def Hold (p : Prop) : Prop := p
end Go.Proofs.YtgpjifeeneeiaaaGreatDoor