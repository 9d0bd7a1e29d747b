/- ids: first, First. No condition. -/
import Derived.Test.YthclkpplpdnffaaGreatDoorRH
import Derived.Test.YthclkpplpdnffaaGreatDoorRF
import Derived.Test.YthclkpplpdnffaaGreatDoorRK
namespace Go.Proofs.YthclkpplpdnffaaGreatDoor
set_option linter.unusedSimpArgs false
set_option linter.unusedVariables false
open Go Go.RowKit
set_option maxRecDepth 100000
@[simp] theorem szT126 : sizeT Tryz.prog 126 = some 1 := rfl
@[simp] theorem agT126 : aggT Tryz.prog 126 = some false := rfl
@[simp] theorem byT126 : bytesT Tryz.prog 126 = some 24 := rfl
@[simp] theorem alT126 (H : Heap) : alV Tryz.prog H 126 = some (.ptr H.n 0, H.new (.cells [.nilS])) := rfl
@[simp] theorem zeT126 : zeroOf Tryz.prog 126 = some (.nilS) := rfl
attribute [simp] Tryz.underlying126
@[simp 500] theorem rvF126 (H : Heap) (cs : List AV) (o : Nat) : readVar Tryz.prog H 126 (.fptr cs o) = getL cs o := rfl
@[simp 500] theorem rvP126 (H : Heap) (b o : Nat) : readVar Tryz.prog H 126 (.ptr b o) = (H.get b).bind fun k => k.rd.bind fun cs => getL cs o := rfl
@[simp] theorem slz126 (sz : Nat) (e : AV) (r : List AV) : binA Tryz.prog .eql 126 (.fslc sz (e :: r)) .nilS = some (.bool false) := rfl
@[simp] theorem sln126 (sz : Nat) (e : AV) (r : List AV) : binA Tryz.prog .neq 126 (.fslc sz (e :: r)) .nilS = some (.bool true) := rfl
@[simp] theorem slze126 : binA Tryz.prog .eql 126 .eslc .nilS = some (.bool false) := rfl
@[simp] theorem slzz126 : binA Tryz.prog .eql 126 .nilS .nilS = some (.bool true) := rfl
def lw (c : UInt8) : UInt8 := if 65 ≤ c.toNat ∧ c.toNat ≤ 90 then c + 32 else c
def lower (s : Str) : Str := s.map lw
theorem u8_or : ∀ n : Fin 256, 65 ≤ n.val → n.val ≤ 90 → IntKind.wrap .u8 ((BitVec.ofInt 8 (n.val : Int) ||| BitVec.ofInt 8 32).toNat : Int) = ((UInt8.ofNat n.val + 32).toNat : Int) := by decide +kernel
theorem or8 {c : UInt8} (h1 : 65 ≤ c.toNat) (h2 : c.toNat ≤ 90) : binA Tryz.prog .or 5 (.int .u8 (c.toNat : Int)) (.int .u8 32) = some (.int .u8 ((lw c).toNat : Int)) := by
  have := u8_or ⟨c.toNat, c.toNat_lt⟩ h1 h2
  simp only [UInt8.ofNat_toNat] at this
  have e : binA Tryz.prog .or 5 (.int .u8 (c.toNat : Int)) (.int .u8 32) = some (.int .u8 (IntKind.wrap .u8 ((BitVec.ofInt 8 (c.toNat : Int) ||| BitVec.ofInt 8 32).toNat : Int))) := rfl
  rw [e, this]
  simp only [lw, h1, h2, and_self, if_true]
theorem lw_same {c : UInt8} (h : ¬ (65 ≤ c.toNat ∧ c.toNat ≤ 90)) : lw c = c := by simp only [lw, h, if_false]
theorem getL_bytes : ∀ {s : Str} {i : Nat} (h : i < s.length), getL (bytesAV s) i = some (.int .u8 (s[i].toNat : Int))
  | [], i, h => absurd h (Nat.not_lt_zero i)
  | c :: r, 0, _ => rfl
  | c :: r, i + 1, h => by
    have := getL_bytes (s := r) (i := i) (by simpa using h)
    simpa [bytesAV] using this
theorem layL_bytes {x : UInt8} : ∀ {s : Str} {i : Nat} (h : i < s.length), layL [.int .u8 (x.toNat : Int)] i (bytesAV s) = some (bytesAV (s.set i x))
  | [], i, h => absurd h (Nat.not_lt_zero i)
  | c :: r, 0, _ => by simp [bytesAV]
  | c :: r, i + 1, h => by
    have := layL_bytes (x := x) (s := r) (i := i) (by simpa using h)
    simp [bytesAV, this]
theorem bytesOf_bytes : ∀ (s : Str), bytesOf (bytesAV s) = some s
  | [] => rfl
  | c :: r => by simp [bytesAV, bytesOf, byteOf1, bytesOf_bytes r]
theorem pure_bytes : ∀ (s : Str), pureL (bytesAV s) = true
  | [] => by simp [bytesAV, pureL]
  | c :: r => by simp [bytesAV, pureL, pureV, pure_bytes r]
theorem sub_bytes {s : Str} : subL 0 s.length (bytesAV s) = some (bytesAV s) := by
  have := takeL_front (n := s.length) (l := bytesAV s) (by rw [bytesAV_length]; omega)
  rw [subL_front (by rw [bytesAV_length]; omega)]
  simp [List.take_of_length_le, bytesAV_length]
def bytesH (n : Nat) (s : Str) : Heap := ⟨n, [[(0, .cells (bytesAV s))]]⟩
theorem conv1 {s : Str} (h : s.length ≤ 1000000) : convA Tryz.prog ⟨0, [[]]⟩ 9 126 (.str s) = some (.slc 0 0 s.length (.rest 1), bytesH 1 s) := by
  have : roomOK s.length 1 = true := by simp [roomOK]; omega
  simp [convA, this, bytesH, Heap.new, pushF]
theorem conv2 {n len : Nat} {s : Str} {cap : Cap} (e : s.length = len) : convA Tryz.prog (bytesH n s) 126 9 (.slc 0 0 len cap) = some (.str s, bytesH n s) := by
  subst e
  simp [convA, srcLen, srcCells, readCells, bytesH, Heap.get, getFs, getF, sub_bytes, bytesOf_bytes]
theorem ix52 {b o len i : Nat} {cap : Cap} (h : i < len) : indexAddrA Tryz.prog 126 (.slc b o len cap) (.int .i64 (i : Int)) = some (.ptr b (o + i)) := by simp [indexAddrA, idx_nat h]
def midL (s : Str) (i : Nat) : Str := (s.take i).map lw ++ s.drop i
theorem midL_len (s : Str) (i : Nat) : (midL s i).length = s.length := by simp [midL]; omega
theorem midL_get {s : Str} {i : Nat} (h : i < s.length) : (midL s i)[i]'(by rw [midL_len]; exact h) = s[i] := by
  have h1 : ((s.take i).map lw).length = i := by simp; omega
  simp only [midL]
  rw [List.getElem_append_right (by omega)]
  simp only [List.getElem_drop, h1, Nat.sub_self, Nat.add_zero]
theorem midL_step {s : Str} {i : Nat} (h : i < s.length) : (midL s i).set i (lw s[i]) = midL s (i + 1) := by
  have h1 : ((s.take i).map lw).length = i := by simp; omega
  simp only [midL]
  rw [List.set_append_right _ _ (by omega), h1, Nat.sub_self, List.drop_eq_getElem_cons h, List.set_cons_zero, List.take_succ_eq_append_getElem h]
  simp only [List.map_append, List.map_cons, List.map_nil, List.append_assoc, List.singleton_append]
theorem midL_keep {s : Str} {i : Nat} (h : i < s.length) (e : lw s[i] = s[i]) : midL s (i + 1) = midL s i := by
  have := midL_step h
  rw [e] at this
  rw [← this]
  have h2 := midL_get h
  conv => lhs; rw [← h2]
  exact List.set_getElem_self _
theorem midL_all (s : Str) : midL s s.length = lower s := by simp [midL, lower]
theorem len52 {H : Heap} {b o n : Nat} {cap : Cap} : lenA Tryz.prog H 126 (.slc b o n cap) = some n := by simp [lenA]
theorem fitBytes {n : Nat} {s t : Str} (e : s = t) : FitH 0 [(0, 0)] [] (bytesH n s) (bytesH 1 t) := by
  subst e
  have hb : fitB [(0, 0)] [] (.cells (bytesAV s)) (.cells (bytesAV s)) := by
    show fitL _ _ _ _
    exact fitL_pure (pure_bytes s)
  refine ⟨by simp, by simp, by simp [bytesH, Heap.ents], by simp [bytesH], by simp, Nat.zero_le _, ?_, by simp⟩
  intro e he
  simp [bytesH, Heap.ents] at he
  subst he
  exact ⟨0, _, by simp, by simp [bytesH, Heap.get, getFs, getF], hb⟩
theorem fitSlc {len : Nat} {cap : Cap} : fitV [(0, 0)] [] (.slc 0 0 len cap) (.slc 0 0 len cap) := by simp [fitV, lookN]
theorem c85 {T : List (Entry Tryz.prog)} (s : Str) (hl : s.length ≤ 1000000) : CallAt (ctx T) 85 [.str s] ⟨0, []⟩ (.str (lower s)) ⟨0, []⟩ := by
  refine callAt_body (fn := Tryz.f85) (s0 := ⟨[0, 2, 3, 4, 5, 8, 9, 10], [.str s, .undef, .undef, .undef, .undef, .undef, .undef, .undef], [], 29, ⟨0, [[]]⟩⟩) Tryz.func85 rfl rfl rfl ?_
  repeat refine wps_seq ?_
  refine wps_region callOK ?_
  simp [zS]
  repeat refine wps_seq ?_
  refine wps_region callOK ?_
  simp [zS, conv1 hl]
  repeat refine wps_seq ?_
  refine wps_region callOK ?_
  simp [zS, len52]
  repeat refine wps_seq ?_
  refine wps_block (wps_loop' (fun i : Nat => (⟨[0, 2, 3, 4, 5, 8, 9, 10], [.undef, .undef, .slc 0 0 s.length (.rest 1), .undef, .undef, .slc 0 0 s.length (.rest 1), .int .i64 s.length, .int .i64 i], [], 29, bytesH 1 (midL s i)⟩ : St))
    (fun i => i ≤ s.length) (fun i => s.length - i) [(0, 0)] [] 0 (Nat.zero_le _) ⟨rfl, rfl, rfl, by simp [fitL, fitV, fitSlc, lookN, pureV], by simpa [midL] using fitBytes (n := 1) (s := s) rfl⟩ ?_)
  rintro i hi B hB
  repeat refine wps_seq ?_
  refine wps_region callOK ?_
  simp [zS]
  repeat refine wps_seq ?_
  refine wps_cond rfl (fun h => ?_) fun h => ?_
  · simp at h
    repeat refine wps_seq ?_
    refine wps_skip ?_
    simp
    repeat refine wps_seq ?_
    refine wps_block ?_
    have hm : i < (midL s i).length := by rw [midL_len]; exact h
    repeat refine wps_seq ?_
    refine wps_region callOK ?_
    simp [zS, bytesH, ix52 h, getL_bytes hm, midL_get h]
    by_cases h1 : 65 ≤ s[i].toNat ∧ s[i].toNat ≤ 90
    · have e1 : (65 : Int) ≤ s[i].toNat := by omega
      have e2 : (s[i].toNat : Int) ≤ 90 := by omega
      repeat refine wps_seq ?_
      refine wps_region callOK ?_
      simp [zS, bytesH, ix52 h, getL_bytes hm, midL_get h, e1, e2]
      repeat refine wps_seq ?_
      refine wps_cond (t := true) rfl (fun _ => ?_) fun h => by cases h
      repeat refine wps_seq ?_
      refine wps_region callOK ?_
      simp [zS, bytesH, ix52 h, getL_bytes hm, midL_get h, or8 h1.1 h1.2, layL_bytes hm]
      repeat refine wps_seq ?_
      refine wps_region callOK ?_
      simp [zS, add_one (show i ≤ 1000000000 by omega)]
      exact hB _ (i + 1) (by omega) (by omega) ⟨[(0, 0)], [], rfl, rfl, rfl, by simp [fitL, fitV, fitSlc, lookN, pureV], fitBytes (midL_step h)⟩
    · by_cases e1 : (65 : Int) ≤ s[i].toNat
      · have e2 : ¬ (s[i].toNat : Int) ≤ 90 := by omega
        repeat refine wps_seq ?_
        refine wps_region callOK ?_
        simp [zS, bytesH, ix52 h, getL_bytes hm, midL_get h, e1, e2]
        repeat refine wps_seq ?_
        refine wps_cond (t := false) rfl (fun h => by cases h) fun _ => ?_
        repeat refine wps_seq ?_
        refine wps_skip ?_
        simp
        repeat refine wps_seq ?_
        refine wps_region callOK ?_
        simp [zS, add_one (show i ≤ 1000000000 by omega)]
        exact hB _ (i + 1) (by omega) (by omega) ⟨[(0, 0)], [], rfl, rfl, rfl, by simp [fitL, fitV, fitSlc, lookN, pureV], fitBytes (midL_keep h (lw_same h1)).symm⟩
      · repeat refine wps_seq ?_
        refine wps_region callOK ?_
        simp [zS, bytesH, ix52 h, getL_bytes hm, midL_get h, e1]
        repeat refine wps_seq ?_
        refine wps_cond (t := false) rfl (fun h => by cases h) fun _ => ?_
        repeat refine wps_seq ?_
        refine wps_skip ?_
        simp
        repeat refine wps_seq ?_
        refine wps_region callOK ?_
        simp [zS, add_one (show i ≤ 1000000000 by omega)]
        exact hB _ (i + 1) (by omega) (by omega) ⟨[(0, 0)], [], rfl, rfl, rfl, by simp [fitL, fitV, fitSlc, lookN, pureV], fitBytes (midL_keep h (lw_same h1)).symm⟩
  · simp at h
    repeat refine wps_seq ?_
    refine wps_exit ?_
    simp
    repeat refine wps_seq ?_
    refine wps_region callOK ?_
    simp [zS, conv2 (midL_len s i)]
    repeat refine wps_seq ?_
    refine wps_ret ?_
    simp [retVal, Tryz.f85, oneOr]
    exact ends_pure rfl (by rw [show i = s.length by omega, midL_all])
theorem inj_strL (x y : Str) (h : [AV.str x] = [AV.str y]) : x = y := by simpa using h
noncomputable def e85 : Entry Tryz.prog := mkE 85 [[]] (fun x : Str => [.str x]) (fun x => x.length ≤ 1000000) (fun x => .str (lower x)) fun x hx => c85 (T := []) x hx
theorem k85 {T : List (Entry Tryz.prog)} (hT : findE 85 T = some e85.g) {s : Str} (hl : s.length ≤ 1000000) (H : Heap) : callL (ctx T) (.fn 85) [.str s] H = some (.str (lower s), H) :=
  mkE_scalar hT inj_strL s hl rfl (by simp)
def foldB (a b : Str) : Bool := decide (a.length = b.length) && decide (lower a = lower b)
theorem c57 {T : List (Entry Tryz.prog)} (hT : findE 85 T = some e85.g) (a b : Str) (ha : a.length ≤ 1000000) (hb : b.length ≤ 1000000) : CallAt (ctx T) 57 [.str a, .str b] ⟨0, []⟩ (.bool (foldB a b)) ⟨0, []⟩ := by
  have ka := fun H => k85 hT ha H
  have kb := fun H => k85 hT hb H
  by_cases h : a.length = b.length
  · have h2 : (a.length : Int) = b.length := by omega
    refine callAt_body (fn := Tryz.f57) (s0 := ⟨[0, 1, 4], [.str a, .str b, .undef], [], 17, ⟨0, [[]]⟩⟩) Tryz.func57 rfl rfl rfl ?_
    (repeat (first
      | (refine wps_seq ?_)
      | (refine wps_block ?_)
      | (refine wps_label ?_; simp only [thenQ, blockQ])
      | ((refine wps_region callOK ?_); simp [zS, h2, ka, kb])
      | (refine wps_cond (t := true) rfl (fun _ => ?_) (fun h => by cases h))
      | (refine wps_cond (t := false) rfl (fun h => by cases h) (fun _ => ?_))
      | ((refine wps_skip ?_); simp only [thenQ, blockQ])
      | ((refine wps_exit ?_); simp [thenQ, blockQ])))
    repeat refine wps_seq ?_
    refine wps_ret ?_
    simp [retVal, Tryz.f57, oneOr, thenQ, blockQ]
    exact ends_pure rfl (by simp [foldB, h])
  · have h2 : ¬ (a.length : Int) = b.length := by omega
    refine callAt_body (fn := Tryz.f57) (s0 := ⟨[0, 1, 4], [.str a, .str b, .undef], [], 17, ⟨0, [[]]⟩⟩) Tryz.func57 rfl rfl rfl ?_
    (repeat (first
      | (refine wps_seq ?_)
      | (refine wps_block ?_)
      | (refine wps_label ?_; simp only [thenQ, blockQ])
      | ((refine wps_region callOK ?_); simp [zS, h, h2, ka, kb])
      | (refine wps_cond (t := true) rfl (fun _ => ?_) (fun h => by cases h))
      | (refine wps_cond (t := false) rfl (fun h => by cases h) (fun _ => ?_))
      | ((refine wps_skip ?_); simp only [thenQ, blockQ])
      | ((refine wps_exit ?_); simp [thenQ, blockQ])))
    repeat refine wps_seq ?_
    refine wps_ret ?_
    simp [retVal, Tryz.f57, oneOr, thenQ, blockQ]
    exact ends_pure rfl (by simp [foldB, h])
theorem inj_str2L (x y : Str × Str) (h : [AV.str x.1, AV.str x.2] = [AV.str y.1, AV.str y.2]) : x = y := by
  simp at h; exact Prod.ext h.1 h.2
noncomputable def e57 : Entry Tryz.prog := mkE 57 [[], []] (fun x : Str × Str => [.str x.1, .str x.2]) (fun x => x.1.length ≤ 1000000 ∧ x.2.length ≤ 1000000) (fun x => .bool (foldB x.1 x.2)) fun x hx => c57 (T := [e85]) rfl x.1 x.2 hx.1 hx.2
theorem k57 {T : List (Entry Tryz.prog)} (hT : findE 57 T = some e57.g) {a b : Str} (ha : a.length ≤ 1000000) (hb : b.length ≤ 1000000) (H : Heap) : callL (ctx T) (.fn 57) [.str a, .str b] H = some (.bool (foldB a b), H) :=
  mkE_scalar hT inj_str2L (a, b) ⟨ha, hb⟩ rfl (by simp)
end Go.Proofs.YthclkpplpdnffaaGreatDoor
namespace Go.Proofs.YthclkpplpdnffaaGreatDoor
noncomputable section
set_option linter.unusedSimpArgs false
set_option linter.unusedVariables false
open Go Go.RowKit
def shrB (k k' : Blk) : Prop := k = k' ∨ ∃ cs G, k = .cells (cs ++ G) ∧ k' = .cells cs
def shrL : List (Nat × Blk) → List (Nat × Blk) → Prop
  | [], [] => True
  | e :: r, e' :: r' => e.1 = e'.1 ∧ shrB e.2 e'.2 ∧ shrL r r'
  | _, _ => False
theorem shrL_refl : ∀ (l : List (Nat × Blk)), shrL l l
  | [] => trivial
  | e :: r => ⟨rfl, .inl rfl, shrL_refl r⟩
theorem shrL_ids : ∀ {l l' : List (Nat × Blk)}, shrL l l' → l'.map (·.1) = l.map (·.1)
  | [], [], _ => rfl
  | e :: r, e' :: r', h => by simp [h.1, shrL_ids h.2.2]
  | [], _ :: _, h => h.elim
  | _ :: _, [], h => h.elim
theorem shrL_mem : ∀ {l l' : List (Nat × Blk)} {e' : Nat × Blk}, shrL l l' → e' ∈ l' → ∃ e, e ∈ l ∧ e.1 = e'.1 ∧ shrB e.2 e'.2
  | e :: r, e1 :: r', e', h, he => by
    rcases List.mem_cons.1 he with rfl | he
    · exact ⟨e, by simp, h.1, h.2.1⟩
    · obtain ⟨x, h1, h2⟩ := shrL_mem h.2.2 he
      exact ⟨x, by simp [h1], h2⟩
  | [], [], _, _, he => by cases he
  | [], _ :: _, _, h, _ => h.elim
  | _ :: _, [], _, h, _ => h.elim
structure Shr (H H' : Heap) : Prop where
  n : H'.n = H.n
  l : shrL H.ents H'.ents
theorem BlkR.shr {ρ : Place} {w : World} {l : Loc} {k k' : Blk} (r : BlkR ρ w l k) (h : shrB k k') : BlkR ρ w l k' := by
  rcases h with rfl | ⟨cs, G, rfl, rfl⟩
  · exact r
  · refine ⟨by have := r.1; simp at this; omega, r.2.1, fun i hi => ?_⟩
    have h2 := r.2.2 i (by simp; omega)
    rwa [List.getElem_append_left hi] at h2
theorem Sim.shr {ρ : Place} {H H' : Heap} {w : World} (s : Sim ρ H w) (h : Shr H H') : Sim ρ H' w where
  base := s.base
  below := s.below
  os := s.os
  tape := s.tape
  output := s.output
  dom := fun b hb => s.dom b (by rw [← h.n]; exact hb)
  nodup := by rw [shrL_ids h.l]; exact s.nodup
  live := fun e' he' => by
    obtain ⟨e, he, h1, h2⟩ := shrL_mem h.l he'
    obtain ⟨l, hl, hb, hlt, hr⟩ := s.live e he
    exact ⟨l, by rw [← h1]; exact hl, hb, hlt, hr.shr h2⟩
  inj := fun e1 e2 h1 h2 l1 l2 k1 k2 hcb => by
    obtain ⟨a1, ha1, b1, _⟩ := shrL_mem h.l h1
    obtain ⟨a2, ha2, b2, _⟩ := shrL_mem h.l h2
    rw [← b1, ← b2]
    exact s.inj a1 a2 ha1 ha2 l1 l2 (by rw [b1]; exact k1) (by rw [b2]; exact k2) hcb
theorem Step.shr {ρ : Place} {H H' : Heap} {w : World} (s : Sim ρ H w) (h : Shr H H') : Step ρ H w ρ H' w where
  le := Place.le_refl ρ
  size := Nat.le_refl _
  keeps := fun _ _ _ => rfl
  rows := fun e' he' l' hl' => by
    obtain ⟨e, he, h1, _⟩ := shrL_mem h.l he'
    exact .inl ⟨e, he, l', by rw [h1]; exact hl', rfl⟩
  num := Nat.le_of_eq h.n.symm
  low := fun _ _ => rfl
  cold := fun _ h => .inl h
theorem At.shr {b : Base} {s : St} {a : Act} {w : World} {H' : Heap} (h : At b s a w) (k : Shr s.H H') : At b (s.wH H') a w := by
  obtain ⟨ρ, h1, h2, h3, h4⟩ := h
  obtain ⟨ks, vs, ts, sz, H⟩ := s
  exact ⟨ρ, h1.step (Step.shr h2 k), h2.shr k, ⟨h3.1, h3.2⟩, h4.step (Step.shr h2 k)⟩
theorem WpSr.shr {C : Ctx} {n : Nat} {r : Option Nat} {c : Code} {s : St} {Q : Out → St → Prop} {H' : Heap} (k : Shr s.H H') (h : WpSr C n r c (s.wH H') Q) : WpSr C n r c s Q :=
  fun b a w hb ha K hK => h b a w hb (ha.shr k) K hK
def FitS (n : Nat) (σ : List (Nat × Nat)) (Φ : List (Nat × List AV)) (s s' : St) : Prop := ∃ H', Shr s.H H' ∧ Fit n σ Φ (s.wH H') s'
theorem At.fitS {b : Base} {s s' : St} {a : Act} {w : World} {σ : List (Nat × Nat)} {Φ : List (Nat × List AV)} (h : At b s a w) (f : FitS b.n σ Φ s s') : At b s' a w := by
  obtain ⟨H', h1, h2⟩ := f
  exact (h.shr h1).fit h2
theorem Fit.s {n : Nat} {σ : List (Nat × Nat)} {Φ : List (Nat × List AV)} {s s' : St} (h : Fit n σ Φ s s') : FitS n σ Φ s s' := by
  obtain ⟨ks, vs, ts, sz, H⟩ := s
  exact ⟨H, ⟨rfl, shrL_refl _⟩, h⟩
theorem WpSr.fitS {C : Ctx} {n : Nat} {r : Option Nat} {c : Code} {s s' : St} {Q : Out → St → Prop} (σ : List (Nat × Nat)) (Φ : List (Nat × List AV)) (f : FitS n σ Φ s s') (h : WpSr C n r c s' Q) : WpSr C n r c s Q :=
  fun b a w hb ha K hK => h b a w hb (ha.fitS (hb ▸ f)) K hK
theorem wps_joinS {C : Ctx} {n : Nat} {r : Option Nat} {c d : Code} {s : St} {Q : Out → St → Prop} (φ : Prop) (s0 : St) (h1 : φ → WpSr C n r d s0 Q) (h2 : (∀ s', φ → (∃ σ Φ, FitS n σ Φ s' s0) → WpSr C n r d s' Q) → WpSr C n r c s (thenQ (fun s => WpSr C n r d s Q) Q)) : WpSr C n r (.seq c d) s Q :=
  wps_seq (h2 fun _ hφ ⟨σ, Φ, f⟩ => (h1 hφ).fitS σ Φ f)
theorem wps_loopS {C : Ctx} {n : Nat} {r : Option Nat} {s : St} {Q : Out → St → Prop} {ι : Type} (inv : ι → St) (φ : ι → Prop) (m : ι → Nat) (σ : List (Nat × Nat)) (Φ : List (Nat × List AV)) (x : ι) (hx : φ x) {c : Code} (hf : Fit n σ Φ s (inv x))
    (step : ∀ x, φ x → ∀ B : St → Prop, (∀ s' y, m y < m x → φ y → (∃ σ Φ, FitS n σ Φ s' (inv y)) → B s') → WpSr C n r c (inv x) (thenQ B Q)) : WpSr C n r (.loop c) s Q := by
  refine .fit σ Φ hf ?_
  have key : ∀ k x, m x = k → φ x → WpSr C n r (.loop c) (inv x) Q := by
    intro k
    induction k using Nat.strongRecOn with
    | _ k ih =>
      intro x hm hx b a w hb ha K hK
      refine LoopGoes.round (step x hx (fun s' => ∃ y, m y < m x ∧ φ y ∧ ∃ σ Φ, FitS n σ Φ s' (inv y)) (fun s' y h1 h2 h3 => ⟨y, h1, h2, h3⟩) b a w hb ha _ fun o s' a' w' hq ha' => ?_).wp
      cases o with
      | normal =>
        obtain ⟨y, hy, hφ, σ, Φ, hf⟩ := hq
        exact ih (m y) (by omega) y rfl hφ b a' w' hb (ha'.fitS (hb ▸ hf)) K fun x s2 a2 w2 q1 q2 => hK x s2 a2 w2 q1 q2
      | exit k => exact hK _ s' a' w' hq ha'
      | goto k => exact hK _ s' a' w' hq ha'
      | ret => exact hK _ s' a' w' hq ha'
  exact key _ x rfl hx
end
end Go.Proofs.YthclkpplpdnffaaGreatDoor
namespace Go.Proofs.YthclkpplpdnffaaGreatDoor
set_option linter.unusedSimpArgs false
set_option linter.unusedVariables false
open Go Go.RowKit
set_option maxRecDepth 100000
theorem c59 {T : List (Entry Tryz.prog)} (L : List Int) (hl : L.length ≤ 1000) (clo : FuncId) (cap : List AV) (hc : pureL cap = true) (p : Int → Bool) (hp : ∀ a, a ∈ L → CallAt (ctx T) clo (.int .i64 a :: cap) ⟨0, []⟩ (.bool (p a)) ⟨0, []⟩) :
    CallAt (ctx T) 59 [aInts L, .func (.func clo) [] cap] ⟨0, []⟩ (.int .i64 (idxFrom p L 0)) ⟨0, []⟩ := by
  refine callAt_body (fn := Tryz.f59) (s0 := ⟨[0, 1, 4, 5, 7, 8], [aInts L, .func (.func clo) [] cap, .undef, .undef, .undef, .undef], [], 19, ⟨0, [[]]⟩⟩) Tryz.func59 rfl rfl rfl ?_
  repeat refine wps_seq ?_
  refine wps_region callOK ?_
  simp [zS]
  repeat refine wps_seq ?_
  refine wps_region callOK ?_
  simp [zS, lenI]
  repeat refine wps_seq ?_
  refine wps_block (wps_loop' (fun i : Nat => (⟨[0, 1, 4, 5, 7, 8], [aInts L, .func (.func clo) [] cap, .undef, .undef, .int .i64 L.length, .int .i64 i], [], 19, ⟨0, [[]]⟩⟩ : St))
    (fun i => i ≤ L.length ∧ idxFrom p L 0 = idxFrom p (L.drop i) i) (fun i => L.length - i) [] [] 0 ⟨Nat.zero_le _, rfl⟩ ⟨rfl, rfl, rfl, by simp [fitL, fitV, pureV, pureL, hc, aInts], FitH.nothing⟩ ?_)
  rintro i ⟨hi, hx⟩ B hB
  repeat refine wps_seq ?_
  refine wps_region callOK ?_
  simp [zS]
  repeat refine wps_seq ?_
  refine wps_cond rfl (fun h => ?_) fun h => ?_
  · simp at h
    repeat refine wps_seq ?_
    refine wps_skip ?_
    simp
    repeat refine wps_seq ?_
    refine wps_block ?_
    repeat refine wps_seq ?_
    refine wps_region callOK ?_
    simp [zS]
    repeat refine wps_seq ?_
    refine wps_region (callF_ok callOK [⟨clo, [.int .i64 L[i]] ++ cap, ⟨0, [[]]⟩, .bool (p L[i]), ⟨0, [[]]⟩, (hp L[i] (List.getElem_mem _)).lift (by simp [pureL, pureV, hc]) _⟩]) ?_
    simp [zS, atI h, callF]
    repeat refine wps_seq ?_
    refine wps_cond rfl (fun h2 => ?_) fun h2 => ?_
    · repeat refine wps_seq ?_
      refine wps_region callOK ?_
      simp [zS]
      repeat refine wps_seq ?_
      refine wps_ret ?_
      simp [retVal, Tryz.f59, oneOr]
      refine ⟨[], [], ?_, FitH.empty⟩
      rw [hx, idxFrom_at h, if_pos h2]
      exact fitV_pure rfl
    · repeat refine wps_seq ?_
      refine wps_skip ?_
      simp
      repeat refine wps_seq ?_
      refine wps_region callOK ?_
      simp [zS, add_one (show i ≤ 1000000000 by omega)]
      refine hB _ (i + 1) (by omega) ⟨by omega, ?_⟩ ⟨[], [], ⟨rfl, rfl, rfl, by simp [fitL, fitV, pureV, pureL, hc, aInts], FitH.nothing⟩⟩
      rw [hx, idxFrom_at h, h2]
      simp
  · simp at h
    repeat refine wps_seq ?_
    refine wps_exit ?_
    simp
    repeat refine wps_seq ?_
    refine wps_region callOK ?_
    simp [zS]
    repeat refine wps_seq ?_
    refine wps_ret ?_
    simp [retVal, Tryz.f59, oneOr]
    refine ⟨[], [], ?_, FitH.empty⟩
    rw [hx, List.drop_eq_nil_of_le (by omega)]
    exact fitV_pure rfl
theorem idx_cases {α : Type} {p : α → Bool} : ∀ (L : List α) (k : Nat), (idxFrom p L k = -1 ∧ ∀ a, a ∈ L → p a = false) ∨ ∃ i, ∃ h : i < L.length, idxFrom p L k = (k + i : Nat) ∧ p L[i] = true ∧ ∀ a, a ∈ L.take i → p a = false
  | [], k => .inl ⟨rfl, fun a ha => by cases ha⟩
  | x :: r, k => by
    by_cases hx : p x = true
    · exact .inr ⟨0, by simp, by simp [idxFrom, hx], by simpa using hx, fun a ha => by simp at ha⟩
    · simp only [Bool.not_eq_true] at hx
      rcases idx_cases r (k + 1) with ⟨h1, h2⟩ | ⟨i, h, h1, h2, h3⟩
      · refine .inl ⟨by rw [idxFrom, if_neg (by simp [hx]), h1], fun a ha => ?_⟩
        rcases List.mem_cons.1 ha with rfl | ha
        · exact hx
        · exact h2 a ha
      · refine .inr ⟨i + 1, by simpa using h, by simp [idxFrom, hx, h1]; omega, by simpa using h2, fun a ha => ?_⟩
        rw [List.take_succ_cons] at ha
        rcases List.mem_cons.1 ha with rfl | ha
        · exact hx
        · exact h3 a ha
def owX (b : Nat) (K : List Int) : AV := match K with
  | [] => .fslc 1 []
  | _ :: _ => .slc b 0 K.length (.rest 1)
def owB (b : Nat) (K : List Int) : List (Nat × Blk) := match K with
  | [] => []
  | _ :: _ => [(b, .cells (ints K))]
theorem owX_ne {b : Nat} {K : List Int} (h : K ≠ []) : owX b K = .slc b 0 K.length (.rest 1) := by cases K <;> first | exact absurd rfl h | rfl
theorem owB_ne {b : Nat} {K : List Int} (h : K ≠ []) : owB b K = [(b, .cells (ints K))] := by cases K <;> first | exact absurd rfl h | rfl
theorem thawI {H : Heap} {b : Nat} {r : List Nat} {cap : Cap} {L : List Int} (h : H.get b = some (.cells (ints L))) : thawA H (1 :: r) (.slc b 0 L.length cap) = some (aInts L) := by
  have := thawA_slc (r := r) (cap := cap) (el_int L) (by rw [flat_ints]; exact h)
  rw [show (ints L).length = L.length by simp [ints]] at this
  exact this
theorem ixO {b n i : Nat} {cap : Cap} (h : i < n) : indexAddrA Tryz.prog 27 (.slc b 0 n cap) (.int .i64 (i : Int)) = some (.ptr b i) := by simp [indexAddrA, idx_nat h]
theorem get_ints {L : List Int} {i : Nat} (h : i < L.length) : getL (ints L) i = some (.int .i64 L[i]) := by simp [ints, getL_map h, aInt]
theorem lay_ints {L : List Int} {i : Nat} {v : Int} (h : i < L.length) : layL [.int .i64 v] i (ints L) = some (ints (L.set i v)) := by
  have := lay_at (el_int L) (i := i) (e := .int .i64 v) (by rw [len_ints]; exact h) rfl
  simp only [Nat.mul_one, flat_ints, AV.cells] at this
  rw [this, show (ints L).set i (.int .i64 v) = ints (L.set i v) by simp [ints, aInt], flat_ints]
structure DelOk (L : List Int) (p : Int → Bool) (i j : Nat) (R : List Int) : Prop where
  ij : i < j
  jn : j ≤ L.length
  len : R.length = L.length
  fr : R.take i = (L.take j).filter fun a => !p a
  bk : R.drop j = L.drop j
theorem DelOk.at {L R : List Int} {p : Int → Bool} {i j : Nat} (h : DelOk L p i j R) (hj : j < L.length) : R[j]'(by rw [h.len]; exact hj) = L[j] := by
  have hR : j < R.length := by rw [h.len]; exact hj
  have := h.bk
  rw [List.drop_eq_getElem_cons hR, List.drop_eq_getElem_cons hj] at this
  exact (List.cons.inj this).1
theorem DelOk.keep {L R : List Int} {p : Int → Bool} {i j : Nat} (h : DelOk L p i j R) (hj : j < L.length) (hp : p L[j] = false) : DelOk L p (i + 1) (j + 1) (R.set i L[j]) := by
  have hR : j < R.length := by rw [h.len]; exact hj
  have hij := h.ij
  refine ⟨by omega, by omega, by simp [h.len], ?_, ?_⟩
  · rw [List.take_succ_eq_append_getElem hj, List.filter_append, ← h.fr, List.take_succ_eq_append_getElem (by simp; omega)]
    simp [hp, List.take_set_of_le]
  · rw [List.drop_set_of_lt (by omega)]
    have := h.bk
    rw [List.drop_eq_getElem_cons hR, List.drop_eq_getElem_cons hj] at this
    exact (List.cons.inj this).2
theorem DelOk.pass {L R : List Int} {p : Int → Bool} {i j : Nat} (h : DelOk L p i j R) (hj : j < L.length) (hp : p L[j] = true) : DelOk L p i (j + 1) R := by
  have hR : j < R.length := by rw [h.len]; exact hj
  have hij := h.ij
  refine ⟨by omega, by omega, h.len, ?_, ?_⟩
  · rw [List.take_succ_eq_append_getElem hj, List.filter_append, ← h.fr]
    simp [hp]
  · have := h.bk
    rw [List.drop_eq_getElem_cons hR, List.drop_eq_getElem_cons hj] at this
    exact (List.cons.inj this).2
theorem DelOk.start {L : List Int} {p : Int → Bool} {i : Nat} (hi : i < L.length) (hp : p L[i] = true) (hb : ∀ a, a ∈ L.take i → p a = false) : DelOk L p i (i + 1) L := by
  refine ⟨by omega, by omega, rfl, ?_, rfl⟩
  rw [List.take_succ_eq_append_getElem hi, List.filter_append]
  have : (L.take i).filter (fun a => !p a) = L.take i := List.filter_eq_self.2 fun a ha => by simp [hb a ha]
  simp [this, hp]
def zrs (n : Nat) : List Int := List.replicate n 0
theorem repl_zrs : ∀ (n : Nat), replL [.int .i64 0] n = ints (zrs n)
  | 0 => rfl
  | n + 1 => by simp only [replL, repl_zrs n, zrs, List.replicate_succ, ints, List.map_cons]; rfl
theorem clr_ints {m i n : Nat} {f : List (Nat × Blk)} {R : List Int} (hf : getF 0 f = none) (hs : setF 0 (.cells (ints (R.take i ++ zrs (n - i)))) f = none) (hR : R.length = n) (hi : i < n) :
    clearA Tryz.prog ⟨m, [f, [(0, .cells (ints R))]]⟩ 27 (.slc 0 i (n - i) (.rest 1)) = some ⟨m, [f, [(0, .cells (ints (R.take i ++ zrs (n - i))))]]⟩ := by
  have hl := lay_end (el_int R) (i := i) (l := ints (zrs (n - i))) (by rw [len_ints]; omega) (by rw [len_ints, len_ints, hR]; simp [zrs])
  rw [Nat.mul_one, flat_ints] at hl
  have e : flatAV ((ints R).take i) ++ ints (zrs (n - i)) = ints (R.take i ++ zrs (n - i)) := by
    rw [show (ints R).take i = ints (R.take i) by simp [ints], flat_ints]; simp [ints]
  rw [e] at hl
  have hsng : allSingle (ints (zrs (n - i))) = true := by
    have : ∀ (l : List Int), allSingle (ints l) = true := by
      intro l
      induction l with
      | nil => rfl
      | cons x r ih => simp only [ints, List.map_cons, allSingle, aInt, AV.single] at ih ⊢; exact ih
    exact this _
  have hz : zeroOf Tryz.prog 3 = some (.int .i64 0) := zeT3
  have hsz : sizeT Tryz.prog 3 = some 1 := szT3
  have hrf : (ints (zrs (n - i))).flatMap (refs 6) = [] := by
    have : ∀ (l : List Int), (ints l).flatMap (refs 6) = [] := by
      intro l
      induction l with
      | nil => rfl
      | cons x r ih => simp only [ints, List.map_cons, List.flatMap_cons, aInt, refs] at ih ⊢; exact ih
    exact this _
  simp only [clearA, Tryz.underlying27, Option.bind_some, hz, hsz]
  simp [AV.cells, allSingle, AV.single, repl_zrs, writeCells, Heap.get, getFs, hf, getF, Blk.wt, hl, Heap.ready, hrf, Heap.set, setFs, hs, setF, Blk.re]
theorem c340 {T : List (Entry Tryz.prog)} (clo : FuncId) (cap : List AV) (hc : pureL cap = true) :
    CallAt (ctx T) 34 [.fslc 1 [], .func (.func clo) [] cap] ⟨0, []⟩ (.fslc 1 []) ⟨0, []⟩ := by
  have hi := c59 (T := T) [] (by simp) clo cap hc (fun _ => false) (fun a ha => by cases ha)
  have hk := hi.lift (by simp [pureL, pureV, aInts, hc]) ⟨0, [[]]⟩
  simp only [aInts, List.map_nil, idxFrom] at hk
  refine callAt_body (fn := Tryz.f34) (s0 := ⟨[0, 1, 4, 5, 6, 7], [.fslc 1 [], .func (.func clo) [] cap, .undef, .undef, .undef, .undef], [], 42, ⟨0, [[]]⟩⟩) Tryz.func34 rfl rfl rfl ?_
  repeat refine wps_seq ?_
  refine wps_region callOK ?_
  simp [zS]
  repeat refine wps_seq ?_
  refine wps_region (callOKF [⟨59, _, _, _, _, hk⟩]) ?_
  simp [zS, callF]
  repeat refine wps_seq ?_
  refine wps_region callOK ?_
  simp [zS]
  repeat refine wps_seq ?_
  refine wps_cond (t := true) rfl (fun _ => ?_) fun h => by cases h
  repeat refine wps_seq ?_
  refine wps_region callOK ?_
  simp [zS]
  repeat refine wps_seq ?_
  refine wps_ret ?_
  simp [retVal, Tryz.f34, oneOr]
  exact ⟨[], [], by simp [fitV, pureV], FitH.empty⟩
theorem fitD {n m : Nat} {f : List (Nat × Blk)} {K : List Int} (hf : getF 0 f = none) (hn : n ≤ 1) : FitH n [(0, 0)] [] ⟨m, [f, [(0, .cells (ints K))]]⟩ ⟨1, [[], [(0, .cells (ints K))]]⟩ := by
  refine .same (by simp) (by simp) (by simp) hn (by simp [Heap.ents]) ?_
  intro e he
  simp [Heap.ents] at he
  subst he
  exact ⟨by simp, by simp [Heap.get, getFs, hf, getF], fitL_pure (pure_ints _)⟩
theorem c34 {T : List (Entry Tryz.prog)} (L : List Int) (hl : L.length ≤ 1000) (hne : L ≠ []) (clo : FuncId) (cap : List AV) (hc : pureL cap = true) (p : Int → Bool) (hp : ∀ a, a ∈ L → CallAt (ctx T) clo (.int .i64 a :: cap) ⟨0, []⟩ (.bool (p a)) ⟨0, []⟩) :
    CallAt (ctx T) 34 [.slc 0 0 L.length (.rest 1), .func (.func clo) [] cap] ⟨1, [[(0, .cells (ints L))]]⟩ (owX 0 (L.filter fun a => !p a)) ⟨1, [owB 0 (L.filter fun a => !p a)]⟩ := by
  have hk := CallAt.thaw (c59 (T := T) L hl clo cap hc p hp) rfl [[1], []] (H := ⟨1, [[], [(0, .cells (ints L))]]⟩) (args := [.slc 0 0 L.length (.rest 1), .func (.func clo) [] cap])
    (by simp [thawL, thawI (H := ⟨1, [[], [(0, .cells (ints L))]]⟩) (b := 0) (r := []) (cap := .rest 1) (L := L) rfl, thawA_ok, okV, pureV, pureL, hc])
  have ends : ∀ (m : Nat) (K : List Int), K ≠ [] → FitH 1 [(0, 0)] [] ⟨m, [[], [(0, .cells (ints K))]]⟩ ⟨1, [owB 0 K]⟩ := fun m K hK => by
    rw [owB_ne hK]
    refine .same (by simp) (by simp) (by simp) (by simp) (by simp [Heap.ents]) ?_
    intro e he
    simp [Heap.ents] at he
    subst he
    exact ⟨by simp, by simp [Heap.get, getFs, getF], fitL_pure (pure_ints _)⟩
  refine callAt_body (fn := Tryz.f34) (s0 := ⟨[0, 1, 4, 5, 6, 7], [.slc 0 0 L.length (.rest 1), .func (.func clo) [] cap, .undef, .undef, .undef, .undef], [], 42, ⟨1, [] :: [[(0, .cells (ints L))]]⟩⟩) Tryz.func34 rfl rfl rfl ?_
  repeat refine wps_seq ?_
  refine wps_region callOK ?_
  simp [zS]
  repeat refine wps_seq ?_
  refine wps_region (callOKF [⟨59, _, _, _, _, hk⟩]) ?_
  simp [zS, callF]
  rcases idx_cases (p := p) L 0 with ⟨h1, h2⟩ | ⟨i0, hi0, h1, h2, h3⟩
  · have hK : (L.filter fun a => !p a) = L := List.filter_eq_self.2 fun a ha => by simp [h2 a ha]
    repeat refine wps_seq ?_
    refine wps_region callOK ?_
    simp [zS, h1]
    repeat refine wps_seq ?_
    refine wps_cond (t := true) rfl (fun _ => ?_) fun h => by cases h
    repeat refine wps_seq ?_
    refine wps_region callOK ?_
    simp [zS]
    repeat refine wps_seq ?_
    refine wps_ret ?_
    simp [retVal, Tryz.f34, oneOr]
    rw [hK]
    exact ⟨[(0, 0)], [], by rw [owX_ne hne]; simp [fitV, lookN], ends _ L hne⟩
  · rw [Nat.zero_add] at h1
    have hno : ¬ ((i0 : Int) = -1) := by omega
    repeat refine wps_seq ?_
    refine wps_region callOK ?_
    simp [zS, h1, hno]
    repeat refine wps_seq ?_
    refine wps_cond (t := false) rfl (fun h => by cases h) fun _ => ?_
    repeat refine wps_seq ?_
    refine wps_skip ?_
    simp
    repeat refine wps_seq ?_
    refine wps_region callOK ?_
    simp [zS, add_one (show i0 ≤ 1000000000 by omega)]
    repeat refine wps_seq ?_
    refine wps_block (wps_loop' (fun x : Nat × Nat × List Int => (⟨[0, 1, 4, 5, 6, 7], [.slc 0 0 L.length (.rest 1), .func (.func clo) [] cap, .undef, .int .i64 x.1, .int .i64 x.2.1, .undef], [], 42, ⟨1, [[], [(0, .cells (ints x.2.2))]]⟩⟩ : St))
      (fun x => DelOk L p x.1 x.2.1 x.2.2) (fun x => L.length - x.2.1) [(0, 0)] [] (i0, i0 + 1, L) (.start hi0 h2 h3) ⟨rfl, rfl, rfl, by simp [fitL, fitV, lookN, pureV, pureL, hc], fitD rfl (by omega)⟩ ?_)
    rintro ⟨i, j, R⟩ hx B hB
    simp only at hx
    have hij := hx.ij
    have hjn := hx.jn
    have hRl := hx.len
    repeat refine wps_seq ?_
    refine wps_region callOK ?_
    simp [zS, lenA]
    repeat refine wps_seq ?_
    refine wps_cond rfl (fun h => ?_) fun h => ?_
    · simp at h
      repeat refine wps_seq ?_
      refine wps_skip ?_
      simp
      repeat refine wps_seq ?_
      refine wps_block ?_
      have hR : j < R.length := by omega
      repeat refine wps_seq ?_
      refine wps_region callOK ?_
      simp [zS, ixO h, get_ints hR, hx.at h]
      have hcall := (hp L[j] (List.getElem_mem _)).lift (by simp [pureL, pureV, hc]) ⟨1, [[], [(0, .cells (ints R))]]⟩
      repeat refine wps_seq ?_
      refine wps_region (callOKF [⟨clo, _, _, _, _, hcall⟩]) ?_
      rcases Bool.eq_false_or_eq_true (p L[j]) with hv | hv
      case inr =>
        simp [zS, callF, hv]
        repeat refine wps_seq ?_
        refine wps_cond (t := true) rfl (fun _ => ?_) fun h => by cases h
        repeat refine wps_seq ?_
        refine wps_region callOK ?_
        simp [zS, ixO (show i < L.length by omega), lay_ints (L := R) (show i < R.length by omega), add_one (show i ≤ 1000000000 by omega)]
        repeat refine wps_seq ?_
        refine wps_region callOK ?_
        simp [zS, add_one (show i ≤ 1000000000 by omega)]
        repeat refine wps_seq ?_
        refine wps_region callOK ?_
        simp [zS, add_one (show j ≤ 1000000000 by omega)]
        exact hB _ (i + 1, j + 1, R.set i L[j]) (by simp; omega) (hx.keep h hv) ⟨[(0, 0)], [], rfl, rfl, rfl, by simp [fitL, fitV, lookN, pureV, pureL, hc], fitD rfl (by omega)⟩
      case inl =>
        simp [zS, callF, hv]
        repeat refine wps_seq ?_
        refine wps_cond (t := false) rfl (fun h => by cases h) fun _ => ?_
        repeat refine wps_seq ?_
        refine wps_skip ?_
        simp
        repeat refine wps_seq ?_
        refine wps_region callOK ?_
        simp [zS, add_one (show j ≤ 1000000000 by omega)]
        exact hB _ (i, j + 1, R) (by simp; omega) (hx.pass h hv) ⟨[(0, 0)], [], rfl, rfl, rfl, by simp [fitL, fitV, lookN, pureV, pureL, hc], fitD rfl (by omega)⟩
    · simp at h
      have hje : j = L.length := by omega
      subst hje
      have hfr : R.take i = L.filter fun a => !p a := by have := hx.fr; rwa [List.take_length] at this
      repeat refine wps_seq ?_
      refine wps_exit ?_
      simp
      have hs1 := slice_from (P := Tryz.prog) (H := ⟨1, [[], [(0, .cells (ints R))]]⟩) (t := 27) (elem := 3) (sz := 1) (b := 0) (cs := ints R) (len := L.length) (i := i) Tryz.underlying27 szT3 (by omega) rfl (by rw [len_ints, hRl]; omega) (by omega)
      have hcl := clr_ints (m := 1) (i := i) (n := L.length) (f := []) (R := R) rfl rfl hRl (by omega)
      have hs2 := slice_to (P := Tryz.prog) (H := ⟨1, [[], [(0, .cells (ints (R.take i ++ zrs (L.length - i))))]]⟩) (t := 27) (elem := 3) (sz := 1) (b := 0) (cs := ints (R.take i ++ zrs (L.length - i))) (len := L.length) (i := i) Tryz.underlying27 szT3 (by omega) rfl (by rw [len_ints]; simp [zrs]; omega) (by omega) (by omega)
      repeat refine wps_seq ?_
      refine wps_region callOK ?_
      simp [zS, hs1, hcl, opndO]
      repeat refine wps_seq ?_
      refine wps_region callOK ?_
      simp [zS, hs2, opndO]
      rw [← hfr]
      have hKl : (R.take i).length = i := by simp; omega
      generalize R.take i = K at *
      cases K with
      | nil =>
        repeat refine wps_seq ?_
        refine wps_ret ?_
        simp [retVal, Tryz.f34, oneOr]
        refine ⟨[], [], ?_, ?_⟩
        · simp only [List.length_nil] at hKl
          subst hKl
          simp [owX, fitV]
        · exact FitH.same (by simp) (by simp) (by simp) (by simp) (by simp [owB, Heap.ents]) (fun e he => by simp [owB, Heap.ents] at he)
      | cons k K =>
        refine .shr (H' := ⟨1, [[], [(0, .cells (ints (k :: K)))]]⟩) ⟨rfl, ⟨rfl, .inr ⟨ints (k :: K), ints (zrs (L.length - i)), by simp [ints], rfl⟩, trivial⟩⟩ ?_
        repeat refine wps_seq ?_
        refine wps_ret ?_
        simp [retVal, Tryz.f34, oneOr]
        refine ⟨[(0, 0)], [], ?_, ends _ (k :: K) (by simp)⟩
        rw [owX_ne (by simp), hKl]
        simp [fitV, lookN]
abbrev lsListed : Str := [98, 117, 116, 116, 111, 110, 32, 102, 105, 101, 108, 100, 115, 101, 116, 32, 105, 110, 112, 117, 116, 32, 111, 98, 106, 101, 99, 116, 32, 111, 117, 116, 112, 117, 116, 32, 115, 101, 108, 101, 99, 116, 32, 116, 101, 120, 116, 97, 114, 101, 97]
abbrev lsImg : Str := [105, 109, 103]
abbrev lsForm : Str := [102, 111, 114, 109]
abbrev lsWin : Str := [101, 109, 98, 101, 100, 32, 102, 111, 114, 109, 32, 105, 109, 103, 32, 111, 98, 106, 101, 99, 116]
abbrev lists : List Str := [lsListed, lsImg, lsForm, lsWin]
theorem split_l1 : splitOK (wsplit lsListed) (callN (ctx []) 100000 (.fn 119) [.str lsListed] ⟨0, []⟩) = true := by decide +kernel
theorem split_l2 : splitOK (wsplit lsImg) (callN (ctx []) 100000 (.fn 119) [.str lsImg] ⟨0, []⟩) = true := by decide +kernel
theorem split_l3 : splitOK (wsplit lsForm) (callN (ctx []) 100000 (.fn 119) [.str lsForm] ⟨0, []⟩) = true := by decide +kernel
theorem split_l4 : splitOK (wsplit lsWin) (callN (ctx []) 100000 (.fn 119) [.str lsWin] ⟨0, []⟩) = true := by decide +kernel
theorem c83c {T : List (Entry Tryz.prog)} (W x : Str) (hW : W ∈ lists) (hx : x.length ≤ 1000000000) : CallAt (ctx T) 83 [.str W, .str x] ⟨0, []⟩ (.bool (inW W x)) ⟨0, []⟩ := by
  have key : CallAt (ctx T) 119 [.str W] ⟨0, []⟩ (aStrs (wsplit W)) ⟨0, []⟩ ∧ W.length ≤ 100000 ∧ (wsplit W).length ≤ 1000000 := by
    simp only [List.mem_cons, List.not_mem_nil, or_false] at hW
    rcases hW with rfl | rfl | rfl | rfl
    · exact ⟨closedSplit (T := []) split_l1, by decide, by decide +kernel⟩
    · exact ⟨closedSplit (T := []) split_l2, by decide, by decide +kernel⟩
    · exact ⟨closedSplit (T := []) split_l3, by decide, by decide +kernel⟩
    · exact ⟨closedSplit (T := []) split_l4, by decide, by decide +kernel⟩
  exact c83 (T := [e116, e117]) rfl rfl W x key.2.1 hx key.1 (c118 (T := [e173]) rfl _ x key.2.2)
theorem inj_wIn (x y : Str × Str) (h : [AV.str x.1, AV.str x.2] = [AV.str y.1, AV.str y.2]) : x = y := by
  simp at h; exact Prod.ext h.1 h.2
noncomputable def e83 : Entry Tryz.prog := mkE 83 [[], []] (fun x : Str × Str => [.str x.1, .str x.2]) (fun x => x.1 ∈ lists ∧ x.2.length ≤ 1000000000) (fun x => .bool (inW x.1 x.2)) fun x hx => c83c (T := []) x.1 x.2 hx.1 hx.2
theorem k83 {T : List (Entry Tryz.prog)} (hT : findE 83 T = some e83.g) {W x : Str} (hW : W ∈ lists) (hx : x.length ≤ 1000000000) (H : Heap) : callL (ctx T) (.fn 83) [.str W, .str x] H = some (.bool (inW W x), H) :=
  mkE_scalar hT inj_wIn (W, x) ⟨hW, hx⟩ rfl (by simp)
def htmlB (n : Nd) (W : Str) : Bool := decide (n.kind = 1) && decide (n.space = 0) && inW W n.name
theorem c55 {T : List (Entry Tryz.prog)} (hI : findE 83 T = some e83.g) (n : Nd) (W : Str) (hW : W ∈ lists) (hn : n.name.length ≤ 1000000000) : CallAt (ctx T) 55 [aNode n, .str W] ⟨0, []⟩ (.bool (htmlB n W)) ⟨0, []⟩ := by
  have hk := fun H => k83 hI hW hn H
  obtain ⟨kind, space, name, attrs, data, up, kids⟩ := n
  simp only at hk
  by_cases h1 : kind = 1
  · by_cases h2 : space = 0
    · refine callAt_body (fn := Tryz.f55) (s0 := ⟨[0, 1, 2, 4], [aNode ⟨kind, space, name, attrs, data, up, kids⟩, .str W, .undef, .undef], [], 19, ⟨0, [[]]⟩⟩) Tryz.func55 rfl rfl rfl ?_
      (repeat (first
        | (refine wps_seq ?_)
        | (refine wps_block ?_)
        | (refine wps_label ?_; simp only [thenQ, blockQ])
        | ((refine wps_region callOK ?_); simp [zS, aNode, Nd.cs, aInt, aAttrs, aInts, hk, h1, h2])
        | (refine wps_cond (t := true) rfl (fun _ => ?_) (fun h => by cases h))
        | (refine wps_cond (t := false) rfl (fun h => by cases h) (fun _ => ?_))
        | ((refine wps_skip ?_); simp only [thenQ, blockQ])
        | ((refine wps_exit ?_); simp [thenQ, blockQ])))
      repeat refine wps_seq ?_
      refine wps_ret ?_
      simp [retVal, Tryz.f55, oneOr, thenQ, blockQ]
      exact ends_pure rfl (by simp [htmlB, h1, h2])
    · refine callAt_body (fn := Tryz.f55) (s0 := ⟨[0, 1, 2, 4], [aNode ⟨kind, space, name, attrs, data, up, kids⟩, .str W, .undef, .undef], [], 19, ⟨0, [[]]⟩⟩) Tryz.func55 rfl rfl rfl ?_
      (repeat (first
        | (refine wps_seq ?_)
        | (refine wps_block ?_)
        | (refine wps_label ?_; simp only [thenQ, blockQ])
        | ((refine wps_region callOK ?_); simp [zS, aNode, Nd.cs, aInt, aAttrs, aInts, hk, h1, h2])
        | (refine wps_cond (t := true) rfl (fun _ => ?_) (fun h => by cases h))
        | (refine wps_cond (t := false) rfl (fun h => by cases h) (fun _ => ?_))
        | ((refine wps_skip ?_); simp only [thenQ, blockQ])
        | ((refine wps_exit ?_); simp [thenQ, blockQ])))
      repeat refine wps_seq ?_
      refine wps_ret ?_
      simp [retVal, Tryz.f55, oneOr, thenQ, blockQ]
      exact ends_pure rfl (by simp [htmlB, h2])
  · refine callAt_body (fn := Tryz.f55) (s0 := ⟨[0, 1, 2, 4], [aNode ⟨kind, space, name, attrs, data, up, kids⟩, .str W, .undef, .undef], [], 19, ⟨0, [[]]⟩⟩) Tryz.func55 rfl rfl rfl ?_
    (repeat (first
      | (refine wps_seq ?_)
      | (refine wps_block ?_)
      | (refine wps_label ?_; simp only [thenQ, blockQ])
      | ((refine wps_region callOK ?_); simp [zS, aNode, Nd.cs, aInt, aAttrs, aInts, hk, h1])
      | (refine wps_cond (t := true) rfl (fun _ => ?_) (fun h => by cases h))
      | (refine wps_cond (t := false) rfl (fun h => by cases h) (fun _ => ?_))
      | ((refine wps_skip ?_); simp only [thenQ, blockQ])
      | ((refine wps_exit ?_); simp [thenQ, blockQ])))
    repeat refine wps_seq ?_
    refine wps_ret ?_
    simp [retVal, Tryz.f55, oneOr, thenQ, blockQ]
    exact ends_pure rfl (by simp [htmlB, h1])
theorem injNS (x y : Nd × Str) (h : [aNode x.1, .str x.2] = [aNode y.1, .str y.2]) : x = y := by
  simp only [List.cons.injEq] at h
  obtain ⟨h1, h2, _⟩ := h
  simp at h2
  exact Prod.ext (inj_aNode h1) h2
noncomputable def e55 : Entry Tryz.prog := mkE 55 [[], []] (fun x : Nd × Str => [aNode x.1, .str x.2]) (fun x => x.2 ∈ lists ∧ x.1.name.length ≤ 1000000000) (fun x => .bool (htmlB x.1 x.2)) fun x hx => c55 (T := [e83]) rfl x.1 x.2 hx.1 hx.2
theorem k55 {T : List (Entry Tryz.prog)} (hT : findE 55 T = some e55.g) {n : Nd} {W : Str} (hW : W ∈ lists) (hn : n.name.length ≤ 1000000000) (H : Heap) : callL (ctx T) (.fn 55) [aNode n, .str W] H = some (.bool (htmlB n W), H) :=
  mkE_scalar hT injNS (n, W) ⟨hW, hn⟩ rfl (by simp [th_aNode])
theorem c28 {T : List (Entry Tryz.prog)} (hI : findE 55 T = some e55.g) (n : Nd) (hn : n.name.length ≤ 1000000000) : CallAt (ctx T) 28 [aNode n] ⟨0, []⟩ (.bool (htmlB n lsListed)) ⟨0, []⟩ := by
  have hk := fun H => k55 hI (W := lsListed) (by simp) hn H
  generalize htmlB n lsListed = v at *
  obtain ⟨kind, space, name, attrs, data, up, kids⟩ := n
  simp only [aNode, Nd.cs, aInt, aAttrs, aInts] at hk
  refine callAt_body (fn := Tryz.f28) (s0 := ⟨[0, 1, 2], [aNode ⟨kind, space, name, attrs, data, up, kids⟩, .undef, .undef], [], 5, ⟨0, [[]]⟩⟩) Tryz.func28 rfl rfl rfl ?_
  (repeat (first
    | (refine wps_seq ?_)
    | (refine wps_block ?_)
    | (refine wps_label ?_; simp only [thenQ, blockQ])
    | ((refine wps_region callOK ?_); simp [zS, aNode, Nd.cs, aInt, aAttrs, aInts, hk])
    | (refine wps_cond (t := true) rfl (fun _ => ?_) (fun h => by cases h))
    | (refine wps_cond (t := false) rfl (fun h => by cases h) (fun _ => ?_))
    | ((refine wps_skip ?_); simp only [thenQ, blockQ])
    | ((refine wps_exit ?_); simp [thenQ, blockQ])))
  repeat refine wps_seq ?_
  refine wps_ret ?_
  simp [retVal, Tryz.f28, oneOr, thenQ, blockQ]
  exact ends_pure rfl (by rfl)
noncomputable def e28 : Entry Tryz.prog := mkE 28 [[]] (fun x : Nd => [aNode x]) (fun x => x.name.length ≤ 1000000000) (fun x => .bool (htmlB x lsListed)) fun x hx => c28 (T := [e55]) rfl x hx
theorem k28 {T : List (Entry Tryz.prog)} (hT : findE 28 T = some e28.g) {n : Nd} (hn : n.name.length ≤ 1000000000) (H : Heap) : callL (ctx T) (.fn 28) [aNode n] H = some (.bool (htmlB n lsListed), H) :=
  mkE_scalar hT injN1 n hn rfl (by simp [th_aNode])
abbrev wType : Str := [116, 121, 112, 101]
abbrev wImage : Str := [105, 109, 97, 103, 101]
abbrev wInput : Str := [105, 110, 112, 117, 116]
def imageB (n : Nd) : Bool := decide (n.name = wInput) && foldB (valOf n wType) wImage
theorem c29 {T : List (Entry Tryz.prog)} (hG : findE 56 T = some e56.g) (hF : findE 57 T = some e57.g) (n : Nd) (hl : n.attrs.length ≤ 1000) (hv : (valOf n wType).length ≤ 1000000) : CallAt (ctx T) 29 [aNode n] ⟨0, []⟩ (.bool (imageB n)) ⟨0, []⟩ := by
  have hk := fun H => k56 hG wType hl (th_aAttrs H _)
  have hf := fun H => k57 hF (b := wImage) hv (by decide) H
  have ei : imageB n = (decide (n.name = wInput) && foldB (valOf n wType) wImage) := rfl
  simp only [valOf] at hf ei
  generalize foldB ((getAt wType n.attrs).getD []) wImage = fb at *
  obtain ⟨kind, space, name, attrs, data, up, kids⟩ := n
  simp only [aAttrs] at hk hf ei
  by_cases h1 : name = wInput
  · subst h1
    refine callAt_body (fn := Tryz.f29) (s0 := ⟨[0, 1, 2, 3], [aNode ⟨kind, space, wInput, attrs, data, up, kids⟩, .undef, .undef, .undef], [], 18, ⟨0, [[]]⟩⟩) Tryz.func29 rfl rfl rfl ?_
    (repeat (first
      | (refine wps_seq ?_)
      | (refine wps_block ?_)
      | (refine wps_label ?_; simp only [thenQ, blockQ])
      | ((refine wps_region callOK ?_); simp [zS, aNode, Nd.cs, aInt, aAttrs, aInts, hk, gotA, hf])
      | (refine wps_cond (t := true) rfl (fun _ => ?_) (fun h => by cases h))
      | (refine wps_cond (t := false) rfl (fun h => by cases h) (fun _ => ?_))
      | ((refine wps_skip ?_); simp only [thenQ, blockQ])
      | ((refine wps_exit ?_); simp [thenQ, blockQ])))
    repeat refine wps_seq ?_
    refine wps_ret ?_
    simp [retVal, Tryz.f29, oneOr, thenQ, blockQ]
    exact ends_pure rfl (by rw [ei]; simp)
  · refine callAt_body (fn := Tryz.f29) (s0 := ⟨[0, 1, 2, 3], [aNode ⟨kind, space, name, attrs, data, up, kids⟩, .undef, .undef, .undef], [], 18, ⟨0, [[]]⟩⟩) Tryz.func29 rfl rfl rfl ?_
    (repeat (first
      | (refine wps_seq ?_)
      | (refine wps_block ?_)
      | (refine wps_label ?_; simp only [thenQ, blockQ])
      | ((refine wps_region callOK ?_); simp [zS, aNode, Nd.cs, aInt, aAttrs, aInts, hk, gotA, h1, hf])
      | (refine wps_cond (t := true) rfl (fun _ => ?_) (fun h => by cases h))
      | (refine wps_cond (t := false) rfl (fun h => by cases h) (fun _ => ?_))
      | ((refine wps_skip ?_); simp only [thenQ, blockQ])
      | ((refine wps_exit ?_); simp [thenQ, blockQ])))
    repeat refine wps_seq ?_
    refine wps_ret ?_
    simp [retVal, Tryz.f29, oneOr, thenQ, blockQ]
    exact ends_pure rfl (by rw [ei]; simp [h1])
noncomputable def e29 : Entry Tryz.prog := mkE 29 [[]] (fun x : Nd => [aNode x]) (fun x => x.attrs.length ≤ 1000 ∧ (valOf x wType).length ≤ 1000000) (fun x => .bool (imageB x)) fun x hx => c29 (T := [e56, e57]) rfl rfl x hx.1 hx.2
theorem k29 {T : List (Entry Tryz.prog)} (hT : findE 29 T = some e29.g) {n : Nd} (hl : n.attrs.length ≤ 1000) (hv : (valOf n wType).length ≤ 1000000) (H : Heap) : callL (ctx T) (.fn 29) [aNode n] H = some (.bool (imageB n), H) :=
  mkE_scalar hT injN1 n ⟨hl, hv⟩ rfl (by simp [th_aNode])
def hasB (n : Nd) (nm v : Str) : Bool := decide (v ≠ []) && decide (valOf n nm = v)
theorem c114 {T : List (Entry Tryz.prog)} (hG : findE 56 T = some e56.g) (n : Nd) (nm v : Str) (hl : n.attrs.length ≤ 1000) : CallAt (ctx T) 114 [aNode n, .str nm, .str v] ⟨0, []⟩ (.bool (hasB n nm v)) ⟨0, []⟩ := by
  have hk := fun H => k56 hG nm hl (th_aAttrs H _)
  obtain ⟨kind, space, name, attrs, data, up, kids⟩ := n
  simp only [aAttrs] at hk
  by_cases hv : v = []
  · refine callAt_body (fn := Tryz.f114) (s0 := ⟨[0, 1, 2, 3, 6, 7], [aNode ⟨kind, space, name, attrs, data, up, kids⟩, .str nm, .str v, .undef, .undef, .undef], [], 23, ⟨0, [[]]⟩⟩) Tryz.func114 rfl rfl rfl ?_
    (repeat (first
      | (refine wps_seq ?_)
      | (refine wps_block ?_)
      | (refine wps_label ?_; simp only [thenQ, blockQ])
      | ((refine wps_region callOK ?_); simp [zS, aNode, Nd.cs, aInt, aAttrs, aInts, hk, gotA, hv])
      | (refine wps_cond (t := true) rfl (fun _ => ?_) (fun h => by cases h))
      | (refine wps_cond (t := false) rfl (fun h => by cases h) (fun _ => ?_))
      | ((refine wps_skip ?_); simp only [thenQ, blockQ])
      | ((refine wps_exit ?_); simp [thenQ, blockQ])))
    repeat refine wps_seq ?_
    refine wps_ret ?_
    simp [retVal, Tryz.f114, oneOr, thenQ, blockQ]
    exact ends_pure rfl (by simp [hasB, hv])
  · refine callAt_body (fn := Tryz.f114) (s0 := ⟨[0, 1, 2, 3, 6, 7], [aNode ⟨kind, space, name, attrs, data, up, kids⟩, .str nm, .str v, .undef, .undef, .undef], [], 23, ⟨0, [[]]⟩⟩) Tryz.func114 rfl rfl rfl ?_
    (repeat (first
      | (refine wps_seq ?_)
      | (refine wps_block ?_)
      | (refine wps_label ?_; simp only [thenQ, blockQ])
      | ((refine wps_region callOK ?_); simp [zS, aNode, Nd.cs, aInt, aAttrs, aInts, hk, gotA, hv])
      | (refine wps_cond (t := true) rfl (fun _ => ?_) (fun h => by cases h))
      | (refine wps_cond (t := false) rfl (fun h => by cases h) (fun _ => ?_))
      | ((refine wps_skip ?_); simp only [thenQ, blockQ])
      | ((refine wps_exit ?_); simp [thenQ, blockQ])))
    repeat refine wps_seq ?_
    refine wps_ret ?_
    simp [retVal, Tryz.f114, oneOr, thenQ, blockQ]
    exact ends_pure rfl (by simp [hasB, hv, valOf]; try rfl)
theorem injNSS (x y : Nd × Str × Str) (h : [aNode x.1, .str x.2.1, .str x.2.2] = [aNode y.1, .str y.2.1, .str y.2.2]) : x = y := by
  simp only [List.cons.injEq] at h
  obtain ⟨h1, h2, h3, _⟩ := h
  simp at h2 h3
  exact Prod.ext (inj_aNode h1) (Prod.ext h2 h3)
noncomputable def e114 : Entry Tryz.prog := mkE 114 [[], [], []] (fun x : Nd × Str × Str => [aNode x.1, .str x.2.1, .str x.2.2]) (fun x => x.1.attrs.length ≤ 1000) (fun x => .bool (hasB x.1 x.2.1 x.2.2)) fun x hx => c114 (T := [e56]) rfl x.1 x.2.1 x.2.2 hx
theorem k114 {T : List (Entry Tryz.prog)} (hT : findE 114 T = some e114.g) {n : Nd} (nm v : Str) (hl : n.attrs.length ≤ 1000) (H : Heap) : callL (ctx T) (.fn 114) [aNode n, .str nm, .str v] H = some (.bool (hasB n nm v), H) :=
  mkE_scalar hT injNSS (n, nm, v) hl rfl (by simp [th_aNode])
theorem c113 {T : List (Entry Tryz.prog)} (hG : findE 114 T = some e114.g) (n : Nd) (v : Str) (hl : n.attrs.length ≤ 1000) : CallAt (ctx T) 113 [aNode n, .fptr [.str v] 0] ⟨0, []⟩ (.bool (hasB n wId v)) ⟨0, []⟩ := by
  have hk := fun H => k114 hG wId v hl H
  generalize hh : hasB n wId v = b at *
  obtain ⟨kind, space, name, attrs, data, up, kids⟩ := n
  simp only [aNode, Nd.cs, aInt, aAttrs, aInts] at hk
  refine callAt_body (fn := Tryz.f113) (s0 := ⟨[0, 1, 2, 3], [aNode ⟨kind, space, name, attrs, data, up, kids⟩, .fptr [.str v] 0, .undef, .undef], [], 7, ⟨0, [[]]⟩⟩) Tryz.func113 rfl rfl rfl ?_
  (repeat (first
    | (refine wps_seq ?_)
    | (refine wps_block ?_)
    | (refine wps_label ?_; simp only [thenQ, blockQ])
    | ((refine wps_region callOK ?_); simp [zS, aNode, Nd.cs, aInt, aAttrs, aInts, hk])
    | (refine wps_cond (t := true) rfl (fun _ => ?_) (fun h => by cases h))
    | (refine wps_cond (t := false) rfl (fun h => by cases h) (fun _ => ?_))
    | ((refine wps_skip ?_); simp only [thenQ, blockQ])
    | ((refine wps_exit ?_); simp [thenQ, blockQ])))
  repeat refine wps_seq ?_
  refine wps_ret ?_
  simp [retVal, Tryz.f113, oneOr, thenQ, blockQ]
  exact ends_pure rfl (by rfl)
def fE (t : Tr) : AV := .func (.func 245) [] [.fptr [aNodes t] 0]
theorem pure_fE (t : Tr) : pureV (fE t) = true := by simp [fE, pureV, pureL]
theorem c171 {T : List (Entry Tryz.prog)} (t : Tr) : CallAt (ctx T) 171 [aTree t] ⟨0, []⟩ (fE t) ⟨0, []⟩ := by
  refine callAt_body (fn := Tryz.f171) (s0 := ⟨[0, 1, 2], [aTree t, .undef, .undef], [], 4, ⟨0, [[]]⟩⟩) Tryz.func171 rfl rfl rfl ?_
  repeat refine wps_seq ?_
  refine wps_region callOK ?_
  simp [zS, aTree]
  repeat refine wps_seq ?_
  refine wps_region callOK ?_
  simp [zS]
  repeat refine wps_seq ?_
  refine wps_ret ?_
  simp [retVal, Tryz.f171, oneOr]
  refine ⟨[], [(0, [aNodes t])], by simp [fE, fitV, fitL, lookC], .froze (by simp) fun x hx => ?_⟩
  rw [List.mem_singleton] at hx
  subst hx
  exact ⟨[aNodes t], by simp [Heap.get, getFs, getF], fitL_pure (by simp [pureL]), by simp [pureL]⟩
noncomputable def e171 : Entry Tryz.prog := mkE 171 [[]] (fun t : Tr => [aTree t]) (fun _ => True) fE fun t _ => c171 (T := []) t
theorem k171 {T : List (Entry Tryz.prog)} (hT : findE 171 T = some e171.g) (t : Tr) (H : Heap) : callL (ctx T) (.fn 171) [aTree t] H = some (fE t, H) :=
  mkE_pure hT injT t trivial (by simp [pureL]) (by simp [thawL, th_aTree]) H
def runE {κ : Type} (t : Tr) (go : κ → Int → Bool) (nx : κ → Int → κ) : List Int → κ → κ
  | [], c => c
  | i :: r, c => if (nodeAt t i).kind = 1 then (if go c i = true then runE t go nx r (nx c i) else nx c i) else runE t go nx r c
structure RoundsE (T : List (Entry Tryz.prog)) (t : Tr) (n1 b : Nat) {κ : Type} (hc : κ → List (Nat × Blk)) (go : κ → Int → Bool) (nx : κ → Int → κ) (ok : Nat → κ → Prop) : Prop where
  self : ∀ j c m f, ok j c → (f = [] ∨ ∃ x, f = [(4, x)]) → n1 ≤ m → ∃ σ, lookN b σ = some b ∧ FitH n1 σ [] ⟨m, [f, hc c]⟩ ⟨4, [[], hc c]⟩
  round : ∀ j c i, j < 50 → ok j c → 0 ≤ i → i < (t.length : Int) → (nodeAt t i).kind = 1 → ∃ H', YieldAt (ctx T) b [.int .i64 i, aNode (nodeAt t i)] ⟨5, [[(4, .cells (nodeAt t i).cs)], hc c]⟩ (.bool (go c i)) H' ∧ (∃ σ, lookN b σ = some b ∧ FitH n1 σ [] H' ⟨4, [[], hc (nx c i)]⟩) ∧ (go c i = true → ok (j + 1) (nx c i))
  mono : ∀ j c, ok j c → ok (j + 1) c
theorem FitH.fs {n : Nat} {σ : List (Nat × Nat)} {Φ : List (Nat × List AV)} {H : Heap} {m : Nat} {f g : List (List (Nat × Blk))} (h : FitH n σ Φ H ⟨m, f⟩) (e : f.flatten = g.flatten) : FitH n σ Φ H ⟨m, g⟩ where
  nd1 := h.nd1
  nd2 := h.nd2
  nd3 := by have := h.nd3; simp only [Heap.ents] at this ⊢; rw [← e]; exact this
  lt := h.lt
  idn := h.idn
  num := h.num
  src := by have := h.src; simp only [Heap.ents] at this ⊢; rw [← e]; exact this
  frz := h.frz
theorem c245 {T : List (Entry Tryz.prog)} (hO : findE 53 T = some e53.g) (t : Tr) (ht : smallTr t) {b : Nat} {κ : Type} {hc : κ → List (Nat × Blk)} {go : κ → Int → Bool} {nx : κ → Int → κ} {ok : Nat → κ → Prop} {n1 : Nat} (hn1 : n1 ≤ 4) (R : RoundsE T t n1 b hc go nx ok) (c0 : κ) (h0 : ok 0 c0) :
    CallAt (ctx T) 245 [.yld b, .fptr [aNodes t] 0] ⟨n1, [hc c0]⟩ (.tup []) ⟨4, [hc (runE t go nx (orderOf t.length (kidsOf t)) c0)]⟩ := by
  have hk := fun H => k53 hO ht H
  obtain ⟨L, hL⟩ : ∃ L, L = orderOf t.length (kidsOf t) := ⟨_, rfl⟩
  have hLn : L.length ≤ 50 := by have := order_len (n := t.length) (ks := kidsOf t); have := ht.1; rw [hL]; omega
  have hmem : ∀ y, y ∈ L → 0 ≤ y ∧ y < (t.length : Int) := fun y hy => order_mem (hL ▸ hy)
  rw [← hL] at hk ⊢
  simp only [aTree] at hk
  obtain ⟨σ0, b0, f0⟩ := R.self 0 c0 n1 [] h0 (.inl rfl) (Nat.le_refl _)
  refine callAt_body (fn := Tryz.f245) (s0 := ⟨[0, 1, 4, 5, 7, 8, 9], [.yld b, .fptr [aNodes t] 0, .undef, .undef, .undef, .undef, .undef], [], 29, ⟨n1, [] :: [hc c0]⟩⟩) Tryz.func245 rfl rfl rfl ?_
  repeat refine wps_seq ?_
  refine wps_region callOK ?_
  simp [zS, hk, lenI]
  repeat refine wps_seq ?_
  refine wps_block (wps_loop' (fun x : Nat × κ => (⟨[0, 1, 4, 5, 7, 8, 9], [.yld b, .fptr [aNodes t] 0, .undef, .undef, aInts L, .int .i64 (L.length : Nat), .int .i64 x.1], [], 29, ⟨4, [[], hc x.2]⟩⟩ : St))
    (fun x => x.1 ≤ L.length ∧ ok x.1 x.2 ∧ runE t go nx L c0 = runE t go nx (L.drop x.1) x.2) (fun x => L.length - x.1) σ0 [] (0, c0) ⟨Nat.zero_le _, h0, rfl⟩ ⟨rfl, rfl, rfl, ?_, f0⟩ ?_)
  · simp [fitL, fitV, b0, pureV, pureL, aInts]
  rintro ⟨i, c⟩ ⟨hi, hc0, hr⟩ B hB
  simp only at hi hc0 hr
  repeat refine wps_seq ?_
  refine wps_region callOK ?_
  simp [zS]
  repeat refine wps_seq ?_
  refine wps_cond rfl (fun h => ?_) fun h => ?_
  · simp at h
    repeat refine wps_seq ?_
    refine wps_skip ?_
    simp
    repeat refine wps_seq ?_
    refine wps_block ?_
    obtain ⟨y0, y1⟩ := hmem L[i] (List.getElem_mem _)
    rw [List.drop_eq_getElem_cons h] at hr
    repeat refine wps_seq ?_
    refine wps_region callOK ?_
    simp [zS, atI h]
    repeat refine wps_seq ?_
    refine wps_region callOK ?_
    simp [zN, atX y0 y1]
    by_cases hq : (nodeAt t L[i]).kind = 1
    · obtain ⟨H', hy, ⟨σ, bσ, fH⟩, hok⟩ := R.round i c L[i] (by omega) hc0 y0 y1 hq
      simp only [runE] at hr
      rw [if_pos hq] at hr
      repeat refine wps_seq ?_
      refine wps_region (callOKY [⟨b, _, _, _, _, hy⟩]) ?_
      rcases Bool.eq_false_or_eq_true (go c L[i]) with hg | hg
      case inr =>
        simp [zS, hq, fold_node, callY_hit, hg]
        repeat refine wps_seq ?_
        refine wps_cond (t := true) rfl (fun _ => ?_) fun h => by cases h
        repeat refine wps_seq ?_
        refine wps_ret ?_
        rw [hg, if_neg (by simp)] at hr
        simp [thenQ, blockQ]
        exact ⟨[], rfl, σ, [], by simp [oneOr, fitV, fitL], by rw [hr]; exact fH.fs rfl⟩
      case inl =>
        simp [zS, hq, fold_node, callY_hit, hg]
        repeat refine wps_seq ?_
        refine wps_cond (t := false) rfl (fun h => by cases h) fun _ => ?_
        repeat refine wps_seq ?_
        refine wps_skip ?_
        simp
        repeat refine wps_seq ?_
        refine wps_region callOK ?_
        simp [zS, add_one (show i ≤ 1000000000 by omega)]
        rw [hg, if_pos rfl] at hr
        exact hB _ (i + 1, nx c L[i]) (by simp; omega) ⟨by simp; omega, hok hg, hr⟩ ⟨σ, [], rfl, rfl, rfl, by simp [fitL, fitV, bσ, pureV, pureL, aInts], fH⟩
    · obtain ⟨σ, bσ, fH⟩ := R.self i c 5 [(4, .cells (nodeAt t L[i]).cs)] hc0 (.inr ⟨_, rfl⟩) (by omega)
      simp only [runE] at hr
      rw [if_neg hq] at hr
      repeat refine wps_seq ?_
      refine wps_region callOK ?_
      simp [zS, hq]
      repeat refine wps_seq ?_
      refine wps_cond (t := false) rfl (fun h => by cases h) fun _ => ?_
      repeat refine wps_seq ?_
      refine wps_skip ?_
      simp
      repeat refine wps_seq ?_
      refine wps_region callOK ?_
      simp [zS, add_one (show i ≤ 1000000000 by omega)]
      exact hB _ (i + 1, c) (by simp; omega) ⟨by simp; omega, R.mono _ _ hc0, hr⟩ ⟨σ, [], rfl, rfl, rfl, by simp [fitL, fitV, bσ, pureV, pureL, aInts], fH⟩
  · simp at h
    rw [List.drop_eq_nil_of_le h] at hr
    simp only [runE] at hr
    obtain ⟨σ, bσ, fH⟩ := R.self i c 4 [] hc0 (.inl rfl) (by omega)
    repeat refine wps_seq ?_
    refine wps_exit ?_
    simp
    exact ⟨[], rfl, σ, [], by simp [oneOr, fitV, fitL], by rw [hr]; exact fH.fs rfl⟩
@[simp] theorem szT30 : sizeT Tryz.prog 30 = some 1 := rfl
@[simp] theorem agT30 : aggT Tryz.prog 30 = some false := rfl
@[simp] theorem byT30 : bytesT Tryz.prog 30 = some 8 := rfl
@[simp] theorem alT30 (H : Heap) : alV Tryz.prog H 30 = some (.ptr H.n 0, H.new (.cells [.nilF])) := rfl
@[simp] theorem zeT30 : zeroOf Tryz.prog 30 = some (.nilF) := rfl
attribute [simp] Tryz.underlying30
@[simp 500] theorem rvF30 (H : Heap) (cs : List AV) (o : Nat) : readVar Tryz.prog H 30 (.fptr cs o) = getL cs o := rfl
@[simp 500] theorem rvP30 (H : Heap) (b o : Nat) : readVar Tryz.prog H 30 (.ptr b o) = (H.get b).bind fun k => k.rd.bind fun cs => getL cs o := rfl
noncomputable def asF : Code := match Tryz.f112.body with
  | some c => match rgOf c with
    | some x => x.1
    | none => .skip
  | none => .skip
noncomputable def bdF : Code := match Tryz.f112.body with
  | some c => match rgOf c with
    | some x => x.2
    | none => .skip
  | none => .skip
def fnV (clo : FuncId) (cap : List AV) : AV := .func (.func clo) [] cap
noncomputable def LBf (st : LoopState) (pend : Option Code) (ts : List (Nat × AV)) (t : Tr) (fv : AV) : Blk := .loop st pend [0, 1, 2, 3, 4, 5, 6, 8, 9, 10] [aTree t, fv, .ptr 0 0, .ptr 1 0, .ptr 2 0, .undef, .undef, fE t, .undef, .undef] ts 15 [9, 10] asF bdF
noncomputable def hcF (t : Tr) (fv : AV) : Option Int → List (Nat × Blk)
  | none => [(3, LBf .ready none [] t fv), (2, .cells [.int .i64 0]), (1, .cells [fv]), (0, .cells [aNodes t])]
  | some i => [(3, LBf .done (some .ret) [] t fv), (2, .cells [.int .i64 i]), (1, .cells [fv]), (0, .cells [aNodes t])]
theorem LBf_fit {st : LoopState} {pend : Option Code} {ts : List (Nat × AV)} {t : Tr} {fv : AV} (hp : pureV fv = true) (σ : List (Nat × Nat)) (h0 : lookN 0 σ = some 0) (h1 : lookN 1 σ = some 1) (h2 : lookN 2 σ = some 2) : fitB σ [] (LBf st pend ts t fv) (LBf st pend [] t fv) := by
  simp [LBf, fitB, fitL, fitV, h0, h1, h2, fitV_pure, pure_fE, hp]
theorem fitF {t : Tr} {fv : AV} (hp : pureV fv = true) {m k n : Nat} {f : List (Nat × Blk)} {c : Option Int} (hf : ∀ b, b < 4 → getF b f = none) (hn : n ≤ k) (hk : 4 ≤ k) : FitH n [(3, 3), (2, 2), (1, 1), (0, 0)] [] ⟨m, [f, hcF t fv c]⟩ ⟨k, [[], hcF t fv c]⟩ := by
  refine .same (by simp) (by simp) (by simp; omega) hn (by cases c <;> simp [hcF, Heap.ents]) ?_
  intro e he
  cases c
  all_goals
    simp [hcF, Heap.ents] at he
    rcases he with rfl | rfl | rfl | rfl
    · exact ⟨by simp, by simp [hcF, Heap.get, getFs, hf, getF], LBf_fit hp _ (by simp [lookN]) (by simp [lookN]) (by simp [lookN])⟩
    · exact ⟨by simp, by simp [hcF, Heap.get, getFs, hf, getF], fitL_pure (by simp [pureL, pureV])⟩
    · exact ⟨by simp, by simp [hcF, Heap.get, getFs, hf, getF], fitL_pure (by simp [pureL, hp])⟩
    · exact ⟨by simp, by simp [hcF, Heap.get, getFs, hf, getF], fitL_pure (by simp [pureL])⟩
theorem fitF5 {t : Tr} {fv : AV} (hp : pureV fv = true) {m : Nat} {f : List (Nat × Blk)} {n : Nd} {c : Option Int} (hf : ∀ b, b < 5 → getF b f = none) : FitH 5 [(4, 4), (3, 3), (2, 2), (1, 1), (0, 0)] [] ⟨m, [f, [(4, .cells n.cs)], hcF t fv c]⟩ ⟨5, [[(4, .cells n.cs)], hcF t fv c]⟩ := by
  refine .same (by simp) (by simp) (by simp) (Nat.le_refl _) (by cases c <;> simp [hcF, Heap.ents]) ?_
  intro e he
  cases c
  all_goals
    simp [hcF, Heap.ents] at he
    rcases he with rfl | rfl | rfl | rfl | rfl
    · exact ⟨by simp, by simp [hcF, Heap.get, getFs, hf, getF], fitL_pure (by simp)⟩
    · exact ⟨by simp, by simp [hcF, Heap.get, getFs, hf, getF], LBf_fit hp _ (by simp [lookN]) (by simp [lookN]) (by simp [lookN])⟩
    · exact ⟨by simp, by simp [hcF, Heap.get, getFs, hf, getF], fitL_pure (by simp [pureL, pureV])⟩
    · exact ⟨by simp, by simp [hcF, Heap.get, getFs, hf, getF], fitL_pure (by simp [pureL, hp])⟩
    · exact ⟨by simp, by simp [hcF, Heap.get, getFs, hf, getF], fitL_pure (by simp [pureL])⟩
theorem round_first {T : List (Entry Tryz.prog)} (t : Tr) (clo : FuncId) (cap : List AV) (hcap : pureL cap = true) (p : Nd → Bool) (i : Int) (n : Nd) (hp : CallAt (ctx T) clo (aNode n :: cap) ⟨0, []⟩ (.bool (p n)) ⟨0, []⟩) :
    YieldAt (ctx T) 3 [.int .i64 i, aNode n] ⟨5, [[(4, .cells n.cs)], hcF t (fnV clo cap) none]⟩ (.bool !p n) ⟨5, [[(4, .cells n.cs)], hcF t (fnV clo cap) (if p n = true then some i else none)]⟩ := by
  have hpv : pureV (fnV clo cap) = true := by simp [fnV, pureV, pureL, hcap]
  generalize hH' : (⟨5, [[(4, .cells n.cs)], hcF t (fnV clo cap) (if p n = true then some i else none)]⟩ : Heap) = H'
  refine yieldAt_body (b := 3) (pend := none) (ks := [0, 1, 2, 3, 4, 5, 6, 8, 9, 10]) (vs := [aTree t, fnV clo cap, .ptr 0 0, .ptr 1 0, .ptr 2 0, .undef, .undef, fE t, .undef, .undef]) (ts := []) (sz := 15) (ps := [9, 10]) (assign := asF) (body := bdF)
    (s1 := ⟨[0, 1, 2, 3, 4, 5, 6, 8, 9, 10], [aTree t, fnV clo cap, .ptr 0 0, .ptr 1 0, .ptr 2 0, .undef, .undef, fE t, .int .i64 i, aNode n], [], 15, ⟨5, [] :: (⟨5, [[(4, .cells n.cs)], hcF t (fnV clo cap) none]⟩ : Heap).fs⟩⟩) rfl rfl fun l => ?_
  simp only [asF, rgOf, Tryz.f112, hcF]
  repeat refine wps_seq ?_
  refine wps_region callOK ?_
  simp [zS]
  repeat refine wps_seq ?_
  refine wps_region callOK ?_
  simp [zN]
  refine ⟨_, _, _, _, _, _, _, _, rfl, ?_⟩
  obtain ⟨LBb, hLBb⟩ : ∃ LBb, LBb = LBf .busy none [] t (fnV clo cap) := ⟨_, rfl⟩
  have hLBb' := hLBb
  unfold LBf at hLBb'
  rw [← hLBb']
  simp only [bdF, rgOf, Tryz.f112]
  repeat refine wps_seq ?_
  refine wps_block ?_
  have hcall := hp.lift (by simp [pureL, hcap]) ⟨6, [[(5, .cells n.cs)], [(4, .cells n.cs)], [(3, LBb), (2, .cells [.int .i64 0]), (1, .cells [fnV clo cap]), (0, .cells [aNodes t])]]⟩
  repeat refine wps_seq ?_
  refine wps_region (callOKF [⟨clo, _, _, _, _, hcall⟩]) ?_
  rcases Bool.eq_false_or_eq_true (p n) with hb | hb
  · simp [zS, callF, fnV, fold_node, hb]
    repeat refine wps_seq ?_
    refine wps_cond (t := true) rfl (fun _ => ?_) fun h => by cases h
    repeat refine wps_seq ?_
    refine wps_region callOK ?_
    simp [zS]
    repeat refine wps_seq ?_
    refine wps_ret ?_
    simp [thenQ, blockQ, Heap.get, Heap.set, getFs, getF, setFs, setF]
    refine ⟨_, _, _, _, _, _, _, _, _, hLBb', rfl, [(4, 4), (3, 3), (2, 2), (1, 1), (0, 0)], [], ?_⟩
    rw [← hH', if_pos hb]
    exact fitF5 (c := some i) hpv (fun b h => getF_one (by omega))
  · simp [zS, callF, fnV, fold_node, hb]
    repeat refine wps_seq ?_
    refine wps_cond (t := false) rfl (fun h => by cases h) fun _ => ?_
    repeat refine wps_seq ?_
    refine wps_skip ?_
    simp [thenQ, blockQ, Heap.get, Heap.set, getFs, getF, setFs, setF]
    refine ⟨_, _, _, _, _, _, _, _, _, hLBb', rfl, [(4, 4), (3, 3), (2, 2), (1, 1), (0, 0)], [], ?_⟩
    rw [← hH', if_neg (by simp [hb])]
    exact fitF5 (c := none) hpv (fun b h => getF_one (by omega))
def goF (t : Tr) (p : Nd → Bool) (_ : Option Int) (i : Int) : Bool := !p (nodeAt t i)
def nxF (t : Tr) (p : Nd → Bool) (_ : Option Int) (i : Int) : Option Int := if p (nodeAt t i) = true then some i else none
theorem rounds_first {T : List (Entry Tryz.prog)} (t : Tr) (clo : FuncId) (cap : List AV) (hcap : pureL cap = true) (p : Nd → Bool) (hp : ∀ n, n ∈ t → CallAt (ctx T) clo (aNode n :: cap) ⟨0, []⟩ (.bool (p n)) ⟨0, []⟩) :
    RoundsE T t 4 3 (hcF t (fnV clo cap)) (goF t p) (nxF t p) (fun _ c => c = none) := by
  have hpv : pureV (fnV clo cap) = true := by simp [fnV, pureV, pureL, hcap]
  refine ⟨fun j c m f _ hf _ => ⟨[(3, 3), (2, 2), (1, 1), (0, 0)], by simp [lookN], fitF (n := 4) hpv ?_ (by omega) (by omega)⟩, fun j c i _ hc h0 h1 _ => ?_, fun _ _ h => h⟩
  · rcases hf with rfl | ⟨x, rfl⟩
    · intro b _; rfl
    · intro b hb; exact getF_one (by omega)
  · subst hc
    refine ⟨_, round_first t clo cap hcap p i (nodeAt t i) (hp _ (nodeAt_mem h0 h1)), ⟨[(3, 3), (2, 2), (1, 1), (0, 0)], by simp [lookN], fitF (n := 4) hpv (fun b hb => getF_one (by omega)) (by omega) (by omega)⟩, fun hg => ?_⟩
    simp [goF] at hg
    simp [nxF, hg]
def firstB (t : Tr) (p : Nd → Bool) : Option Int := (orderOf t.length (kidsOf t)).find? fun i => decide ((nodeAt t i).kind = 1) && p (nodeAt t i)
theorem runE_first {t : Tr} {p : Nd → Bool} : ∀ (L : List Int), runE t (goF t p) (nxF t p) L none = L.find? fun i => decide ((nodeAt t i).kind = 1) && p (nodeAt t i)
  | [] => rfl
  | i :: r => by
    simp only [runE, List.find?_cons]
    by_cases hk : (nodeAt t i).kind = 1
    · rw [if_pos hk]
      by_cases hp : p (nodeAt t i) = true
      · simp [goF, nxF, hk, hp]
      · simp only [goF, nxF, hp, hk]
        simp [runE_first r]
    · rw [if_neg hk]
      simp [hk, runE_first r]
theorem call_first {T : List (Entry Tryz.prog)} (hO : findE 53 T = some e53.g) (t : Tr) (ht : smallTr t) (clo : FuncId) (cap : List AV) (hcap : pureL cap = true) (p : Nd → Bool) (hp : ∀ n, n ∈ t → CallAt (ctx T) clo (aNode n :: cap) ⟨0, []⟩ (.bool (p n)) ⟨0, []⟩) :
    CallAt (ctx T) 245 [.yld 3, .fptr [aNodes t] 0] ⟨4, [[(3, LBf .ready none [(7, aTree t)] t (fnV clo cap)), (2, .cells [.int .i64 0]), (1, .cells [fnV clo cap]), (0, .cells [aNodes t])]]⟩ (.tup []) ⟨4, [hcF t (fnV clo cap) (firstB t p)]⟩ := by
  have hpv : pureV (fnV clo cap) = true := by simp [fnV, pureV, pureL, hcap]
  have h := c245 hO t ht (Nat.le_refl _) (rounds_first t clo cap hcap p hp) none rfl
  rw [runE_first] at h
  have hf : FitH 0 [(3, 3), (2, 2), (1, 1), (0, 0)] [] ⟨4, [[(3, LBf .ready none [(7, aTree t)] t (fnV clo cap)), (2, .cells [.int .i64 0]), (1, .cells [fnV clo cap]), (0, .cells [aNodes t])]]⟩ ⟨4, [hcF t (fnV clo cap) none]⟩ := {
    nd1 := by simp
    nd2 := by simp
    nd3 := by simp [hcF, Heap.ents]
    lt := by simp
    idn := by simp
    num := by simp
    src := by
      intro e he
      simp [hcF, Heap.ents] at he
      rcases he with rfl | rfl | rfl | rfl
      · exact ⟨3, _, by simp, rfl, LBf_fit hpv _ (by simp [lookN]) (by simp [lookN]) (by simp [lookN])⟩
      · exact ⟨2, _, by simp, rfl, fitL_pure (by simp [pureL, pureV])⟩
      · exact ⟨1, _, by simp, rfl, fitL_pure (by simp [pureL, hpv])⟩
      · exact ⟨0, _, by simp, rfl, fitL_pure (by simp [pureL])⟩
    frz := fun x h => by cases h }
  have := h.framed (H := ⟨4, [[(3, LBf .ready none [(7, aTree t)] t (fnV clo cap)), (2, .cells [.int .i64 0]), (1, .cells [fnV clo cap]), (0, .cells [aNodes t])]]⟩) (σ := [(3, 3), (2, 2), (1, 1), (0, 0)]) (args := [.yld 3, .fptr [aNodes t] 0])
    (H' := ⟨4, [hcF t (fnV clo cap) (firstB t p)]⟩) hf (by simp [fitL, fitV, lookN, fitV_pure, pureV, pureL]) ?_ (by simp)
  · simpa [renV, renL] using this
  · refine ⟨by simp, by cases firstB t p <;> simp [hcF, Heap.ents], ?_⟩
    intro e he
    have hT := renV_pure (outN [(3, 3), (2, 2), (1, 1), (0, 0)] 4 4) (pure_aTree t)
    have hN := renV_pure (outN [(3, 3), (2, 2), (1, 1), (0, 0)] 4 4) (pure_aNodes t)
    have hF := renV_pure (outN [(3, 3), (2, 2), (1, 1), (0, 0)] 4 4) hpv
    have hE := renV_pure (outN [(3, 3), (2, 2), (1, 1), (0, 0)] 4 4) (pure_fE t)
    refine .inl ⟨e, he, ?_⟩
    cases hb : firstB t p
    all_goals
      rw [hb] at he
      simp [hcF, Heap.ents] at he
      rcases he with rfl | rfl | rfl | rfl
      · simp [LBf, renB, renL, renV, renT, hT, hF, hE]; simp [outN, lookR]
      · simp [renB, renL, renV]; simp [outN, lookR]
      · simp [renB, renL, hF]; simp [outN, lookR]
      · simp [renB, renL, hN]; simp [outN, lookR]
def hX (t : Tr) (fv : AV) (r : Int) : Heap := ⟨4, [[(2, .cells [.int .i64 r]), (1, .cells [fv]), (0, .cells [aNodes t])]]⟩
def sF (t : Tr) (fv : AV) (H : Heap) : St := ⟨[0, 1, 2, 3, 4, 5, 6, 8, 9, 10], [aTree t, fv, .ptr 0 0, .ptr 1 0, .ptr 2 0, .undef, .undef, fE t, .undef, .undef], [(7, aTree t)], 15, H⟩
def outF : Option Int → Out
  | none => .normal
  | some _ => .ret
theorem range_first {T : List (Entry Tryz.prog)} (t : Tr) (fv : AV) (r : Option Int) {call : CallE} (hc : call (.fn 245) [.yld 3, .fptr [aNodes t] 0] ⟨4, [[(3, LBf .ready none [(7, aTree t)] t fv), (2, .cells [.int .i64 0]), (1, .cells [fv]), (0, .cells [aNodes t])]]⟩ = some (.tup [], ⟨4, [hcF t fv r]⟩)) :
    evalRange (ctx T) call (.tmp 8) #[9, 10] asF bdF (sF t fv ⟨3, [[(2, .cells [.int .i64 0]), (1, .cells [fv]), (0, .cells [aNodes t])]]⟩) = some (outF r, sF t fv (hX t fv (r.getD 0))) := by
  have hent : entersF (ctx T) 245 = true := by kernel_rfl
  have ho : opnd (sF t fv ⟨3, [[(2, .cells [.int .i64 0]), (1, .cells [fv]), (0, .cells [aNodes t])]]⟩) (.tmp 8) = some (fE t) := rfl
  unfold evalRange
  rw [ho]
  simp only [Option.bind_some, hent, fE]
  have e : call (.fn 245) ([] ++ [.yld (sF t fv ⟨3, [[(2, .cells [.int .i64 0]), (1, .cells [fv]), (0, .cells [aNodes t])]]⟩).H.n] ++ [.fptr [aNodes t] 0]) ((sF t fv ⟨3, [[(2, .cells [.int .i64 0]), (1, .cells [fv]), (0, .cells [aNodes t])]]⟩).H.new (.loop .ready none (sF t fv ⟨3, [[(2, .cells [.int .i64 0]), (1, .cells [fv]), (0, .cells [aNodes t])]]⟩).ks (sF t fv ⟨3, [[(2, .cells [.int .i64 0]), (1, .cells [fv]), (0, .cells [aNodes t])]]⟩).vs (sF t fv ⟨3, [[(2, .cells [.int .i64 0]), (1, .cells [fv]), (0, .cells [aNodes t])]]⟩).ts (sF t fv ⟨3, [[(2, .cells [.int .i64 0]), (1, .cells [fv]), (0, .cells [aNodes t])]]⟩).sz (#[9, 10] : Array Nat).toList asF bdF)) = _ := hc
  rw [e]
  cases r <;> rfl
theorem c112 {T : List (Entry Tryz.prog)} (hO : findE 53 T = some e53.g) (hE : findE 171 T = some e171.g) (t : Tr) (ht : smallTr t) (clo : FuncId) (cap : List AV) (hcap : pureL cap = true) (p : Nd → Bool) (hp : ∀ n, n ∈ t → CallAt (ctx T) clo (aNode n :: cap) ⟨0, []⟩ (.bool (p n)) ⟨0, []⟩) :
    CallAt (ctx T) 112 [aTree t, fnV clo cap] ⟨0, []⟩ (.int .i64 ((firstB t p).getD 0)) ⟨0, []⟩ := by
  have hk := fun H => k171 hE t H
  have hcall := call_first hO t ht clo cap hcap p hp
  simp only [fnV] at hcall ⊢
  simp only [aTree] at hk
  refine callAt_body (fn := Tryz.f112) (s0 := ⟨[0, 1, 2, 3, 4, 5, 6, 8, 9, 10], [aTree t, .func (.func clo) [] cap, .undef, .undef, .undef, .undef, .undef, .undef, .undef, .undef], [], 15, ⟨0, [[]]⟩⟩) Tryz.func112 rfl rfl rfl ?_
  repeat refine wps_seq ?_
  refine wps_region callOK ?_
  simp [zS, aTree]
  repeat refine wps_seq ?_
  refine wps_region callOK ?_
  simp [zS, hk]
  repeat refine wps_seq ?_
  refine wps_block ?_
  refine wps_range (callOKF [⟨245, _, _, _, _, hcall⟩]) ⟨_, _, range_first (T := T) t (.func (.func clo) [] cap) (firstB t p) (by simp [callF]), ?_⟩
  generalize firstB t p = r
  cases r with
  | none =>
    simp [outF, sF, hX]
    repeat refine wps_seq ?_
    refine wps_region callOK ?_
    simp [zS]
    repeat refine wps_seq ?_
    refine wps_ret ?_
    simp [retVal, Tryz.f112, oneOr]
    exact ⟨[.int .i64 0], rfl, [], [], fitV_pure rfl, FitH.empty⟩
  | some i =>
    simp [outF, sF, hX, thenQ, blockQ]
    exact ⟨[.int .i64 i], rfl, [], [], fitV_pure rfl, FitH.empty⟩
def firstId (t : Tr) (v : Str) : Int := (firstB t fun n => hasB n wId v).getD 0
theorem c81 {T : List (Entry Tryz.prog)} (hO : findE 53 T = some e53.g) (hE : findE 171 T = some e171.g) (hH : findE 114 T = some e114.g) (t : Tr) (ht : smallTr t) (v : Str) :
    CallAt (ctx T) 81 [aTree t, .str v] ⟨0, []⟩ (.int .i64 (firstId t v)) ⟨0, []⟩ := by
  have hc := c112 hO hE t ht 113 [.fptr [.str v] 0] rfl (fun n => hasB n wId v) fun n hn => c113 hH n v (ht.2.2 n hn).2
  have hcall := CallAt.thaw hc rfl [] (H := ⟨2, [[(1, .cells [.str v]), (0, .cells [aNodes t])]]⟩) (args := [aTree t, .func (.func 113) [] [.ptr 1 0]]) (by simp [fnV, th_aTree, thawA_clo (H := ⟨2, [[(1, .cells [.str v]), (0, .cells [aNodes t])]]⟩) (b := 1) (cs := [.str v]) rfl rfl])
  refine callAt_body (fn := Tryz.f81) (s0 := ⟨[0, 1, 2, 3, 4], [aTree t, .str v, .undef, .undef, .undef], [], 8, ⟨0, [[]]⟩⟩) Tryz.func81 rfl rfl rfl ?_
  repeat refine wps_seq ?_
  refine wps_region callOK ?_
  simp [zS, aTree]
  repeat refine wps_seq ?_
  refine wps_region (callOKF [⟨112, _, _, _, _, hcall⟩]) ?_
  simp [zS, callF, aTree]
  repeat refine wps_seq ?_
  refine wps_ret ?_
  simp [retVal, Tryz.f81, oneOr, thenQ, blockQ]
  exact ends_pure rfl (by rfl)
noncomputable def e81 : Entry Tryz.prog := mkE 81 [[], []] (fun x : Tr × Str => [aTree x.1, .str x.2]) (fun x => smallTr x.1) (fun x => .int .i64 (firstId x.1 x.2)) fun x hx => c81 (T := [e53, e171, e114]) rfl rfl rfl x.1 hx x.2
theorem k81 {T : List (Entry Tryz.prog)} (hT : findE 81 T = some e81.g) {t : Tr} (ht : smallTr t) (v : Str) (H : Heap) : callL (ctx T) (.fn 81) [aTree t, .str v] H = some (.int .i64 (firstId t v), H) :=
  mkE_scalar hT injTS (t, v) ht rfl (by simp [th_aTree])
end Go.Proofs.YthclkpplpdnffaaGreatDoor
