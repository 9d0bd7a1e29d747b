/- A writer's memory; frames told in another way. No condition. -/
import Derived.Test.YtlgdgolobnbefaaGreatDoorMJ
import Derived.Test.YtlgdgolobnbefaaGreatDoorMG
import Derived.Test.YtlgdgolobnbefaaGreatDoorMF
import Derived.Lib.Builder
import Derived.Test.YtlgdgolobnbefaaGreatDoorMH
namespace Go.Proofs.YtlgdgolobnbefaaGreatDoor
set_option linter.unusedSimpArgs false
set_option linter.unusedVariables false
open Go Go.RowKit
set_option maxRecDepth 100000
theorem FitH.id1 {m' : Nat} {H : Heap} {g : List (Nat × Blk)} (nd : (g.map (·.1)).Nodup) (lt : ∀ e, e ∈ g → e.1 < m') (src : ∀ e, e ∈ g → ∃ cs, H.get e.1 = some (.cells cs) ∧ e.2 = .cells cs ∧ pureL cs = true) : FitH 0 (g.map fun e => (e.1, e.1)) [] H ⟨m', [g]⟩ := by
  refine .rows (by simpa [Function.comp_def] using nd) (by simpa [Function.comp_def] using nd) (by simpa [Heap.ents] using nd) ?_ (by simp) (Nat.zero_le _) ?_
  · intro x hx
    obtain ⟨e, he, rfl⟩ := List.mem_map.1 hx
    exact lt e he
  · intro e he
    have he : e ∈ g := by simpa [Heap.ents] using he
    obtain ⟨cs, h1, h2, h3⟩ := src e he
    exact ⟨e.1, cs, List.mem_map.2 ⟨e, he, rfl⟩, h1, h2, h3⟩
section
variable (n : Nd)
@[simp] theorem gcs0 : getL n.cs 0 = some (.int .i64 n.kind) := rfl
@[simp] theorem gcs1 : getL n.cs 1 = some (.int .i64 n.space) := rfl
@[simp] theorem gcs2 : getL n.cs 2 = some (.str n.name) := rfl
@[simp] theorem gcs3 : getL n.cs 3 = some (aAttrs n.attrs) := rfl
@[simp] theorem gcs4 : getL n.cs 4 = some (.str n.data) := rfl
@[simp] theorem gcs5 : getL n.cs 5 = some (.int .i64 n.up) := rfl
@[simp] theorem gcs6 : getL n.cs 6 = some (aInts n.kids) := rfl
@[simp] theorem pure_cs : pureL n.cs = true := by simp [Nd.cs, pureL, aInt, pureV]
end
end Go.Proofs.YtlgdgolobnbefaaGreatDoor
namespace Go.Proofs.YtlgdgolobnbefaaGreatDoor
set_option linter.unusedSimpArgs false
set_option linter.unusedVariables false
open Go Go.RowKit Go.ChangeShapes Go.WideShapes Go.ChangeAt
set_option maxRecDepth 100000
section
variable {H : Type} {enc : TypeId × Value → H} {W : World} {hg : GlobsIn W}
theorem vr_str (s : ByteArray) : VR (start W hg) (.str s.data.toList) (.string s) := by
  have := VR.str (ρ := start W hg) s.data.toList
  rwa [Array.toArray_toList] at this
end
end Go.Proofs.YtlgdgolobnbefaaGreatDoor
namespace Go.Proofs.YtlgdgolobnbefaaGreatDoor
set_option linter.unusedSimpArgs false
set_option linter.unusedVariables false
open Go Go.RowKit
set_option maxRecDepth 100000
def valueB (t : Tr) (i : Int) (nm : Str) : Str := if i < 0 ∨ (t.length : Int) ≤ i then [] else valOf (nodeAt t i) nm
theorem c22 {T : List (Entry Tryz.prog)} (hG : findE 50 T = some e50.g) (t : Tr) (ht : okTr t) (i : Int) (nm : Str) : CallAt (ctx T) 22 [aTree t, .int .i64 i, .str nm] ⟨0, []⟩ (.str (valueB t i nm)) ⟨0, []⟩ := by
  refine callAt_body (fn := Tryz.f22) (s0 := ⟨[0, 1, 2, 3, 6, 7], [aTree t, .int .i64 i, .str nm, .undef, .undef, .undef], [], 30, ⟨0, [[]]⟩⟩) Tryz.func22 rfl rfl rfl ?_
  repeat refine wps_seq ?_
  refine wps_region callOK ?_
  simp [zS, aTree]
  by_cases c1 : i < 0
  · repeat refine wps_seq ?_
    refine wps_region callOK ?_
    simp [zS, lenN, c1]
    repeat refine wps_seq ?_
    refine wps_cond (t := true) rfl (fun _ => ?_) fun h => by cases h
    repeat refine wps_seq ?_
    refine wps_region callOK ?_
    simp [zS]
    repeat refine wps_seq ?_
    refine wps_ret ?_
    simp [retVal, Tryz.f22, oneOr, thenQ, blockQ]
    exact ends_pure rfl (by simp [valueB, c1])
  · by_cases c2 : (t.length : Int) ≤ i
    · repeat refine wps_seq ?_
      refine wps_region callOK ?_
      simp [zS, lenN, c1, c2]
      repeat refine wps_seq ?_
      refine wps_cond (t := true) rfl (fun _ => ?_) fun h => by cases h
      repeat refine wps_seq ?_
      refine wps_region callOK ?_
      simp [zS]
      repeat refine wps_seq ?_
      refine wps_ret ?_
      simp [retVal, Tryz.f22, oneOr, thenQ, blockQ]
      exact ends_pure rfl (by simp [valueB, c1, c2])
    · have hl := (ht.2 _ (nodeAt_mem (t := t) (i := i) (by omega) (by omega))).2
      have hk := fun H => k50 hG nm hl (th_aAttrs H _)
      repeat refine wps_seq ?_
      refine wps_region callOK ?_
      simp [zS, lenN, c1, c2]
      repeat refine wps_seq ?_
      refine wps_cond (t := false) rfl (fun h => by cases h) fun _ => ?_
      repeat refine wps_seq ?_
      refine wps_skip ?_
      simp
      repeat refine wps_seq ?_
      refine wps_region callOK ?_
      simp [zS, atX (t := t) (i := i) (by omega) (by omega), hk, gotA]
      repeat refine wps_seq ?_
      refine wps_region callOK ?_
      simp [zS]
      repeat refine wps_seq ?_
      refine wps_ret ?_
      simp [retVal, Tryz.f22, oneOr, thenQ, blockQ]
      exact ends_pure rfl (by simp [valueB, valOf, c1, c2])
theorem injTIS (x y : Tr × Int × Str) (h : [aTree x.1, .int .i64 x.2.1, .str x.2.2] = [aTree y.1, .int .i64 y.2.1, .str y.2.2]) : x = y := by
  simp at h; exact Prod.ext (inj_aTree h.1) (Prod.ext h.2.1 h.2.2)
noncomputable def e22 : Entry Tryz.prog := mkE 22 [[], [], []] (fun x : Tr × Int × Str => [aTree x.1, .int .i64 x.2.1, .str x.2.2]) (fun x => okTr x.1) (fun x => .str (valueB x.1 x.2.1 x.2.2)) fun x hx => c22 (T := [e50]) rfl x.1 hx x.2.1 x.2.2
theorem k22 {T : List (Entry Tryz.prog)} (hT : findE 22 T = some e22.g) {t : Tr} (ht : okTr t) (i : Int) (nm : Str) (H : Heap) : callL (ctx T) (.fn 22) [aTree t, .int .i64 i, .str nm] H = some (.str (valueB t i nm), H) :=
  mkE_scalar hT injTIS (t, i, nm) ht rfl (by simp [th_aTree])
theorem run_escape {C : Ctx} (hP : C.P = Tryz.prog) (x : Value) (w : World) : (callFunc 86 #[x]).run C.P w = .ok (.value x) w := by
  have hf : C.P.funcs[86]? = some Tryz.f86 := by rw [hP]; exact Tryz.func86
  have hn : ¬ Tryz.f86.name = "runtime.NumGoroutine" := by decide +kernel
  have h1 : Extern.findNext Tryz.f86 = none := by kernel_rfl
  have h2 : Extern.find Tryz.f86 = some Extern.AbiNoEscape.same := by kernel_rfl
  have h3 : Tryz.f86.body = none := by kernel_rfl
  simp [callFunc, hf, hn, h1, h2, h3, Lib.run_noEscape]
noncomputable def e86 : Entry Tryz.prog := ⟨86, fun args H => match args with
  | [.ptr b o] => some (.ptr b o, H)
  | _ => none, fun args H v H' hv => by
    split at hv
    · simp only [Option.some.injEq, Prod.mk.injEq] at hv
      obtain ⟨rfl, rfl⟩ := hv
      intro ρ w xs sm hx
      match xs, hx with
      | [x], hx =>
        have h0 := hx.2 0 (by simp) (by simp)
        simp only [List.getElem_cons_zero] at h0
        exact .inl ⟨x, ρ, w, run_escape rfl x w, h0, sm, Step.refl _ _ _⟩
    · cases hv⟩
abbrev wVoid : Str := [97, 114, 101, 97, 32, 98, 97, 115, 101, 32, 98, 97, 115, 101, 102, 111, 110, 116, 32, 98, 103, 115, 111, 117, 110, 100, 32, 98, 114, 32, 99, 111, 108, 32, 101, 109, 98, 101, 100, 32, 102, 114, 97, 109, 101, 32, 104, 114, 32, 105, 109, 103, 32, 105, 110, 112, 117, 116, 32, 107, 101, 121, 103, 101, 110, 32, 108, 105, 110, 107, 32, 109, 101, 116, 97, 32, 112, 97, 114, 97, 109, 32, 115, 111, 117, 114, 99, 101, 32, 116, 114, 97, 99, 107, 32, 119, 98, 114]
theorem split_void : splitOK (wsplit wVoid) (callN (ctx []) 100000 (.fn 38) [.str wVoid] ⟨0, []⟩) = true := by decide +kernel
theorem c38v {T : List (Entry Tryz.prog)} : CallAt (ctx T) 38 [.str wVoid] ⟨0, []⟩ (aStrs (wsplit wVoid)) ⟨0, []⟩ := closedSplit (T := []) split_void
theorem c62 {T : List (Entry Tryz.prog)} (L : List Str) (x : Str) (hl : L.length ≤ 1000000) : CallAt (ctx T) 62 [aStrs L, .str x] ⟨0, []⟩ (.int .i64 (idxFrom (fun y => decide (x = y)) L 0)) ⟨0, []⟩ := by
  refine callAt_body (fn := Tryz.f62) (s0 := ⟨[0, 1, 4, 5, 7, 8], [aStrs L, .str x, .undef, .undef, .undef, .undef], [], 19, ⟨0, [[]]⟩⟩) Tryz.func62 rfl rfl rfl ?_
  repeat refine wps_seq ?_
  refine wps_region callOK ?_
  simp [zS]
  repeat refine wps_seq ?_
  refine wps_region callOK ?_
  simp [zS, lenS]
  repeat refine wps_seq ?_
  refine wps_block (wps_loop' (fun i : Nat => (⟨[0, 1, 4, 5, 7, 8], [aStrs L, .str x, .undef, .undef, .int .i64 (L.length : Nat), .int .i64 i], [], 19, ⟨0, [[]]⟩⟩ : St))
    (fun i => i ≤ L.length ∧ idxFrom (fun y => decide (x = y)) L 0 = idxFrom (fun y => decide (x = y)) (L.drop i) i) (fun i => L.length - i) [] [] 0 ⟨Nat.zero_le _, rfl⟩ ⟨rfl, rfl, rfl, by simp [fitL, fitV, pureV, pureL, aStrs], FitH.nothing⟩ ?_)
  rintro i ⟨hi, hx⟩ B hB
  repeat refine wps_seq ?_
  refine wps_region callOK ?_
  simp [zS]
  repeat refine wps_seq ?_
  refine wps_cond rfl (fun h => ?_) fun h => ?_
  · simp at h
    rw [idxFrom_at h] at hx
    repeat refine wps_seq ?_
    refine wps_skip ?_
    simp
    repeat refine wps_seq ?_
    refine wps_block ?_
    repeat refine wps_seq ?_
    refine wps_region callOK ?_
    simp [zS]
    by_cases h2 : L[i] = x
    · repeat refine wps_seq ?_
      refine wps_region callOK ?_
      simp [zS, atS h, h2]
      repeat refine wps_seq ?_
      refine wps_cond (t := true) rfl (fun _ => ?_) fun h => by cases h
      repeat refine wps_seq ?_
      refine wps_region callOK ?_
      simp [zS]
      repeat refine wps_seq ?_
      refine wps_ret ?_
      simp [retVal, Tryz.f62, oneOr, thenQ, blockQ]
      exact ends_pure rfl (by rw [hx, if_pos (by simp [h2])])
    · have h2' : ¬ x = L[i] := fun e => h2 e.symm
      repeat refine wps_seq ?_
      refine wps_region callOK ?_
      simp [zS, atS h, h2']
      repeat refine wps_seq ?_
      refine wps_cond (t := false) rfl (fun h => by cases h) fun _ => ?_
      repeat refine wps_seq ?_
      refine wps_skip ?_
      simp
      repeat refine wps_seq ?_
      refine wps_region callOK ?_
      simp [zS, add_one (show i ≤ 1000000000 by omega)]
      exact hB _ (i + 1) (by omega) ⟨by omega, by rw [hx, if_neg (by simp [h2'])]⟩ ⟨[], [], ⟨rfl, rfl, rfl, by simp [fitL, fitV, pureV, pureL, aStrs], FitH.nothing⟩⟩
  · simp at h
    repeat refine wps_seq ?_
    refine wps_exit ?_
    simp
    repeat refine wps_seq ?_
    refine wps_region callOK ?_
    simp [zS]
    repeat refine wps_seq ?_
    refine wps_ret ?_
    simp [retVal, Tryz.f62, oneOr, thenQ, blockQ]
    exact ends_pure rfl (by rw [hx, List.drop_eq_nil_of_le h]; rfl)
noncomputable def e62 : Entry Tryz.prog := mkE 62 [[1], []] (fun x : List Str × Str => [aStrs x.1, .str x.2]) (fun x => x.1.length ≤ 1000000) (fun x => .int .i64 (idxFrom (fun y => decide (x.2 = y)) x.1 0)) fun x hx => c62 (T := []) x.1 x.2 hx
theorem injSS (x y : List Str × Str) (h : [aStrs x.1, .str x.2] = [aStrs y.1, .str y.2]) : x = y := by
  simp at h; exact Prod.ext (inj_strs (by simpa [aStrs] using h.1)) h.2
theorem k62 {T : List (Entry Tryz.prog)} (hT : findE 62 T = some e62.g) {L : List Str} (x : Str) (hl : L.length ≤ 1000000) (H : Heap) : callL (ctx T) (.fn 62) [aStrs L, .str x] H = some (.int .i64 (idxFrom (fun y => decide (x = y)) L 0), H) :=
  mkE_scalar hT injSS (L, x) hl rfl (by simp [aStrs])
theorem idx_mem {x : Str} : ∀ (L : List Str) (k : Nat), (0 ≤ idxFrom (fun y => decide (x = y)) L k) ↔ x ∈ L
  | [], k => by simp [idxFrom]
  | y :: r, k => by
    unfold idxFrom
    by_cases h : x = y
    · simp [h]
    · simp only [h, decide_false, Bool.false_eq_true, if_false, List.mem_cons, false_or]
      exact idx_mem r (k + 1)
theorem c37 {T : List (Entry Tryz.prog)} (hI : findE 62 T = some e62.g) (L : List Str) (x : Str) (hl : L.length ≤ 1000000) : CallAt (ctx T) 37 [aStrs L, .str x] ⟨0, []⟩ (.bool (decide (x ∈ L))) ⟨0, []⟩ := by
  have hk := fun H => k62 hI x hl H
  have hm := idx_mem (x := x) L 0
  generalize idxFrom (fun y => decide (x = y)) L 0 = v at *
  simp only [aStrs] at hk
  refine callAt_body (fn := Tryz.f37) (s0 := ⟨[0, 1, 4], [aStrs L, .str x, .undef], [], 9, ⟨0, [[]]⟩⟩) Tryz.func37 rfl rfl rfl ?_
  (repeat (first
    | (refine wps_seq ?_)
    | (refine wps_block ?_)
    | (refine wps_label ?_; simp only [thenQ, blockQ])
    | ((refine wps_region callOK ?_); simp [zS, aStrs, hk])
    | (refine wps_cond (t := true) rfl (fun _ => ?_) (fun h => by cases h))
    | (refine wps_cond (t := false) rfl (fun h => by cases h) (fun _ => ?_))
    | ((refine wps_skip ?_); simp only [thenQ, blockQ])
    | ((refine wps_exit ?_); simp [thenQ, blockQ])))
  repeat refine wps_seq ?_
  refine wps_ret ?_
  simp [retVal, Tryz.f37, oneOr, thenQ, blockQ]
  exact ends_pure rfl (by simp [hm])
theorem wl_void : (wsplit wVoid).length ≤ 1000000 := by decide +kernel
def voidW (space : Int) (name : Str) : Bool := decide (space = 0) && inW wVoid name
theorem c16v {T : List (Entry Tryz.prog)} (x : Str) (hx : x.length ≤ 1000000000) : CallAt (ctx T) 16 [.str wVoid, .str x] ⟨0, []⟩ (.bool (inW wVoid x)) ⟨0, []⟩ :=
  c16 (T := [e35, e36]) rfl rfl wVoid x (by decide) hx (c38v (T := [])) (c37 (T := [e62]) rfl _ x wl_void)
theorem c56 {T : List (Entry Tryz.prog)} (space : Int) (name : Str) (hx : name.length ≤ 1000000000) : CallAt (ctx T) 56 [.int .i64 space, .str name] ⟨0, []⟩ (.bool (voidW space name)) ⟨0, []⟩ := by
  have h := (c16v (T := T) name hx).lift (by simp [pureL, pureV]) ⟨0, [[]]⟩
  refine callAt_body (fn := Tryz.f56) (s0 := ⟨[0, 1, 4], [.int .i64 space, .str name, .undef], [], 11, ⟨0, [[]]⟩⟩) Tryz.func56 rfl rfl rfl ?_
  by_cases hs : space = 0
  · repeat refine wps_seq ?_
    refine wps_region callOK ?_
    simp [zS]
    repeat refine wps_seq ?_
    refine wps_region (callOKF [⟨16, _, _, _, _, h⟩]) ?_
    simp [zS, callF, hs]
    repeat refine wps_seq ?_
    refine wps_ret ?_
    simp [retVal, Tryz.f56, oneOr, thenQ, blockQ]
    exact ends_pure rfl (by simp [voidW, hs])
  · repeat refine wps_seq ?_
    refine wps_region callOK ?_
    simp [zS]
    repeat refine wps_seq ?_
    refine wps_region callOK ?_
    simp [zS, hs]
    repeat refine wps_seq ?_
    refine wps_ret ?_
    simp [retVal, Tryz.f56, oneOr, thenQ, blockQ]
    exact ends_pure rfl (by simp [voidW, hs])
theorem injIS (x y : Int × Str) (h : [AV.int .i64 x.1, AV.str x.2] = [AV.int .i64 y.1, AV.str y.2]) : x = y := by
  simp at h; exact Prod.ext h.1 h.2
noncomputable def e56 : Entry Tryz.prog := mkE 56 [[], []] (fun x : Int × Str => [.int .i64 x.1, .str x.2]) (fun x => x.2.length ≤ 1000000000) (fun x => .bool (voidW x.1 x.2)) fun x hx => c56 (T := []) x.1 x.2 hx
theorem k56 {T : List (Entry Tryz.prog)} (hT : findE 56 T = some e56.g) (space : Int) {name : Str} (hx : name.length ≤ 1000000000) (H : Heap) : callL (ctx T) (.fn 56) [.int .i64 space, .str name] H = some (.bool (voidW space name), H) :=
  mkE_scalar hT injIS (space, name) hx rfl (by simp)
end Go.Proofs.YtlgdgolobnbefaaGreatDoor
namespace Go.Proofs.YtlgdgolobnbefaaGreatDoor
noncomputable section
set_option linter.unusedSimpArgs false
set_option linter.unusedVariables false
open Go Go.RowKit
structure RgE where
  C : Ctx
  call : CallE
  ops : Array Oper
  bef : Array Nat
  base : Nat
def evE (A : RgE) (i : Nat) (l : List Oper) (s : St) (ps : List Pend) (hs : List (Nat × Heap)) (rs : List Rec) : Option DrawSt := evalD A.C A.call A.ops A.bef A.base i l ⟨s, ps, hs, rs⟩
section
variable {A : RgE} {i : Nat} {o : Oper} {r : List Oper} {s s' : St} {ps : List Pend} {hs : List (Nat × Heap)} {rs : List Rec} {v : AV} {H : Heap}
def putE (A : RgE) (i : Nat) (r : List Oper) (ps : List Pend) (hs : List (Nat × Heap)) (rs : List Rec) : Option St → Option DrawSt
  | none => none
  | some s' => evE A (i + 1) r s' ps hs rs
def putX (A : RgE) (i : Nat) (r : List Oper) (ps : List Pend) (hs : List (Nat × Heap)) (rs : List Rec) : Option St → Option DrawSt
  | none => none
  | some s' => evE A (i + 1) r s' ps ((i, s'.H) :: hs) rs
def valE (A : RgE) (i : Nat) (o : Oper) (r : List Oper) (s : St) (ps : List Pend) (hs : List (Nat × Heap)) (rs : List Rec) : Option (AV × Heap) → Option DrawSt
  | none => none
  | some v => putE A i r ps hs rs (s.put o.dst v.1)
def redE (A : RgE) (i : Nat) (o : Oper) (r : List Oper) (s : St) (ps : List Pend) (hs : List (Nat × Heap)) (rs : List Rec) : Option (AV × Heap) → Option DrawSt
  | none => none
  | some v => putE A i r ps hs (⟨i, o, s, v.1⟩ :: rs) (s.put o.dst v.1)
def actE (A : RgE) (i : Nat) (o : Oper) (r : List Oper) (s : St) (ps : List Pend) (hs : List (Nat × Heap)) (rs : List Rec) : Option (AV × Heap) → Option DrawSt
  | none => none
  | some v => putX A i r (unwantedBy A.bef i ps) hs rs (St.put (s.wH v.2) o.dst v.1)
def layE (A : RgE) (i : Nat) (o : Oper) (r : List Oper) (s : St) (ps : List Pend) (hs : List (Nat × Heap)) (rs : List Rec) : Option ((Nat → AV) × Blk) → Option DrawSt
  | none => none
  | some k => putE A i r (⟨i, A.base + i, k.2⟩ :: ps) hs rs (s.put o.dst (k.1 (A.base + i)))
def clsE (A : RgE) (i : Nat) (o : Oper) (r : List Oper) (s : St) (ps : List Pend) (hs : List (Nat × Heap)) (rs : List Rec) : Cls → Option DrawSt
  | .allocs => layE A i o r s ps hs rs (mkBlk A.C o s)
  | .acts => actE A i o r s ps hs rs (evalVal A.C A.call o (s.wH (s.H.lay (wantedBy A.bef i ps))))
  | .reads => redE A i o r s ps hs rs (evalVal A.C A.call o s)
  | .pure => valE A i o r s ps hs rs (evalVal A.C A.call o s)
def gateE (A : RgE) (i : Nat) (o : Oper) (r : List Oper) (s : St) (ps : List Pend) (hs : List (Nat × Heap)) (rs : List Rec) : Option Bool → Option DrawSt
  | none => none
  | some false => (stepD A.C A.call A.ops A.bef A.base i o ⟨s, ps, hs, rs⟩).bind fun d => evalD A.C A.call A.ops A.bef A.base (i + 1) r d
  | some true => clsE A i o r s ps hs rs (clsOf o.op)
theorem evE_n : evE A i [] s ps hs rs = some ⟨s, ps, hs, rs⟩ := rfl
theorem evE_c : evE A i (o :: r) s ps hs rs = gateE A i o r s ps hs rs (guardA A.ops s o) := by
  show (stepD A.C A.call A.ops A.bef A.base i o ⟨s, ps, hs, rs⟩).bind (fun d => evalD A.C A.call A.ops A.bef A.base (Nat.succ i) r d) = _
  cases hg : guardA A.ops s o with
  | none => unfold stepD; simp only [hg, gateE]; rfl
  | some g =>
    cases g with
    | false => rfl
    | true =>
      simp only [gateE]
      unfold stepD
      simp only [hg, Option.bind_some]
      cases hc : clsOf o.op with
      | allocs =>
        simp only [clsE]
        cases mkBlk A.C o s with
        | none => rfl
        | some k =>
          simp only [Option.bind_some, layE]
          cases s.put o.dst (k.1 (A.base + i)) <;> rfl
      | acts =>
        simp only [clsE]
        cases evalVal A.C A.call o (s.wH (s.H.lay (wantedBy A.bef i ps))) with
        | none => rfl
        | some v =>
          simp only [Option.bind_some, actE]
          cases St.put (s.wH v.2) o.dst v.1 <;> rfl
      | reads =>
        simp only [clsE]
        cases evalVal A.C A.call o s with
        | none => rfl
        | some v =>
          simp only [Option.bind_some, redE]
          cases s.put o.dst v.1 <;> rfl
      | pure =>
        simp only [clsE]
        cases evalVal A.C A.call o s with
        | none => rfl
        | some v =>
          simp only [Option.bind_some, valE]
          cases s.put o.dst v.1 <;> rfl
theorem putE_s : putE A i r ps hs rs (some s') = evE A (i + 1) r s' ps hs rs := rfl
theorem putX_s : putX A i r ps hs rs (some s') = evE A (i + 1) r s' ps ((i, s'.H) :: hs) rs := rfl
theorem valE_s : valE A i o r s ps hs rs (some (v, H)) = putE A i r ps hs rs (s.put o.dst v) := rfl
theorem redE_s : redE A i o r s ps hs rs (some (v, H)) = putE A i r ps hs (⟨i, o, s, v⟩ :: rs) (s.put o.dst v) := rfl
theorem actE_s : actE A i o r s ps hs rs (some (v, H)) = putX A i r (unwantedBy A.bef i ps) hs rs (St.put (s.wH H) o.dst v) := rfl
theorem layE_s {k : (Nat → AV) × Blk} : layE A i o r s ps hs rs (some k) = putE A i r (⟨i, A.base + i, k.2⟩ :: ps) hs rs (s.put o.dst (k.1 (A.base + i))) := rfl
theorem gateE_t : gateE A i o r s ps hs rs (some true) = clsE A i o r s ps hs rs (clsOf o.op) := rfl
theorem clsE_l : clsE A i o r s ps hs rs .allocs = layE A i o r s ps hs rs (mkBlk A.C o s) := rfl
theorem clsE_a : clsE A i o r s ps hs rs .acts = actE A i o r s ps hs rs (evalVal A.C A.call o (s.wH (s.H.lay (wantedBy A.bef i ps)))) := rfl
theorem clsE_p : clsE A i o r s ps hs rs .pure = valE A i o r s ps hs rs (evalVal A.C A.call o s) := rfl
theorem clsE_r : clsE A i o r s ps hs rs .reads = redE A i o r s ps hs rs (evalVal A.C A.call o s) := rfl
end
theorem drawE {C : Ctx} {call : CallE} {ops : Array Oper} {s : St} {E : Option DrawSt} {P : DrawSt → Prop} (B : Array Nat)
    (h : evE ⟨C, call, ops, B, s.H.n⟩ 0 ops.toList (reserve (freshenAll ops.toList { s with ts := [] }) ops.size) [] [] [] = E) (k : ∃ d, E = some d ∧ P d) :
    ∃ d, evalD C call ops B s.H.n 0 ops.toList ⟨reserve (freshenAll ops.toList { s with ts := [] }) ops.size, [], [], []⟩ = some d ∧ P d := by
  subst h
  exact k
end
end Go.Proofs.YtlgdgolobnbefaaGreatDoor
namespace Go.Proofs.YtlgdgolobnbefaaGreatDoor
set_option linter.unusedSimpArgs false
set_option linter.unusedVariables false
open Go Go.RowKit
set_option maxRecDepth 100000
section
variable {ρ ρ' : Place} {H H' : Heap} {w w' : World} {b : Nat} {k k' : Blk}
end
theorem fitL_app {σ : List (Nat × Nat)} {Φ : List (Nat × List AV)} : ∀ {a a' b b' : List AV}, fitL σ Φ a a' → fitL σ Φ b b' → fitL σ Φ (a ++ b) (a' ++ b')
  | [], [], _, _, _, h => h
  | x :: a, y :: a', b, b', h, k => by
    simp only [List.cons_append, fitL] at h ⊢
    exact ⟨h.1, fitL_app h.2 k⟩
  | [], _ :: _, _, _, h, _ => by simp [fitL] at h
  | _ :: _, [], _, _, h, _ => by simp [fitL] at h
section
variable {C : Ctx} {f : FuncId} {args : List AV} {v : AV} {H : Heap} {bt nb n n' : Nat} {cap cap' : Cap} {pre post cs cs' : List AV}
end
def isB (t : Tr) (i : Int) : Bool := decide (0 ≤ i) && decide (i < (t.length : Int))
theorem c73 {T : List (Entry Tryz.prog)} (t : Tr) (i : Int) : CallAt (ctx T) 73 [aTree t, .int .i64 i] ⟨0, []⟩ (.bool (isB t i)) ⟨0, []⟩ := by
  refine callAt_body (fn := Tryz.f73) (s0 := ⟨[0, 1, 2, 4], [aTree t, .int .i64 i, .undef, .undef], [], 14, ⟨0, [[]]⟩⟩) Tryz.func73 rfl rfl rfl ?_
  repeat refine wps_seq ?_
  refine wps_region callOK ?_
  simp [zS, aTree]
  by_cases h : 0 ≤ i
  · repeat refine wps_seq ?_
    refine wps_region callOK ?_
    simp [zS, lenN, h]
    repeat refine wps_seq ?_
    refine wps_ret ?_
    simp [retVal, Tryz.f73, oneOr, thenQ, blockQ]
    exact ends_pure rfl (by simp [isB, h])
  · repeat refine wps_seq ?_
    refine wps_region callOK ?_
    simp [zS, lenN, h]
    repeat refine wps_seq ?_
    refine wps_ret ?_
    simp [retVal, Tryz.f73, oneOr, thenQ, blockQ]
    exact ends_pure rfl (by simp [isB, h])
def holdsF (t : Tr) (up : Int) : Nat → Int → Bool
  | 0, _ => false
  | n + 1, kid => if isB t kid = true then (if kid = up then true else holdsF t up n (nodeAt t kid).up) else false
def holdsB (t : Tr) (up kid : Int) : Bool := isB t up && holdsF t up (t.length + 1) kid
theorem th_tree (H : Heap) (t : Tr) : thawA H [7] (aTree t) = some (aTree t) := thawA_ok (by simp)
noncomputable def e73 : Entry Tryz.prog := mkE 73 [[7], []] (fun x : Tr × Int => [aTree x.1, .int .i64 x.2]) (fun _ => True) (fun x => .bool (isB x.1 x.2)) fun x _ => c73 (T := []) x.1 x.2
theorem k73 {T : List (Entry Tryz.prog)} (hT : findE 73 T = some e73.g) (t : Tr) (i : Int) (H : Heap) : callL (ctx T) (.fn 73) [aTree t, .int .i64 i] H = some (.bool (isB t i), H) :=
  mkE_scalar hT injTI (t, i) trivial rfl (by simp [th_tree])
theorem c74 {T : List (Entry Tryz.prog)} (hS : findE 73 T = some e73.g) (t : Tr) (ht : t.length ≤ 1000000) (up kid : Int) : CallAt (ctx T) 74 [aTree t, .int .i64 up, .int .i64 kid] ⟨0, []⟩ (.bool (holdsB t up kid)) ⟨0, []⟩ := by
  have ks := fun i H => k73 hS t i H
  simp only [aTree] at ks
  refine callAt_body (fn := Tryz.f74) (s0 := ⟨[0, 1, 2, 3, 6, 14, 15], [aTree t, .int .i64 up, .int .i64 kid, .undef, .undef, .undef, .undef], [], 31, ⟨0, [[]]⟩⟩) Tryz.func74 rfl rfl rfl ?_
  repeat refine wps_seq ?_
  refine wps_region callOK ?_
  simp [zS, aTree]
  repeat refine wps_seq ?_
  refine wps_region callOK ?_
  simp [zS, aTree, ks]
  cases h0 : isB t up with
  | false =>
    repeat refine wps_seq ?_
    refine wps_cond (t := true) rfl (fun _ => ?_) fun h => by cases h
    repeat refine wps_seq ?_
    refine wps_region callOK ?_
    simp [zS]
    repeat refine wps_seq ?_
    refine wps_ret ?_
    simp [retVal, Tryz.f74, oneOr, thenQ, blockQ]
    exact ends_pure rfl (by simp [holdsB, h0])
  | true =>
    repeat refine wps_seq ?_
    refine wps_cond (t := false) rfl (fun h => by cases h) fun _ => ?_
    repeat refine wps_seq ?_
    refine wps_skip ?_
    simp
    repeat refine wps_seq ?_
    refine wps_region callOK ?_
    simp [zS, lenN, aTree, add_one (show t.length ≤ 1000000000 by omega)]
    repeat refine wps_seq ?_
    refine wps_block (wps_loop' (fun x : Nat × Int => (⟨[0, 1, 2, 3, 6, 14, 15], [.undef, .int .i64 up, .int .i64 x.2, .ptr 0 0, .undef, .int .i64 ((t.length : Int) + 1), .int .i64 (x.1 : Int)], [], 31, ⟨1, [[(0, .cells [aNodes t])]]⟩⟩ : St))
      (fun x => x.1 ≤ t.length + 1 ∧ holdsF t up (t.length + 1) kid = holdsF t up (t.length + 1 - x.1) x.2) (fun x => t.length + 1 - x.1) [(0, 0)] [] (0, kid) ⟨by omega, rfl⟩ ⟨rfl, rfl, rfl, by simp [fitL, fitV, lookN, pureV], .id1 (g := [(0, .cells [aNodes t])]) (by simp) (by simp) (by simp [Heap.get, getFs, getF, pureL])⟩ ?_)
    rintro ⟨i, k⟩ ⟨hi, hx⟩ B hB
    simp only at hi hx
    by_cases h : i < t.length + 1
    · have hc : (i : Int) < (t.length : Int) + 1 := by omega
      have hs : t.length + 1 - i = (t.length - i) + 1 := by omega
      rw [hs] at hx
      repeat refine wps_seq ?_
      refine wps_region callOK ?_
      simp [zS, hc]
      repeat refine wps_seq ?_
      refine wps_cond (t := true) rfl (fun _ => ?_) fun h => by cases h
      repeat refine wps_seq ?_
      refine wps_skip ?_
      simp
      repeat refine wps_seq ?_
      refine wps_block ?_
      repeat refine wps_seq ?_
      refine wps_region callOK ?_
      simp [zS, ks]
      cases h1 : isB t k with
      | false =>
        repeat refine wps_seq ?_
        refine wps_cond (t := true) rfl (fun _ => ?_) fun h => by cases h
        repeat refine wps_seq ?_
        refine wps_region callOK ?_
        simp [zS]
        repeat refine wps_seq ?_
        refine wps_ret ?_
        simp [retVal, Tryz.f74, oneOr, thenQ, blockQ]
        exact ends_pure rfl (by unfold holdsB; rw [h0, hx]; simp [h0, holdsF, h1])
      | true =>
        repeat refine wps_seq ?_
        refine wps_cond (t := false) rfl (fun h => by cases h) fun _ => ?_
        repeat refine wps_seq ?_
        refine wps_skip ?_
        simp
        by_cases h2 : k = up
        · repeat refine wps_seq ?_
          refine wps_region callOK ?_
          simp [zS, h2]
          repeat refine wps_seq ?_
          refine wps_cond (t := true) rfl (fun _ => ?_) fun h => by cases h
          repeat refine wps_seq ?_
          refine wps_region callOK ?_
          simp [zS]
          repeat refine wps_seq ?_
          refine wps_ret ?_
          simp [retVal, Tryz.f74, oneOr, thenQ, blockQ]
          exact ends_pure rfl (by unfold holdsB; rw [h0, hx]; simp [h0, holdsF, h1, h2])
        · have hk : 0 ≤ k ∧ k < (t.length : Int) := by simpa [isB] using h1
          repeat refine wps_seq ?_
          refine wps_region callOK ?_
          simp [zS, h2]
          repeat refine wps_seq ?_
          refine wps_cond (t := false) rfl (fun h => by cases h) fun _ => ?_
          repeat refine wps_seq ?_
          refine wps_skip ?_
          simp
          repeat refine wps_seq ?_
          refine wps_region callOK ?_
          simp [zS, atX hk.1 hk.2, Nd.cs, aInt]
          repeat refine wps_seq ?_
          refine wps_region callOK ?_
          simp [zS, add_one (show i ≤ 1000000000 by omega)]
          refine hB _ (i + 1, (nodeAt t k).up) (by simp only; omega) ⟨by simp only; omega, ?_⟩ ⟨[(0, 0)], [], rfl, rfl, rfl, by simp [fitL, fitV, lookN, pureV], .id1 (g := [(0, .cells [aNodes t])]) (by simp) (by simp) (by simp [Heap.get, getFs, getF, pureL])⟩
          simp only
          rw [show t.length + 1 - (i + 1) = t.length - i by omega, hx]
          simp [h0, holdsF, h1, h2]
    · have hc : ¬ (i : Int) < (t.length : Int) + 1 := by omega
      rw [show t.length + 1 - i = 0 by omega] at hx
      repeat refine wps_seq ?_
      refine wps_region callOK ?_
      simp [zS, hc]
      repeat refine wps_seq ?_
      refine wps_cond (t := false) rfl (fun h => by cases h) fun _ => ?_
      repeat refine wps_seq ?_
      refine wps_exit ?_
      simp
      repeat refine wps_seq ?_
      refine wps_region callOK ?_
      simp [zS]
      repeat refine wps_seq ?_
      refine wps_ret ?_
      simp [retVal, Tryz.f74, oneOr, thenQ, blockQ]
      exact ends_pure rfl (by unfold holdsB; rw [h0, hx]; simp [h0, holdsF])
theorem injTII (x y : Tr × Int × Int) (h : [aTree x.1, .int .i64 x.2.1, .int .i64 x.2.2] = [aTree y.1, .int .i64 y.2.1, .int .i64 y.2.2]) : x = y := by
  simp at h; exact Prod.ext (inj_aTree h.1) (Prod.ext h.2.1 h.2.2)
theorem q73 {T : List (Entry Tryz.prog)} (hT : findE 73 T = some e73.g) {a : AV} {H : Heap} {t : Tr} (ha : thawA H [7] a = some (aTree t)) (i : Int) : callL (ctx T) (.fn 73) [a, .int .i64 i] H = some (.bool (isB t i), H) :=
  mkE_scalar hT injTI (t, i) trivial rfl (by simp [ha])
@[simp] theorem szT74 : sizeT Tryz.prog 74 = some 1 := rfl
@[simp] theorem agT74 : aggT Tryz.prog 74 = some false := rfl
@[simp] theorem byT74 : bytesT Tryz.prog 74 = some 8 := rfl
@[simp] theorem alT74 (H : Heap) : alV Tryz.prog H 74 = some (.ptr H.n 0, H.new (.cells [.nilP])) := rfl
@[simp] theorem zeT74 : zeroOf Tryz.prog 74 = some (.nilP) := rfl
attribute [simp] Tryz.underlying74
@[simp 500] theorem rvF74 (H : Heap) (cs : List AV) (o : Nat) : readVar Tryz.prog H 74 (.fptr cs o) = getL cs o := rfl
@[simp 500] theorem rvP74 (H : Heap) (b o : Nat) : readVar Tryz.prog H 74 (.ptr b o) = (H.get b).bind fun k => k.rd.bind fun cs => getL cs o := rfl
@[simp] theorem szT77 : sizeT Tryz.prog 77 = some 2 := rfl
@[simp] theorem agT77 : aggT Tryz.prog 77 = some true := rfl
@[simp] theorem byT77 : bytesT Tryz.prog 77 = some 32 := rfl
@[simp] theorem alT77 (H : Heap) : alV Tryz.prog H 77 = some (.ptr H.n 0, H.new (.obj 77 [.nilP, .nilS])) := rfl
@[simp] theorem zeT77 : zeroOf Tryz.prog 77 = some (.agg [.nilP, .nilS]) := rfl
attribute [simp] Tryz.underlying77
@[simp 500] theorem rvF77 (H : Heap) (cs : List AV) (o : Nat) : readVar Tryz.prog H 77 (.fptr cs o) = (subL o 2 cs).bind fun cs => some (.agg cs) := rfl
@[simp 500] theorem rvP77 (H : Heap) (b o : Nat) : readVar Tryz.prog H 77 (.ptr b o) = (readCells H b o 2).bind fun cs => some (.agg cs) := rfl
@[simp] theorem fa77_0 (x : AV) : fieldAddrA Tryz.prog 77 x 0 = (match x with | .ptr b o => some (.ptr b (o + 0)) | .fptr cs o => some (.fptr cs (o + 0)) | _ => none) := rfl
@[simp] theorem fd77_0 (cs : List AV) : fieldA Tryz.prog 77 (.agg cs) 0 = getL cs 0 := rfl
@[simp] theorem fa77_1 (x : AV) : fieldAddrA Tryz.prog 77 x 1 = (match x with | .ptr b o => some (.ptr b (o + 1)) | .fptr cs o => some (.fptr cs (o + 1)) | _ => none) := rfl
@[simp] theorem fd77_1 (cs : List AV) : fieldA Tryz.prog 77 (.agg cs) 1 = getL cs 1 := rfl
@[simp] theorem szT101 : sizeT Tryz.prog 101 = some 1 := rfl
@[simp] theorem agT101 : aggT Tryz.prog 101 = some false := rfl
@[simp] theorem byT101 : bytesT Tryz.prog 101 = some 8 := rfl
@[simp] theorem alT101 (H : Heap) : alV Tryz.prog H 101 = some (.ptr H.n 0, H.new (.cells [.nilM])) := rfl
@[simp] theorem zeT101 : zeroOf Tryz.prog 101 = some (.nilM) := rfl
attribute [simp] Tryz.underlying101
@[simp 500] theorem rvF101 (H : Heap) (cs : List AV) (o : Nat) : readVar Tryz.prog H 101 (.fptr cs o) = getL cs o := rfl
@[simp 500] theorem rvP101 (H : Heap) (b o : Nat) : readVar Tryz.prog H 101 (.ptr b o) = (H.get b).bind fun k => k.rd.bind fun cs => getL cs o := rfl
@[simp] theorem szT143 : sizeT Tryz.prog 143 = some 3 := rfl
@[simp] theorem agT143 : aggT Tryz.prog 143 = some true := rfl
@[simp] theorem byT143 : bytesT Tryz.prog 143 = some 40 := rfl
@[simp] theorem alT143 (H : Heap) : alV Tryz.prog H 143 = some (.ptr H.n 0, H.new (.obj 143 [.nilP, .nilS, .bool false])) := rfl
@[simp] theorem zeT143 : zeroOf Tryz.prog 143 = some (.agg [.nilP, .nilS, .bool false]) := rfl
attribute [simp] Tryz.underlying143
@[simp 500] theorem rvF143 (H : Heap) (cs : List AV) (o : Nat) : readVar Tryz.prog H 143 (.fptr cs o) = (subL o 3 cs).bind fun cs => some (.agg cs) := rfl
@[simp 500] theorem rvP143 (H : Heap) (b o : Nat) : readVar Tryz.prog H 143 (.ptr b o) = (readCells H b o 3).bind fun cs => some (.agg cs) := rfl
@[simp] theorem fa143_0 (x : AV) : fieldAddrA Tryz.prog 143 x 0 = (match x with | .ptr b o => some (.ptr b (o + 0)) | .fptr cs o => some (.fptr cs (o + 0)) | _ => none) := rfl
@[simp] theorem fd143_0 (cs : List AV) : fieldA Tryz.prog 143 (.agg cs) 0 = (subL 0 2 cs).bind fun r => some (.agg r) := rfl
@[simp] theorem fa143_1 (x : AV) : fieldAddrA Tryz.prog 143 x 1 = (match x with | .ptr b o => some (.ptr b (o + 2)) | .fptr cs o => some (.fptr cs (o + 2)) | _ => none) := rfl
@[simp] theorem fd143_1 (cs : List AV) : fieldA Tryz.prog 143 (.agg cs) 1 = getL cs 2 := rfl
@[simp] theorem szT166 : sizeT Tryz.prog 166 = some 1 := rfl
@[simp] theorem agT166 : aggT Tryz.prog 166 = some false := rfl
@[simp] theorem byT166 : bytesT Tryz.prog 166 = some 8 := rfl
@[simp] theorem alT166 (H : Heap) : alV Tryz.prog H 166 = some (.ptr H.n 0, H.new (.cells [.nilP])) := rfl
@[simp] theorem zeT166 : zeroOf Tryz.prog 166 = some (.nilP) := rfl
attribute [simp] Tryz.underlying166
@[simp 500] theorem rvF166 (H : Heap) (cs : List AV) (o : Nat) : readVar Tryz.prog H 166 (.fptr cs o) = getL cs o := rfl
@[simp 500] theorem rvP166 (H : Heap) (b o : Nat) : readVar Tryz.prog H 166 (.ptr b o) = (H.get b).bind fun k => k.rd.bind fun cs => getL cs o := rfl
@[simp] theorem szT168 : sizeT Tryz.prog 168 = some 4 := rfl
@[simp] theorem agT168 : aggT Tryz.prog 168 = some true := rfl
@[simp] theorem byT168 : bytesT Tryz.prog 168 = some 64 := rfl
@[simp] theorem alT168 (H : Heap) : alV Tryz.prog H 168 = some (.ptr H.n 0, H.new (.obj 168 [.nilP, .nilS, .nilS, .nilM])) := rfl
@[simp] theorem zeT168 : zeroOf Tryz.prog 168 = some (.agg [.nilP, .nilS, .nilS, .nilM]) := rfl
attribute [simp] Tryz.underlying168
@[simp 500] theorem rvF168 (H : Heap) (cs : List AV) (o : Nat) : readVar Tryz.prog H 168 (.fptr cs o) = (subL o 4 cs).bind fun cs => some (.agg cs) := rfl
@[simp 500] theorem rvP168 (H : Heap) (b o : Nat) : readVar Tryz.prog H 168 (.ptr b o) = (readCells H b o 4).bind fun cs => some (.agg cs) := rfl
@[simp] theorem fa168_0 (x : AV) : fieldAddrA Tryz.prog 168 x 0 = (match x with | .ptr b o => some (.ptr b (o + 0)) | .fptr cs o => some (.fptr cs (o + 0)) | _ => none) := rfl
@[simp] theorem fd168_0 (cs : List AV) : fieldA Tryz.prog 168 (.agg cs) 0 = (subL 0 2 cs).bind fun r => some (.agg r) := rfl
@[simp] theorem fa168_1 (x : AV) : fieldAddrA Tryz.prog 168 x 1 = (match x with | .ptr b o => some (.ptr b (o + 2)) | .fptr cs o => some (.fptr cs (o + 2)) | _ => none) := rfl
@[simp] theorem fd168_1 (cs : List AV) : fieldA Tryz.prog 168 (.agg cs) 1 = (subL 2 1 cs).bind fun r => some (.agg r) := rfl
@[simp] theorem fa168_2 (x : AV) : fieldAddrA Tryz.prog 168 x 2 = (match x with | .ptr b o => some (.ptr b (o + 3)) | .fptr cs o => some (.fptr cs (o + 3)) | _ => none) := rfl
@[simp] theorem fd168_2 (cs : List AV) : fieldA Tryz.prog 168 (.agg cs) 2 = getL cs 3 := rfl
@[simp] theorem szT172 : sizeT Tryz.prog 172 = some 1 := rfl
@[simp] theorem agT172 : aggT Tryz.prog 172 = some false := rfl
@[simp] theorem byT172 : bytesT Tryz.prog 172 = some 8 := rfl
@[simp] theorem alT172 (H : Heap) : alV Tryz.prog H 172 = some (.ptr H.n 0, H.new (.cells [.nilP])) := rfl
@[simp] theorem zeT172 : zeroOf Tryz.prog 172 = some (.nilP) := rfl
attribute [simp] Tryz.underlying172
@[simp 500] theorem rvF172 (H : Heap) (cs : List AV) (o : Nat) : readVar Tryz.prog H 172 (.fptr cs o) = getL cs o := rfl
@[simp 500] theorem rvP172 (H : Heap) (b o : Nat) : readVar Tryz.prog H 172 (.ptr b o) = (H.get b).bind fun k => k.rd.bind fun cs => getL cs o := rfl
theorem Sim.perm {ρ : Place} {H H2 : Heap} {w : World} (h : Sim ρ H w) (n : H2.n = H.n) (p : H2.ents.Perm H.ents) : Sim ρ H2 w where
  base := h.base
  below := h.below
  os := h.os
  tape := h.tape
  output := h.output
  dom := fun b hb => h.dom b (n ▸ hb)
  nodup := (p.map _).nodup_iff.2 h.nodup
  live := fun e he => h.live e (p.mem_iff.1 he)
  inj := fun e e' he he' => h.inj e e' (p.mem_iff.1 he) (p.mem_iff.1 he')
theorem Step.perm {ρ ρ' : Place} {H H2 H' H2' : Heap} {w w' : World} (h : Step ρ H w ρ' H' w') (n : H2.n = H.n) (n' : H2'.n = H'.n) (p : H2.ents.Perm H.ents) (p' : H2'.ents.Perm H'.ents) : Step ρ H2 w ρ' H2' w' where
  le := h.le
  size := h.size
  keeps := fun k hk hn => h.keeps k hk fun e he => hn e (p.mem_iff.2 he)
  rows := fun e' he' l' hl' => by
    rcases h.rows e' (p'.mem_iff.1 he') l' hl' with ⟨e, he, x⟩ | x
    · exact .inl ⟨e, p.mem_iff.2 he, x⟩
    · exact .inr x
  num := by rw [n, n']; exact h.num
  low := fun b hb => h.low b (n ▸ hb)
  cold := fun k hk => by
    rcases h.cold k hk with x | ⟨e, he, x⟩ | x
    · exact .inl x
    · exact .inr (.inl ⟨e, p.mem_iff.2 he, x⟩)
    · exact .inr (.inr x)
theorem CallAt.perm {C : Ctx} {f : FuncId} {args : List AV} {H H2 H' H2' : Heap} {v : AV} (h : CallAt C f args H v H') (n : H2.n = H.n) (n' : H2'.n = H'.n) (p : H2.ents.Perm H.ents) (p' : H2'.ents.Perm H'.ents) : CallAt C f args H2 v H2' := by
  intro ρ w xs sm hx
  have sm' := sm.perm n.symm p.symm
  rcases h ρ w xs sm' hx with ⟨x, ρ', w', h0, h1, h2, h3⟩ | ⟨g, ys, h0, h1⟩
  · exact .inl ⟨x, ρ', w', h0, h1, h2.perm n' p', h3.perm n n' p p'⟩
  · refine .inr ⟨g, ys, h0, h1.mono ?_⟩
    rintro e w' ⟨x, ρ', rfl, m1, m2, m3⟩
    exact ⟨x, ρ', rfl, m1, m2.perm n' p', m3.perm n n' p p'⟩
theorem perm_top {x : Nat × Blk} {f B g : List (Nat × Blk)} : (f ++ (x :: (B ++ g))).Perm (x :: (B ++ (f ++ g))) := by
  refine (List.perm_append_comm (l₁ := f) (l₂ := x :: (B ++ g))).trans ?_
  show (x :: ((B ++ g) ++ f)).Perm _
  refine List.Perm.cons _ ?_
  rw [List.append_assoc]
  exact List.Perm.append_left _ List.perm_append_comm
theorem CallAt.top {C : Ctx} {f : FuncId} {args : List AV} {v : AV} {m m' : Nat} {x x' : Nat × Blk} {fr B B' g g' : List (Nat × Blk)} (h : CallAt C f args ⟨m, [x :: (B ++ (fr ++ g))]⟩ v ⟨m', [x' :: (B' ++ (fr ++ g'))]⟩) : CallAt C f args ⟨m, [fr, x :: (B ++ g)]⟩ v ⟨m', [fr, x' :: (B' ++ g')]⟩ :=
  h.perm rfl rfl (by simpa [Heap.ents] using perm_top) (by simpa [Heap.ents] using perm_top)
def idn (m : Nat) : List (Nat × Nat) := (List.range m).map fun i => (i, i)
theorem idn_mem {m i : Nat} (h : i < m) : (i, i) ∈ idn m := List.mem_map.2 ⟨i, by simpa using h, rfl⟩
theorem lookN_of : ∀ {σ : List (Nat × Nat)} {i j : Nat}, (σ.map (·.1)).Nodup → (i, j) ∈ σ → lookN i σ = some j
  | [], _, _, _, h => by cases h
  | x :: r, i, j, nd, h => by
    rw [List.map_cons, List.nodup_cons] at nd
    unfold lookN
    rcases List.mem_cons.1 h with rfl | h
    · simp
    · have hne : ¬ x.1 = i := fun e => nd.1 (List.mem_map.2 ⟨_, h, e.symm⟩)
      rw [if_neg hne]
      exact lookN_of nd.2 h
theorem idn_nd (m : Nat) : ((idn m).map (·.1)).Nodup := by
  have : (idn m).map (·.1) = List.range m := by simp [idn, Function.comp_def]
  rw [this]; exact List.nodup_range
theorem idn_nd2 (m : Nat) : ((idn m).map (·.2)).Nodup := by
  have : (idn m).map (·.2) = List.range m := by simp [idn, Function.comp_def]
  rw [this]; exact List.nodup_range
theorem lookN_idn {m i : Nat} (h : i < m) : lookN i (idn m) = some i := lookN_of (idn_nd m) (idn_mem h)
def Idl (m : Nat) (σ : List (Nat × Nat)) : Prop := ∀ i, i < m → lookN i σ = some i
theorem idl_idn (m : Nat) : Idl m (idn m) := fun i h => lookN_idn h
theorem idl_cons {m k k' : Nat} (h : m ≤ k) : Idl m ((k, k') :: idn m) := fun i hi => by
  have : ¬ k = i := by omega
  simp [lookN, this, lookN_idn hi]
def SelfB (m : Nat) (k : Blk) : Prop := ∀ σ, Idl m σ → fitB σ [] k k
theorem SelfB.mono {m m' : Nat} {k : Blk} (h : SelfB m k) (hm : m ≤ m') : SelfB m' k := fun σ hσ => h σ fun i hi => hσ i (by omega)
theorem self_pure {m : Nat} {cs : List AV} (h : pureL cs = true) : SelfB m (.cells cs) := fun σ _ => fitL_pure h
structure Bs where
  k : Nat
  out : Str
def upd (m : Nat) (b : Bs) (s : Str) : Bs := match s with
  | [] => b
  | _ :: _ => ⟨m, b.out ++ s⟩
end Go.Proofs.YtlgdgolobnbefaaGreatDoor
