/- ChainNothing's walk. No condition. -/
import Derived.Test.YthclkpplpdnffaaGreatDoorRR
import Derived.Test.YthclkpplpdnffaaGreatDoorRU
namespace Go.Proofs.YthclkpplpdnffaaGreatDoor
noncomputable section
set_option linter.unusedSimpArgs false
set_option linter.unusedVariables false
open Go Go.RowKit
structure RgA where
  C : Ctx
  call : CallE
  ops : Array Oper
  bef : Array Nat
  base : Nat
  H0 : Heap
open Classical in
def evalA (A : RgA) : Nat → List Oper → St → List Pend → Option (St × List Pend)
  | _, [], s, ps => some (s, ps)
  | i, o :: r, s, ps => match guardA A.ops s o with
    | none => none
    | some false => (match clsOf o.op, wantedBy A.bef i ps with
        | .acts, _ :: _ => none
        | _, _ => match s.put o.dst (.tup []) with
          | none => none
          | some s' => evalA A (i + 1) r s' ps)
    | some true => match clsOf o.op with
      | .allocs => (match mkBlk A.C o s with
        | none => none
        | some k => match s.put o.dst (k.1 (A.base + i)) with
          | none => none
          | some s' => evalA A (i + 1) r s' (⟨i, A.base + i, k.2⟩ :: ps))
      | .acts => (match evalVal A.C A.call o (s.wH (s.H.lay (wantedBy A.bef i ps))) with
        | none => none
        | some v => if v.2 = A.H0 then (match s.put o.dst v.1 with
          | none => none
          | some s' => evalA A (i + 1) r s' (unwantedBy A.bef i ps)) else none)
      | _ => (match evalVal A.C A.call o s with
        | none => none
        | some v => match s.put o.dst v.1 with
          | none => none
          | some s' => evalA A (i + 1) r s' ps)
section
variable {A : RgA} {i : Nat} {o : Oper} {r : List Oper} {s s' : St} {ps : List Pend} {v : AV} {H : Heap}
def putA (A : RgA) (i : Nat) (r : List Oper) (ps : List Pend) : Option St → Option (St × List Pend)
  | none => none
  | some s' => evalA A (i + 1) r s' ps
def valA (A : RgA) (i : Nat) (o : Oper) (r : List Oper) (s : St) (ps : List Pend) : Option (AV × Heap) → Option (St × List Pend)
  | none => none
  | some v => putA A i r ps (s.put o.dst v.1)
open Classical in
def actA (A : RgA) (i : Nat) (o : Oper) (r : List Oper) (s : St) (ps : List Pend) : Option (AV × Heap) → Option (St × List Pend)
  | none => none
  | some v => if v.2 = A.H0 then putA A i r (unwantedBy A.bef i ps) (s.put o.dst v.1) else none
def layA (A : RgA) (i : Nat) (o : Oper) (r : List Oper) (s : St) (ps : List Pend) : Option ((Nat → AV) × Blk) → Option (St × List Pend)
  | none => none
  | some k => putA A i r (⟨i, A.base + i, k.2⟩ :: ps) (s.put o.dst (k.1 (A.base + i)))
def clsA (A : RgA) (i : Nat) (o : Oper) (r : List Oper) (s : St) (ps : List Pend) : Cls → Option (St × List Pend)
  | .allocs => layA A i o r s ps (mkBlk A.C o s)
  | .acts => actA A i o r s ps (evalVal A.C A.call o (s.wH (s.H.lay (wantedBy A.bef i ps))))
  | _ => valA A i o r s ps (evalVal A.C A.call o s)
def offA (A : RgA) (i : Nat) (o : Oper) (r : List Oper) (s : St) (ps : List Pend) : Cls → List (Nat × Blk) → Option (St × List Pend)
  | .acts, _ :: _ => none
  | _, _ => putA A i r ps (s.put o.dst (.tup []))
def gateA (A : RgA) (i : Nat) (o : Oper) (r : List Oper) (s : St) (ps : List Pend) : Option Bool → Option (St × List Pend)
  | none => none
  | some false => offA A i o r s ps (clsOf o.op) (wantedBy A.bef i ps)
  | some true => clsA A i o r s ps (clsOf o.op)
theorem evalA_n : evalA A i [] s ps = some (s, ps) := rfl
theorem evalA_c : evalA A i (o :: r) s ps = gateA A i o r s ps (guardA A.ops s o) := by
  rw [evalA.eq_def]
  simp only
  cases guardA A.ops s o with
  | none => rfl
  | some g =>
    cases g with
    | false =>
      simp only [gateA, offA]
      cases clsOf o.op <;> cases wantedBy A.bef i ps <;> rfl
    | true =>
      simp only [gateA, clsA]
      cases clsOf o.op with
      | allocs => simp only [layA]; cases mkBlk A.C o s <;> rfl
      | acts => simp only [actA]; cases evalVal A.C A.call o (s.wH (s.H.lay (wantedBy A.bef i ps))) <;> rfl
      | pure => simp only [valA]; cases evalVal A.C A.call o s <;> rfl
      | reads => simp only [valA]; cases evalVal A.C A.call o s <;> rfl
theorem putA_s : putA A i r ps (some s') = evalA A (i + 1) r s' ps := rfl
theorem valA_s : valA A i o r s ps (some (v, H)) = putA A i r ps (s.put o.dst v) := rfl
theorem actA_s (h : H = A.H0) : actA A i o r s ps (some (v, H)) = putA A i r (unwantedBy A.bef i ps) (s.put o.dst v) := by
  simp only [actA, h, if_true]
theorem layA_s {k : (Nat → AV) × Blk} : layA A i o r s ps (some k) = putA A i r (⟨i, A.base + i, k.2⟩ :: ps) (s.put o.dst (k.1 (A.base + i))) := rfl
theorem gateA_t : gateA A i o r s ps (some true) = clsA A i o r s ps (clsOf o.op) := rfl
theorem gateA_f : gateA A i o r s ps (some false) = offA A i o r s ps (clsOf o.op) (wantedBy A.bef i ps) := rfl
theorem clsA_l : clsA A i o r s ps .allocs = layA A i o r s ps (mkBlk A.C o s) := rfl
theorem clsA_a : clsA A i o r s ps .acts = actA A i o r s ps (evalVal A.C A.call o (s.wH (s.H.lay (wantedBy A.bef i ps)))) := rfl
theorem clsA_p : clsA A i o r s ps .pure = valA A i o r s ps (evalVal A.C A.call o s) := rfl
theorem clsA_r : clsA A i o r s ps .reads = valA A i o r s ps (evalVal A.C A.call o s) := rfl
theorem offA_a : offA A i o r s ps .acts [] = putA A i r ps (s.put o.dst (.tup [])) := rfl
theorem offA_l {w : List (Nat × Blk)} : offA A i o r s ps .allocs w = putA A i r ps (s.put o.dst (.tup [])) := rfl
theorem offA_p {w : List (Nat × Blk)} : offA A i o r s ps .pure w = putA A i r ps (s.put o.dst (.tup [])) := rfl
theorem offA_r {w : List (Nat × Blk)} : offA A i o r s ps .reads w = putA A i r ps (s.put o.dst (.tup [])) := rfl
end
structure InvA (A : RgA) (d : DrawSt) (s : St) (ps : List Pend) : Prop where
  s_ : d.s = s
  H_ : s.H = A.H0
  ps : d.ps = ps
  hs : ∀ h, h ∈ d.hs → h.2 = A.H0
  rs : ∀ x, x ∈ d.rs → ∃ y, evalVal A.C A.call x.o { x.s with H := A.H0 } = some y ∧ y.1 = x.v
theorem unwanted_nil {bef : Array Nat} {i : Nat} : ∀ {ps : List Pend}, wantedBy bef i ps = [] → unwantedBy bef i ps = ps
  | [], _ => rfl
  | p :: r, h => by
    unfold wantedBy at h
    unfold unwantedBy
    cases ha : ahead bef p.i i with
    | true => rw [ha] at h; cases h
    | false => rw [ha] at h; simp only at h ⊢; rw [unwanted_nil h]
theorem evalA_D {A : RgA} : ∀ {l : List Oper} {i : Nat} {s s' : St} {ps ps' : List Pend} {d : DrawSt}, evalA A i l s ps = some (s', ps') → InvA A d s ps → ∃ d', evalD A.C A.call A.ops A.bef A.base i l d = some d' ∧ InvA A d' s' ps'
  | [], i, s, s', ps, ps', d, h, k => by
    rw [evalA_n, Option.some.injEq, Prod.mk.injEq] at h
    obtain ⟨rfl, rfl⟩ := h
    exact ⟨d, rfl, k⟩
  | o :: r, i, s, s', ps, ps', d, h, k => by
    have next : ∀ {s1 : St} {ps1 : List Pend} {d1 : DrawSt}, stepD A.C A.call A.ops A.bef A.base i o d = some d1 → InvA A d1 s1 ps1 → evalA A (i + 1) r s1 ps1 = some (s', ps') → ∃ d', evalD A.C A.call A.ops A.bef A.base i (o :: r) d = some d' ∧ InvA A d' s' ps' := fun h1 h2 h3 => by
      obtain ⟨d2, r1, r2⟩ := evalA_D h3 h2
      exact ⟨d2, by simp only [evalD, h1, Option.bind_some]; exact r1, r2⟩
    obtain ⟨ds, dps, hs, rs⟩ := d
    obtain ⟨rfl, k2, rfl, k4, k5⟩ := k
    simp only at k2 k4 k5 next
    rw [evalA_c] at h
    have putH : ∀ {dst : Option Tmp} {v : AV} {s1 : St}, ds.put dst v = some s1 → s1.H = A.H0 := fun {dst v s1} hp => by rw [← k2]; exact St.put_heap hp
    cases hg : guardA A.ops ds o with
    | none => rw [hg] at h; cases h
    | some g =>
    rw [hg] at h
    cases g with
    | false =>
      rw [gateA_f] at h
      cases hc : clsOf o.op with
      | acts =>
        rw [hc] at h
        cases hw : wantedBy A.bef i dps with
        | cons a b => rw [hw] at h; cases h
        | nil =>
          rw [hw, offA_a] at h
          cases hp : ds.put o.dst (.tup []) with
          | none => rw [hp] at h; cases h
          | some s1 =>
            rw [hp, putA_s] at h
            refine next (s1 := s1) (ps1 := dps) (d1 := ⟨s1.wH s1.H, dps, (i, s1.H) :: hs, rs⟩) ?_ ⟨rfl, putH hp, rfl, fun x hx => ?_, k5⟩ h
            · unfold stepD
              simp only [hg, Option.bind_some, hp, hc, hw, unwanted_nil hw, Heap.lay]
            · rcases List.mem_cons.1 hx with rfl | hx
              · exact putH hp
              · exact k4 x hx
      | allocs =>
        rw [hc, offA_l] at h
        cases hp : ds.put o.dst (.tup []) with
        | none => rw [hp] at h; cases h
        | some s1 =>
          rw [hp, putA_s] at h
          refine next (s1 := s1) (ps1 := dps) (d1 := ⟨s1, dps, hs, rs⟩) ?_ ⟨rfl, putH hp, rfl, k4, k5⟩ h
          unfold stepD
          simp only [hg, Option.bind_some, hp, hc]
      | pure =>
        rw [hc, offA_p] at h
        cases hp : ds.put o.dst (.tup []) with
        | none => rw [hp] at h; cases h
        | some s1 =>
          rw [hp, putA_s] at h
          refine next (s1 := s1) (ps1 := dps) (d1 := ⟨s1, dps, hs, rs⟩) ?_ ⟨rfl, putH hp, rfl, k4, k5⟩ h
          unfold stepD
          simp only [hg, Option.bind_some, hp, hc]
      | reads =>
        rw [hc, offA_r] at h
        cases hp : ds.put o.dst (.tup []) with
        | none => rw [hp] at h; cases h
        | some s1 =>
          rw [hp, putA_s] at h
          refine next (s1 := s1) (ps1 := dps) (d1 := ⟨s1, dps, hs, rs⟩) ?_ ⟨rfl, putH hp, rfl, k4, k5⟩ h
          unfold stepD
          simp only [hg, Option.bind_some, hp, hc]
    | true =>
      rw [gateA_t] at h
      cases hc : clsOf o.op with
      | acts =>
        rw [hc, clsA_a] at h
        cases hv : evalVal A.C A.call o (ds.wH (ds.H.lay (wantedBy A.bef i dps))) with
        | none => rw [hv] at h; cases h
        | some v =>
          rw [hv] at h
          simp only [actA] at h
          split at h
          · rename_i hH
            cases hp : ds.put o.dst v.1 with
            | none => rw [hp] at h; cases h
            | some s1 =>
              rw [hp, putA_s] at h
              have hd : ds.wH v.2 = ds := by rw [hH, ← k2]; rfl
              refine next (s1 := s1) (ps1 := unwantedBy A.bef i dps) (d1 := ⟨s1, unwantedBy A.bef i dps, (i, s1.H) :: hs, rs⟩) ?_ ⟨rfl, putH hp, rfl, fun x hx => ?_, k5⟩ h
              · unfold stepD
                simp only [hg, Option.bind_some, hc, hv, hd, hp]
              · rcases List.mem_cons.1 hx with rfl | hx
                · exact putH hp
                · exact k4 x hx
          · cases h
      | allocs =>
        rw [hc, clsA_l] at h
        cases hv : mkBlk A.C o ds with
        | none => rw [hv] at h; cases h
        | some k =>
          rw [hv, layA_s] at h
          cases hp : ds.put o.dst (k.1 (A.base + i)) with
          | none => rw [hp] at h; cases h
          | some s1 =>
            rw [hp, putA_s] at h
            refine next (s1 := s1) (d1 := ⟨s1, ⟨i, A.base + i, k.2⟩ :: dps, hs, rs⟩) ?_ ⟨rfl, putH hp, rfl, k4, k5⟩ h
            unfold stepD
            simp only [hg, Option.bind_some, hc, hv, hp]
      | pure =>
        rw [hc, clsA_p] at h
        cases hv : evalVal A.C A.call o ds with
        | none => rw [hv] at h; cases h
        | some v =>
          obtain ⟨v, Hv⟩ := v
          rw [hv, valA_s] at h
          cases hp : ds.put o.dst v with
          | none => rw [hp] at h; cases h
          | some s1 =>
            rw [hp, putA_s] at h
            refine next (s1 := s1) (ps1 := dps) (d1 := ⟨s1, dps, hs, rs⟩) ?_ ⟨rfl, putH hp, rfl, k4, k5⟩ h
            unfold stepD
            simp only [hg, Option.bind_some, hc, hv, hp]
      | reads =>
        rw [hc, clsA_r] at h
        cases hv : evalVal A.C A.call o ds with
        | none => rw [hv] at h; cases h
        | some v =>
          obtain ⟨v, Hv⟩ := v
          rw [hv, valA_s] at h
          cases hp : ds.put o.dst v with
          | none => rw [hp] at h; cases h
          | some s1 =>
            rw [hp, putA_s] at h
            refine next (s1 := s1) (ps1 := dps) (d1 := ⟨s1, dps, hs, ⟨i, o, ds, v⟩ :: rs⟩) ?_ ⟨rfl, putH hp, rfl, k4, fun x hx => ?_⟩ h
            · unfold stepD
              simp only [hg, Option.bind_some, hc, hv, hp]
            · rcases List.mem_cons.1 hx with rfl | hx
              · simp only
                rw [← k2]
                exact ⟨_, hv, rfl⟩
              · exact k5 x hx
theorem wps_drawA {C : Ctx} {call : CallE} {ops : Array Oper} {n : Nat} {s : St} {Q : Out → St → Prop} {id : Nat} (hm : C.P.follows .mixedOrders = true) (hC : CallOK C call) (hd : drawOK ops = true)
    (hf : freshenAll ops.toList { s with ts := [] } = { s with ts := [] })
    (h : ∀ B : Array Nat, B = Region.before ops → ∃ s' ps, evalA ⟨C, call, ops, B, s.H.n, ⟨s.H.n + ops.size, s.H.fs⟩⟩ 0 ops.toList { s with ts := [], H := ⟨s.H.n + ops.size, s.H.fs⟩ } [] = some (s', ps) ∧ Q .normal { s' with H := s'.H.lay (allPend ps) }) : WpS C n (.region id ops true) s Q := by
  refine wps_drawn hm hC hd fun B hB => ?_
  obtain ⟨s', ps, h1, h2⟩ := h B hB
  have hr : reserve (freshenAll ops.toList { s with ts := [] }) ops.size = { s with ts := [], H := ⟨s.H.n + ops.size, s.H.fs⟩ } := by rw [hf]; rfl
  rw [hr]
  obtain ⟨d, q1, q2⟩ := evalA_D (d := ⟨{ s with ts := [], H := ⟨s.H.n + ops.size, s.H.fs⟩ }, [], [], []⟩) h1 ⟨rfl, rfl, rfl, fun h hh => (by cases hh), fun x hx => (by cases hx)⟩
  refine ⟨d, q1, sames_K q2.hs q2.rs, ?_⟩
  rw [q2.ps, q2.s_]
  exact h2
end
end Go.Proofs.YthclkpplpdnffaaGreatDoor
namespace Go.Proofs.YthclkpplpdnffaaGreatDoor
set_option linter.unusedSimpArgs false
set_option linter.unusedVariables false
open Go Go.RowKit
set_option maxRecDepth 100000
@[simp] theorem szT61 : sizeT Tryz.prog 61 = some 1 := rfl
@[simp] theorem agT61 : aggT Tryz.prog 61 = some false := rfl
@[simp] theorem byT61 : bytesT Tryz.prog 61 = some 24 := rfl
@[simp] theorem alT61 (H : Heap) : alV Tryz.prog H 61 = some (.ptr H.n 0, H.new (.cells [.nilS])) := rfl
@[simp] theorem zeT61 : zeroOf Tryz.prog 61 = some (.nilS) := rfl
attribute [simp] Tryz.underlying61
@[simp 500] theorem rvF61 (H : Heap) (cs : List AV) (o : Nat) : readVar Tryz.prog H 61 (.fptr cs o) = getL cs o := rfl
@[simp 500] theorem rvP61 (H : Heap) (b o : Nat) : readVar Tryz.prog H 61 (.ptr b o) = (H.get b).bind fun k => k.rd.bind fun cs => getL cs o := rfl
@[simp] theorem slz61 (sz : Nat) (e : AV) (r : List AV) : binA Tryz.prog .eql 61 (.fslc sz (e :: r)) .nilS = some (.bool false) := rfl
@[simp] theorem sln61 (sz : Nat) (e : AV) (r : List AV) : binA Tryz.prog .neq 61 (.fslc sz (e :: r)) .nilS = some (.bool true) := rfl
@[simp] theorem slze61 : binA Tryz.prog .eql 61 .eslc .nilS = some (.bool false) := rfl
@[simp] theorem slzz61 : binA Tryz.prog .eql 61 .nilS .nilS = some (.bool true) := rfl
def blanks (n : Nat) : List AV := List.replicate n (.str [])
theorem blanks_pure {n : Nat} : pureL (blanks n) = true := pureL_all fun x hx => by
  rw [(List.mem_replicate.1 hx).2]; rfl
@[simp] theorem blt_cap0 {H : Heap} : builtinA Tryz.prog H .cap #[40] [.nilS] = some (.int .i64 0, H) := by
  simp [builtinA]
theorem grow_s {H : Heap} {n : Nat} (h0 : 0 < n) (h : n ≤ 1000) : growA Tryz.prog H 9 .nilS (.int .i64 (n : Int)) = some (.slc H.n 0 n (.rest 1), H.new (.cells (blanks n))) := by
  obtain ⟨q, rfl⟩ : ∃ q, n = q + 1 := ⟨n - 1, by omega⟩
  have h1 : idx ((q + 1 : Nat) : Int) 140737488355328 = some (q + 1) := idx_nat (by omega)
  have h3 : roomOK (q + 1) 16 = true := by unfold roomOK; rw [Nat.ble_eq]; omega
  have hr : ∀ n, replL [AV.str []] n = blanks n := fun n => by
    induction n with
    | zero => rfl
    | succ n ih => simp [replL, ih, blanks, List.replicate_succ]
  have hrow : ∀ cs, rowA Tryz.prog 9 cs = .cells cs := fun cs => rfl
  unfold growA
  simp only [szT9, byT9, zeT9, Option.bind_some, h1, h3, cells_str, hr, hrow]
  rfl
theorem sl_nil {H : Heap} : sliceA Tryz.prog H 40 .nilS none (some (.int .i64 0)) none = some .nilS := by
  simp [sliceA, hiOK, bound]
  rfl
theorem c41 {T : List (Entry Tryz.prog)} {n : Nat} (h0 : 0 < n) (h : n ≤ 1000) : CallAt (ctx T) 41 [.nilS, .int .i64 (n : Int)] ⟨0, []⟩ (.slc 0 0 0 (.rest 1)) ⟨1, [[(0, .cells (blanks n))]]⟩ := by
  have hg := fun H => grow_s (H := H) h0 h
  have hp : (0 : Int) < (n : Int) := by omega
  have hn : ¬ (n : Int) < 0 := by omega
  have hw : wr .i64 (n : Int) = some (n : Int) := wr_small (by omega) (by omega)
  have hl : ∀ H, lenA Tryz.prog H 40 .nilS = some 0 := fun H => by simp [lenA]
  have hb : Heap.get ⟨1, [[(0, .cells (blanks n))]]⟩ 0 = some (.cells (blanks n)) := rfl
  have hsl := slice_to (P := Tryz.prog) (H := ⟨1, [[(0, .cells (blanks n))]]⟩) (t := 40) (b := 0) (len := n) (i := 0) (cs := blanks n) Tryz.underlying40 szT9 (by omega) hb (by simp [blanks]) (by omega) h0
  simp only [Int.natCast_zero, Int.ofNat_zero, Int.cast_ofNat_Int] at hsl
  refine callAt_body (fn := Tryz.f41) (s0 := ⟨[0, 1, 4], [.nilS, .int .i64 (n : Int), .undef], [], 27, ⟨0, [[]]⟩⟩) Tryz.func41 rfl rfl rfl ?_
  repeat refine wps_seq ?_
  refine wps_region callOK ?_
  simp [zS]
  repeat refine wps_seq ?_
  refine wps_region callOK ?_
  simp [zS, hn]
  repeat refine wps_seq ?_
  refine wps_cond (t := false) (by simp [opnd, St.get, hn]) (fun h => by cases h) fun _ => ?_
  repeat refine wps_seq ?_
  refine wps_skip ?_
  simp
  have hw0 : wr .i64 0 = some 0 := wr_small (by omega) (by omega)
  repeat refine wps_seq ?_
  refine wps_region callOK ?_
  simp [zS, hl, hw, hw0]
  repeat refine wps_seq ?_
  refine wps_region callOK ?_
  simp [zS, hp]
  repeat refine wps_seq ?_
  refine wps_cond (t := true) (by simp [opnd, St.get, h0]) (fun _ => ?_) fun h => by cases h
  repeat refine wps_seq ?_
  refine wps_region callOK ?_
  simp [zS, sl_nil, hg, hl, hsl]
  repeat refine wps_seq ?_
  refine wps_region callOK ?_
  simp [zS]
  repeat refine wps_seq ?_
  refine wps_ret ?_
  simp [retVal, Tryz.f41, oneOr]
  exact ⟨[(0, 0)], [], by simp [fitV, lookN], FitH.keep1 (b := 0) (by simp [Heap.get, getFs, getF]) blanks_pure rfl⟩
def aSS (LL : List (List Str)) : AV := .fslc 1 (LL.map aStrs)
theorem atSS {LL : List (List Str)} {i : Nat} (h : i < LL.length) : indexAddrA Tryz.prog 61 (aSS LL) (.int .i64 (i : Int)) = some (.fptr [aStrs LL[i]] 0) := by
  simp [indexAddrA, aSS, idx_nat h, getL_map h, AV.cells]
theorem lenSS {H : Heap} {LL : List (List Str)} : lenA Tryz.prog H 61 (aSS LL) = some LL.length := by simp [lenA, aSS]
theorem ready_strs {H : Heap} {b : Nat} {L : List Str} : H.ready b (strs L) = H := by
  have : (strs L).flatMap (refs 6) = [] := by
    induction L with
    | nil => rfl
    | cons a r ih => simp [strs, refs]
  unfold Heap.ready
  rw [this]
theorem app_room {m b k : Nat} {A B : List Str} {g : List (Nat × Blk)} {fs : List (List (Nat × Blk))} (hk : B.length ≤ k) (hr : A.length + B.length ≤ 1000000) :
    appendA Tryz.prog ⟨m, ((b, .cells (strs A ++ blanks k)) :: g) :: fs⟩ 9 (.slc b 0 A.length (.rest 1)) (aStrs B) = some (.slc b 0 (A.length + B.length) (.rest 1), ⟨m, ((b, .cells (strs (A ++ B) ++ blanks (k - B.length))) :: g) :: fs⟩) := by
  have hg : Heap.get ⟨m, ((b, .cells (strs A ++ blanks k)) :: g) :: fs⟩ b = some (.cells (strs A ++ blanks k)) := by simp [Heap.get, getFs, getF]
  have hkn : knownCells ⟨m, ((b, .cells (strs A ++ blanks k)) :: g) :: fs⟩ b = some (A.length + k) := by rw [knownCells, hg]; simp [strs_len, blanks]
  have hroom : roomOK (A.length + B.length) 16 = true := by unfold roomOK; rw [Nat.ble_eq]; omega
  have hsrc : ∀ H, srcCells H 1 B.length (aStrs B) = some (strs B) := fun H => by
    have := flat_strs (L := B)
    simp [srcCells, List.take_of_length_le, this]
  have hsing : allSingle (strs B) = true := by rw [← flat_strs]; exact single_str B
  have hble : Nat.ble (0 + (A.length + B.length) * 1) (A.length + k) = true := by rw [Nat.ble_eq]; omega
  have hsplit : blanks k = blanks B.length ++ blanks (k - B.length) := by simp only [blanks]; rw [List.replicate_append_replicate]; congr 1; omega
  have hlay : layL (strs B) (0 + A.length * 1) (strs A ++ blanks k) = some (strs (A ++ B) ++ blanks (k - B.length)) := by
    have := layL_app (a := strs A) (b := blanks B.length) (b' := strs B) (c := blanks (k - B.length)) (by simp [blanks, strs])
    rw [strs_len] at this
    rw [hsplit, ← List.append_assoc, show 0 + A.length * 1 = A.length by omega, this]
    simp [strs]
  unfold appendA
  simp only [szT9, byT9, zeT9, Option.bind_some, srcLen, List.length_map, cells_str, List.length_cons, List.length_nil, hsrc, hroom, hsing, hkn, hble]
  simp only [writeCells, hg, Option.bind_some, Blk.wt, hlay, ready_strs, Blk.re]
  simp [Heap.set, setFs, setF]
  rfl
def sumL (LL : List (List Str)) (i : Nat) : Nat := (LL.take i).flatten.length
theorem sumL_at {LL : List (List Str)} {i : Nat} (h : i < LL.length) : sumL LL (i + 1) = sumL LL i + LL[i].length := by
  unfold sumL
  rw [List.take_succ_eq_append_getElem h, List.flatten_append]
  simp
theorem sumL_le {LL : List (List Str)} {i : Nat} : sumL LL i ≤ LL.flatten.length := by
  unfold sumL
  have : LL.flatten = (LL.take i).flatten ++ (LL.drop i).flatten := by rw [← List.flatten_append, List.take_append_drop]
  rw [this, List.length_append]; omega
theorem c21 {T : List (Entry Tryz.prog)} (LL : List (List Str)) (h0 : 0 < LL.flatten.length) (hmx : LL.flatten.length ≤ 1000) (hl : LL.length ≤ 1000) : CallAt (ctx T) 21 [aSS LL] ⟨0, []⟩ (aStrs LL.flatten) ⟨0, []⟩ := by
  have hgr := (c41 (T := T) h0 hmx).new (by simp [pureL, pureV]) blanks_pure ⟨0, [[]]⟩
  refine callAt_body (fn := Tryz.f21) (s0 := ⟨[0, 2, 3, 5, 6, 8, 9, 10, 11, 25, 26, 27], [aSS LL, .undef, .undef, .undef, .undef, .undef, .undef, .undef, .undef, .undef, .undef, .undef], [], 36, ⟨0, [[]]⟩⟩) Tryz.func21 rfl rfl rfl ?_
  repeat refine wps_seq ?_
  refine wps_region callOK ?_
  simp [zS]
  repeat refine wps_seq ?_
  refine wps_region callOK ?_
  simp [zS]
  repeat refine wps_seq ?_
  refine wps_region callOK ?_
  simp [zS, lenSS]
  repeat refine wps_seq ?_
  refine wps_block (wps_loop' (fun i : Nat => (⟨[0, 2, 3, 5, 6, 8, 9, 10, 11, 25, 26, 27], [aSS LL, .undef, .int .i64 (sumL LL i : Nat), .undef, .undef, .undef, aSS LL, .int .i64 (LL.length : Nat), .int .i64 i, .undef, .undef, .undef], [], 36, ⟨0, [[]]⟩⟩ : St))
    (fun i => i ≤ LL.length) (fun i => LL.length - i) [] [] 0 (Nat.zero_le _) ⟨rfl, rfl, rfl, by simp [fitL, fitV, pureV, pureL, aSS, sumL], FitH.nothing⟩ ?_)
  rintro i hi B hB
  repeat refine wps_seq ?_
  refine wps_region callOK ?_
  simp [zS]
  repeat refine wps_seq ?_
  refine wps_cond rfl (fun h => ?_) fun h => ?_
  · simp at h
    repeat refine wps_seq ?_
    refine wps_skip ?_
    simp
    repeat refine wps_seq ?_
    refine wps_block ?_
    have hs := sumL_at h
    have hle := sumL_le (LL := LL) (i := i + 1)
    have hadd : wr .i64 ((sumL LL i : Int) + (LL[i].length : Int)) = some (sumL LL (i + 1) : Int) := by rw [wr_small (by omega) (by omega), hs]; simp
    have hneg : ¬ ((sumL LL (i + 1) : Nat) : Int) < 0 := by omega
    repeat refine wps_seq ?_
    refine wps_region callOK ?_
    simp [zS, atSS h]
    repeat refine wps_seq ?_
    refine wps_region callOK ?_
    simp [zS, lenS, hadd]
    repeat refine wps_seq ?_
    refine wps_region callOK ?_
    simp [zS, hneg]
    repeat refine wps_seq ?_
    refine wps_cond (t := false) (by simp [opnd, St.get, hneg]) (fun h => by cases h) fun _ => ?_
    repeat refine wps_seq ?_
    refine wps_skip ?_
    simp
    repeat refine wps_seq ?_
    refine wps_region callOK ?_
    simp [zS, add_one (show i ≤ 1000000000 by omega)]
    exact hB _ (i + 1) (by omega) (by omega) ⟨[], [], ⟨rfl, rfl, rfl, by simp [fitL, fitV, pureV, pureL, aSS], FitH.nothing⟩⟩
  · simp at h
    have hie : i = LL.length := by omega
    subst hie
    repeat refine wps_seq ?_
    refine wps_exit ?_
    simp
    have he : sumL LL LL.length = LL.flatten.length := by simp [sumL]
    obtain ⟨F, hF⟩ : ∃ F : Nat → List Str, F = fun i => (LL.take i).flatten := ⟨_, rfl⟩
    have hF0 : F 0 = [] := by rw [hF]; simp
    have hFn : F LL.length = LL.flatten := by rw [hF]; simp
    have hFs : ∀ (i : Nat) (h : i < LL.length), F (i + 1) = F i ++ LL[i] := fun i h => by
      rw [hF]
      show (LL.take (i + 1)).flatten = _
      rw [List.take_succ_eq_append_getElem h, List.flatten_append]; simp
    have hFl : ∀ i, (F i).length ≤ LL.flatten.length := fun i => by rw [hF]; exact sumL_le
    rw [he]
    obtain ⟨n, hn⟩ : ∃ n, n = LL.flatten.length := ⟨_, rfl⟩
    have hFn2 : (F LL.length).length = n := by rw [hFn, hn]
    rw [← hn] at hgr h0 hmx hFl ⊢
    rw [← hFn]
    repeat refine wps_seq ?_
    refine wps_region (callOKF [⟨41, _, _, _, _, hgr⟩]) ?_
    simp [zS, callF]
    repeat refine wps_seq ?_
    refine wps_region callOK ?_
    simp [zS, lenSS]
    repeat refine wps_seq ?_
    refine wps_block (wps_loop' (fun i : Nat => (⟨[0, 2, 3, 5, 6, 8, 9, 10, 11, 25, 26, 27], [.undef, .undef, .undef, .undef, .slc 0 0 (F i).length (.rest 1), .undef, .undef, .undef, .undef, aSS LL, .int .i64 (LL.length : Nat), .int .i64 i], [], 36, ⟨1, [[(0, .cells (strs (F i) ++ blanks (n - (F i).length)))]]⟩⟩ : St))
      (fun i => i ≤ LL.length) (fun i => LL.length - i) [(0, 0)] [] 0 (Nat.zero_le _)
      ⟨rfl, rfl, rfl, by simp [fitL, fitV, lookN, pureV, aSS, hF0], .keep1F (by rw [hF0]; simp [Heap.get, getFs, getF, strs]) (by rw [pureL_append, strs_pure, blanks_pure]; rfl) (by simp) (by omega) (by simp)⟩ ?_)
    rintro i hi B hB
    repeat refine wps_seq ?_
    refine wps_region callOK ?_
    simp [zS]
    repeat refine wps_seq ?_
    refine wps_cond rfl (fun h => ?_) fun h => ?_
    · simp at h
      repeat refine wps_seq ?_
      refine wps_skip ?_
      simp
      repeat refine wps_seq ?_
      refine wps_block ?_
      have hs := hFs i h
      have hle := hFl (i + 1)
      have hs2 : (F (i + 1)).length = (F i).length + LL[i].length := by rw [hs, List.length_append]
      have happ := fun g fs => app_room (m := 1) (b := 0) (k := n - (F i).length) (A := F i) (B := LL[i]) (g := g) (fs := fs) (by omega) (by omega)
      have hk : n - (F i).length - LL[i].length = n - (F (i + 1)).length := by rw [hs2]; omega
      simp only [← hs, ← hs2, hk] at happ
      repeat refine wps_seq ?_
      refine wps_region callOK ?_
      simp [zS, atSS h]
      repeat refine wps_seq ?_
      refine wps_region callOK ?_
      simp [zS, happ]
      repeat refine wps_seq ?_
      refine wps_region callOK ?_
      simp [zS, add_one (show i ≤ 1000000000 by omega)]
      exact hB _ (i + 1) (by omega) (by omega) ⟨[(0, 0)], [], rfl, rfl, rfl, by simp [fitL, fitV, lookN, pureV, aSS], .keep1F (by simp [Heap.get, getFs, getF]) (by rw [pureL_append, strs_pure, blanks_pure]; rfl) (by simp) (by omega) (by simp)⟩
    · simp at h
      have hie : i = LL.length := by omega
      subst hie
      have hz : strs (F LL.length) ++ blanks (n - (F LL.length).length) = strs (F LL.length) := by rw [hFn2, Nat.sub_self]; simp [blanks]
      rw [hz]
      generalize F LL.length = G at *
      repeat refine wps_seq ?_
      refine wps_exit ?_
      simp
      repeat refine wps_seq ?_
      refine wps_region callOK ?_
      simp [zS]
      repeat refine wps_seq ?_
      refine wps_ret ?_
      simp [retVal, Tryz.f21, oneOr]
      refine ⟨[], [(0, strs G)], ?_, .froze (by simp) fun y hy => ?_⟩
      · exact fit_strs (b := 0) (L := G) (c := .rest 1) (σ := []) (Φ := [(0, strs G)]) (by simp [lookC])
      · rw [List.mem_singleton] at hy
        subst hy
        exact ⟨_, by simp [Heap.get, getFs, getF], fitL_pure strs_pure, strs_pure⟩
theorem steps_nil {t : Tr} : ∀ {M : List Str}, M.foldl (chStep t) [] = []
  | [] => rfl
  | x :: r => by
    show r.foldl (chStep t) (chStep t [] x) = []
    exact steps_nil
theorem start_nil {t : Tr} {obj : Int} : chStart t obj [] = [] := by
  unfold chStart
  split
  · simp [winL]
  · split
    · simp [namedL]
    · rfl
theorem run_nil {t : Tr} {obj : Int} {M : List Str} : runN t obj ([] :: M) = [] := by
  unfold runN
  simp only [List.take_succ_cons, chRun, start_nil]
  exact steps_nil
theorem run_none {t : Tr} {obj : Int} {L : List Str} (h0 : ¬ obj = 0) (h1 : ¬ obj = 1) : runN t obj L = [] := by
  unfold runN
  cases L with
  | nil => rfl
  | cons x r =>
    have : chStart t obj x = [] := by unfold chStart; rw [if_neg h0, if_neg h1]
    simp only [List.take_succ_cons, chRun, this]
    exact steps_nil
theorem run_app {t : Tr} {obj : Int} {L M : List Str} (h0 : L ≠ []) (hl : L.length ≤ 8) (hr : runN t obj L = []) : runN t obj (L ++ M) = [] := by
  unfold runN at hr ⊢
  rw [List.take_of_length_le hl] at hr
  rw [List.take_append, List.take_of_length_le hl]
  cases L with
  | nil => exact absurd rfl h0
  | cons x r =>
    simp only [List.cons_append, chRun] at hr ⊢
    rw [List.foldl_append, hr]
    exact steps_nil
theorem concat_two {T : List (Entry Tryz.prog)} (L M : List Str) (h0 : L ≠ []) (hl : L.length ≤ 100) (hm : M.length ≤ 100) {b n : Nat} (hb : b < n) (g : List (Nat × Blk)) :
    CallAt (ctx T) 21 [.slc b 0 2 (.ex 2)] ⟨n, [(b, .cells [aStrs L, aStrs M]) :: g]⟩ (aStrs (L ++ M)) ⟨n, [[]]⟩ := by
  have hp : 0 < L.length := List.length_pos_iff.2 h0
  have h := c21 (T := T) [L, M] (by simp; omega) (by simp; omega) (by simp)
  have e : [L, M].flatten = L ++ M := by simp
  rw [e] at h
  refine CallAt.drop (σ := []) (Φ := [(b, [aStrs L, aStrs M])]) (h.lift (by simp [pureL, pureV, aSS]) ⟨n, [[]]⟩) (fun _ => ?_) ?_
  · refine ⟨by simp, by simp, by simp [Heap.ents], fun x h => (by cases h), fun x h => (by cases h), Nat.le_refl _, fun e h => (by simp [Heap.ents] at h), fun x hx => ?_⟩
    simp only [List.mem_singleton] at hx
    subst hx
    exact ⟨_, by simp [Heap.get, getFs, getF], fitL_pure (by simp [pureL, pureV]), by simp [pureL, pureV]⟩
  · simp only [fitL]
    refine ⟨?_, trivial⟩
    simp only [fitV, aSS]
    exact .inl ⟨[aStrs L, aStrs M], by simp [lookC], rfl, rfl, rfl⟩
theorem concat_e {T : List (Entry Tryz.prog)} (M : List Str) (hm : M.length ≤ 100) {n : Nat} (hn : 4 < n) :
    CallAt (ctx T) 21 [.slc 4 0 2 (.ex 2)] ⟨n, [[(4, .cells [.slc 2 0 1 (.ex 1), aStrs M]), (2, .cells [.str []])]]⟩ (aStrs ([] :: M)) ⟨n, [[]]⟩ := by
  have h := c21 (T := T) [[[]], M] (by simp) (by simp; omega) (by simp)
  have e : [[([] : Str)], M].flatten = [] :: M := by simp
  rw [e] at h
  have h1 : fitV [] [(4, [aStrs [[]], aStrs M]), (2, [AV.str []])] (.slc 2 0 1 (.ex 1)) (aStrs [[]]) := by
    simp only [fitV]
    exact .inl ⟨[AV.str []], by simp [lookC], rfl, rfl, rfl⟩
  refine CallAt.drop (σ := []) (Φ := [(4, [aStrs [[]], aStrs M]), (2, [.str []])]) (h.lift (by simp [pureL, pureV, aSS]) ⟨n, [[]]⟩) (fun _ => ?_) ?_
  · refine ⟨by simp, by simp, by simp [Heap.ents], fun x h => (by cases h), fun x h => (by cases h), Nat.le_refl _, fun e h => (by simp [Heap.ents] at h), fun x hx => ?_⟩
    simp only [List.mem_cons, List.not_mem_nil, or_false] at hx
    rcases hx with rfl | rfl
    · refine ⟨[.slc 2 0 1 (.ex 1), aStrs M], by simp [Heap.get, getFs, getF], ?_, by simp [pureL, pureV]⟩
      simp only [fitL]
      exact ⟨h1, fitV_pure (by simp [pureV]), trivial⟩
    · exact ⟨_, by simp [Heap.get, getFs, getF], fitL_pure (by simp [pureL, pureV]), by simp [pureL, pureV]⟩
  · simp only [fitL]
    refine ⟨?_, trivial⟩
    simp only [fitV, aSS]
    exact .inl ⟨[aStrs [[]], aStrs M], by simp [lookC], rfl, rfl, rfl⟩
noncomputable def cdN : Code := subC [1, 1, 1] (bodyOf Tryz.f5)
theorem nothing_end0 {T : List (Entry Tryz.prog)} (hA : findE 16 T = some e16.g) (hR : findE 17 T = some e17.g) (t : Tr) (hc : ChOk t) (L M : List Str) (hx : ∀ x, x ∈ L → x.length ≤ 100) (hx2 : ∀ x, x ∈ M → x.length ≤ 100) (hl : L.length ≤ 4) (hl2 : M.length ≤ 4) :
    WpSr (ctx T) 0 none cdN ((⟨[0, 1, 2, 3, 4, 8], [.undef, .int .i64 0, aStrs L, aStrs M, .fptr [aNodes t] 0, .undef], [], 73, ⟨0, [[]]⟩⟩ : St)) (fun x s => x = .ret ∧ s.get 8 = some (.bool true)) := by
  have ka := fun H => k16 hA H
  have kr := fun H => k17 hR hc 0 (ns := L) (by omega) hx H
  have ke := fun H => k17 hR hc 0 (ns := [] :: M) (by simp; omega) (fun s hs => by
    rcases List.mem_cons.1 hs with rfl | h
    · simp
    · exact hx2 s h) H
  rw [run_nil] at ke
  have h2 := concat_e (T := T) M (by omega) (n := 29) (by omega)
  have lI0 := fun H => lenI (H := H) (L := [])
  simp only [aTree] at ke
  simp only [cdN, subC, bodyOf, Tryz.f5]
  repeat refine wps_seq ?_
  refine wps_drawA mixed (callOKF [⟨21, _, _, _, _, h2⟩]) (by decide +kernel) rfl fun B_ hB_ => ?_
  have hD_ : ahead B_ 0 5 = false ∧ ahead B_ 0 6 = true ∧ ahead B_ 0 20 = true ∧ ahead B_ 0 26 = true ∧ ahead B_ 2 5 = true ∧ ahead B_ 2 6 = true ∧ ahead B_ 2 20 = true ∧ ahead B_ 2 26 = true ∧ ahead B_ 4 5 = true ∧ ahead B_ 4 6 = true ∧ ahead B_ 4 20 = true ∧ ahead B_ 4 26 = true ∧ ahead B_ 5 0 = false ∧ ahead B_ 5 7 = true ∧ ahead B_ 5 17 = true ∧ ahead B_ 5 21 = true ∧ ahead B_ 6 0 = false ∧ ahead B_ 6 7 = true ∧ ahead B_ 6 17 = true ∧ ahead B_ 6 21 = true ∧ ahead B_ 7 5 = false ∧ ahead B_ 7 6 = false ∧ ahead B_ 7 20 = true ∧ ahead B_ 7 26 = true ∧ ahead B_ 17 5 = false ∧ ahead B_ 17 6 = false ∧ ahead B_ 17 20 = true ∧ ahead B_ 17 26 = true ∧ ahead B_ 20 0 = false ∧ ahead B_ 20 7 = false ∧ ahead B_ 20 17 = false ∧ ahead B_ 20 21 = true ∧ ahead B_ 21 5 = false ∧ ahead B_ 21 6 = false ∧ ahead B_ 21 20 = false ∧ ahead B_ 21 26 = true ∧ ahead B_ 26 0 = false ∧ ahead B_ 26 7 = false ∧ ahead B_ 26 17 = false ∧ ahead B_ 26 21 = false := by rw [hB_]; decide +kernel
  simp [zS, mkBlk, guardA, clsOf, wantedBy, unwantedBy, allPend, Heap.lay, ontoF, evalA_c, evalA_n, putA_s, valA_s, actA_s, layA_s, gateA_t, gateA_f, clsA_l, clsA_a, clsA_p, clsA_r, offA_a, offA_l, offA_p, offA_r, hD_, callF, ke, lI0, ka]
  refine ⟨_, _, ⟨rfl, rfl⟩, ?_⟩
  simp [allPend, Heap.lay, ontoF, thenQ]
  repeat refine wps_seq ?_
  refine wps_ret ?_
  simp
theorem nothing_end1 {T : List (Entry Tryz.prog)} (hA : findE 16 T = some e16.g) (hR : findE 17 T = some e17.g) (t : Tr) (hc : ChOk t) (L M : List Str) (hx : ∀ x, x ∈ L → x.length ≤ 100) (hx2 : ∀ x, x ∈ M → x.length ≤ 100) (hl : L.length ≤ 4) (hl2 : M.length ≤ 4) :
    WpSr (ctx T) 0 none cdN ((⟨[0, 1, 2, 3, 4, 8], [.undef, .int .i64 1, aStrs L, aStrs M, .fptr [aNodes t] 0, .undef], [], 73, ⟨0, [[]]⟩⟩ : St)) (fun x s => x = .ret ∧ s.get 8 = some (.bool true)) := by
  have ka := fun H => k16 hA H
  have kr := fun H => k17 hR hc 1 (ns := L) (by omega) hx H
  have ke := fun H => k17 hR hc 1 (ns := [] :: M) (by simp; omega) (fun s hs => by
    rcases List.mem_cons.1 hs with rfl | h
    · simp
    · exact hx2 s h) H
  rw [run_nil] at ke
  have h2 := concat_e (T := T) M (by omega) (n := 29) (by omega)
  have lI0 := fun H => lenI (H := H) (L := [])
  simp only [aTree] at ke
  simp only [cdN, subC, bodyOf, Tryz.f5]
  repeat refine wps_seq ?_
  refine wps_drawA mixed (callOKF [⟨21, _, _, _, _, h2⟩]) (by decide +kernel) rfl fun B_ hB_ => ?_
  have hD_ : ahead B_ 0 5 = false ∧ ahead B_ 0 6 = true ∧ ahead B_ 0 20 = true ∧ ahead B_ 0 26 = true ∧ ahead B_ 2 5 = true ∧ ahead B_ 2 6 = true ∧ ahead B_ 2 20 = true ∧ ahead B_ 2 26 = true ∧ ahead B_ 4 5 = true ∧ ahead B_ 4 6 = true ∧ ahead B_ 4 20 = true ∧ ahead B_ 4 26 = true ∧ ahead B_ 5 0 = false ∧ ahead B_ 5 7 = true ∧ ahead B_ 5 17 = true ∧ ahead B_ 5 21 = true ∧ ahead B_ 6 0 = false ∧ ahead B_ 6 7 = true ∧ ahead B_ 6 17 = true ∧ ahead B_ 6 21 = true ∧ ahead B_ 7 5 = false ∧ ahead B_ 7 6 = false ∧ ahead B_ 7 20 = true ∧ ahead B_ 7 26 = true ∧ ahead B_ 17 5 = false ∧ ahead B_ 17 6 = false ∧ ahead B_ 17 20 = true ∧ ahead B_ 17 26 = true ∧ ahead B_ 20 0 = false ∧ ahead B_ 20 7 = false ∧ ahead B_ 20 17 = false ∧ ahead B_ 20 21 = true ∧ ahead B_ 21 5 = false ∧ ahead B_ 21 6 = false ∧ ahead B_ 21 20 = false ∧ ahead B_ 21 26 = true ∧ ahead B_ 26 0 = false ∧ ahead B_ 26 7 = false ∧ ahead B_ 26 17 = false ∧ ahead B_ 26 21 = false := by rw [hB_]; decide +kernel
  simp [zS, mkBlk, guardA, clsOf, wantedBy, unwantedBy, allPend, Heap.lay, ontoF, evalA_c, evalA_n, putA_s, valA_s, actA_s, layA_s, gateA_t, gateA_f, clsA_l, clsA_a, clsA_p, clsA_r, offA_a, offA_l, offA_p, offA_r, hD_, callF, ke, lI0, ka]
  refine ⟨_, _, ⟨rfl, rfl⟩, ?_⟩
  simp [allPend, Heap.lay, ontoF, thenQ]
  repeat refine wps_seq ?_
  refine wps_ret ?_
  simp
theorem nothing_end2 {T : List (Entry Tryz.prog)} (hA : findE 16 T = some e16.g) (hR : findE 17 T = some e17.g) (t : Tr) (hc : ChOk t) (obj : Int) (o0 : ¬ obj = 0) (o1 : ¬ obj = 1) (L M : List Str) (hx : ∀ x, x ∈ L → x.length ≤ 100) (hx2 : ∀ x, x ∈ M → x.length ≤ 100) (hl : L.length ≤ 4) (hl2 : M.length ≤ 4) :
    WpSr (ctx T) 0 none cdN ((⟨[0, 1, 2, 3, 4, 8], [.undef, .int .i64 obj, aStrs L, aStrs M, .fptr [aNodes t] 0, .undef], [], 73, ⟨0, [[]]⟩⟩ : St)) (fun x s => x = .ret ∧ s.get 8 = some (.bool true)) := by
  have ka := fun H => k16 hA H
  have kr := fun H => k17 hR hc obj (ns := L) (by omega) hx H
  have ke := fun H => k17 hR hc obj (ns := [] :: M) (by simp; omega) (fun s hs => by
    rcases List.mem_cons.1 hs with rfl | h
    · simp
    · exact hx2 s h) H
  rw [run_nil] at ke
  have h2 := concat_e (T := T) M (by omega) (n := 29) (by omega)
  have lI0 := fun H => lenI (H := H) (L := [])
  rw [run_none (t := t) (obj := obj) (L := L) o0 o1] at kr
  simp only [aTree] at ke kr
  simp only [cdN, subC, bodyOf, Tryz.f5]
  repeat refine wps_seq ?_
  refine wps_drawA mixed (callOKF [⟨21, _, _, _, _, h2⟩]) (by decide +kernel) rfl fun B_ hB_ => ?_
  have hD_ : ahead B_ 0 5 = false ∧ ahead B_ 0 6 = true ∧ ahead B_ 0 20 = true ∧ ahead B_ 0 26 = true ∧ ahead B_ 2 5 = true ∧ ahead B_ 2 6 = true ∧ ahead B_ 2 20 = true ∧ ahead B_ 2 26 = true ∧ ahead B_ 4 5 = true ∧ ahead B_ 4 6 = true ∧ ahead B_ 4 20 = true ∧ ahead B_ 4 26 = true ∧ ahead B_ 5 0 = false ∧ ahead B_ 5 7 = true ∧ ahead B_ 5 17 = true ∧ ahead B_ 5 21 = true ∧ ahead B_ 6 0 = false ∧ ahead B_ 6 7 = true ∧ ahead B_ 6 17 = true ∧ ahead B_ 6 21 = true ∧ ahead B_ 7 5 = false ∧ ahead B_ 7 6 = false ∧ ahead B_ 7 20 = true ∧ ahead B_ 7 26 = true ∧ ahead B_ 17 5 = false ∧ ahead B_ 17 6 = false ∧ ahead B_ 17 20 = true ∧ ahead B_ 17 26 = true ∧ ahead B_ 20 0 = false ∧ ahead B_ 20 7 = false ∧ ahead B_ 20 17 = false ∧ ahead B_ 20 21 = true ∧ ahead B_ 21 5 = false ∧ ahead B_ 21 6 = false ∧ ahead B_ 21 20 = false ∧ ahead B_ 21 26 = true ∧ ahead B_ 26 0 = false ∧ ahead B_ 26 7 = false ∧ ahead B_ 26 17 = false ∧ ahead B_ 26 21 = false := by rw [hB_]; decide +kernel
  simp [zS, mkBlk, guardA, clsOf, wantedBy, unwantedBy, allPend, Heap.lay, ontoF, evalA_c, evalA_n, putA_s, valA_s, actA_s, layA_s, gateA_t, gateA_f, clsA_l, clsA_a, clsA_p, clsA_r, offA_a, offA_l, offA_p, offA_r, hD_, callF, ke, kr, lI0, o0, o1, ka]
  refine ⟨_, _, ⟨rfl, rfl⟩, ?_⟩
  simp [allPend, Heap.lay, ontoF, thenQ]
  repeat refine wps_seq ?_
  refine wps_ret ?_
  simp
theorem nothing_end {T : List (Entry Tryz.prog)} (hA : findE 16 T = some e16.g) (hR : findE 17 T = some e17.g) (t : Tr) (hc : ChOk t) (obj : Int) (L M : List Str) (hx : ∀ x, x ∈ L → x.length ≤ 100) (hx2 : ∀ x, x ∈ M → x.length ≤ 100) (hl : L.length ≤ 4) (hl2 : M.length ≤ 4) (s : St) (hs : ∃ σ Φ, Fit 0 σ Φ s ((⟨[0, 1, 2, 3, 4, 8], [.undef, .int .i64 obj, aStrs L, aStrs M, .fptr [aNodes t] 0, .undef], [], 73, ⟨0, [[]]⟩⟩ : St))) : WpSr (ctx T) 0 none cdN s (fun x s => x = .ret ∧ s.get 8 = some (.bool true)) := by
  obtain ⟨σ, Φ, hf⟩ := hs
  refine WpSr.fit σ Φ hf ?_
  by_cases o0 : obj = 0
  · subst o0
    exact nothing_end0 hA hR t hc L M hx hx2 hl hl2
  · by_cases o1 : obj = 1
    · subst o1
      exact nothing_end1 hA hR t hc L M hx hx2 hl hl2
    · exact nothing_end2 hA hR t hc obj o0 o1 L M hx hx2 hl hl2
noncomputable def cdM : Code := subC [1, 1] (bodyOf Tryz.f5)
theorem nothing_a {T : List (Entry Tryz.prog)} (hA : findE 16 T = some e16.g) (hR : findE 17 T = some e17.g) (t : Tr) (hc : ChOk t) (obj : Int) (L M : List Str) (hx : ∀ x, x ∈ L → x.length ≤ 100) (hx2 : ∀ x, x ∈ M → x.length ≤ 100) (hl : L.length ≤ 4) (hl2 : M.length ≤ 4) (hr : runN t obj L = []) (hL : L = []) :
    WpSr (ctx T) 0 none cdM ((⟨[0, 1, 2, 3, 4, 8], [.undef, .int .i64 obj, aStrs L, aStrs M, .fptr [aNodes t] 0, .undef], [], 73, ⟨0, [[]]⟩⟩ : St)) (fun x s => x = .ret ∧ s.get 8 = some (.bool true)) := by
  have kr := fun H => k17 hR hc obj (ns := L) (by omega) hx H
  have lS := fun H => lenS (H := H) (L := L)
  rw [hr] at kr
  have lI0 := fun H => lenI (H := H) (L := [])
  have hz : L.length = 0 := by rw [hL]; rfl
  simp only [aTree] at kr
  simp only [cdM, subC, bodyOf, Tryz.f5]
  repeat refine wps_seq ?_
  refine wps_drawA mixed callOK (by decide +kernel) rfl fun B_ hB_ => ?_
  have hD_ : ahead B_ 0 3 = true ∧ ahead B_ 0 17 = true ∧ ahead B_ 0 18 = true ∧ ahead B_ 3 0 = false ∧ ahead B_ 3 4 = true ∧ ahead B_ 3 8 = true ∧ ahead B_ 3 12 = true ∧ ahead B_ 3 19 = true ∧ ahead B_ 4 3 = false ∧ ahead B_ 4 17 = true ∧ ahead B_ 4 18 = true ∧ ahead B_ 8 3 = false ∧ ahead B_ 8 17 = true ∧ ahead B_ 8 18 = true ∧ ahead B_ 12 3 = false ∧ ahead B_ 12 17 = false ∧ ahead B_ 12 18 = true ∧ ahead B_ 16 3 = false ∧ ahead B_ 16 17 = true ∧ ahead B_ 16 18 = true ∧ ahead B_ 17 0 = false ∧ ahead B_ 17 4 = false ∧ ahead B_ 17 8 = false ∧ ahead B_ 17 12 = false ∧ ahead B_ 17 19 = true ∧ ahead B_ 18 0 = false ∧ ahead B_ 18 4 = false ∧ ahead B_ 18 8 = false ∧ ahead B_ 18 12 = false ∧ ahead B_ 18 19 = true ∧ ahead B_ 19 3 = false ∧ ahead B_ 19 17 = false ∧ ahead B_ 19 18 = false := by rw [hB_]; decide +kernel
  simp [zS, mkBlk, guardA, clsOf, wantedBy, unwantedBy, allPend, Heap.lay, ontoF, evalA_c, evalA_n, putA_s, valA_s, actA_s, layA_s, gateA_t, gateA_f, clsA_l, clsA_a, clsA_p, clsA_r, offA_a, offA_l, offA_p, offA_r, hD_, kr, lI0, lS, hz]
  refine ⟨_, _, ⟨rfl, rfl⟩, ?_⟩
  simp [allPend, Heap.lay, ontoF, thenQ]
  repeat refine wps_seq ?_
  refine wps_cond (t := false) rfl (fun h => by cases h) fun _ => ?_
  repeat refine wps_seq ?_
  refine wps_skip ?_
  simp
  exact nothing_end hA hR t hc obj L M hx hx2 hl hl2 _ ⟨[], [], ⟨rfl, rfl, rfl, by simp [fitL, fitV, pureV, pureL], FitH.nothing⟩⟩
theorem nothing_b {T : List (Entry Tryz.prog)} (hA : findE 16 T = some e16.g) (hR : findE 17 T = some e17.g) (t : Tr) (hc : ChOk t) (obj : Int) (L M : List Str) (hx : ∀ x, x ∈ L → x.length ≤ 100) (hx2 : ∀ x, x ∈ M → x.length ≤ 100) (hl : L.length ≤ 4) (hl2 : M.length ≤ 4) (hr : runN t obj L = []) (hL : ¬ L = []) :
    WpSr (ctx T) 0 none cdM ((⟨[0, 1, 2, 3, 4, 8], [.undef, .int .i64 obj, aStrs L, aStrs M, .fptr [aNodes t] 0, .undef], [], 73, ⟨0, [[]]⟩⟩ : St)) (fun x s => x = .ret ∧ s.get 8 = some (.bool true)) := by
  have kr := fun H => k17 hR hc obj (ns := L) (by omega) hx H
  have lS := fun H => lenS (H := H) (L := L)
  have kc := fun H => k17 hR hc obj (ns := L ++ M) (by simp; omega) (fun s hs => by
    rcases List.mem_append.1 hs with h | h
    · exact hx s h
    · exact hx2 s h) H
  rw [run_app hL (by omega) hr] at kc
  rw [hr] at kr
  have lI0 := fun H => lenI (H := H) (L := [])
  have h1 := concat_two (T := T) L M hL (by omega) (by omega) (b := 16) (n := 22) (by omega) []
  have hp2 : 0 < L.length := List.length_pos_iff.2 hL
  have hp : (0 : Int) < (L.length : Int) := by omega
  simp only [aTree] at kr kc
  simp only [cdM, subC, bodyOf, Tryz.f5]
  repeat refine wps_seq ?_
  refine wps_drawA mixed (callOKF [⟨21, _, _, _, _, h1⟩]) (by decide +kernel) rfl fun B_ hB_ => ?_
  have hD_ : ahead B_ 0 3 = true ∧ ahead B_ 0 17 = true ∧ ahead B_ 0 18 = true ∧ ahead B_ 3 0 = false ∧ ahead B_ 3 4 = true ∧ ahead B_ 3 8 = true ∧ ahead B_ 3 12 = true ∧ ahead B_ 3 19 = true ∧ ahead B_ 4 3 = false ∧ ahead B_ 4 17 = true ∧ ahead B_ 4 18 = true ∧ ahead B_ 8 3 = false ∧ ahead B_ 8 17 = true ∧ ahead B_ 8 18 = true ∧ ahead B_ 12 3 = false ∧ ahead B_ 12 17 = false ∧ ahead B_ 12 18 = true ∧ ahead B_ 16 3 = false ∧ ahead B_ 16 17 = true ∧ ahead B_ 16 18 = true ∧ ahead B_ 17 0 = false ∧ ahead B_ 17 4 = false ∧ ahead B_ 17 8 = false ∧ ahead B_ 17 12 = false ∧ ahead B_ 17 19 = true ∧ ahead B_ 18 0 = false ∧ ahead B_ 18 4 = false ∧ ahead B_ 18 8 = false ∧ ahead B_ 18 12 = false ∧ ahead B_ 18 19 = true ∧ ahead B_ 19 3 = false ∧ ahead B_ 19 17 = false ∧ ahead B_ 19 18 = false := by rw [hB_]; decide +kernel
  simp [zS, mkBlk, guardA, clsOf, wantedBy, unwantedBy, allPend, Heap.lay, ontoF, evalA_c, evalA_n, putA_s, valA_s, actA_s, layA_s, gateA_t, gateA_f, clsA_l, clsA_a, clsA_p, clsA_r, offA_a, offA_l, offA_p, offA_r, hD_, callF, kr, lI0, lS, hp, hp2, kc]
  refine ⟨_, _, ⟨rfl, rfl⟩, ?_⟩
  simp [allPend, Heap.lay, ontoF, thenQ]
  repeat refine wps_seq ?_
  refine wps_cond (t := false) rfl (fun h => by cases h) fun _ => ?_
  repeat refine wps_seq ?_
  refine wps_skip ?_
  simp
  exact nothing_end hA hR t hc obj L M hx hx2 hl hl2 _ ⟨[], [], ⟨rfl, rfl, rfl, by simp [fitL, fitV, pureV, pureL], FitH.nothing⟩⟩
theorem nothing_c {T : List (Entry Tryz.prog)} (hA : findE 16 T = some e16.g) (hR : findE 17 T = some e17.g) (t : Tr) (hc : ChOk t) (obj : Int) (L M : List Str) (hx : ∀ x, x ∈ L → x.length ≤ 100) (hx2 : ∀ x, x ∈ M → x.length ≤ 100) (hl : L.length ≤ 4) (hl2 : M.length ≤ 4) (hr : ¬ runN t obj L = []) :
    WpSr (ctx T) 0 none cdM ((⟨[0, 1, 2, 3, 4, 8], [.undef, .int .i64 obj, aStrs L, aStrs M, .fptr [aNodes t] 0, .undef], [], 73, ⟨0, [[]]⟩⟩ : St)) (fun x s => x = .ret ∧ s.get 8 = some (.bool true)) := by
  have kr := fun H => k17 hR hc obj (ns := L) (by omega) hx H
  have lS := fun H => lenS (H := H) (L := L)
  have lI0 := fun H => lenI (H := H) (L := runN t obj L)
  have hz : ¬ (runN t obj L).length = 0 := by intro h; exact hr (List.length_eq_zero_iff.1 h)
  clear hr
  generalize runN t obj L = R0 at *
  simp only [aTree] at kr
  simp only [cdM, subC, bodyOf, Tryz.f5]
  repeat refine wps_seq ?_
  refine wps_drawA mixed callOK (by decide +kernel) rfl fun B_ hB_ => ?_
  have hD_ : ahead B_ 0 3 = true ∧ ahead B_ 0 17 = true ∧ ahead B_ 0 18 = true ∧ ahead B_ 3 0 = false ∧ ahead B_ 3 4 = true ∧ ahead B_ 3 8 = true ∧ ahead B_ 3 12 = true ∧ ahead B_ 3 19 = true ∧ ahead B_ 4 3 = false ∧ ahead B_ 4 17 = true ∧ ahead B_ 4 18 = true ∧ ahead B_ 8 3 = false ∧ ahead B_ 8 17 = true ∧ ahead B_ 8 18 = true ∧ ahead B_ 12 3 = false ∧ ahead B_ 12 17 = false ∧ ahead B_ 12 18 = true ∧ ahead B_ 16 3 = false ∧ ahead B_ 16 17 = true ∧ ahead B_ 16 18 = true ∧ ahead B_ 17 0 = false ∧ ahead B_ 17 4 = false ∧ ahead B_ 17 8 = false ∧ ahead B_ 17 12 = false ∧ ahead B_ 17 19 = true ∧ ahead B_ 18 0 = false ∧ ahead B_ 18 4 = false ∧ ahead B_ 18 8 = false ∧ ahead B_ 18 12 = false ∧ ahead B_ 18 19 = true ∧ ahead B_ 19 3 = false ∧ ahead B_ 19 17 = false ∧ ahead B_ 19 18 = false := by rw [hB_]; decide +kernel
  simp [zS, mkBlk, guardA, clsOf, wantedBy, unwantedBy, allPend, Heap.lay, ontoF, evalA_c, evalA_n, putA_s, valA_s, actA_s, layA_s, gateA_t, gateA_f, clsA_l, clsA_a, clsA_p, clsA_r, offA_a, offA_l, offA_p, offA_r, hD_, kr, lI0, hz]
  refine ⟨_, _, ⟨rfl, rfl⟩, ?_⟩
  simp [allPend, Heap.lay, ontoF, thenQ]
  repeat refine wps_seq ?_
  refine wps_cond (t := false) rfl (fun h => by cases h) fun _ => ?_
  repeat refine wps_seq ?_
  refine wps_skip ?_
  simp
  exact nothing_end hA hR t hc obj L M hx hx2 hl hl2 _ ⟨[], [], ⟨rfl, rfl, rfl, by simp [fitL, fitV, pureV, pureL], FitH.nothing⟩⟩
theorem c5 {T : List (Entry Tryz.prog)} (hA : findE 16 T = some e16.g) (hP : findE 14 T = some e14.g) (hW : findE 15 T = some e15.g) (hR : findE 17 T = some e17.g) (t : Tr) (obj : Int) (L M : List Str) :
    CallAt (ctx T) 5 [aTree t, .int .i64 obj, aStrs L, aStrs M] ⟨0, []⟩ (.bool true) ⟨0, []⟩ := by
  have ka := fun H => k16 hA H
  have kp := fun H => k14 hP t (m := 30) (by omega) H
  have kw := fun H => k15 hW L (m := 4) (by omega) H
  have kw2 := fun H => k15 hW M (m := 4) (by omega) H
  simp only [aTree] at kp
  cases hf : fewTr t 30 with
  | false =>
    rw [hf] at kp
    refine callAt_body (fn := Tryz.f5) (s0 := ⟨[0, 1, 2, 3, 4, 8], [aTree t, .int .i64 obj, aStrs L, aStrs M, .undef, .undef], [], 73, ⟨0, [[]]⟩⟩) Tryz.func5 rfl rfl rfl ?_
    (repeat (first
      | (refine wps_seq ?_)
      | (refine wps_block ?_)
      | (refine wps_label ?_; simp only [thenQ, blockQ])
      | ((refine wps_region callOK ?_); simp [zS, aTree, kp, ka])
      | (refine wps_cond (t := true) rfl (fun _ => ?_) (fun h => by cases h))
      | (refine wps_cond (t := false) rfl (fun h => by cases h) (fun _ => ?_))
      | ((refine wps_skip ?_); simp only [thenQ, blockQ])
      | ((refine wps_exit ?_); simp [thenQ, blockQ])))
    repeat refine wps_seq ?_
    refine wps_ret ?_
    simp [retVal, Tryz.f5, oneOr, thenQ, blockQ]
    exact ends_pure rfl (by rfl)
  | true =>
  rw [hf] at kp
  cases hw : fewWs L 4 with
  | false =>
    rw [hw] at kw
    refine callAt_body (fn := Tryz.f5) (s0 := ⟨[0, 1, 2, 3, 4, 8], [aTree t, .int .i64 obj, aStrs L, aStrs M, .undef, .undef], [], 73, ⟨0, [[]]⟩⟩) Tryz.func5 rfl rfl rfl ?_
    (repeat (first
      | (refine wps_seq ?_)
      | (refine wps_block ?_)
      | (refine wps_label ?_; simp only [thenQ, blockQ])
      | ((refine wps_region callOK ?_); simp [zS, aTree, kp, kw, ka])
      | (refine wps_cond (t := true) rfl (fun _ => ?_) (fun h => by cases h))
      | (refine wps_cond (t := false) rfl (fun h => by cases h) (fun _ => ?_))
      | ((refine wps_skip ?_); simp only [thenQ, blockQ])
      | ((refine wps_exit ?_); simp [thenQ, blockQ])))
    repeat refine wps_seq ?_
    refine wps_ret ?_
    simp [retVal, Tryz.f5, oneOr, thenQ, blockQ]
    exact ends_pure rfl (by rfl)
  | true =>
  cases hw2 : fewWs M 4 with
  | false =>
    rw [hw] at kw
    rw [hw2] at kw2
    refine callAt_body (fn := Tryz.f5) (s0 := ⟨[0, 1, 2, 3, 4, 8], [aTree t, .int .i64 obj, aStrs L, aStrs M, .undef, .undef], [], 73, ⟨0, [[]]⟩⟩) Tryz.func5 rfl rfl rfl ?_
    (repeat (first
      | (refine wps_seq ?_)
      | (refine wps_block ?_)
      | (refine wps_label ?_; simp only [thenQ, blockQ])
      | ((refine wps_region callOK ?_); simp [zS, aTree, kp, kw, kw2, ka])
      | (refine wps_cond (t := true) rfl (fun _ => ?_) (fun h => by cases h))
      | (refine wps_cond (t := false) rfl (fun h => by cases h) (fun _ => ?_))
      | ((refine wps_skip ?_); simp only [thenQ, blockQ])
      | ((refine wps_exit ?_); simp [thenQ, blockQ])))
    repeat refine wps_seq ?_
    refine wps_ret ?_
    simp [retVal, Tryz.f5, oneOr, thenQ, blockQ]
    exact ends_pure rfl (by rfl)
  | true =>
  rw [hw] at kw
  rw [hw2] at kw2
  obtain ⟨hl, hx⟩ := few_ws hw
  obtain ⟨hl2, hx2⟩ := few_ws hw2
  have hc := few_ch hf
  have hend : ∀ (x : Out) (s : St), (x = .ret ∧ s.get 8 = some (.bool true)) → (x = .normal ∨ x = .ret) ∧ ∃ vs, retVal (ctx T) s Tryz.f5.results.toList = some vs ∧ ∃ σ Φ, fitV σ Φ (oneOr vs) (.bool true) ∧ FitH 0 σ Φ s.H ⟨0, []⟩ := fun x s ⟨h1, h2⟩ =>
    ⟨.inr h1, [.bool true], by simp [retVal, Tryz.f5, h2], ends_pure rfl rfl⟩
  refine callAt_body (fn := Tryz.f5) (s0 := ⟨[0, 1, 2, 3, 4, 8], [aTree t, .int .i64 obj, aStrs L, aStrs M, .undef, .undef], [], 73, ⟨0, [[]]⟩⟩) Tryz.func5 rfl rfl rfl ?_
  repeat refine wps_seq ?_
  refine wps_region callOK ?_
  simp [zS, aTree]
  repeat refine wps_seq ?_
  refine wps_region callOK ?_
  simp [zS, kp, kw, kw2]
  repeat refine wps_seq ?_
  refine wps_cond (t := false) rfl (fun h => by cases h) fun _ => ?_
  repeat refine wps_seq ?_
  refine wps_skip ?_
  simp
  refine WpSr.fit [] [(0, [aNodes t])] (s' := (⟨[0, 1, 2, 3, 4, 8], [.undef, .int .i64 obj, aStrs L, aStrs M, .fptr [aNodes t] 0, .undef], [], 73, ⟨0, [[]]⟩⟩ : St)) ⟨rfl, rfl, rfl, by simp [fitL, fitV, lookC, pureV], ?_⟩ ?_
  · refine (FitH.froze (by simp) fun y hy => ?_).fs rfl
    simp only [List.mem_cons, List.not_mem_nil, or_false] at hy
    subst hy
    exact ⟨_, by simp [Heap.get, getFs, getF], fitL_pure (by simp [pureL]), by simp [pureL]⟩
  refine WpSr.mono (Q' := _) (Q := fun x s => x = .ret ∧ s.get 8 = some (.bool true)) ?_ hend
  by_cases hr0 : runN t obj L = []
  · by_cases hL : L = []
    · exact nothing_a hA hR t hc obj L M hx hx2 (by omega) (by omega) hr0 hL
    · exact nothing_b hA hR t hc obj L M hx hx2 (by omega) (by omega) hr0 hL
  · exact nothing_c hA hR t hc obj L M hx hx2 (by omega) (by omega) hr0
end Go.Proofs.YthclkpplpdnffaaGreatDoor
