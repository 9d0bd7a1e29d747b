/- table.outside, which defers; entries to run the closed test. No condition. -/
import Derived.Test.YtdmgdkejbhoegaaGreatDoorME
import Derived.DefersIn
import Derived.Test.YtdmgdkejbhoegaaGreatDoorMH
namespace Go.Proofs.YtdmgdkejbhoegaaGreatDoor
noncomputable section
set_option linter.unusedSimpArgs false
set_option linter.unusedVariables false
open Go Go.RowKit
structure DeferFn (C : Ctx) where
  f : FuncId
  fn : Func
  i0 : Nat
  i1 : Nat
  i2 : Nat
  i3 : Nat
  o0 : Array Oper
  o1 : Array Oper
  o3 : Array Oper
  mo : Oper
  df : Oper
  t : Tmp
  ty : Array TypeId
  g : FuncId
  gn : Func
  ig : Nat
  og : Array Oper
  hf : C.P.funcs[f]? = some fn
  hn : (fn.name == "runtime.NumGoroutine") = false
  hb : fn.body = some (.seq (.region i0 o0 false) (.seq (.region i1 o1 false) (.seq (.region i2 #[mo, df] false) (.seq (.region i3 o3 false) .ret))))
  hd : df.op = .defer ⟨.value (.tmp t), #[], ty⟩
  hdd : df.dst = none
  hdg : df.guard = none
  hg : C.P.funcs[g]? = some gn
  hgn : (gn.name == "runtime.NumGoroutine") = false
  hgb : gn.body = some (.region ig og false)
  hgr : gn.results = #[]
def DeferFn.run {C : Ctx} (D : DeferFn C) (call : CallE) (args : List AV) (H : Heap) : Option (AV × Heap) :=
  (enterF C D.f D.fn args H).bind fun s0 => (evalOps C call D.o0 D.o0.toList s0.wT).bind fun s1 => (evalOps C call D.o1 D.o1.toList s1.wT).bind fun s2 =>
  (evalOp C call #[D.mo, D.df] D.mo (freshen s2.wT D.mo)).bind fun s3 => (s3.get D.t).bind fun v => match v with
    | .func fv first caps => match fv with
      | .func g' => match Nat.beq g' D.g with
        | true => match first with
          | [] => (evalOps C call D.o3 D.o3.toList s3.wT).bind fun s4 => (enterF C D.g D.gn caps s4.H).bind fun d0 => (evalOps C call D.og D.og.toList d0.wT).bind fun d1 =>
            (retVal C (s4.wH (popTo (.tup []) d1.H)) D.fn.results.toList).bind fun vs => some (oneOr vs, popTo (oneOr vs) (popTo (.tup []) d1.H))
          | _ :: _ => none
        | false => none
      | _ => none
    | _ => none
theorem enter_env {C : Ctx} {f : FuncId} {fn : Func} {args : List AV} {H : Heap} {s : St} {ρ : Place} {w : World} {xs : List Value} (hs0 : enterF C f fn args H = some s) (hx : VRs ρ args xs) :
    EnvR ρ s { tmps := xs.toArray ++ Array.replicate (fn.ntmps - xs.toArray.size) undef, defers := [] } ∧ s.H = ⟨H.n, [] :: H.fs⟩ := by
  have hlen : xs.length = args.length := hx.1
  have env0 : EnvR ρ { ks := C.keep f, vs := undefs (C.keep f), ts := [], sz := args.length + (fn.ntmps - args.length), H := ⟨H.n, [] :: H.fs⟩ }
      { tmps := xs.toArray ++ Array.replicate (fn.ntmps - xs.toArray.size) undef, defers := [] } := by
    refine ⟨by simp [hlen], fun t u hu => ?_⟩
    simp only [St.get] at hu
    split at hu
    · rename_i hl
      have := lookK_undefs hl
      simp only [Option.some.injEq] at hu
      subst hu; subst this
      exact .undef _
    · simp [look_c, look_n] at hu
  exact putArgs_run (i := 0) hs0 env0 hx fun j hj => by
    simp only [Nat.zero_add, Array.getD_eq_getD_getElem?]
    rw [Array.getElem?_append_left (by simpa using hj)]
    simp [hj]
theorem region_wp {C : Ctx} {call : CallE} (hC : CallOK C call) {id : Nat} {ops : Array Oper} {r : Option Nat} {Q : Exit → Act → World → Prop} {s s' : St} {a : Act} {ρ : Place} {w : World} (h : evalOps C call ops ops.toList s.wT = some s') (sm : Sim ρ s.H w) (e : EnvR ρ s a)
    (hk : ∀ a' w' ρ', Sim ρ' s'.H w' → Step ρ s.H w ρ' s'.H w' → EnvR ρ' s' a' → a'.defers = a.defers → Q .normal a' w') : (Code.region id ops false).wpIn (fen r) 0 C.P Q a w := by
  refine wpIn_region ?_
  have hw : s.wT = { s with ts := [] } := by cases s; rfl
  rw [hw] at h
  have sm' : Sim ρ ({ s with ts := [] } : St).H w := sm
  have := ops_wp hC (ops := ops) (r := r) (Q := Q) (l := ops.toList) (i := 0) (s := { s with ts := [] }) (a := a) (ρ := ρ) (w := w) (fun j => by simp) h sm' e.fresh fun a' w' ρ' k1 k2 k3 k4 => hk a' w' ρ' k1 k2 k3 k4
  rw [List.range_eq_range']
  simpa using this
theorem defer_call {C : Ctx} {call : CallE} (hC : CallOK C call) (D : DeferFn C) {args : List AV} {H H' : Heap} {v : AV} (h : D.run call args H = some (v, H')) : CallAt C D.f args H v H' := by
  intro ρ w xs sm hx
  obtain ⟨s0, hs0, h⟩ := Option.bind_eq_some_iff.1 h
  obtain ⟨s1, hs1, h⟩ := Option.bind_eq_some_iff.1 h
  obtain ⟨s2, hs2, h⟩ := Option.bind_eq_some_iff.1 h
  obtain ⟨s3, hs3, h⟩ := Option.bind_eq_some_iff.1 h
  obtain ⟨fv, hfv, h⟩ := Option.bind_eq_some_iff.1 h
  cases fv <;> simp only [reduceCtorEq] at h
  rename_i fg first caps
  cases fg <;> simp only [reduceCtorEq] at h
  rename_i g'
  split at h
  rotate_left
  · simp at h
  rename_i hgg
  have hgg := Nat.eq_of_beq_eq_true hgg
  subst hgg
  cases first with
  | cons _ _ => simp at h
  | nil =>
  simp only at h
  obtain ⟨s4, hs4, h⟩ := Option.bind_eq_some_iff.1 h
  obtain ⟨d0, hd0, h⟩ := Option.bind_eq_some_iff.1 h
  obtain ⟨d1, hd1, h⟩ := Option.bind_eq_some_iff.1 h
  obtain ⟨vs, hvs, h⟩ := Option.bind_eq_some_iff.1 h
  simp only [Option.some.injEq, Prod.mk.injEq] at h
  obtain ⟨hv, hpop⟩ := h
  have hname' : ¬ D.fn.name = "runtime.NumGoroutine" := fun e => by have := D.hn; rw [e] at this; simp at this
  refine .inr ⟨D.f, xs.toArray, ?_, ?_⟩
  · simp [callFunc, D.hf, hname', D.hb]
  refine callsIn_of_wp_marks D.hf D.hb trivial ?_
  obtain ⟨o1, o2⟩ := sm.opened
  obtain ⟨e0, hH0⟩ := enter_env (w := w) hs0 hx
  have sm0 : Sim ρ s0.H w := by rw [hH0]; exact o1
  refine wpIn_seq (region_wp (r := none) hC hs1 sm0 e0 fun a1 w1 ρ1 m1 t1 e1 k1 => ?_)
  show Code.wpIn _ _ _ _ _ _ _
  refine wpIn_seq (region_wp (r := none) hC hs2 m1 e1 fun a2 w2 ρ2 m2 t2 e2 k2 => ?_)
  show Code.wpIn _ _ _ _ _ _ _
  refine wpIn_seq (wpIn_region ?_)
  have hrange : List.range (#[D.mo, D.df] : Array Oper).size = [0, 1] := rfl
  rw [hrange, wpOpsIn_cons]
  have hw2 : s2.wT = { s2 with ts := [] } := by cases s2; rfl
  rw [hw2] at hs3
  have m2' : Sim ρ2 ({ s2 with ts := [] } : St).H w2 := m2
  obtain ⟨f1, f2, f3⟩ := freshen_run m2' e2.fresh D.mo
  refine op_wp (r := none) hC (ops := #[D.mo, D.df]) rfl hs3 f1 f3 fun a3 w3 ρ3 m3 t3 e3 k3 => ?_
  rw [wpOpsIn_cons]
  unfold wpOpIn
  have hdf : (#[D.mo, D.df] : Array Oper)[1]? = some D.df := rfl
  simp only [hdf]
  have hwant : Region.wanted D.df (yielded #[D.mo, D.df] a3.tmps) = true := by simp [Region.wanted, D.hdg]
  rw [if_pos hwant]
  have hfval := e3.val _ _ hfv
  obtain ⟨first', cap', hfe, hfi, hca⟩ := hfval.args
  have hfi0 : first'.size = 0 := by have := hfi.1; simpa using this
  have hfirst : first' = #[] := Array.eq_empty_of_size_eq_zero hfi0
  subst hfirst
  refine ⟨fun f _ => trivial, ?_⟩
  have hsem : (D.df.semAt Fence.wide.round a3.eval).run C.P w3 = .ok (.defer { target := .fn (.func D.g) cap', args := #[] }) w3 := by
    have hrd : Fence.wide.round = none := rfl
    rw [hrd, Oper.semAt_none]
    have hev : a3.eval (.tmp D.t) = .func (.func D.g) #[] cap' := hfe
    simp [execOp, D.hd, resolve, Deferred.ofValue, hev]
  rw [hsem, Oper.uponIn_defer]
  have hput : (({ a3 with defers := { target := .fn (.func D.g) cap', args := #[] } :: a3.defers } : Act).put D.df.dst undef) = { a3 with defers := { target := .fn (.func D.g) cap', args := #[] } :: a3.defers } := by rw [D.hdd]; rfl
  rw [hput]
  show Code.wpIn _ _ _ _ _ _ _
  have e3' : EnvR ρ3 s3 { a3 with defers := { target := .fn (.func D.g) cap', args := #[] } :: a3.defers } := ⟨e3.size, e3.val⟩
  refine wpIn_seq (region_wp (r := none) hC hs4 m3 e3' fun a4 w4 ρ4 m4 t4 e4 k4 => ?_)
  show Code.wpIn _ _ _ _ _ _ _
  refine wpIn_ret ?_
  show LeavesInM _ _ _ _ _ _ _ _ _
  have hds : a4.defers = [{ target := .fn (.func D.g) cap', args := #[] }] := by rw [k4]; simp only; rw [k3, k2, k1]
  rw [hds]
  have hcaps : VRs ρ4 caps cap'.toList := ⟨hca.1, fun i h1 h2 => (hca.2 i h1 h2).mono t4.le⟩
  obtain ⟨q1, q2⟩ := m4.opened
  obtain ⟨eg, hHg⟩ := enter_env (w := w4) hd0 hcaps
  have hname2 : ¬ D.gn.name = "runtime.NumGoroutine" := fun e => by have := D.hgn; rw [e] at this; simp at this
  refine ⟨by simp, .inr ⟨fun hh => (by cases hh), .func D.g, cap', D.g, cap', rfl, ?_, fun _ _ => trivial, ?_⟩⟩
  · simp [invoke, callFunc, D.hg, hname2, D.hgb]
  have hcap' : cap' = cap'.toList.toArray := by simp
  refine (callsDIn_of_wp (R := fun e w5 => match e with
      | .returned _ => LeavesInM Fence.wide 0 C.P D.fn a4.tmps (After ρ H w v H') [] .returning w5
      | _ => False) D.hg D.hgb trivial ?_).mono ?_
  · rw [hcap']
    refine region_wp (r := none) hC hd1 (by rw [hHg]; exact q1) eg fun a5 w5 ρ5 m5 t5 e5 k5 => ?_
    rw [hHg] at t5
    obtain ⟨x0, r1, r2⟩ := results_run (fn := D.gn) (vs := []) m5 e5 (by rw [D.hgr]; rfl)
    refine ⟨k5, x0, r1, ?_⟩
    obtain ⟨p1, p2⟩ := m5.pop (.tup [])
    have t6 := (q2.trans t5).trans p2
    have e6 : EnvR ρ5 (s4.wH (popTo (.tup []) d1.H)) a4 := by
      have : EnvR ρ5 s4 a4 := e4.mono t6.le
      obtain ⟨ks, vs, ts, sz, H9⟩ := s4
      exact ⟨this.size, this.val⟩
    have m6 : Sim ρ5 (s4.wH (popTo (.tup []) d1.H)).H w5 := by obtain ⟨ks, vs, ts, sz, H9⟩ := s4; exact p1
    obtain ⟨x, z1, z2⟩ := results_run m6 e6 hvs
    obtain ⟨y1, y2⟩ := p1.pop (oneOr vs)
    rw [hpop] at y1 y2
    have tA : Step ρ s0.H w ρ2 s2.H w2 := t1.trans t2
    have tB : Step ρ2 s2.H w2 ρ3 s3.H w3 := f2.trans t3
    have tall : Step ρ H w ρ5 H' w5 := by
      have o2' : Step ρ H w ρ s0.H w := by rw [hH0]; exact o2
      exact ((((o2'.trans tA).trans tB).trans t4).trans t6).trans y2
    exact ⟨x, z1, x, ρ5, rfl, hv ▸ z2, y1, tall⟩
  · rintro e u' w5 ⟨rfl, hR⟩
    cases e with
    | returned _ => exact hR
    | panicked _ => exact hR.elim
    | outgrown => exact hR.elim
end
end Go.Proofs.YtdmgdkejbhoegaaGreatDoor
namespace Go.Proofs.YtdmgdkejbhoegaaGreatDoor
set_option linter.unusedSimpArgs false
set_option linter.unusedVariables false
open Go Go.RowKit
set_option maxRecDepth 100000
def ascR : Str → Bool
  | [] => true
  | c :: r => match Nat.blt c.toNat 128 with
    | true => ascR r
    | false => false
theorem ascR_ok : ∀ {s : Str}, ascR s = true → asciiB s
  | [], _, c, hc => by cases hc
  | d :: r, h, c, hc => by
    unfold ascR at h
    split at h
    · rename_i hd
      rcases List.mem_cons.1 hc with rfl | hc
      · simpa using hd
      · exact ascR_ok h c hc
    · cases h
noncomputable def a71 : Entry Tryz.prog := ⟨71, fun args H => match args with
  | [.str W, .str x] => match ascR W && (Nat.ble W.length 90000 && Nat.ble x.length 1000) with
    | true => some (.bool (inB W x), H)
    | false => none
  | _ => none, fun args H v H' h => by
    split at h
    · rename_i W x
      split at h
      · rename_i hl
        rw [Bool.and_eq_true, Bool.and_eq_true] at hl
        simp only [Option.some.injEq, Prod.mk.injEq] at h
        obtain ⟨rfl, rfl⟩ := h
        rw [inB_eq]
        have h1 := Nat.le_of_ble_eq_true hl.2.1
        have h2 := Nat.le_of_ble_eq_true hl.2.2
        have hw := wsplit_len W
        exact (c71 (T := [e117, e118]) rfl rfl W x (by omega) (by omega) (c120 W (ascR_ok hl.1) (by omega)) (c119 (T := [e147]) rfl _ x (by omega))).lift (by simp [pureL, pureV]) H
      · cases h
    · cases h⟩
noncomputable def a12 : Entry Tryz.prog := ⟨12, fun args H => match args with
  | [.str s, .str c] => match eqN c blC with
    | true => some (.str (s.dropWhile sp), H)
    | false => none
  | _ => none, fun args H v H' h => by
    split at h
    · rename_i s c
      split at h
      · rename_i hl
        rw [eqN_eq] at hl
        have hl := of_decide_eq_true hl
        subst hl
        simp only [Option.some.injEq, Prod.mk.injEq] at h
        obtain ⟨rfl, rfl⟩ := h
        exact (c12b (T := []) s).lift (by simp [pureL, pureV]) H
      · cases h
    · cases h⟩
noncomputable def TB : List (Entry Tryz.prog) := [a40, a71, a12, r188]
def seqL : Code → List Code
  | .seq a b => a :: seqL b
  | c => [c]
def opsAt (f : Func) (k : Nat) : Array Oper := match f.body with
  | some c => match (seqL c)[k]? with
    | some (.region _ ops _) => ops
    | _ => #[]
  | none => #[]
noncomputable def dOut : DeferFn (ctx TB) where
  f := 72
  fn := Tryz.f72
  i0 := 0
  i1 := 1
  i2 := 2
  i3 := 3
  o0 := opsAt Tryz.f72 0
  o1 := opsAt Tryz.f72 1
  o3 := opsAt Tryz.f72 3
  mo := (opsAt Tryz.f72 2)[0]'(by decide +kernel)
  df := (opsAt Tryz.f72 2)[1]'(by decide +kernel)
  t := 8
  ty := #[]
  g := 121
  gn := Tryz.f121
  ig := 0
  og := opsAt Tryz.f121 0
  hf := Tryz.func72
  hn := by decide +kernel
  hb := rfl
  hd := rfl
  hdd := rfl
  hdg := rfl
  hg := Tryz.func121
  hgn := by decide +kernel
  hgb := rfl
  hgr := rfl
noncomputable def a72 : Entry Tryz.prog := ⟨72, fun args H => dOut.run (callN (ctx TB) 100000) args H, fun args H v H' h => defer_call (call_ok mixed (mkC_ok _ _ _) 100000) dOut h⟩
noncomputable def TB2 : List (Entry Tryz.prog) := a72 :: TB
end Go.Proofs.YtdmgdkejbhoegaaGreatDoor
