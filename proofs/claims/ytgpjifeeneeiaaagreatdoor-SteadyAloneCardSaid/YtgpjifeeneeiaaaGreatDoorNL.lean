/- Headings, markers, void elements, in both codes. No condition. -/
import Derived.Test.YtgpjifeeneeiaaaGreatDoorNK
namespace Go.Proofs.YtgpjifeeneeiaaaGreatDoor
set_option linter.unusedSimpArgs false
set_option linter.unusedVariables false
open Go Go.RowKit
set_option maxRecDepth 100000
structure FactR (C : Ctx) where
 b : Nat
 args : List AV
 H : Heap
 v : AV
 H' : Heap
 ok : YieldAt C b args H v H'
open Classical in
noncomputable def callR {C : Ctx} : List (FactR C) → CallE → CallE
 | [], call, c, args, H => call c args H
 | x :: r, call, c, args, H => if c = .yl x.b ∧ args = x.args ∧ H = x.H then some (x.v, x.H') else callR r call c args H
theorem callR_ok {C : Ctx} {call : CallE} (hc : CallOK C call) : ∀ (l : List (FactR C)), CallOK C (callR l call)
 | [] => hc
 | x :: r => {
  fn := fun f args H v H' h => by
   unfold callR at h
   split at h
   ·rename_i hx
    cases hx.1
   ·exact (callR_ok hc r).fn f args H v H' h
  yl := fun b args H v H' h => by
   unfold callR at h
   split at h
   ·rename_i hx
    obtain ⟨hf, rfl, rfl⟩ := hx
    simp only [Option.some.injEq, Prod.mk.injEq] at h
    obtain ⟨rfl, rfl⟩ := h
    cases hf
    exact x.ok
   ·exact (callR_ok hc r).yl b args H v H' h }
theorem callOKR {T : List (Entry Tryz.prog)} (l : List (FactR (ctx T))) : CallOK (ctx T) (callR l (callL (ctx T))) := callR_ok callOK l
theorem callR_hit {C : Ctx} {b : Nat} {args : List AV} {H H' : Heap} {v : AV} {ok : YieldAt C b args H v H'} {r : List (FactR C)} {call : CallE} : callR (⟨b, args, H, v, H', ok⟩ :: r) call (.yl b) args H = some (v, H') := by simp [callR]
section
variable {C : Ctx} {call : CallE} {ops : Array Oper} {H0 : Heap} {s : St} {o : Oper} {l : List Oper} {P : St → Prop}
theorem gate_splitK {b : Bool} (h1 : b = true → ∃ s', thenK C call ops H0 (gateV C call s o (some true)) l = some s' ∧ P s') (h2 : b = false → ∃ s', thenK C call ops H0 (gateV C call s o (some false)) l = some s' ∧ P s') :
  ∃ s', thenK C call ops H0 (gateV C call s o (some b)) l = some s' ∧ P s' := by
 cases b with
 | true => exact h1 rfl
 | false => exact h2 rfl
end
theorem getF_none1 {b k : Nat} {x : Blk} (h : k ≠ b) : getF b [(k, x)] = none := by unfold getF; rw [beqN_ne h]; rfl
structure FactP (C : Ctx) where
 f : FuncId
 args : List AV
 v : AV
 pure : pureL args = true
 ok : CallAt C f args ⟨0, []⟩ v ⟨0, []⟩
open Classical in
noncomputable def callP {C : Ctx} : List (FactP C) → CallE → CallE
 | [], call, c, args, H => call c args H
 | x :: r, call, c, args, H => if c = .fn x.f ∧ args = x.args then some (x.v, H) else callP r call c args H
theorem callP_ok {C : Ctx} {call : CallE} (hc : CallOK C call) : ∀ (l : List (FactP C)), CallOK C (callP l call)
 | [] => hc
 | x :: r => {
  fn := fun f args H v H' h => by
   unfold callP at h
   split at h
   ·rename_i hx
    obtain ⟨hf, rfl⟩ := hx
    simp only [Option.some.injEq, Prod.mk.injEq] at h
    obtain ⟨rfl, rfl⟩ := h
    cases hf
    exact x.ok.lift x.pure _
   ·exact (callP_ok hc r).fn f args H v H' h
  yl := fun b args H v H' h => by
   unfold callP at h
   split at h
   ·rename_i hx
    cases hx.1
   ·exact (callP_ok hc r).yl b args H v H' h }
theorem callOKP {T : List (Entry Tryz.prog)} (l : List (FactP (ctx T))) : CallOK (ctx T) (callP l (callL (ctx T))) := callP_ok callOK l
theorem callP_hit {C : Ctx} {f : FuncId} {args : List AV} {H : Heap} {v : AV} {hp : pureL args = true} {ok : CallAt C f args ⟨0, []⟩ v ⟨0, []⟩} {r : List (FactP C)} {call : CallE} : callP (⟨f, args, v, hp, ok⟩ :: r) call (.fn f) args H = some (v, H) := by simp [callP]
def rgIn : Code → Option (Code × Code)
 | .rangeFunc _ _ a b => some (a, b)
 | .seq a b => match rgIn a with
  | some x => some x
  | none => rgIn b
 | .block _ b => rgIn b
 | .loop b => rgIn b
 | .cond _ a b => match rgIn a with
  | some x => some x
  | none => rgIn b
 | _ => none
def rgA (o : Option Code) : Code := match o.bind rgIn with
 | some x => x.1
 | none => .skip
def rgB (o : Option Code) : Code := match o.bind rgIn with
 | some x => x.2
 | none => .skip
def rowsB (b : Nat) (R : List (Nat × Blk)) : Prop := (R.map (·.1)).Nodup ∧ ∀ e, e ∈ R → e.1 < b ∧ ∃ cs, e.2 = .cells cs ∧ pureL cs = true
structure RgK where
 ks : List Nat
 vs : List AV
 sz : Nat
 ps : List Nat
 as' : Code
 bd : Code
def RgK.blk (K : RgK) (st : LoopState) (pend : Option Code) (ts : List (Nat × AV)) : Blk := .loop st pend K.ks K.vs ts K.sz K.ps K.as' K.bd
def RgK.rows {ρ : Type} (K : RgK) (b : Nat) (R : Option ρ → List (Nat × Blk)) : Option ρ → List (Nat × Blk)
 | none => (b, K.blk .ready none []) :: R none
 | some r => (b, K.blk .done (some .ret) []) :: R (some r)
structure RgK.Ok {ρ : Type} (K : RgK) (b : Nat) (R : Option ρ → List (Nat × Blk)) : Prop where
 vs : ∀ σ, Idl b σ → fitL σ [] K.vs K.vs
 rows : ∀ c, rowsB b (R c)
section
variable {ρ : Type} {K : RgK} {b : Nat} {R : Option ρ → List (Nat × Blk)}
theorem RgK.Ok.self (h : K.Ok b R) (st : LoopState) (pend : Option Code) (ts : List (Nat × AV)) : ∀ σ, Idl (b + 1) σ → fitB σ [] (K.blk st pend ts) (K.blk st pend []) := fun σ hσ =>
 ⟨rfl, rfl, rfl, h.vs σ fun i hi => hσ i (by omega), rfl, rfl, rfl, rfl, rfl⟩
theorem RgK.Ok.fit (h : K.Ok b R) {N m : Nat} {st : LoopState} {pend : Option Code} {ts : List (Nat × AV)} {c : Option ρ} {H : Heap} (hN : N ≤ b + 1) (hm : b + 1 ≤ m) (hb : H.get b = some (K.blk st pend ts)) (hr : ∀ e, e ∈ R c → H.get e.1 = some e.2)
  {fs : List (List (Nat × Blk))} (hfs : fs.flatten = (b, K.blk st pend []) :: R c) : FitH N (idn (b + 1)) [] H ⟨m, fs⟩ where
 nd1 := by simpa using idn_nd (b + 1)
 nd2 := idn_nd2 (b + 1)
 nd3 := by
  simp only [Heap.ents, hfs, List.map_cons, List.nodup_cons]
  refine ⟨fun hx => ?_, (h.rows c).1⟩
  obtain ⟨e, he, hx⟩ := List.mem_map.1 hx
  have := ((h.rows c).2 e he).1
  omega
 lt := fun x hx => by
  obtain ⟨i, hi, rfl⟩ := List.mem_map.1 hx
  have : i < b + 1 := by simpa using hi
  show i < m; omega
 idn := fun x hx hlt => by
  obtain ⟨i, hi, rfl⟩ := List.mem_map.1 hx
  rfl
 num := by show N ≤ m; omega
 src := fun e he => by
  simp only [Heap.ents, hfs, List.mem_cons] at he
  rcases he with rfl | he
  ·exact ⟨b, _, idn_mem (Nat.lt_succ_self b), hb, h.self _ _ _ _ (idl_idn (b + 1))⟩
  ·obtain ⟨h1, cs, h2, h3⟩ := (h.rows c).2 e he
   refine ⟨e.1, e.2, idn_mem (by omega), hr e he, ?_⟩
   rw [h2]
   exact fitL_pure h3
 frz := fun x h => by cases h
def runB (go : Nat → Option ρ) : Nat → Option ρ
 | 0 => none
 | j + 1 => match go j with
  | some r => some r
  | none => runB go j
def outB : Option ρ → Out
 | none => .normal
 | some _ => .ret
theorem round_K {T : List (Entry Tryz.prog)} (h : K.Ok b R) {args : List AV} {g : Option ρ} {s1 : St} (hp : putPs ⟨K.ks, K.vs, [], K.sz, ⟨b + 1, [[], [], (b, K.blk .ready none []) :: R none]⟩⟩ K.ps args = some s1)
  (hw : ∀ l, WpSr (ctx T) (b + 1) (some l) K.as' s1 fun x s => x = .normal ∧ ∃ m f, s.H = ⟨m, [f, [], (b, K.blk .ready none []) :: R none]⟩ ∧ getF b f = none ∧
   ∀ B, B = K.blk .busy none [] → WpSr (ctx T) (b + 1) (some l) K.bd { s with H := ⟨m, [f, [], (b, B) :: R none]⟩ } fun x s' => ∃ m' f', (∀ i, i < b + 1 → getF i f' = none) ∧ s'.H = ⟨m', [f', [], (b, B) :: R g]⟩ ∧ x = outB g) :
  YieldAt (ctx T) b args ⟨b + 1, [[], (b, K.blk .ready none []) :: R none]⟩ (.bool g.isNone) ⟨b + 1, [[], K.rows b R g]⟩ := by
 refine yieldAt_body (pend := none) (ks := K.ks) (vs := K.vs) (ts := []) (sz := K.sz) (ps := K.ps) (assign := K.as') (body := K.bd) (by simp [Heap.get, getFs, getF, RgK.blk]) hp fun l => ?_
 refine (hw l).mono fun x s hs => ?_
 obtain ⟨rfl, m, f, hH, hf, hb⟩ := hs
 refine ⟨rfl, none, K.ks, K.vs, [], K.sz, K.ps, K.as', K.bd, ⟨m, [f, [], (b, K.blk .busy none []) :: R none]⟩, ?_, ?_, (hb _ rfl).mono fun x s' hs' => ?_⟩
 ·rw [hH]; simp [Heap.get, getFs, getF, hf, RgK.blk]
 ·rw [hH]
  have hn : setF b (K.blk .busy none []) f = none := sF_none hf
  unfold RgK.blk at hn
  simp [Heap.set, setFs, setF, hn, RgK.blk]
 ·obtain ⟨m', f', hf', hH', rfl⟩ := hs'
  have hfb := hf' b (Nat.lt_succ_self b)
  have hn : ∀ k, setF b k f' = none := fun k => sF_none hfb
  refine ⟨.busy, none, K.ks, K.vs, [], K.sz, K.ps, K.as', K.bd, ⟨m', [f', [], (b, K.blk (leaveA (outB g)).2.1 (leaveA (outB g)).2.2 []) :: R g]⟩, ?_, ?_, ?_, idn (b + 1), [], ?_⟩
  ·rw [hH']; simp [Heap.get, getFs, getF, hfb, RgK.blk]
  ·rw [hH']; simp [Heap.set, setFs, setF, hn, RgK.blk]
  ·cases g <;> rfl
  ·have hg : ∀ e, e ∈ R g → Heap.get ⟨m', [f', [], (b, K.blk (leaveA (outB g)).2.1 (leaveA (outB g)).2.2 []) :: R g]⟩ e.1 = some e.2 := fun e he => by
    have h1 := ((h.rows g).2 e he).1
    have h2 : Nat.beq b e.1 = false := beqN_ne (by omega)
    simp only [Heap.get, getFs, hf' e.1 (by omega), getF, h2]
    rw [gF_of (h.rows g).1 he]
   refine h.fit (c := g) (st := (leaveA (outB g)).2.1) (pend := (leaveA (outB g)).2.2) (ts := []) (Nat.le_refl _) (Nat.le_refl _) (by simp [Heap.get, getFs, getF, hfb]) hg ?_
   cases g <;> simp [RgK.rows, outB, leaveA]
end
def bkVN (L : List Nd) : AV := .func (.func 122) [] [.fptr [aNodes L] 0]
theorem pure_bkVN (L : List Nd) : pureV (bkVN L) = true := by simp [bkVN, pureV, pureL]
theorem c84 {T : List (Entry Tryz.prog)} (L : List Nd) : CallAt (ctx T) 84 [aNodes L] ⟨0, []⟩ (bkVN L) ⟨0, []⟩ := by
 refine callAt_body (fn := Tryz.f84) (s0 := ⟨[0, 1, 2], [aNodes L, .undef, .undef], [], 4, ⟨0, [[]]⟩⟩) Tryz.func84 rfl rfl rfl ?_
 repeat apply wq
 refine wps_region callOK ?_
 simp [zS]
 repeat apply wq
 refine wps_region callOK ?_
 simp [zS]
 repeat apply wq
 refine wps_ret ?_
 simp [retVal, Tryz.f84, oneOr]
 refine ⟨[], [(0, [aNodes L])], by simp [bkVN, fitV, fitL, lookC], .froze (by simp) fun x hx => ?_⟩
 rw [List.mem_singleton] at hx
 subst hx
 exact ⟨[aNodes L], by simp [Heap.get, getFs, getF], fitL_pure (by simp [pureL]), by simp [pureL]⟩
noncomputable def e84 : Entry Tryz.prog := mkE 84 [[7]] (fun L : List Nd => [aNodes L]) (fun _ => True) bkVN fun L _ => c84 (T := []) L
theorem k84 {T : List (Entry Tryz.prog)} (hT : findE 84 T = some e84.g) (L : List Nd) (H : Heap) : callL (ctx T) (.fn 84) [aNodes L] H = some (bkVN L, H) :=
 mkE_pure hT (fun x y h => by simp only [List.cons.injEq, and_true] at h; exact inj_aNodes h) L trivial (by simp [pureL]) (by simp [thawL]) H
section
variable {ρ : Type} {K : RgK} {b : Nat} {R : Option ρ → List (Nat × Blk)}
theorem back_callN {T : List (Entry Tryz.prog)} (h : K.Ok b R) (L : List Nd) (hl : L.length ≤ 1000000) (go : Nat → Option ρ) (hy : ∀ j (hj : j < L.length), YieldAt (ctx T) b [.int .i64 (j : Int), aNode L[j]] ⟨b + 1, [[], (b, K.blk .ready none []) :: R none]⟩ (.bool (go j).isNone) ⟨b + 1, [[], K.rows b R (go j)]⟩) :
  CallAt (ctx T) 122 [.yld b, .fptr [aNodes L] 0] ⟨b + 1, [(b, K.blk .ready none []) :: R none]⟩ (.tup []) ⟨b + 1, [K.rows b R (runB go L.length)]⟩ := by
 obtain ⟨w, hw⟩ : ∃ w : Int, w = (L.length : Int) - 1 := ⟨_, rfl⟩
 have hws : wr .i64 ((L.length : Int) - 1) = some w := by rw [hw]; exact wr_small (by omega) (by omega)
 have lb : lookN b (idn (b + 1)) = some b := lookN_idn (Nat.lt_succ_self b)
 have gb : ∀ {c : Option ρ} {n : Nat}, ∀ e, e ∈ R c → Heap.get ⟨n, [[], K.rows b R c]⟩ e.1 = some e.2 := fun {c n} e he => by
  have h1 := ((h.rows c).2 e he).1
  have h2 : Nat.beq b e.1 = false := beqN_ne (by omega)
  cases c with
  | none => simp only [Heap.get, getFs, getF, RgK.rows, h2]; rw [gF_of (h.rows _).1 he]
  | some r => simp only [Heap.get, getFs, getF, RgK.rows, h2]; rw [gF_of (h.rows _).1 he]
 have lnL : ∀ H, lenA Tryz.prog H 22 (aNodes L) = some L.length := fun H => lenN
 refine callAt_body (fn := Tryz.f122) (s0 := ⟨[0, 1, 3], [.yld b, .fptr [aNodes L] 0, .undef], [], 19, ⟨b + 1, [] :: [(b, K.blk .ready none []) :: R none]⟩⟩) Tryz.func122 rfl rfl rfl ?_
 repeat apply wq
 refine wps_region callOK ?_
 simp [zS, lnL, hws]
 repeat apply wq
 refine wps_block (wps_loop' (fun x : Nat × Int => (⟨[0, 1, 3], [.yld b, .fptr [aNodes L] 0, .int .i64 x.2], [], 19, ⟨b + 1, [[], (b, K.blk .ready none []) :: R none]⟩⟩ : St))
  (fun x => x.1 ≤ L.length ∧ x.2 = (x.1 : Int) - 1 ∧ runB go L.length = runB go x.1) (fun x => x.1) (idn (b + 1)) [] (L.length, w) ⟨Nat.le_refl _, hw, rfl⟩
  ⟨rfl, rfl, rfl, by simp [fitL, fitV, pureV, pureL, lb], h.fit (c := none) (st := .ready) (pend := none) (ts := []) (Nat.le_refl _) (Nat.le_refl _) (by simp [Heap.get, getFs, getF, RgK.rows]) (gb (c := none)) (by simp)⟩ ?_)
 rintro ⟨j, v⟩ ⟨hj, hv, hx⟩ B hB
 simp only at hj hv hx
 cases j with
 | zero =>
  have hn : ¬ 0 ≤ v := by omega
  repeat apply wq
  refine wps_region callOK ?_
  simp [zS, hn]
  repeat apply wq
  refine wps_cf rfl ?_
  repeat apply wq
  refine wps_exit ?_
  simp
  refine ⟨[], rfl, idn (b + 1), [], by simp [oneOr, fitV, fitL], ?_⟩
  rw [hx]
  exact h.fit (c := none) (st := .ready) (pend := none) (ts := []) (Nat.le_refl _) (Nat.le_refl _) (by simp [Heap.get, getFs, getF, RgK.rows]) (gb (c := none)) (by simp [runB, RgK.rows])
 | succ q =>
  have hvq : v = (q : Int) := by omega
  subst hvq
  have hq : q < L.length := by omega
  have hyq := hy q hq
  have hix : indexAddrA Tryz.prog 22 (aNodes L) (.int .i64 (q : Int)) = some (.fptr (L[q]).cs 0) := by rw [atX (by omega) (by omega), nodeAt_get hq]
  have hn : (0 : Int) ≤ (q : Int) := by omega
  have hs1 : wr .i64 ((q : Int) - 1) = some ((q : Int) - 1) := wr_small (by omega) (by omega)
  simp only [runB] at hx
  generalize L[q] = x at *
  repeat apply wq
  refine wps_region callOK ?_
  simp [zS, hn]
  repeat apply wq
  refine wps_ct rfl ?_
  repeat apply wq
  refine wps_skip ?_
  simp
  repeat apply wq
  refine wps_block ?_
  obtain ⟨g, hg⟩ : ∃ g, go q = g := ⟨_, rfl⟩
  rw [hg] at hx hyq
  cases g with
  | some r =>
   simp only [Option.isNone_some] at hyq
   repeat apply wq
   refine wps_region (callOKR [⟨b, _, _, _, _, hyq⟩]) ?_
   simp [zS, hix, nd_fold, callR_hit]
   repeat apply wq
   refine wps_ct rfl ?_
   repeat apply wq
   refine wps_ret ?_
   simp [thenQ, blockQ]
   refine ⟨[], rfl, idn (b + 1), [], by simp [oneOr, fitV, fitL], ?_⟩
   rw [hx]
   exact h.fit (c := some r) (st := .done) (pend := some .ret) (ts := []) (Nat.le_refl _) (Nat.le_refl _) (by simp [Heap.get, getFs, getF, RgK.rows]) (gb (c := some r)) (by simp [RgK.rows])
  | none =>
   simp only [Option.isNone_none] at hyq
   repeat apply wq
   refine wps_region (callOKR [⟨b, _, _, _, _, hyq⟩]) ?_
   simp [zS, hix, nd_fold, callR_hit]
   repeat apply wq
   refine wps_cf rfl ?_
   repeat apply wq
   refine wps_skip ?_
   simp
   repeat apply wq
   refine wps_region callOK ?_
   simp [zS, hs1]
   exact hB _ (q, (q : Int) - 1) (by simp) ⟨by simp only; omega, rfl, hx⟩ ⟨idn (b + 1), [], rfl, rfl, rfl, by simp [fitL, fitV, pureV, pureL, lb], h.fit (c := none) (st := .ready) (pend := none) (ts := []) (Nat.le_refl _) (Nat.le_refl _) (by simp [Heap.get, getFs, getF, RgK.rows]) (gb (c := none)) (by simp)⟩
theorem back_rangeN {T : List (Entry Tryz.prog)} (h : K.Ok b R) (L : List Nd) {ts : List (Nat × AV)} {g : Operand} {ps : Array Nat} (hps : ps.toList = K.ps) (ho : opnd ⟨K.ks, K.vs, ts, K.sz, ⟨b, [R none]⟩⟩ g = some (bkVN L)) {r : Option ρ} {call : CallE}
  (hc : call (.fn 122) [.yld b, .fptr [aNodes L] 0] ⟨b + 1, [(b, K.blk .ready none ts) :: R none]⟩ = some (.tup [], ⟨b + 1, [K.rows b R r]⟩)) :
  evalRange (ctx T) call g ps K.as' K.bd ⟨K.ks, K.vs, ts, K.sz, ⟨b, [R none]⟩⟩ = some (outB r, ⟨K.ks, K.vs, ts, K.sz, ⟨b + 1, [R r]⟩⟩) := by
 have hent : entersF (ctx T) 122 = true := by kernel_rfl
 unfold evalRange
 rw [ho]
 simp only [Option.bind_some, hent, bkVN, hps]
 have e : call (.fn 122) ([] ++ [.yld b] ++ [.fptr [aNodes L] 0]) (Heap.new ⟨b, [R none]⟩ (.loop .ready none K.ks K.vs ts K.sz K.ps K.as' K.bd)) = some (.tup [], ⟨b + 1, [K.rows b R r]⟩) := hc
 rw [e]
 cases r with
 | none => simp [Heap.get, getFs, getF, RgK.rows, RgK.blk, outB, St.wH, Heap.drop, killFs, killF]
 | some r => simp [Heap.get, getFs, getF, RgK.rows, RgK.blk, outB, St.wH, Heap.drop, killFs, killF, jumpOut]
theorem wps_backN {T : List (Entry Tryz.prog)} (h : K.Ok b R) (L : List Nd) (hl : L.length ≤ 1000000) (go : Nat → Option ρ) (hy : ∀ j (hj : j < L.length), YieldAt (ctx T) b [.int .i64 (j : Int), aNode L[j]] ⟨b + 1, [[], (b, K.blk .ready none []) :: R none]⟩ (.bool (go j).isNone) ⟨b + 1, [[], K.rows b R (go j)]⟩)
  {ts : List (Nat × AV)} {g : Operand} {ps : Array Nat} (hps : ps.toList = K.ps) (ho : opnd ⟨K.ks, K.vs, ts, K.sz, ⟨b, [R none]⟩⟩ g = some (bkVN L)) {n : Nat} {Q : Out → St → Prop} (hq : Q (outB (runB go L.length)) ⟨K.ks, K.vs, ts, K.sz, ⟨b + 1, [R (runB go L.length)]⟩⟩) :
  WpS (ctx T) n (.rangeFunc g ps K.as' K.bd) ⟨K.ks, K.vs, ts, K.sz, ⟨b, [R none]⟩⟩ Q := by
 have lb : lookN b (idn (b + 1)) = some b := lookN_idn (Nat.lt_succ_self b)
 have hcall : CallAt (ctx T) 122 [.yld b, .fptr [aNodes L] 0] ⟨b + 1, [(b, K.blk .ready none ts) :: R none]⟩ (.tup []) ⟨b + 1, [K.rows b R (runB go L.length)]⟩ :=
  (back_callN h L hl go hy).drop (σ := idn (b + 1)) (Φ := []) (fun _ => h.fit (c := none) (st := .ready) (pend := none) (ts := ts) (Nat.le_refl _) (Nat.le_refl _) (by simp [Heap.get, getFs, getF]) (fun e he => by
   have h1 := ((h.rows none).2 e he).1
   have h2 : Nat.beq b e.1 = false := beqN_ne (by omega)
   simp only [Heap.get, getFs, getF, h2]; rw [gF_of (h.rows _).1 he]) (by simp)) (by simp [fitL, fitV, pureV, pureL, lb])
 exact wps_range (callOKF [⟨122, _, _, _, _, hcall⟩]) ⟨_, _, back_rangeN (T := T) h L hps ho (r := runB go L.length) (by simp [callF]), hq⟩
end
abbrev lsSvg : Str := [100, 101, 115, 99, 32, 102, 111, 114, 101, 105, 103, 110, 79, 98, 106, 101, 99, 116, 32, 116, 105, 116, 108, 101]
abbrev lsMath : Str := [109, 105, 32, 109, 110, 32, 109, 111, 32, 109, 115, 32, 109, 116, 101, 120, 116]
abbrev lsSpecial : Str := [97, 100, 100, 114, 101, 115, 115, 32, 97, 112, 112, 108, 101, 116, 32, 97, 114, 101, 97, 32, 97, 114, 116, 105, 99, 108, 101, 32, 97, 115, 105, 100, 101, 32, 98, 97, 115, 101, 32, 98, 97, 115, 101, 102, 111, 110, 116, 32, 98, 103, 115, 111, 117, 110, 100, 32, 98, 108, 111, 99, 107, 113, 117, 111, 116, 101, 32, 98, 111, 100, 121, 32, 98, 114, 32, 98, 117, 116, 116, 111, 110, 32, 99, 97, 112, 116, 105, 111, 110, 32, 99, 101, 110, 116, 101, 114, 32, 99, 111, 108, 32, 99, 111, 108, 103, 114, 111, 117, 112, 32, 100, 100, 32, 100, 101, 116, 97, 105, 108, 115, 32, 100, 105, 114, 32, 100, 105, 118, 32, 100, 108, 32, 100, 116, 32, 101, 109, 98, 101, 100, 32, 102, 105, 101, 108, 100, 115, 101, 116, 32, 102, 105, 103, 99, 97, 112, 116, 105, 111, 110, 32, 102, 105, 103, 117, 114, 101, 32, 102, 111, 111, 116, 101, 114, 32, 102, 111, 114, 109, 32, 102, 114, 97, 109, 101, 32, 102, 114, 97, 109, 101, 115, 101, 116, 32, 104, 49, 32, 104, 50, 32, 104, 51, 32, 104, 52, 32, 104, 53, 32, 104, 54, 32, 104, 101, 97, 100, 32, 104, 101, 97, 100, 101, 114, 32, 104, 103, 114, 111, 117, 112, 32, 104, 114, 32, 104, 116, 109, 108, 32, 105, 102, 114, 97, 109, 101, 32, 105, 109, 103, 32, 105, 110, 112, 117, 116, 32, 107, 101, 121, 103, 101, 110, 32, 108, 105, 32, 108, 105, 110, 107, 32, 108, 105, 115, 116, 105, 110, 103, 32, 109, 97, 105, 110, 32, 109, 97, 114, 113, 117, 101, 101, 32, 109, 101, 110, 117, 32, 109, 101, 116, 97, 32, 110, 97, 118, 32, 110, 111, 101, 109, 98, 101, 100, 32, 110, 111, 102, 114, 97, 109, 101, 115, 32, 110, 111, 115, 99, 114, 105, 112, 116, 32, 111, 98, 106, 101, 99, 116, 32, 111, 108, 32, 111, 112, 116, 103, 114, 111, 117, 112, 32, 111, 112, 116, 105, 111, 110, 32, 112, 32, 112, 97, 114, 97, 109, 32, 112, 108, 97, 105, 110, 116, 101, 120, 116, 32, 112, 114, 101, 32, 115, 99, 114, 105, 112, 116, 32, 115, 101, 97, 114, 99, 104, 32, 115, 101, 99, 116, 105, 111, 110, 32, 115, 101, 108, 101, 99, 116, 32, 115, 111, 117, 114, 99, 101, 32, 115, 116, 121, 108, 101, 32, 115, 117, 109, 109, 97, 114, 121, 32, 116, 97, 98, 108, 101, 32, 116, 98, 111, 100, 121, 32, 116, 100, 32, 116, 101, 109, 112, 108, 97, 116, 101, 32, 116, 101, 120, 116, 97, 114, 101, 97, 32, 116, 102, 111, 111, 116, 32, 116, 104, 32, 116, 104, 101, 97, 100, 32, 116, 105, 116, 108, 101, 32, 116, 114, 32, 116, 114, 97, 99, 107, 32, 117, 108, 32, 119, 98, 114, 32, 120, 109, 112]
abbrev lsEnds : Str := [97, 112, 112, 108, 101, 116, 32, 99, 97, 112, 116, 105, 111, 110, 32, 104, 116, 109, 108, 32, 109, 97, 114, 113, 117, 101, 101, 32, 111, 98, 106, 101, 99, 116, 32, 116, 97, 98, 108, 101, 32, 116, 100, 32, 116, 101, 109, 112, 108, 97, 116, 101, 32, 116, 104]
abbrev lsTable : Str := [104, 116, 109, 108, 32, 116, 97, 98, 108, 101, 32, 116, 101, 109, 112, 108, 97, 116, 101]
def specialB (sp : Int) (x : Str) : Bool := if sp = 1 then inW lsSvg x else if sp = 2 then decide (x = [97, 110, 110, 111, 116, 97, 116, 105, 111, 110, 45, 120, 109, 108]) || inW lsMath x else decide (sp = 0) && inW lsSpecial x
def stopsB (sc sp : Int) (x : Str) : Bool :=
 if sc = 3 then decide (sp = 0) && inW lsTable x
 else if sc = 0 ∨ sc = 1 ∨ sc = 2 then
  if sp = 0 then (if x = [111, 108] ∨ x = [117, 108] then decide (sc = 1) else if x = [98, 117, 116, 116, 111, 110] then decide (sc = 2) else inW lsEnds x) else specialB sp x
 else !decide (sc = 4) || !decide (sp = 0) || (!decide (x = [111, 112, 116, 103, 114, 111, 117, 112]) && !decide (x = [111, 112, 116, 105, 111, 110]))
theorem c86 {T : List (Entry Tryz.prog)} (hc0 : findE 44 T = some e44a.g) (sp : Int) (x : Str) (hx : x.length ≤ 1000000000) : CallAt (ctx T) 86 [.int .i64 sp, .str x] ⟨0, []⟩ (.bool (specialB sp x)) ⟨0, []⟩ := by
 have kw0 := fun (x : Str) (hx : x.length ≤ 1000000000) (H : Heap) => k44a (W := [100, 101, 115, 99, 32, 102, 111, 114, 101, 105, 103, 110, 79, 98, 106, 101, 99, 116, 32, 116, 105, 116, 108, 101]) (x := x) hc0 (ascB (by decide)) (by decide) hx H
 have kw1 := fun (x : Str) (hx : x.length ≤ 1000000000) (H : Heap) => k44a (W := [109, 105, 32, 109, 110, 32, 109, 111, 32, 109, 115, 32, 109, 116, 101, 120, 116]) (x := x) hc0 (ascB (by decide)) (by decide) hx H
 have kw2 := fun (x : Str) (hx : x.length ≤ 1000000000) (H : Heap) => k44a (W := [97, 100, 100, 114, 101, 115, 115, 32, 97, 112, 112, 108, 101, 116, 32, 97, 114, 101, 97, 32, 97, 114, 116, 105, 99, 108, 101, 32, 97, 115, 105, 100, 101, 32, 98, 97, 115, 101, 32, 98, 97, 115, 101, 102, 111, 110, 116, 32, 98, 103, 115, 111, 117, 110, 100, 32, 98, 108, 111, 99, 107, 113, 117, 111, 116, 101, 32, 98, 111, 100, 121, 32, 98, 114, 32, 98, 117, 116, 116, 111, 110, 32, 99, 97, 112, 116, 105, 111, 110, 32, 99, 101, 110, 116, 101, 114, 32, 99, 111, 108, 32, 99, 111, 108, 103, 114, 111, 117, 112, 32, 100, 100, 32, 100, 101, 116, 97, 105, 108, 115, 32, 100, 105, 114, 32, 100, 105, 118, 32, 100, 108, 32, 100, 116, 32, 101, 109, 98, 101, 100, 32, 102, 105, 101, 108, 100, 115, 101, 116, 32, 102, 105, 103, 99, 97, 112, 116, 105, 111, 110, 32, 102, 105, 103, 117, 114, 101, 32, 102, 111, 111, 116, 101, 114, 32, 102, 111, 114, 109, 32, 102, 114, 97, 109, 101, 32, 102, 114, 97, 109, 101, 115, 101, 116, 32, 104, 49, 32, 104, 50, 32, 104, 51, 32, 104, 52, 32, 104, 53, 32, 104, 54, 32, 104, 101, 97, 100, 32, 104, 101, 97, 100, 101, 114, 32, 104, 103, 114, 111, 117, 112, 32, 104, 114, 32, 104, 116, 109, 108, 32, 105, 102, 114, 97, 109, 101, 32, 105, 109, 103, 32, 105, 110, 112, 117, 116, 32, 107, 101, 121, 103, 101, 110, 32, 108, 105, 32, 108, 105, 110, 107, 32, 108, 105, 115, 116, 105, 110, 103, 32, 109, 97, 105, 110, 32, 109, 97, 114, 113, 117, 101, 101, 32, 109, 101, 110, 117, 32, 109, 101, 116, 97, 32, 110, 97, 118, 32, 110, 111, 101, 109, 98, 101, 100, 32, 110, 111, 102, 114, 97, 109, 101, 115, 32, 110, 111, 115, 99, 114, 105, 112, 116, 32, 111, 98, 106, 101, 99, 116, 32, 111, 108, 32, 111, 112, 116, 103, 114, 111, 117, 112, 32, 111, 112, 116, 105, 111, 110, 32, 112, 32, 112, 97, 114, 97, 109, 32, 112, 108, 97, 105, 110, 116, 101, 120, 116, 32, 112, 114, 101, 32, 115, 99, 114, 105, 112, 116, 32, 115, 101, 97, 114, 99, 104, 32, 115, 101, 99, 116, 105, 111, 110, 32, 115, 101, 108, 101, 99, 116, 32, 115, 111, 117, 114, 99, 101, 32, 115, 116, 121, 108, 101, 32, 115, 117, 109, 109, 97, 114, 121, 32, 116, 97, 98, 108, 101, 32, 116, 98, 111, 100, 121, 32, 116, 100, 32, 116, 101, 109, 112, 108, 97, 116, 101, 32, 116, 101, 120, 116, 97, 114, 101, 97, 32, 116, 102, 111, 111, 116, 32, 116, 104, 32, 116, 104, 101, 97, 100, 32, 116, 105, 116, 108, 101, 32, 116, 114, 32, 116, 114, 97, 99, 107, 32, 117, 108, 32, 119, 98, 114, 32, 120, 109, 112]) (x := x) hc0 (ascB (by decide)) (by decide) hx H
 refine callAt_body (fn := Tryz.f86) (s0 := ⟨[0, 1, 4, 5], [.int .i64 sp, .str x, .undef, .undef], [], 24, ⟨0, [[]]⟩⟩) Tryz.func86 rfl rfl rfl ?_
 (repeat' (first
  | with_reducible refine wps_seq ?_
  | with_reducible refine wps_block ?_
  | (with_reducible refine wps_region callOK ?_; apply runE; simp [zS, *]; exact rfl)
  | (with_reducible refine run_end ?_; simp only [thenQ, blockQ])
  | (with_reducible refine gate_split (fun hc => ?_) (fun hc => ?_) <;> ((have hd := hc); (try simp at hd); (try subst hd); apply runE; simp [zS, *]; exact rfl))
  | (refine wps_cond rfl (fun hc => ?_) (fun hc => ?_) <;> ((have hd := hc); (try simp at hd); (try subst hd)))
  | (with_reducible refine wps_skip ?_; simp only [thenQ, blockQ])
  | (with_reducible refine wps_ret ?_; simp [retVal, Tryz.f86, oneOr, thenQ, blockQ])))
 all_goals first | exact ends_pure rfl (by simp [specialB, *]) | (exfalso; omega)
theorem inj_86 (x y : Int × Str) (h : (fun z : Int × Str => ([.int .i64 z.1, .str z.2] : List AV)) x = (fun z : Int × Str => ([.int .i64 z.1, .str z.2] : List AV)) y) : x = y := by
 obtain ⟨x0, x1⟩ := x
 obtain ⟨y0, y1⟩ := y
 simp only [List.cons.injEq, and_true] at h
 obtain ⟨h0, h1⟩ := h
 have g0 : x0 = y0 := AV.int.inj h0 |>.2
 have g1 : x1 = y1 := AV.str.inj h1
 subst g0 g1
 rfl
noncomputable def e86 : Entry Tryz.prog := mkE 86 [[], []] (fun z : Int × Str => [.int .i64 z.1, .str z.2]) (fun z => (z.2.length ≤ 1000000000)) (fun z => .bool (specialB z.1 z.2)) fun z h => c86 (T := [e44a]) rfl z.1 z.2 h
theorem k86 {T : List (Entry Tryz.prog)} (hT : findE 86 T = some e86.g) (sp : Int) (x : Str) (hx : x.length ≤ 1000000000) (H : Heap) : callL (ctx T) (.fn 86) [.int .i64 sp, .str x] H = some (.bool (specialB sp x), H) :=
 mkE_scalar hT inj_86 (sp, x) hx rfl (by simp [thawA_ok])
theorem c51 {T : List (Entry Tryz.prog)} (hc0 : findE 44 T = some e44a.g) (hc1 : findE 86 T = some e86.g) (sc : Int) (sp : Int) (x : Str) (hx : x.length ≤ 1000000000) : CallAt (ctx T) 51 [.int .i64 sc, .int .i64 sp, .str x] ⟨0, []⟩ (.bool (stopsB sc sp x)) ⟨0, []⟩ := by
 have kw0 := fun (x : Str) (hx : x.length ≤ 1000000000) (H : Heap) => k44a (W := [104, 116, 109, 108, 32, 116, 97, 98, 108, 101, 32, 116, 101, 109, 112, 108, 97, 116, 101]) (x := x) hc0 (ascB (by decide)) (by decide) hx H
 have kw1 := fun (x : Str) (hx : x.length ≤ 1000000000) (H : Heap) => k44a (W := [97, 112, 112, 108, 101, 116, 32, 99, 97, 112, 116, 105, 111, 110, 32, 104, 116, 109, 108, 32, 109, 97, 114, 113, 117, 101, 101, 32, 111, 98, 106, 101, 99, 116, 32, 116, 97, 98, 108, 101, 32, 116, 100, 32, 116, 101, 109, 112, 108, 97, 116, 101, 32, 116, 104]) (x := x) hc0 (ascB (by decide)) (by decide) hx H
 have kc1 := @k86 T hc1
 refine callAt_body (fn := Tryz.f51) (s0 := ⟨[0, 1, 2, 6, 7, 10, 32, 41, 42], [.int .i64 sc, .int .i64 sp, .str x, .undef, .undef, .undef, .undef, .undef, .undef], [], 53, ⟨0, [[]]⟩⟩) Tryz.func51 rfl rfl rfl ?_
 (repeat' (first
  | with_reducible refine wps_seq ?_
  | with_reducible refine wps_block ?_
  | (with_reducible refine wps_region callOK ?_; apply runE; simp [zS, *]; exact rfl)
  | (with_reducible refine run_end ?_; simp only [thenQ, blockQ])
  | (with_reducible refine gate_split (fun hc => ?_) (fun hc => ?_) <;> ((have hd := hc); (try simp at hd); (try subst hd); apply runE; simp [zS, *]; exact rfl))
  | (refine wps_ct rfl ?_)
  | (refine wps_cond rfl (fun hc => ?_) (fun hc => ?_) <;> ((have hd := hc); (try simp at hd); (try subst hd)))
  | (with_reducible refine wps_skip ?_; simp only [thenQ, blockQ])
  | (with_reducible refine wps_ret ?_; simp [retVal, Tryz.f51, oneOr, thenQ, blockQ])))
 all_goals first | exact ends_pure rfl (by simp [stopsB, *]) | (exfalso; omega)
theorem inj_51 (x y : Int × Int × Str) (h : (fun z : Int × Int × Str => ([.int .i64 z.1, .int .i64 z.2.1, .str z.2.2] : List AV)) x = (fun z : Int × Int × Str => ([.int .i64 z.1, .int .i64 z.2.1, .str z.2.2] : List AV)) y) : x = y := by
 obtain ⟨x0, x1, x2⟩ := x
 obtain ⟨y0, y1, y2⟩ := y
 simp only [List.cons.injEq, and_true] at h
 obtain ⟨h0, h1, h2⟩ := h
 have g0 : x0 = y0 := AV.int.inj h0 |>.2
 have g1 : x1 = y1 := AV.int.inj h1 |>.2
 have g2 : x2 = y2 := AV.str.inj h2
 subst g0 g1 g2
 rfl
noncomputable def e51 : Entry Tryz.prog := mkE 51 [[], [], []] (fun z : Int × Int × Str => [.int .i64 z.1, .int .i64 z.2.1, .str z.2.2]) (fun z => (z.2.2.length ≤ 1000000000)) (fun z => .bool (stopsB z.1 z.2.1 z.2.2)) fun z h => c51 (T := [e44a, e86]) rfl rfl z.1 z.2.1 z.2.2 h
theorem k51 {T : List (Entry Tryz.prog)} (hT : findE 51 T = some e51.g) (sc : Int) (sp : Int) (x : Str) (hx : x.length ≤ 1000000000) (H : Heap) : callL (ctx T) (.fn 51) [.int .i64 sc, .int .i64 sp, .str x] H = some (.bool (stopsB sc sp x), H) :=
 mkE_scalar hT inj_51 (sc, sp, x) hx rfl (by simp [thawA_ok])
theorem c109 {T : List (Entry Tryz.prog)} (hc0 : findE 44 T = some e44a.g) (x : Str) (hx : x.length ≤ 1000000000) : CallAt (ctx T) 109 [.str x] ⟨0, []⟩ (.bool (inW [97, 100, 100, 114, 101, 115, 115, 32, 97, 114, 116, 105, 99, 108, 101, 32, 97, 115, 105, 100, 101, 32, 98, 108, 111, 99, 107, 113, 117, 111, 116, 101, 32, 99, 101, 110, 116, 101, 114, 32, 100, 101, 116, 97, 105, 108, 115, 32, 100, 105, 97, 108, 111, 103, 32, 100, 105, 114, 32, 100, 105, 118, 32, 100, 108, 32, 102, 105, 101, 108, 100, 115, 101, 116, 32, 102, 105, 103, 99, 97, 112, 116, 105, 111, 110, 32, 102, 105, 103, 117, 114, 101, 32, 102, 111, 111, 116, 101, 114, 32, 104, 101, 97, 100, 101, 114, 32, 104, 103, 114, 111, 117, 112, 32, 108, 105, 115, 116, 105, 110, 103, 32, 109, 97, 105, 110, 32, 109, 101, 110, 117, 32, 110, 97, 118, 32, 111, 108, 32, 112, 32, 112, 114, 101, 32, 115, 101, 97, 114, 99, 104, 32, 115, 101, 99, 116, 105, 111, 110, 32, 115, 117, 109, 109, 97, 114, 121, 32, 117, 108] x)) ⟨0, []⟩ := by
 have kw0 := fun (x : Str) (hx : x.length ≤ 1000000000) (H : Heap) => k44a (W := [97, 100, 100, 114, 101, 115, 115, 32, 97, 114, 116, 105, 99, 108, 101, 32, 97, 115, 105, 100, 101, 32, 98, 108, 111, 99, 107, 113, 117, 111, 116, 101, 32, 99, 101, 110, 116, 101, 114, 32, 100, 101, 116, 97, 105, 108, 115, 32, 100, 105, 97, 108, 111, 103, 32, 100, 105, 114, 32, 100, 105, 118, 32, 100, 108, 32, 102, 105, 101, 108, 100, 115, 101, 116, 32, 102, 105, 103, 99, 97, 112, 116, 105, 111, 110, 32, 102, 105, 103, 117, 114, 101, 32, 102, 111, 111, 116, 101, 114, 32, 104, 101, 97, 100, 101, 114, 32, 104, 103, 114, 111, 117, 112, 32, 108, 105, 115, 116, 105, 110, 103, 32, 109, 97, 105, 110, 32, 109, 101, 110, 117, 32, 110, 97, 118, 32, 111, 108, 32, 112, 32, 112, 114, 101, 32, 115, 101, 97, 114, 99, 104, 32, 115, 101, 99, 116, 105, 111, 110, 32, 115, 117, 109, 109, 97, 114, 121, 32, 117, 108]) (x := x) hc0 (ascB (by decide)) (by decide) hx H
 refine callAt_body (fn := Tryz.f109) (s0 := ⟨[0, 2], [.str x, .undef], [], 5, ⟨0, [[]]⟩⟩) Tryz.func109 rfl rfl rfl ?_
 (repeat' (first
  | with_reducible refine wps_seq ?_
  | (with_reducible refine wps_region callOK ?_; apply runE; simp [zS, *]; exact rfl)
  | (with_reducible refine run_end ?_; simp only [thenQ, blockQ])
  | (with_reducible refine wps_ret ?_; simp [retVal, Tryz.f109, oneOr, thenQ, blockQ])))
 all_goals first | exact ends_pure rfl (by rfl) | (exfalso; omega)
theorem inj_109 (x y : Str) (h : (fun z : Str => ([.str z] : List AV)) x = (fun z : Str => ([.str z] : List AV)) y) : x = y := by
 simp only [List.cons.injEq, and_true] at h
 exact AV.str.inj h
noncomputable def e109 : Entry Tryz.prog := mkE 109 [[]] (fun z : Str => [.str z]) (fun z => (z.length ≤ 1000000000)) (fun z => .bool (inW [97, 100, 100, 114, 101, 115, 115, 32, 97, 114, 116, 105, 99, 108, 101, 32, 97, 115, 105, 100, 101, 32, 98, 108, 111, 99, 107, 113, 117, 111, 116, 101, 32, 99, 101, 110, 116, 101, 114, 32, 100, 101, 116, 97, 105, 108, 115, 32, 100, 105, 97, 108, 111, 103, 32, 100, 105, 114, 32, 100, 105, 118, 32, 100, 108, 32, 102, 105, 101, 108, 100, 115, 101, 116, 32, 102, 105, 103, 99, 97, 112, 116, 105, 111, 110, 32, 102, 105, 103, 117, 114, 101, 32, 102, 111, 111, 116, 101, 114, 32, 104, 101, 97, 100, 101, 114, 32, 104, 103, 114, 111, 117, 112, 32, 108, 105, 115, 116, 105, 110, 103, 32, 109, 97, 105, 110, 32, 109, 101, 110, 117, 32, 110, 97, 118, 32, 111, 108, 32, 112, 32, 112, 114, 101, 32, 115, 101, 97, 114, 99, 104, 32, 115, 101, 99, 116, 105, 111, 110, 32, 115, 117, 109, 109, 97, 114, 121, 32, 117, 108] z)) fun z h => c109 (T := [e44a]) rfl z h
theorem k109 {T : List (Entry Tryz.prog)} (hT : findE 109 T = some e109.g) (x : Str) (hx : x.length ≤ 1000000000) (H : Heap) : callL (ctx T) (.fn 109) [.str x] H = some (.bool (inW [97, 100, 100, 114, 101, 115, 115, 32, 97, 114, 116, 105, 99, 108, 101, 32, 97, 115, 105, 100, 101, 32, 98, 108, 111, 99, 107, 113, 117, 111, 116, 101, 32, 99, 101, 110, 116, 101, 114, 32, 100, 101, 116, 97, 105, 108, 115, 32, 100, 105, 97, 108, 111, 103, 32, 100, 105, 114, 32, 100, 105, 118, 32, 100, 108, 32, 102, 105, 101, 108, 100, 115, 101, 116, 32, 102, 105, 103, 99, 97, 112, 116, 105, 111, 110, 32, 102, 105, 103, 117, 114, 101, 32, 102, 111, 111, 116, 101, 114, 32, 104, 101, 97, 100, 101, 114, 32, 104, 103, 114, 111, 117, 112, 32, 108, 105, 115, 116, 105, 110, 103, 32, 109, 97, 105, 110, 32, 109, 101, 110, 117, 32, 110, 97, 118, 32, 111, 108, 32, 112, 32, 112, 114, 101, 32, 115, 101, 97, 114, 99, 104, 32, 115, 101, 99, 116, 105, 111, 110, 32, 115, 117, 109, 109, 97, 114, 121, 32, 117, 108] x), H) :=
 mkE_scalar hT inj_109 (x) hx rfl (by simp [thawA_ok])
@[simp] theorem szT33 : sizeT Tryz.prog 33 = some 1 := rfl
@[simp] theorem agT33 : aggT Tryz.prog 33 = some false := rfl
@[simp] theorem byT33 : bytesT Tryz.prog 33 = some 8 := rfl
@[simp] theorem alT33 (H : Heap) : alV Tryz.prog H 33 = some (.ptr H.n 0, H.new (.cells [.nilF])) := rfl
@[simp] theorem zeT33 : zeroOf Tryz.prog 33 = some (.nilF) := rfl
attribute [simp] Tryz.underlying33
@[simp 500] theorem rvF33 (H : Heap) (cs : List AV) (o : Nat) : readVar Tryz.prog H 33 (.fptr cs o) = getL cs o := rfl
@[simp 500] theorem rvP33 (H : Heap) (b o : Nat) : readVar Tryz.prog H 33 (.ptr b o) = (H.get b).bind fun k => k.rd.bind fun cs => getL cs o := rfl
def cloV (f : FuncId) (c : List AV) : AV := .func (.func f) [] c
def goOut (p q : Nd → Bool) (L : List Nd) (j : Nat) : Option Bool := if p (nodeAt L j) = true then some true else if q (nodeAt L j) = true then some false else none
def outwB (p q : Nd → Bool) (L : List Nd) : Bool := (runB (goOut p q L) L.length).getD false
noncomputable def kOut (L : List Nd) (v1 v2 : AV) : RgK := ⟨[0, 1, 2, 4, 5, 6, 8, 10, 11, 12], [aNodes L, v1, v2, .ptr 0 0, .ptr 1 0, .ptr 2 0, .undef, bkVN L, .undef, .undef], 19, [11, 12], rgA Tryz.f48.body, rgB Tryz.f48.body⟩
def rOut (v1 v2 : AV) : Option Bool → List (Nat × Blk)
 | none => [(2, .cells [.bool false]), (1, .cells [v2]), (0, .cells [v1])]
 | some r => [(2, .cells [.bool r]), (1, .cells [v2]), (0, .cells [v1])]
theorem kOut_ok {L : List Nd} {v1 v2 : AV} (h1 : pureV v1 = true) (h2 : pureV v2 = true) : (kOut L v1 v2).Ok 3 (rOut v1 v2) where
 vs := fun σ hσ => by simp [kOut, fitL, fitV, hσ 0 (by omega), hσ 1 (by omega), hσ 2 (by omega), h1, h2, pure_bkVN]
 rows := fun c => by cases c <;> simp [rOut, rowsB, pureL, pureV, h1, h2]
theorem round_out {T : List (Entry Tryz.prog)} (L : List Nd) {f1 f2 : FuncId} {c1 c2 : List AV} (k1 : pureL c1 = true) (k2 : pureL c2 = true) {p q : Nd → Bool} (n : Nd) (hp : CallAt (ctx T) f1 (aNode n :: c1) ⟨0, []⟩ (.bool (p n)) ⟨0, []⟩) (hq : CallAt (ctx T) f2 (aNode n :: c2) ⟨0, []⟩ (.bool (q n)) ⟨0, []⟩) (j : Int) :
  YieldAt (ctx T) 3 [.int .i64 j, aNode n] ⟨4, [[], (3, (kOut L (cloV f1 c1) (cloV f2 c2)).blk .ready none []) :: rOut (cloV f1 c1) (cloV f2 c2) none]⟩ (.bool (if p n = true then some true else if q n = true then some false else none : Option Bool).isNone)
   ⟨4, [[], (kOut L (cloV f1 c1) (cloV f2 c2)).rows 3 (rOut (cloV f1 c1) (cloV f2 c2)) (if p n = true then some true else if q n = true then some false else none)]⟩ := by
 have v1 : pureV (cloV f1 c1) = true := by simp [cloV, pureV, pureL, k1]
 have v2 : pureV (cloV f2 c2) = true := by simp [cloV, pureV, pureL, k2]
 refine round_K (kOut_ok v1 v2) (s1 := ⟨[0, 1, 2, 4, 5, 6, 8, 10, 11, 12], [aNodes L, cloV f1 c1, cloV f2 c2, .ptr 0 0, .ptr 1 0, .ptr 2 0, .undef, bkVN L, .int .i64 j, aNode n], [], 19, ⟨4, [[], [], (3, (kOut L (cloV f1 c1) (cloV f2 c2)).blk .ready none []) :: rOut (cloV f1 c1) (cloV f2 c2) none]⟩⟩) rfl fun l => ?_
 generalize (kOut L (cloV f1 c1) (cloV f2 c2)).blk .ready none [] = B0
 generalize (kOut L (cloV f1 c1) (cloV f2 c2)).blk .busy none [] = B1
 simp only [kOut, rgA, rgB, rgIn, Tryz.f48, Option.bind_some]
 repeat apply wq
 refine wps_region callOK ?_
 simp [zN]
 refine ⟨_, _, ⟨rfl, rfl⟩, rfl, ?_⟩
 simp only [rOut, cloV]
 repeat apply wq
 refine wps_block ?_
 have p1 : pureL (aNode n :: c1) = true := by simp [pureL, k1]
 have p2 : pureL (aNode n :: c2) = true := by simp [pureL, k2]
 repeat apply wq
 refine wps_region (callOKP [⟨f1, _, _, p1, hp⟩]) ?_
 rcases Bool.eq_false_or_eq_true (p n) with hb | hb
 ·simp [zS, nd_fold, callP_hit, hb]
  repeat apply wq
  refine wps_ct rfl ?_
  repeat apply wq
  refine wps_region callOK ?_
  simp [zS]
  repeat apply wq
  refine wps_ret ?_
  simp only [thenQ, blockQ]
  exact ⟨_, _, fun i hi => getF_none1 (by omega), rfl, rfl⟩
 ·simp [zS, nd_fold, callP_hit, hb]
  repeat apply wq
  refine wps_cf rfl ?_
  repeat apply wq
  refine wps_skip ?_
  simp only [thenQ, blockQ]
  repeat apply wq
  refine wps_region (callOKP [⟨f2, _, _, p2, hq⟩]) ?_
  rcases Bool.eq_false_or_eq_true (q n) with hd | hd
  ·simp [zS, nd_fold, callP_hit, hd]
   repeat apply wq
   refine wps_ct rfl ?_
   repeat apply wq
   refine wps_region callOK ?_
   simp [zS]
   repeat apply wq
   refine wps_ret ?_
   simp only [thenQ, blockQ]
   exact ⟨_, _, fun i hi => getF_none1 (by omega), rfl, rfl⟩
  ·simp [zS, nd_fold, callP_hit, hd]
   repeat apply wq
   refine wps_cf rfl ?_
   repeat apply wq
   refine wps_skip ?_
   simp only [thenQ, blockQ]
   exact ⟨_, _, fun i hi => getF_none1 (by omega), rfl, rfl⟩
theorem c48 {T : List (Entry Tryz.prog)} (hB : findE 84 T = some e84.g) (L : List Nd) (hl : L.length ≤ 1000000) {f1 f2 : FuncId} {c1 c2 : List AV} (k1 : pureL c1 = true) (k2 : pureL c2 = true) {p q : Nd → Bool}
  (hp : ∀ n, n ∈ L → CallAt (ctx T) f1 (aNode n :: c1) ⟨0, []⟩ (.bool (p n)) ⟨0, []⟩) (hq : ∀ n, n ∈ L → CallAt (ctx T) f2 (aNode n :: c2) ⟨0, []⟩ (.bool (q n)) ⟨0, []⟩) : CallAt (ctx T) 48 [aNodes L, cloV f1 c1, cloV f2 c2] ⟨0, []⟩ (.bool (outwB p q L)) ⟨0, []⟩ := by
 have v1 : pureV (cloV f1 c1) = true := by simp [cloV, pureV, pureL, k1]
 have v2 : pureV (cloV f2 c2) = true := by simp [cloV, pureV, pureL, k2]
 have kb := fun H => k84 hB L H
 have s1 : (cloV f1 c1).single = true := rfl
 have s2 : (cloV f2 c2).single = true := rfl
 have e1 : (cloV f1 c1).cells = [cloV f1 c1] := rfl
 have e2 : (cloV f2 c2).cells = [cloV f2 c2] := rfl
 refine callAt_body (fn := Tryz.f48) (s0 := ⟨[0, 1, 2, 4, 5, 6, 8, 10, 11, 12], [aNodes L, cloV f1 c1, cloV f2 c2, .undef, .undef, .undef, .undef, .undef, .undef, .undef], [], 19, ⟨0, [[]]⟩⟩) Tryz.func48 rfl rfl rfl ?_
 repeat apply wq
 refine wps_region callOK ?_
 simp [zS, s1, s2, e1, e2]
 repeat apply wq
 refine wps_region callOK ?_
 simp [zS, kb]
 repeat apply wq
 refine wps_block ?_
 refine wps_backN (K := kOut L (cloV f1 c1) (cloV f2 c2)) (b := 3) (R := rOut (cloV f1 c1) (cloV f2 c2)) (kOut_ok v1 v2) L hl (goOut p q L) (fun j hj => ?_) rfl rfl ?_
 ·have := round_out L k1 k2 (p := p) (q := q) L[j] (hp _ (List.getElem_mem hj)) (hq _ (List.getElem_mem hj)) (j : Int)
  rw [show goOut p q L j = _ from rfl, goOut, nodeAt_get hj]
  exact this
 ·obtain ⟨r, hr⟩ : ∃ r, runB (goOut p q L) L.length = r := ⟨_, rfl⟩
  unfold outwB
  rw [hr]
  cases r with
  | none =>
   simp [outB, kOut, rOut]
   repeat apply wq
   refine wps_region callOK ?_
   simp [zS]
   repeat apply wq
   refine wps_ret ?_
   simp [retVal, Tryz.f48, oneOr]
   exact ⟨[.bool false], rfl, [], [], fitV_pure rfl, FitH.empty⟩
  | some i =>
   simp [outB, kOut, rOut, thenQ, blockQ]
   exact ⟨[.bool i], rfl, [], [], fitV_pure rfl, FitH.empty⟩
def headingB (sp : Int) (x : Str) : Bool := decide (sp = 0) && inW [104, 49, 32, 104, 50, 32, 104, 51, 32, 104, 52, 32, 104, 53, 32, 104, 54] x
theorem sp_head : wsplit [104, 49, 32, 104, 50, 32, 104, 51, 32, 104, 52, 32, 104, 53, 32, 104, 54] = [[104, 49], [104, 50], [104, 51], [104, 52], [104, 53], [104, 54]] := by decide +kernel
theorem in_head (x : Str) : inW [104, 49, 32, 104, 50, 32, 104, 51, 32, 104, 52, 32, 104, 53, 32, 104, 54] x = decide (x = [104, 49] ∨ x = [104, 50] ∨ x = [104, 51] ∨ x = [104, 52] ∨ x = [104, 53] ∨ x = [104, 54]) := by unfold inW; rw [sp_head]; simp
theorem head_len {x : Str} (h : ¬ x.length = 2) : inW [104, 49, 32, 104, 50, 32, 104, 51, 32, 104, 52, 32, 104, 53, 32, 104, 54] x = false := by
 rw [in_head]
 simp only [decide_eq_false_iff_not]
 rintro (rfl | rfl | rfl | rfl | rfl | rfl) <;> exact h rfl
theorem head_two (a b : UInt8) : inW [104, 49, 32, 104, 50, 32, 104, 51, 32, 104, 52, 32, 104, 53, 32, 104, 54] [a, b] = (decide ((a.toNat : Int) = 104) && decide (49 ≤ (b.toNat : Int)) && decide ((b.toNat : Int) ≤ 54)) := by
 rw [in_head]
 have key : ∀ n : Nat, n < 256 → (b = UInt8.ofNat n ↔ b.toNat = n) := fun n hn => ⟨fun h => by rw [h]; simp; omega, fun h => by rw [← h]; simp⟩
 have ha : a = 104 ↔ a.toNat = 104 := ⟨fun h => by rw [h]; rfl, fun h => UInt8.toNat_inj.1 (by rw [h]; rfl)⟩
 have k1 : ∀ c : UInt8, b = c ↔ b.toNat = c.toNat := fun c => UInt8.toNat_inj.symm
 rw [Bool.eq_iff_iff]
 simp only [List.cons.injEq, and_true, decide_eq_true_eq, Bool.and_eq_true, ha, k1]
 simp only [show (49 : UInt8).toNat = 49 from rfl, show (50 : UInt8).toNat = 50 from rfl, show (51 : UInt8).toNat = 51 from rfl, show (52 : UInt8).toNat = 52 from rfl, show (53 : UInt8).toNat = 53 from rfl, show (54 : UInt8).toNat = 54 from rfl]
 omega
theorem c73 {T : List (Entry Tryz.prog)} (sp : Int) (x : Str) : CallAt (ctx T) 73 [.int .i64 sp, .str x] ⟨0, []⟩ (.bool (headingB sp x)) ⟨0, []⟩ := by
 by_cases hl : x.length = 2
 ·match x, hl with
  | [a, b], _ =>
   have i0 : indexA Tryz.prog 9 (.str [a, b]) (.int .i64 0) = some (.int .u8 a.toNat) := ixStr (s := [a, b]) (i := 0) (by simp)
   have i1 : indexA Tryz.prog 9 (.str [a, b]) (.int .i64 1) = some (.int .u8 b.toNat) := ixStr (s := [a, b]) (i := 1) (by simp)
   unfold headingB
   rw [head_two]
   refine callAt_body (fn := Tryz.f73) (s0 := ⟨[0, 1, 4], [.int .i64 sp, .str [a, b], .undef], [], 27, ⟨0, [[]]⟩⟩) Tryz.func73 rfl rfl rfl ?_
   (repeat' (first
    | with_reducible refine wps_seq ?_
    | (with_reducible refine wps_region callOK ?_; apply runE; simp [zS, *]; exact rfl)
    | (with_reducible refine run_end ?_; simp only [thenQ, blockQ])
    | (with_reducible refine gate_split (fun hc => ?_) (fun hc => ?_) <;> ((have hd := hc); (try simp at hd); (try subst hd); apply runE; simp [zS, *]; exact rfl))
    | (with_reducible refine wps_ret ?_; simp [retVal, Tryz.f73, oneOr, thenQ, blockQ])))
   all_goals first | exact ends_pure rfl (by simp [*]) | (exfalso; omega)
 ·have hl' : ¬ ((x.length : Nat) : Int) = 2 := by omega
  unfold headingB
  rw [head_len hl]
  refine callAt_body (fn := Tryz.f73) (s0 := ⟨[0, 1, 4], [.int .i64 sp, .str x, .undef], [], 27, ⟨0, [[]]⟩⟩) Tryz.func73 rfl rfl rfl ?_
  (repeat' (first
   | with_reducible refine wps_seq ?_
   | (with_reducible refine wps_region callOK ?_; apply runE; simp [zS, *]; exact rfl)
   | (with_reducible refine run_end ?_; simp only [thenQ, blockQ])
   | (with_reducible refine gate_split (fun hc => ?_) (fun hc => ?_) <;> ((have hd := hc); (try simp at hd); (try subst hd); apply runE; simp [zS, *]; exact rfl))
   | (with_reducible refine wps_ret ?_; simp [retVal, Tryz.f73, oneOr, thenQ, blockQ])))
  all_goals first | exact ends_pure rfl (by simp [*]) | (exfalso; omega)
theorem inj_73 (x y : Int × Str) (h : (fun z : Int × Str => ([.int .i64 z.1, .str z.2] : List AV)) x = (fun z : Int × Str => ([.int .i64 z.1, .str z.2] : List AV)) y) : x = y := by
 obtain ⟨x0, x1⟩ := x
 obtain ⟨y0, y1⟩ := y
 simp only [List.cons.injEq, and_true] at h
 obtain ⟨h0, h1⟩ := h
 have g0 : x0 = y0 := AV.int.inj h0 |>.2
 have g1 : x1 = y1 := AV.str.inj h1
 subst g0 g1
 rfl
noncomputable def e73 : Entry Tryz.prog := mkE 73 [[], []] (fun z : Int × Str => [.int .i64 z.1, .str z.2]) (fun z => True) (fun z => .bool (headingB z.1 z.2)) fun z h => c73 (T := [])  z.1 z.2 
theorem k73 {T : List (Entry Tryz.prog)} (hT : findE 73 T = some e73.g) (sp : Int) (x : Str) (H : Heap) : callL (ctx T) (.fn 73) [.int .i64 sp, .str x] H = some (.bool (headingB sp x), H) :=
 mkE_scalar hT inj_73 (sp, x) trivial rfl (by simp [thawA_ok])
theorem c113 {T : List (Entry Tryz.prog)} (hc0 : findE 44 T = some e44a.g) (sp : Int) (x : Str) (hx : x.length ≤ 1000000000) : CallAt (ctx T) 113 [.int .i64 sp, .str x] ⟨0, []⟩ (.bool (decide (sp = 0) && inW [97, 112, 112, 108, 101, 116, 32, 99, 97, 112, 116, 105, 111, 110, 32, 109, 97, 114, 113, 117, 101, 101, 32, 111, 98, 106, 101, 99, 116, 32, 116, 100, 32, 116, 104] x)) ⟨0, []⟩ := by
 have kw0 := fun (x : Str) (hx : x.length ≤ 1000000000) (H : Heap) => k44a (W := [97, 112, 112, 108, 101, 116, 32, 99, 97, 112, 116, 105, 111, 110, 32, 109, 97, 114, 113, 117, 101, 101, 32, 111, 98, 106, 101, 99, 116, 32, 116, 100, 32, 116, 104]) (x := x) hc0 (ascB (by decide)) (by decide) hx H
 refine callAt_body (fn := Tryz.f113) (s0 := ⟨[0, 1, 4], [.int .i64 sp, .str x, .undef], [], 11, ⟨0, [[]]⟩⟩) Tryz.func113 rfl rfl rfl ?_
 (repeat' (first
  | with_reducible refine wps_seq ?_
  | (with_reducible refine wps_region callOK ?_; apply runE; simp [zS, *]; exact rfl)
  | (with_reducible refine run_end ?_; simp only [thenQ, blockQ])
  | (with_reducible refine gate_split (fun hc => ?_) (fun hc => ?_) <;> ((have hd := hc); (try simp at hd); (try subst hd); apply runE; simp [zS, *]; exact rfl))
  | (with_reducible refine wps_ret ?_; simp [retVal, Tryz.f113, oneOr, thenQ, blockQ])))
 all_goals first | exact ends_pure rfl (by first | (simp [*]; done) | (simp_all; done)) | (exfalso; omega)
theorem inj_113 (x y : Int × Str) (h : (fun z : Int × Str => ([.int .i64 z.1, .str z.2] : List AV)) x = (fun z : Int × Str => ([.int .i64 z.1, .str z.2] : List AV)) y) : x = y := by
 obtain ⟨x0, x1⟩ := x
 obtain ⟨y0, y1⟩ := y
 simp only [List.cons.injEq, and_true] at h
 obtain ⟨h0, h1⟩ := h
 have g0 : x0 = y0 := AV.int.inj h0 |>.2
 have g1 : x1 = y1 := AV.str.inj h1
 subst g0 g1
 rfl
noncomputable def e113 : Entry Tryz.prog := mkE 113 [[], []] (fun z : Int × Str => [.int .i64 z.1, .str z.2]) (fun z => (z.2.length ≤ 1000000000)) (fun z => .bool (decide (z.1 = 0) && inW [97, 112, 112, 108, 101, 116, 32, 99, 97, 112, 116, 105, 111, 110, 32, 109, 97, 114, 113, 117, 101, 101, 32, 111, 98, 106, 101, 99, 116, 32, 116, 100, 32, 116, 104] z.2)) fun z h => c113 (T := [e44a]) rfl z.1 z.2 h
theorem k113 {T : List (Entry Tryz.prog)} (hT : findE 113 T = some e113.g) (sp : Int) (x : Str) (hx : x.length ≤ 1000000000) (H : Heap) : callL (ctx T) (.fn 113) [.int .i64 sp, .str x] H = some (.bool (decide (sp = 0) && inW [97, 112, 112, 108, 101, 116, 32, 99, 97, 112, 116, 105, 111, 110, 32, 109, 97, 114, 113, 117, 101, 101, 32, 111, 98, 106, 101, 99, 116, 32, 116, 100, 32, 116, 104] x), H) :=
 mkE_scalar hT inj_113 (sp, x) hx rfl (by simp [thawA_ok])
end Go.Proofs.YtgpjifeeneeiaaaGreatDoor