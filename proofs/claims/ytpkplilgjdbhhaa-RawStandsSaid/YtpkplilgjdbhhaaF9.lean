/- Regions that draw their order, where nothing lays or writes: as if in their order. No condition. -/
import Derived.Test.YtpkplilgjdbhhaaF8
namespace Go.Proofs.Ytpkplilgjdbhhaa
set_option linter.unusedSimpArgs false
set_option linter.unusedVariables false
open Go Go.RowKit

open Classical in
noncomputable def evalK (C : Ctx) (call : CallE) (ops : Array Oper) (H0 : Heap) : List Oper → St → Option St
  | [], s => some s
  | o :: r, s => (evalOp C call ops o s).bind fun s1 => if s1.H = H0 then evalK C call ops H0 r s1 else none
def noAllocs : List Oper → Bool
  | [] => true
  | o :: r => match clsOf o.op with
    | .allocs => false
    | _ => noAllocs r
section
variable {C : Ctx} {call : CallE} {ops : Array Oper} {H0 : Heap}
theorem evalK_nil {s : St} : evalK C call ops H0 [] s = some s := rfl
open Classical in
theorem evalK_cons {o : Oper} {r : List Oper} {s : St} : evalK C call ops H0 (o :: r) s = (evalOp C call ops o s).bind fun s1 => if s1.H = H0 then evalK C call ops H0 r s1 else none := rfl

open Classical in
noncomputable def thenK (C : Ctx) (call : CallE) (ops : Array Oper) (H0 : Heap) : Option St → List Oper → Option St
  | some s, l => if s.H = H0 then evalK C call ops H0 l s else none
  | none, _ => none
theorem evalK_c {o : Oper} {r : List Oper} {s : St} : evalK C call ops H0 (o :: r) s = thenK C call ops H0 (evalOp C call ops o s) r := by
  rw [evalK_cons]; cases evalOp C call ops o s <;> rfl
theorem thenK_some {s : St} {l : List Oper} (h : s.H = H0) : thenK C call ops H0 (some s) l = evalK C call ops H0 l s := by
  simp only [thenK, h, if_true]
structure InvK (C : Ctx) (call : CallE) (H0 : Heap) (d : DrawSt) (s : St) : Prop where
  s_ : d.s = s
  H_ : s.H = H0
  ps : d.ps = []
  hs : ∀ h, h ∈ d.hs → h.2 = H0
  rs : ∀ x, x ∈ d.rs → ∃ y, evalVal C call x.o { x.s with H := H0 } = some y ∧ y.1 = x.v
theorem step_K {bef : Array Nat} {base i : Nat} {o : Oper} {s s1 : St} {d : DrawSt} (hn : clsOf o.op ≠ .allocs) (h : evalOp C call ops o s = some s1) (hH : s1.H = H0) (k : InvK C call H0 d s) : ∃ d', stepD C call ops bef base i o d = some d' ∧ InvK C call H0 d' s1 := by
  obtain ⟨ds, ps, hs, rs⟩ := d
  obtain ⟨rfl, k2, rfl, k4, k5⟩ := k
  simp only at k2 k4 k5 h
  obtain ⟨g, hg, h⟩ := Option.bind_eq_some_iff.1 h
  unfold stepD
  simp only [hg, Option.bind_some]
  cases g with
  | false =>
    simp only at h ⊢
    rw [h]
    simp only [Option.bind_some, wantedBy, unwantedBy, Heap.lay]
    cases hc : clsOf o.op with
    | acts => exact ⟨_, rfl, rfl, hH, rfl, fun x hx => by
        rcases List.mem_cons.1 hx with rfl | hx
        · exact hH
        · exact k4 x hx, k5⟩
    | pure => exact ⟨_, rfl, rfl, hH, rfl, k4, k5⟩
    | reads => exact ⟨_, rfl, rfl, hH, rfl, k4, k5⟩
    | allocs => exact absurd hc hn
  | true =>
    simp only at h ⊢
    obtain ⟨⟨v, Hv⟩, hv, hp⟩ := Option.bind_eq_some_iff.1 h
    simp only at hp
    cases hc : clsOf o.op with
    | acts =>
      simp only [wantedBy, unwantedBy, Heap.lay]
      have e : evalVal C call o { ds with H := ds.H } = some (v, Hv) := hv
      simp only [e, Option.bind_some, hp]
      exact ⟨_, rfl, rfl, hH, rfl, fun x hx => by
        rcases List.mem_cons.1 hx with rfl | hx
        · exact hH
        · exact k4 x hx, k5⟩
    | pure =>
      obtain ⟨e, _⟩ := evalVal_pure hc hv
      subst e
      have hp' : ds.put o.dst v = some s1 := hp
      simp only [hv, Option.bind_some, hp']
      exact ⟨_, rfl, rfl, hH, rfl, k4, k5⟩
    | reads =>
      have e := evalVal_reads hc hv
      subst e
      have hp' : ds.put o.dst v = some s1 := hp
      simp only [hv, Option.bind_some, hp']
      refine ⟨_, rfl, rfl, hH, rfl, k4, fun x hx => ?_⟩
      rcases List.mem_cons.1 hx with rfl | hx
      · simp only
        rw [← k2]
        exact ⟨_, hv, rfl⟩
      · exact k5 x hx
    | allocs => exact absurd hc hn
theorem evalK_D {bef : Array Nat} {base : Nat} : ∀ {l : List Oper} {i : Nat} {s s' : St} {d : DrawSt}, noAllocs l = true → evalK C call ops H0 l s = some s' → InvK C call H0 d s → ∃ d', evalD C call ops bef base i l d = some d' ∧ InvK C call H0 d' s'
  | [], i, s, s', d, _, h, k => by
    rw [evalK_nil, Option.some.injEq] at h
    subst h
    exact ⟨d, rfl, k⟩
  | o :: r, i, s, s', d, hn, h, k => by
    have hno : clsOf o.op ≠ .allocs ∧ noAllocs r = true := by
      unfold noAllocs at hn
      cases hc : clsOf o.op <;> simp [hc] at hn ⊢ <;> exact hn
    rw [evalK_cons] at h
    obtain ⟨s1, h1, h2⟩ := Option.bind_eq_some_iff.1 h
    split at h2
    · rename_i hH
      obtain ⟨d1, q1, q2⟩ := step_K (bef := bef) (base := base) (i := i) hno.1 h1 hH k
      obtain ⟨d2, r1, r2⟩ := evalK_D (bef := bef) (base := base) (i := i + 1) hno.2 h2 q2
      exact ⟨d2, by simp only [evalD, q1, Option.bind_some]; exact r1, r2⟩
    · cases h2
theorem fresh_K : ∀ {l : List Oper} {s : St}, noAllocs l = true → freshenAll l s = s
  | [], s, _ => rfl
  | o :: r, s, hn => by
    have hno : clsOf o.op ≠ .allocs ∧ noAllocs r = true := by
      unfold noAllocs at hn
      cases hc : clsOf o.op <;> simp [hc] at hn ⊢ <;> exact hn
    have : freshen s o = s := by
      unfold freshen
      cases hop : o.op <;> first | rfl | (exfalso; exact hno.1 (by rw [hop]; rfl))
    simp only [freshenAll, this]
    exact fresh_K hno.2
theorem same_K {bef : Array Nat} {x : Rec} (hx : ∃ y, evalVal C call x.o { x.s with H := H0 } = some y ∧ y.1 = x.v) : ∀ {hs : List (Nat × Heap)}, (∀ h, h ∈ hs → h.2 = H0) → sameAll C call bef x H0 hs = true
  | [], _ => by
    obtain ⟨y, h1, h2⟩ := hx
    simp only [sameAll, sameAt, h1, h2, decide_true]
  | h :: r, hh => by
    obtain ⟨y, h1, h2⟩ := hx
    have e := hh h (by simp)
    have ih := same_K (bef := bef) ⟨y, h1, h2⟩ (hs := r) fun z hz => hh z (by simp [hz])
    have hs : sameAt C call x h.2 = true := by rw [e]; simp only [sameAt, h1, h2, decide_true]
    unfold sameAll
    rw [hs, ih]
    cases ahead bef x.i h.1 <;> cases ahead bef h.1 x.i <;> rfl
theorem sames_K {bef : Array Nat} {hs : List (Nat × Heap)} (hh : ∀ h, h ∈ hs → h.2 = H0) : ∀ {rs : List Rec}, (∀ x, x ∈ rs → ∃ y, evalVal C call x.o { x.s with H := H0 } = some y ∧ y.1 = x.v) → sameRecs C call bef H0 hs rs = true
  | [], _ => rfl
  | x :: r, h => by
    unfold sameRecs
    rw [same_K (h x (by simp)) hh]
    exact sames_K hh fun y hy => h y (by simp [hy])
theorem wps_drawK {n : Nat} {s : St} {Q : Out → St → Prop} {id : Nat} (hm : C.P.follows .mixedOrders = true) (hC : CallOK C call) (hd : drawOK ops = true) (hn : noAllocs ops.toList = true)
    (h : ∃ s', evalK C call ops ⟨s.H.n + ops.size, s.H.fs⟩ ops.toList { s with ts := [], H := ⟨s.H.n + ops.size, s.H.fs⟩ } = some s' ∧ Q .normal s') : WpS C n (.region id ops true) s Q := by
  obtain ⟨s', h1, h2⟩ := h
  refine wps_drawn hm hC hd fun B hB => ?_
  have hr : reserve (freshenAll ops.toList { s with ts := [] }) ops.size = { s with ts := [], H := ⟨s.H.n + ops.size, s.H.fs⟩ } := by rw [fresh_K hn]; rfl
  rw [hr]
  obtain ⟨d, q1, q2⟩ := evalK_D (bef := B) (base := s.H.n) (i := 0) (d := ⟨{ s with ts := [], H := ⟨s.H.n + ops.size, s.H.fs⟩ }, [], [], []⟩) hn h1 ⟨rfl, rfl, rfl, fun h hh => (by cases hh), fun x hx => (by cases hx)⟩
  refine ⟨d, q1, sames_K q2.hs q2.rs, ?_⟩
  rw [q2.ps, q2.s_]
  exact h2
end
end Go.Proofs.Ytpkplilgjdbhhaa
