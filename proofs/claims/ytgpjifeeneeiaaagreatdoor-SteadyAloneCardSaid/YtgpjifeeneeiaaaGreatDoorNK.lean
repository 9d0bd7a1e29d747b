/- A variable and its rows stay, all else is left. No condition. -/
import Derived.Test.YtgpjifeeneeiaaaGreatDoorNJ
import Derived.Test.YtgpjifeeneeiaaaGreatDoorNH
import Derived.Test.YtgpjifeeneeiaaaGreatDoorNI
namespace Go.Proofs.YtgpjifeeneeiaaaGreatDoor
set_option linter.unusedSimpArgs false
set_option linter.unusedVariables false
open Go Go.RowKit
set_option maxRecDepth 100000
@[simp] theorem szT100 : sizeT Tryz.prog 100 = some 1 := rfl
@[simp] theorem agT100 : aggT Tryz.prog 100 = some false := rfl
@[simp] theorem byT100 : bytesT Tryz.prog 100 = some 24 := rfl
@[simp] theorem alT100 (H : Heap) : alV Tryz.prog H 100 = some (.ptr H.n 0, H.new (.cells [.nilS])) := rfl
@[simp] theorem zeT100 : zeroOf Tryz.prog 100 = some (.nilS) := rfl
attribute [simp] Tryz.underlying100
@[simp 500] theorem rvF100 (H : Heap) (cs : List AV) (o : Nat) : readVar Tryz.prog H 100 (.fptr cs o) = getL cs o := rfl
@[simp 500] theorem rvP100 (H : Heap) (b o : Nat) : readVar Tryz.prog H 100 (.ptr b o) = (H.get b).bind fun k => k.rd.bind fun cs => getL cs o := rfl
@[simp] theorem slz100 (sz : Nat) (e : AV) (r : List AV) : binA Tryz.prog .eql 100 (.fslc sz (e :: r)) .nilS = some (.bool false) := rfl
@[simp] theorem sln100 (sz : Nat) (e : AV) (r : List AV) : binA Tryz.prog .neq 100 (.fslc sz (e :: r)) .nilS = some (.bool true) := rfl
@[simp] theorem slze100 : binA Tryz.prog .eql 100 .eslc .nilS = some (.bool false) := rfl
@[simp] theorem slzz100 : binA Tryz.prog .eql 100 .nilS .nilS = some (.bool true) := rfl
theorem Sim.perm {ρ : Place} {H H2 : Heap} {w : World} (h : Sim ρ H w) (n : H2.n = H.n) (p : H2.ents.Perm H.ents) : Sim ρ H2 w where
 base := h.base
 below := h.below
 os := h.os
 tape := h.tape
 output := h.output
 dom := fun b hb => h.dom b (n ▸ hb)
 nodup := (p.map _).nodup_iff.2 h.nodup
 live := fun e he => h.live e (p.mem_iff.1 he)
 inj := fun e e' he he' => h.inj e e' (p.mem_iff.1 he) (p.mem_iff.1 he')
theorem Step.perm {ρ ρ' : Place} {H H2 H' H2' : Heap} {w w' : World} (h : Step ρ H w ρ' H' w') (n : H2.n = H.n) (n' : H2'.n = H'.n) (p : H2.ents.Perm H.ents) (p' : H2'.ents.Perm H'.ents) : Step ρ H2 w ρ' H2' w' where
 le := h.le
 size := h.size
 keeps := fun k hk hn => h.keeps k hk fun e he => hn e (p.mem_iff.2 he)
 rows := fun e' he' l' hl' => by
  rcases h.rows e' (p'.mem_iff.1 he') l' hl' with ⟨e, he, x⟩ | x
  ·exact .inl ⟨e, p.mem_iff.2 he, x⟩
  ·exact .inr x
 num := by rw [n, n']; exact h.num
 low := fun b hb => h.low b (n ▸ hb)
 cold := fun k hk => by
  rcases h.cold k hk with x | ⟨e, he, x⟩ | x
  ·exact .inl x
  ·exact .inr (.inl ⟨e, p.mem_iff.2 he, x⟩)
  ·exact .inr (.inr x)
theorem CallAt.perm {C : Ctx} {f : FuncId} {args : List AV} {H H2 H' H2' : Heap} {v : AV} (h : CallAt C f args H v H') (n : H2.n = H.n) (n' : H2'.n = H'.n) (p : H2.ents.Perm H.ents) (p' : H2'.ents.Perm H'.ents) : CallAt C f args H2 v H2' := by
 intro ρ w xs sm hx
 have sm' := sm.perm n.symm p.symm
 rcases h ρ w xs sm' hx with ⟨x, ρ', w', h0, h1, h2, h3⟩ | ⟨g, ys, h0, h1⟩
 ·exact .inl ⟨x, ρ', w', h0, h1, h2.perm n' p', h3.perm n n' p p'⟩
 ·refine .inr ⟨g, ys, h0, h1.mono ?_⟩
  rintro e w' ⟨x, ρ', rfl, m1, m2, m3⟩
  exact ⟨x, ρ', rfl, m1, m2.perm n' p', m3.perm n n' p p'⟩
theorem perm_top {x : Nat × Blk} {f B g : List (Nat × Blk)} : (f ++ (x :: (B ++ g))).Perm (x :: (B ++ (f ++ g))) := by
 refine (List.perm_append_comm (l₁ := f) (l₂ := x :: (B ++ g))).trans ?_
 show (x :: ((B ++ g) ++ f)).Perm _
 refine List.Perm.cons _ ?_
 rw [List.append_assoc]
 exact List.Perm.append_left _ List.perm_append_comm
theorem CallAt.top {C : Ctx} {f : FuncId} {args : List AV} {v : AV} {m m' : Nat} {x x' : Nat × Blk} {fr B B' g g' : List (Nat × Blk)} (h : CallAt C f args ⟨m, [x :: (B ++ (fr ++ g))]⟩ v ⟨m', [x' :: (B' ++ (fr ++ g'))]⟩) : CallAt C f args ⟨m, [fr, x :: (B ++ g)]⟩ v ⟨m', [fr, x' :: (B' ++ g')]⟩ :=
 h.perm rfl rfl (by simpa [Heap.ents] using perm_top) (by simpa [Heap.ents] using perm_top)
def idn (m : Nat) : List (Nat × Nat) := (List.range m).map fun i => (i, i)
theorem idn_mem {m i : Nat} (h : i < m) : (i, i) ∈ idn m := List.mem_map.2 ⟨i, by simpa using h, rfl⟩
theorem lookN_of : ∀ {σ : List (Nat × Nat)} {i j : Nat}, (σ.map (·.1)).Nodup → (i, j) ∈ σ → lookN i σ = some j
 | [], _, _, _, h => by cases h
 | x :: r, i, j, nd, h => by
  rw [List.map_cons, List.nodup_cons] at nd
  unfold lookN
  rcases List.mem_cons.1 h with rfl | h
  ·simp
  ·have hne : ¬ x.1 = i := fun e => nd.1 (List.mem_map.2 ⟨_, h, e.symm⟩)
   rw [if_neg hne]
   exact lookN_of nd.2 h
theorem idn_nd (m : Nat) : ((idn m).map (·.1)).Nodup := by
 have : (idn m).map (·.1) = List.range m := by simp [idn, Function.comp_def]
 rw [this]; exact List.nodup_range
theorem idn_nd2 (m : Nat) : ((idn m).map (·.2)).Nodup := by
 have : (idn m).map (·.2) = List.range m := by simp [idn, Function.comp_def]
 rw [this]; exact List.nodup_range
theorem lookN_idn {m i : Nat} (h : i < m) : lookN i (idn m) = some i := lookN_of (idn_nd m) (idn_mem h)
def Idl (m : Nat) (σ : List (Nat × Nat)) : Prop := ∀ i, i < m → lookN i σ = some i
theorem idl_idn (m : Nat) : Idl m (idn m) := fun i h => lookN_idn h
def SelfB (m : Nat) (k : Blk) : Prop := ∀ σ, Idl m σ → fitB σ [] k k
theorem SelfB.mono {m m' : Nat} {k : Blk} (h : SelfB m k) (hm : m ≤ m') : SelfB m' k := fun σ hσ => h σ fun i hi => hσ i (by omega)
structure Bs where
 k : Nat
 out : Str
def upd (m : Nat) (b : Bs) (s : Str) : Bs := match s with
 | [] => b
 | _ :: _ => ⟨m, b.out ++ s⟩
theorem bytes_len : ∀ (s : Str), (bytesAV s).length = s.length
 | [] => rfl
 | c :: r => by simp [bytesAV, bytes_len r]
mutual
theorem refs_pure : ∀ (n : Nat) (v : AV), pureV v = true → refs n v = []
 | 0, _, _ => rfl
 | n + 1, v, h => by
  cases v with
  | func fn a c =>
   simp only [pureV, Bool.and_eq_true] at h
   simp only [refs, refsL_pure n a h.1, refsL_pure n c h.2, List.append_nil]
  | iface t v =>
   simp only [pureV] at h
   simp only [refs, refs_pure n v h]
  | agg cs =>
   simp only [pureV] at h
   simp only [refs, refsL_pure n cs h]
  | tup cs =>
   simp only [pureV] at h
   simp only [refs, refsL_pure n cs h]
  | _ => first | rfl | (simp [pureV] at h)
theorem refsL_pure : ∀ (n : Nat) (l : List AV), pureL l = true → l.flatMap (refs n) = []
 | _, [], _ => rfl
 | n, v :: r, h => by
  simp only [pureL, Bool.and_eq_true] at h
  rw [List.flatMap_cons, refs_pure n v h.1, refsL_pure n r h.2]
  rfl
end
structure Eok (m pb : Nat) (pre : List AV) (k sz : Nat) (es : List AV) (post : List AV) (g : List (Nat × Blk)) : Prop where
 lp : pb < m
 lk : k < m ∧ k ∉ pb :: g.map (·.1)
 lg : ∀ e, e ∈ g → e.1 < m
 nd : (pb :: g.map (·.1)).Nodup
 sg : ∀ e, e ∈ g → SelfB m e.2
 sp : ∀ σ, Idl m σ → fitL σ [] pre pre
 sq : ∀ σ, Idl m σ → fitL σ [] post post
 el : Elems sz es
section
variable {m n pb k sz : Nat} {pre post es : List AV} {g f : List (Nat × Blk)}
theorem gF_of {l : List (Nat × Blk)} (nd : (l.map (·.1)).Nodup) {e : Nat × Blk} (he : e ∈ l) : getF e.1 l = some e.2 := by
 have := get_of_mem (fs := [l]) (b := e.1) (k := e.2) (by simpa using nd) (by simpa using he)
 simp only [getFs] at this
 revert this
 cases getF e.1 l with
 | none => intro h; cases h
 | some x => intro h; exact h
theorem Eok.next (h : Eok m pb pre k sz es post g) {es' : List AV} (he : Elems sz es') : Eok (m + 1) pb pre m sz es' post g where
 lp := by have := h.lp; omega
 lk := ⟨Nat.lt_succ_self m, fun hx => by
  rcases List.mem_cons.1 hx with hx | hx
  ·have := h.lp; omega
  ·obtain ⟨e, he, hx⟩ := List.mem_map.1 hx
   have := h.lg e he; omega⟩
 lg := fun e he => by have := h.lg e he; omega
 nd := h.nd
 sg := fun e he => (h.sg e he).mono (Nat.le_succ m)
 sp := fun σ hσ => h.sp σ fun i hi => hσ i (by omega)
 sq := fun σ hσ => h.sq σ fun i hi => hσ i (by omega)
 el := he
theorem Eok.mono (h : Eok m pb pre k sz es post g) {m' : Nat} (hm : m ≤ m') {es' : List AV} (he : Elems sz es') : Eok m' pb pre k sz es' post g where
 lp := Nat.lt_of_lt_of_le h.lp hm
 lk := ⟨Nat.lt_of_lt_of_le h.lk.1 hm, h.lk.2⟩
 lg := fun e he => Nat.lt_of_lt_of_le (h.lg e he) hm
 nd := h.nd
 sg := fun e he => (h.sg e he).mono hm
 sp := fun σ hσ => h.sp σ fun i hi => hσ i (by omega)
 sq := fun σ hσ => h.sq σ fun i hi => hσ i (by omega)
 el := he
end
section
variable {C : Ctx} {call : CallE} {ops : Array Oper} {s : St} {o : Oper} {l : List Oper} {P : St → Prop}
theorem runE {E R : Option St} (h : E = R) (k : ∃ s', R = some s' ∧ P s') : ∃ s', E = some s' ∧ P s' := by subst h; exact k
theorem run_end (h : P s) : ∃ s', some s = some s' ∧ P s' := ⟨s, rfl, h⟩
theorem gate_split {b : Bool} (h1 : b = true → ∃ s', thenOps C call ops (gateV C call s o (some true)) l = some s' ∧ P s') (h2 : b = false → ∃ s', thenOps C call ops (gateV C call s o (some false)) l = some s' ∧ P s') :
  ∃ s', thenOps C call ops (gateV C call s o (some b)) l = some s' ∧ P s' := by
 cases b with
 | true => exact h1 rfl
 | false => exact h2 rfl
theorem pick_split {H : Heap} {d : Option Tmp} {p q : Option AV} {b : Bool} (h1 : b = true → ∃ s', thenOps C call ops (putV s d (pickV H (some (.bool true)) p q)) l = some s' ∧ P s') (h2 : b = false → ∃ s', thenOps C call ops (putV s d (pickV H (some (.bool false)) p q)) l = some s' ∧ P s') :
  ∃ s', thenOps C call ops (putV s d (pickV H (some (.bool b)) p q)) l = some s' ∧ P s' := by
 cases b with
 | true => exact h1 rfl
 | false => exact h2 rfl
end
theorem ascB {W : Str} (h : W.all (fun c => decide (c.toNat < 128)) = true) : asciiB W := by
 unfold asciiB; simpa using h
theorem inj_aNodes {a b : List Nd} (h : aNodes a = aNodes b) : a = b := inj_aTree (by simpa [aTree] using h)
section
variable (n : Nd)
@[simp] theorem nd_cells : (aNode n).cells = n.cs := rfl
@[simp] theorem nd_len : n.cs.length = 7 := rfl
@[simp] theorem nd_single : allSingle n.cs = true := rfl
@[simp] theorem nd_over {a b c d e f g : AV} : overL n.cs [a, b, c, d, e, f, g] = some n.cs := rfl
@[simp] theorem nd_lay {a b c d e f g : AV} : layL n.cs 0 [a, b, c, d, e, f, g] = some n.cs := rfl
@[simp] theorem nd_over' {m : Nd} : overL n.cs m.cs = some n.cs := rfl
@[simp] theorem nd_lay' {m : Nd} : layL n.cs 0 m.cs = some n.cs := rfl
@[simp] theorem nd_refs : n.cs.flatMap (refs 6) = [] := refsL_pure 6 _ (pure_cs n)
@[simp] theorem nd_take : takeL 7 n.cs = some n.cs := rfl
@[simp] theorem nd_sub : subL 0 7 n.cs = some n.cs := rfl
theorem nd_fold : AV.agg n.cs = aNode n := rfl
@[simp] theorem nd_f0 : fieldA Tryz.prog 31 (aNode n) 0 = some (.int .i64 n.kind) := rfl
@[simp] theorem nd_f1 : fieldA Tryz.prog 31 (aNode n) 1 = some (.int .i64 n.space) := rfl
@[simp] theorem nd_f2 : fieldA Tryz.prog 31 (aNode n) 2 = some (.str n.name) := rfl
@[simp] theorem nd_f3 : fieldA Tryz.prog 31 (aNode n) 3 = some (aAttrs n.attrs) := rfl
@[simp] theorem nd_f4 : fieldA Tryz.prog 31 (aNode n) 4 = some (.str n.data) := rfl
@[simp] theorem nd_f5 : fieldA Tryz.prog 31 (aNode n) 5 = some (.int .i64 n.up) := rfl
@[simp] theorem nd_f6 : fieldA Tryz.prog 31 (aNode n) 6 = some (aInts n.kids) := rfl
end
def linkB (t : Tr) (i : Nat) : Bool := (!(nodeAt t i).kids.any (badC t i)) && (if (nodeAt t i).up < 0 then decide ((nodeAt t i).up = -1) else decide ((nodeAt t i).up < (t.length : Int)) && (decide ((nodeAt t (nodeAt t i).up).kind ≤ 1) && decide (timesB (nodeAt t (nodeAt t i).up).kids i = 1)))
theorem fr_entry {d : Option Tmp} {l : Operand} {ty : TypeId} {pos : String} {af : Array Edge} {g : Option (Nat × Bool)} {s : St} : freshen s ⟨d, .entry l, ty, pos, af, g⟩ = s := rfl
theorem fit00 (H : Heap) : FitH 0 [] [] H ⟨0, []⟩ where
 nd1 := by simp
 nd2 := by simp
 nd3 := by simp [Heap.ents]
 lt := by simp
 idn := by simp
 num := by simp
 src := by intro e he; simp [Heap.ents] at he
 frz := fun x h => by cases h
theorem ren_ents {τ : Nat → Nat} (M : List (Int × Int)) : renB τ (.map (entsM aInt aInt M)) = .map (entsM aInt aInt M) := by
 have : renM τ (entsM aInt aInt M) = entsM aInt aInt M := by
  induction M with
  | nil => rfl
  | cons p r ih => simp only [entsM, List.map_cons, renM] at ih ⊢; rw [ih]; rfl
 simp only [renB, this]
theorem bare_ents : ∀ (M : List (Int × Int)), bareM (entsM aInt aInt M) = true
 | [] => rfl
 | p :: r => by
  have := bare_ents r
  simp only [entsM] at this
  simp [entsM, bareM, bareV, aInt]
  simpa [aInt] using this
theorem fit_ln {t : Tr} {x : Nd} {rem : List (Int × Int)} {cur : Option (AV × AV)} {c n : Nat} {f : List (Nat × Blk)} (h2 : getF c f = some (.rng (entsM aInt aInt rem) cur)) (h1 : getF 1 f = some (.cells x.cs)) (h0 : getF 0 f = some (.cells [aNodes t])) (hc : c ≠ 0 ∧ c ≠ 1 := by omega) :
  FitH 0 [(c, 2), (1, 1), (0, 0)] [] ⟨n, [f]⟩ ⟨3, [[(2, .rng (entsM aInt aInt rem) cur), (1, .cells x.cs), (0, .cells [aNodes t])]]⟩ where
 nd1 := by simp; omega
 nd2 := by simp
 nd3 := by simp [Heap.ents]
 lt := by simp
 idn := by simp
 num := by simp
 src := by
  intro e he
  have hN := pure_aNodes t
  simp [Heap.ents] at he
  rcases he with rfl | rfl | rfl
  ·exact ⟨c, .rng (entsM aInt aInt rem) cur, by simp, by simp [Heap.get, getFs, h2], rfl, rfl⟩
  ·exact ⟨1, .cells x.cs, by simp, by simp [Heap.get, getFs, h1], fitL_pure (pure_cs x)⟩
  ·exact ⟨0, .cells [aNodes t], by simp, by simp [Heap.get, getFs, h0], fitL_pure (by simp [pureL])⟩
 frz := fun x h => by cases h
theorem ents_split {M : List (Int × Int)} {l q : List (AV × AV)} {e : AV × AV} (h : entsM aInt aInt M = l ++ e :: q) : ∃ A p C, M = A ++ p :: C ∧ l = entsM aInt aInt A ∧ e = (aInt p.1, aInt p.2) ∧ q = entsM aInt aInt C := by
 unfold entsM at h
 obtain ⟨A, B, h1, h2, h3⟩ := List.map_eq_append_iff.1 h
 obtain ⟨p, C, h4, h5, h6⟩ := List.map_eq_cons_iff.1 h3
 exact ⟨A, p, C, by rw [h1, h4], h2.symm, h5.symm, h6.symm⟩
theorem linked_at {T : List (Entry Tryz.prog)} (t : Tr) (ht : okTr t) (i : Nat) (hi : i < t.length) : CallAt (ctx T) 53 [aTree t, .int .i64 (i : Int), aNode (nodeAt t i)] ⟨0, []⟩ (.bool (linkB t i)) ⟨0, []⟩ := by
 have hcnt := c92 (T := T) (nodeAt t i).kids (by have := (ht.2 _ (nodeAt_mem (t := t) (i := (i : Int)) (by omega) (by omega))).1; omega)
 obtain ⟨x, hx⟩ : ∃ x, x = nodeAt t i := ⟨_, rfl⟩
 rw [← hx] at hcnt ⊢
 refine callAt_body (fn := Tryz.f53) (s0 := ⟨[0, 1, 2, 3, 5, 6, 7, 11], [aTree t, .int .i64 (i : Int), aNode x, .undef, .undef, .undef, .undef, .undef], [], 70, ⟨0, [[]]⟩⟩) Tryz.func53 rfl rfl rfl ?_
 repeat apply wq
 refine wps_region callOK ?_
 simp [zS, aTree, nd_fold]
 have hcall := hcnt.framed (σ := []) (H := ⟨2, [[(1, .cells x.cs), (0, .cells [aNodes t])]]⟩) (H' := ⟨3, [[(2, .map (entsM aInt aInt (cntM x.kids))), (1, .cells x.cs), (0, .cells [aNodes t])]]⟩) (args := [aInts x.kids]) (fit00 _) (by simp [fitL, fitV, pureV]) (by
  refine ⟨by simp, fun _ _ => by simp [Heap.ents], ?_⟩
  intro e he
  simp [Heap.ents] at he
  rcases he with rfl | rfl | rfl
  ·exact .inl ⟨(0, .map (entsM aInt aInt (cntM x.kids))), by simp [Heap.ents], by rw [ren_ents]; simp [outN, lookR]⟩
  ·exact .inr ⟨by simp [Heap.ents], by simp⟩
  ·exact .inr ⟨by simp [Heap.ents], by simp⟩) (by simp)
 simp only [renV, outN, lookR] at hcall
 have hbm := bare_ents (cntM x.kids)
 repeat apply wq
 refine wps_region (callOKF [⟨92, _, _, _, _, hcall⟩]) ?_
 simp [zS, callF, rgV, rangeM, hbm, Heap.drop, killFs, killF, Heap.new, pushF]
 repeat apply wq
 refine wps_block (wps_loop' (fun y : List (Int × Int) × Option (Int × Int) => (⟨[0, 1, 2, 3, 5, 6, 7, 11], [.undef, .int .i64 (i : Int), .undef, .ptr 0 0, .ptr 1 0, .bool false, .undef, .ptr 2 0], [], 70, ⟨3, [[(2, .rng (entsM aInt aInt y.1) (y.2.map fun p => (aInt p.1, aInt p.2))), (1, .cells x.cs), (0, .cells [aNodes t])]]⟩⟩ : St))
  (fun y => (∀ p, p ∈ y.1 → p.1 ∈ x.kids) ∧ ∀ k, k ∈ x.kids → badC t i k = true → ∃ v, (k, v) ∈ y.1) (fun y => y.1.length) [(3, 2), (1, 1), (0, 0)] [] (cntM x.kids, none) ⟨fun p hp => cnt_keys.1 ⟨p.2, hp⟩, fun k hk _ => cnt_keys.2 hk⟩
  ⟨rfl, rfl, rfl, by simp [fitL, fitV, lookN, pureV, pureL], fit_ln rfl rfl rfl⟩ ?_)
 rintro ⟨rem, cur⟩ ⟨hm1, hm2⟩ B hB
 simp only at hm1 hm2 ⊢
 refine wps_seq ?_
 refine wps_next callOK rfl rfl rfl rfl rfl ?_ ?_
 ·intro h0
  refine ⟨_, rfl, ?_⟩
  simp [zS]
  have hrem : rem = [] := by cases rem with
   | nil => rfl
   | cons p r => simp [entsM] at h0
  subst hrem
  have hno : x.kids.any (badC t i) = false := by
   rw [List.any_eq_false]
   intro k hk hb
   obtain ⟨v, hv⟩ := hm2 k hk hb
   cases hv
  have hR : linkB t i = (if x.up < 0 then decide (x.up = -1) else decide (x.up < (t.length : Int)) && (decide ((nodeAt t x.up).kind ≤ 1) && decide (timesB (nodeAt t x.up).kids i = 1))) := by
   unfold linkB
   rw [← hx, hno]; rfl
  rw [hR]
  clear hR hcall hcnt hbm hm1 hm2 hB h0
  repeat apply wq
  refine wps_cf rfl ?_
  repeat apply wq
  refine wps_exit ?_
  simp
  have g5 : getL x.cs 5 = some (.int .i64 x.up) := rfl
  by_cases hu : x.up < 0
  ·simp only [hu, if_true]
   repeat apply wq
   refine wps_region callOK ?_
   simp [zS, g5, hu]
   repeat apply wq
   refine wps_ct (by simp [opnd, St.get, hu]) ?_
   repeat apply wq
   refine wps_region callOK ?_
   simp [zS, g5]
   repeat apply wq
   refine wps_ret ?_
   simp [retVal, Tryz.f53, oneOr]
   exact ⟨[], [], fitV_pure rfl, fit00 _⟩
  ·simp only [hu, if_false]
   repeat apply wq
   refine wps_region callOK ?_
   simp [zS, g5, hu]
   repeat apply wq
   refine wps_cf (by simp [opnd, St.get, hu]) ?_
   repeat apply wq
   refine wps_skip ?_
   simp
   have lenT : ∀ H, lenA Tryz.prog H 22 (aNodes t) = some t.length := fun H => by simp [lenA]
   by_cases h1 : x.up < (t.length : Int)
   ·have hixu := atX (t := t) (i := x.up) (by omega) h1
    have g0 : getL (nodeAt t x.up).cs 0 = some (.int .i64 (nodeAt t x.up).kind) := rfl
    have g6 : getL (nodeAt t x.up).cs 6 = some (aInts (nodeAt t x.up).kids) := rfl
    by_cases h2 : (nodeAt t x.up).kind ≤ 1
    ·have hcnt2 := c92 (T := T) (nodeAt t x.up).kids (by have := (ht.2 _ (nodeAt_mem (t := t) (i := x.up) (by omega) h1)).1; omega)
     obtain ⟨K, hK⟩ : ∃ K, K = (nodeAt t x.up).kids := ⟨_, rfl⟩
     rw [← hK] at hcnt2 g6 ⊢
     obtain ⟨rg, hrg⟩ : ∃ rg, rg = Blk.rng (entsM aInt aInt []) (Option.map (fun p => (aInt p.1, aInt p.2)) cur) := ⟨_, rfl⟩
     rw [← hrg]
     have hcall2 := hcnt2.framed (σ := []) (H := ⟨3, [[(2, rg), (1, .cells x.cs), (0, .cells [aNodes t])]]⟩) (H' := ⟨4, [[(3, .map (entsM aInt aInt (cntM K))), (2, rg), (1, .cells x.cs), (0, .cells [aNodes t])]]⟩) (args := [aInts K]) (fit00 _) (by simp [fitL, fitV, pureV]) (by
      refine ⟨by simp, fun _ _ => by simp [Heap.ents], ?_⟩
      intro e he
      simp [Heap.ents] at he
      rcases he with rfl | rfl | rfl | rfl
      ·exact .inl ⟨(0, .map (entsM aInt aInt (cntM K))), by simp [Heap.ents], by rw [ren_ents]; simp [outN, lookR]⟩
      ·exact .inr ⟨by simp [Heap.ents], by simp⟩
      ·exact .inr ⟨by simp [Heap.ents], by simp⟩
      ·exact .inr ⟨by simp [Heap.ents], by simp⟩) (by simp)
     simp only [renV, outN, lookR] at hcall2
     have hz : zeroOf Tryz.prog mapII.te = some (.int .i64 0) := zeT3
     have hlook := mapII.look (M := cntM K) (b := 3) (H := ⟨4, [[(3, .map (entsM aInt aInt (cntM K))), (2, rg), (1, .cells x.cs), (0, .cells [aNodes t])]]⟩) hz rfl (i : Int)
     have hgv : ((getM (i : Int) (cntM K)).map aInt).getD (.int .i64 0) = .int .i64 (timesB K i : Int) := by
      rw [cnt_get]
      by_cases hm : (i : Int) ∈ K
      ·simp [hm, aInt]
      ·have : timesB K i = 0 := by unfold timesB; rw [List.countP_eq_zero]; intro y hy; simp; exact fun e => hm (e ▸ hy)
       simp [hm, this]
     rw [hgv] at hlook
     have hti : ((timesB K i : Nat) : Int) = 1 ↔ timesB K i = 1 := by omega
     simp only [aInt] at hlook
     generalize cntM K = M at *
     repeat apply wq
     refine wps_region (callOKF [⟨92, _, _, _, _, hcall2⟩]) ?_
     simp [zS, callF, g5, lenT, h1, hixu, g0, h2, g6, hlook]
     repeat apply wq
     refine wps_ret ?_
     simp [retVal, Tryz.f53, oneOr, h1, h2, hti]
     exact ⟨[], [], fitV_pure rfl, fit00 _⟩
    ·have h2' : ¬ (nodeAt t x.up).kind ≤ 1 := h2
     repeat apply wq
     refine wps_region callOK ?_
     simp [zS, g5, lenT, h1, hixu, g0, h2]
     repeat apply wq
     refine wps_ret ?_
     simp [retVal, Tryz.f53, oneOr, h1, h2]
     exact ⟨[], [], fitV_pure rfl, fit00 _⟩
   ·repeat apply wq
    refine wps_region callOK ?_
    simp [zS, g5, lenT, h1]
    repeat apply wq
    refine wps_ret ?_
    simp [retVal, Tryz.f53, oneOr, h1]
    exact ⟨[], [], fitV_pure rfl, fit00 _⟩
 ·intro l e q h
  obtain ⟨A, p, C, rfl, rfl, rfl, rfl⟩ := ents_split h
  refine ⟨_, _, rfl, rfl, ?_⟩
  simp [zS]
  clear hcall hcnt hbm
  repeat apply wq
  refine wps_ct rfl ?_
  repeat apply wq
  refine wps_skip ?_
  simp
  repeat apply wq
  refine wps_block ?_
  have lenT : ∀ H, lenA Tryz.prog H 22 (aNodes t) = some t.length := fun H => by simp [lenA]
  have hpm := hm1 p (by simp)
  have hbad : badC t i p.1 = true → linkB t i = false := fun hb => by
   unfold linkB
   have : (nodeAt t i).kids.any (badC t i) = true := List.any_eq_true.2 ⟨p.1, by rw [← hx]; exact hpm, hb⟩
   rw [this]; rfl
  repeat apply wq
  refine wps_region callOK ?_
  simp [zS, ev_entry, fr_entry, enV, entryA, aInt]
  by_cases c1 : p.1 < 0
  ·have hb := hbad (by simp [badC, c1])
   repeat apply wq
   refine wps_region callOK ?_
   simp [zS, c1, lenT]
   repeat apply wq
   refine wps_ct rfl ?_
   repeat apply wq
   refine wps_region callOK ?_
   simp [zS]
   repeat apply wq
   refine wps_ret ?_
   simp [retVal, Tryz.f53, oneOr]
   exact ⟨[], [], by rw [hb]; exact fitV_pure rfl, fit00 _⟩
  ·by_cases c2 : (t.length : Int) ≤ p.1
   ·have hb := hbad (by simp [badC, c2])
    repeat apply wq
    refine wps_region callOK ?_
    simp [zS, c1, c2, lenT]
    repeat apply wq
    refine wps_ct rfl ?_
    repeat apply wq
    refine wps_region callOK ?_
    simp [zS]
    repeat apply wq
    refine wps_ret ?_
    simp [retVal, Tryz.f53, oneOr]
    exact ⟨[], [], by rw [hb]; exact fitV_pure rfl, fit00 _⟩
   ·have hixk := atX (t := t) (i := p.1) (by omega) (by omega)
    have g5 : getL (nodeAt t p.1).cs 5 = some (.int .i64 (nodeAt t p.1).up) := rfl
    by_cases c3 : (nodeAt t p.1).up = (i : Int)
    ·repeat apply wq
     refine wps_region callOK ?_
     simp [zS, c1, c2, lenT, hixk, g5, c3]
     repeat apply wq
     refine wps_cf rfl ?_
     repeat apply wq
     refine wps_skip ?_
     simp
     refine hB _ (A ++ C, some p) (by simp) ⟨fun p' hp' => hm1 p' (by rcases List.mem_append.1 hp' with h | h <;> simp [h]), fun k hk hb => ?_⟩ ⟨[(2, 2), (1, 1), (0, 0)], [], rfl, rfl, rfl, by simp [fitL, fitV, lookN, pureV, pureL], ?_⟩
     ·obtain ⟨v, hv⟩ := hm2 k hk hb
      refine ⟨v, ?_⟩
      rcases List.mem_append.1 hv with hv | hv
      ·exact List.mem_append.2 (.inl hv)
      ·rcases List.mem_cons.1 hv with hv | hv
       ·exfalso
        have : k = p.1 := by rw [← hv]
        subst this
        simp [badC, c1, c2, c3] at hb
       ·exact List.mem_append.2 (.inr hv)
     ·have e : entsM aInt aInt A ++ entsM aInt aInt C = entsM aInt aInt (A ++ C) := by simp [entsM]
      exact fit_ln (by simp [getF, ← e, aInt]) rfl rfl
    ·have hb := hbad (by simp [badC, c3])
     repeat apply wq
     refine wps_region callOK ?_
     simp [zS, c1, c2, lenT, hixk, g5, c3]
     repeat apply wq
     refine wps_ct rfl ?_
     repeat apply wq
     refine wps_region callOK ?_
     simp [zS]
     repeat apply wq
     refine wps_ret ?_
     simp [retVal, Tryz.f53, oneOr]
     exact ⟨[], [], by rw [hb]; exact fitV_pure rfl, fit00 _⟩
end Go.Proofs.YtgpjifeeneeiaaaGreatDoor
namespace Go.Proofs.YtgpjifeeneeiaaaGreatDoor
noncomputable section
set_option linter.unusedSimpArgs false
set_option linter.unusedVariables false
open Go Go.RowKit
def AfterR (ρ : Place) (H : Heap) (w : World) (R : AV → Heap → Prop) : Ending → World → Prop := fun e w' => ∃ v H', R v H' ∧ After ρ H w v H' e w'
def CallAtR (C : Ctx) (f : FuncId) (args : List AV) (H : Heap) (R : AV → Heap → Prop) : Prop :=
 ∀ ρ w xs, Sim ρ H w → VRs ρ args xs → ∃ g ys, (callFunc f xs.toArray).run C.P w = .ok (.enter g ys) w ∧ CallsIn Fence.wide 0 C.P g ys w (AfterR ρ H w R)
theorem callAtR_body {C : Ctx} {f : FuncId} {fn : Func} {body : Code} {args : List AV} {H : Heap} {R : AV → Heap → Prop} {s0 : St} (hf : C.P.funcs[f]? = some fn) (hname : (fn.name == "runtime.NumGoroutine") = false)
  (hb : fn.body = some body) (he : enterF C f fn args H = some s0)
  (h : WpS C H.n body s0 fun x s => (x = .normal ∨ x = .ret) ∧ ∃ vs, retVal C s fn.results.toList = some vs ∧ ∃ v H' σ Φ, R v H' ∧ fitV σ Φ (oneOr vs) v ∧ FitH H.n σ Φ s.H H') : CallAtR C f args H R := by
 intro ρ w xs sm hx
 refine ⟨f, xs.toArray, ?_, ?_⟩
 ·have hname' : ¬ fn.name = "runtime.NumGoroutine" := fun e => by rw [e] at hname; simp at hname
  simp [callFunc, hf, hname', hb]
 ·refine callsIn_of_wp_marks hf hb trivial ?_
  obtain ⟨o1, o2⟩ := sm.opened
  have hlen : xs.length = args.length := hx.1
  have env0 : EnvR ρ { ks := C.keep f, vs := undefs (C.keep f), ts := [], sz := args.length + (fn.ntmps - args.length), H := ⟨H.n, [] :: H.fs⟩ }
    { tmps := xs.toArray ++ Array.replicate (fn.ntmps - xs.toArray.size) undef, defers := [] } := by
   refine ⟨by simp [hlen], fun t u hu => ?_⟩
   simp only [St.get] at hu
   split at hu
   ·rename_i hl
    have := lookK_undefs hl
    simp only [Option.some.injEq] at hu
    subst hu; subst this
    exact .undef _
   ·simp [look_c, look_n] at hu
  obtain ⟨e1, hH1⟩ := putArgs_run (i := 0) he env0 hx fun j hj => by
   simp only [Nat.zero_add, Array.getD_eq_getD_getElem?]
   rw [Array.getElem?_append_left (by simpa using hj)]
   simp [hj]
  have hH : s0.H = ⟨H.n, [] :: H.fs⟩ := hH1
  let b : Base := ⟨H.n, fun k => ∃ e, e ∈ H.ents ∧ ∃ l, ρ e.1 = some l ∧ l.cb = k, ρ, w, []⟩
  have since0 : Since b ρ s0.H w := by
   rw [hH]
   exact ⟨fun k hk => ⟨hk, rfl⟩, rfl, rfl, rfl, Nat.le_refl _, fun _ _ _ => rfl, fun e he l hl => .inl ⟨e, he, l, hl, rfl⟩, fun k hk => .inl hk, fun _ _ => rfl, Nat.le_refl _⟩
  refine (h b _ w rfl ⟨ρ, since0, by rw [hH]; exact o1, e1, .of_eq rfl⟩ _ fun x s a' w' hq ha' => ?_).wp
  obtain ⟨hx1, vs, hvs, v, H', σ, Φ, hR, hfv, hfh⟩ := hq
  obtain ⟨ρ1, k1, k2, k3, rs, hrs, hnd, hmk⟩ := ha'
  have fin : LeavesInM Fence.wide 0 C.P fn a'.tmps (AfterR ρ H w R) a'.defers .returning w' := by
   have hrs : a'.defers = rs.map mkD := by rw [hrs]; exact List.append_nil _
   rw [hrs]
   refine leaves_since (b := b) rs w' hnd hmk k2 k1 fun w' k2 k1 => ?_
   obtain ⟨y, r1, r2⟩ := results_run k2 k3 hvs
   have run := Fits.run (hfh.fits k2) k2 _ (Nat.le_refl _) r2 hfv
   have sim2 := hfh.sim k2 k1.num
   have sin2 := FitH.since (b := b) hfh k2 k1
   refine ⟨y, r1, v, H', hR, y, _, rfl, run, sim2, ?_⟩
   exact ⟨⟨lookN_refl_le sm sin2.low, sin2.fz, sin2.os, sin2.tape, sin2.output⟩, sin2.size, fun k hk hn => sin2.keeps k hk fun ⟨e, he, l, hl, hlk⟩ => hn e he l hl hlk,
    fun e he l hl => sin2.rows e he l hl, sin2.num, sin2.low, sin2.cold⟩
  rcases hx1 with rfl | rfl
  ·exact fin
  ·exact fin
theorem ops_wpK {C : Ctx} {call : CallE} (hC : CallOK C call) {ops : Array Oper} {r : Option Nat} {Q : Exit → Act → World → Prop} {rest : List Nat} : ∀ {l : List Oper} {i : Nat} {s s' : St} {a : Act} {ρ : Place} {w : World},
  (∀ j, j < l.length → l[j]? = ops[i + j]?) → evalOps C call ops l s = some s' → Sim ρ s.H w → EnvR ρ s a →
  (∀ a' w' ρ', Sim ρ' s'.H w' → Step ρ s.H w ρ' s'.H w' → EnvR ρ' s' a' → a'.defers = a.defers → wpOpsIn (fen r) 0 C.P ops Q rest a' w') → wpOpsIn (fen r) 0 C.P ops Q (List.range' i l.length ++ rest) a w
 | [], i, s, s', a, ρ, w, _, h, sm, e, hk => by
  simp only [evalOps, Option.some.injEq] at h
  subst h
  simpa using hk a w ρ sm (.refl _ _ _) e rfl
 | o :: l, i, s, s', a, ρ, w, hl, h, sm, e, hk => by
  obtain ⟨s1, h1, h2⟩ := Option.bind_eq_some_iff.1 h
  obtain ⟨g1, g2, g3⟩ := freshen_run sm e o
  rw [List.length_cons, List.range'_succ, List.cons_append, wpOpsIn_cons]
  refine op_wp hC (by simpa using (hl 0 (by simp)).symm) h1 g1 g3 fun a' w' ρ' k1 k2 k3 k4 => ?_
  refine ops_wpK hC (fun j hj => by have := hl (j + 1) (by simpa using hj); simpa [Nat.add_assoc, Nat.add_comm 1 j] using this) h2 k1 k3 fun a2 w2 ρ2 m1 m2 m3 m4 => ?_
  exact hk a2 w2 ρ2 m1 ((g2.trans k2).trans m2) m3 (m4.trans k4)
theorem wps_callR {C : Ctx} {n : Nat} {r : Option Nat} {s s1 : St} {Q : Out → St → Prop} {call : CallE} {id : Nat} {ops : Array Oper} {o : Oper} {pre : List Oper} {c : Call} {fo : Operand} {g : FuncId} {args : List AV} {R : AV → Heap → Prop}
  (hC : CallOK C call) (hops : ops.toList = pre ++ [o]) (ho : o.op = .call c) (hcl : c.callee = .value fo) (hev : evalOps C call ops pre { s with ts := [] } = some s1)
  (hg : guardA ops s1 o = some true) (ha : opnds s1 c.args.toList = some args) (hfo : opnd s1 fo = some (.func (.func g) [] [])) (hcall : CallAtR C g args s1.H R)
  (hQ : ∀ v H', R v H' → ∃ s', St.put { s1 with H := H' } o.dst v = some s' ∧ Q .normal s') : WpSr C n r (.region id ops false) s Q := by
 intro b' a w hbn hat K hK
 obtain ⟨ρ, g1, g2, g3, g4⟩ := hat
 refine wpIn_region ?_
 have hsz : ops.size = pre.length + 1 := by rw [← Array.length_toList, hops]; simp
 have hlast : ops[pre.length]? = some o := by rw [← Array.getElem?_toList, hops]; simp
 rw [List.range_eq_range', hsz, List.range'_concat]
 refine ops_wpK hC (l := pre) (i := 0) (s := { s with ts := [] }) (s' := s1) (fun j hj => by
  rw [← Array.getElem?_toList, hops, List.getElem?_append_left (by omega)]; simp) hev g2 g3.fresh fun a1 w1 ρ1 k1 k2 k3 k4 => ?_
 have e1 : [0 + 1 * pre.length] = pre.length :: [] := by simp
 rw [e1, wpOpsIn_cons]
 unfold wpOpIn
 simp only [hlast]
 rw [guard_run k3 hg]
 simp only [if_true]
 refine ⟨fun f _ => fen_fn r f, ?_⟩
 have hsem : o.semAt (fen r).round a1.eval = execOp a1.eval o := by
  unfold Oper.semAt
  split
  ·rename_i hop; rw [ho] at hop; cases hop
  ·rfl
 rw [hsem]
 obtain ⟨first', cap', hfe, hfi, hca⟩ := (opnd_run k3 hfo).args
 have hf0 : first'.toList = [] := List.length_eq_zero_iff.1 hfi.1
 have hc0 : cap'.toList = [] := List.length_eq_zero_iff.1 hca.1
 have hrun : (execOp a1.eval o).run C.P w1 = (callFunc g (c.args.map a1.eval).toList.toArray).run C.P w1 := by
  have e1 : (c.args.map a1.eval).toList.toArray = first' ++ c.args.map a1.eval ++ cap' := by apply Array.ext'; simp [hf0, hc0]
  rw [e1]
  simp [execOp, ho, hcl, resolve, Deferred.ofValue, hfe, invoke]
 rw [hrun]
 obtain ⟨g', ys, h1, h2⟩ := hcall ρ1 w1 _ k1 (opnds_arr k3 ha)
 rw [h1]
 refine ⟨fun hd => (by rw [fen_depth] at hd; cases hd), ?_⟩
 refine CallsIn.mono (fen_calls h2) ?_
 rintro e' w' ⟨v, H', hR, x, ρ', rfl, h3, h4, h5⟩
 obtain ⟨s', hput, hq⟩ := hQ v H' hR
 have hH : s'.H = H' := St.put_heap hput
 have henv : EnvR ρ' s' (a1.put o.dst x) := ((k3.mono h5.le).heap H').put hput h3
 have defers : ∀ (d : Option Tmp) (x : Value), (a1.put d x).defers = a1.defers := fun d x => by cases d <;> rfl
 have st := k2.trans h5
 exact hK .normal s' _ w' hq ⟨ρ', hH ▸ g1.step st, hH ▸ h4, henv, by rw [defers, k4]; exact hH ▸ g4.step st⟩
end
end Go.Proofs.YtgpjifeeneeiaaaGreatDoor
namespace Go.Proofs.YtgpjifeeneeiaaaGreatDoor
set_option linter.unusedSimpArgs false
set_option linter.unusedVariables false
open Go Go.RowKit
set_option maxRecDepth 100000
def oneC (_ : Unit) : AV := .int .i64 1
def mapI1 : MapT Tryz.prog 71 aInt oneC where
 tk := 3
 te := 3
 kd := _
 hu := Tryz.underlying71
 hk := Tryz.underlying3
 eq := fun a b => by
  show some (a == b) = _
  congr 1
 pure := fun a v => rfl
def keyS (L : List Int) : List (Int × Unit) := L.map fun k => (k, ())
theorem keyS_set {k : Int} : ∀ (L : List Int), ∃ L', setM k () (keyS L) = keyS L' ∧ ∀ x, x ∈ L' ↔ x ∈ L ∨ x = k
 | [] => ⟨[k], rfl, fun x => by simp⟩
 | y :: r => by
  by_cases h : y = k
  ·exact ⟨y :: r, by simp [keyS, setM, h], fun x => by simp; intro he; exact .inl (he.trans h.symm)⟩
  ·obtain ⟨L', h1, h2⟩ := keyS_set (k := k) r
   refine ⟨y :: L', ?_, fun x => by simp [h2, or_assoc]⟩
   unfold keyS at h1 ⊢
   rw [List.map_cons, List.map_cons, setM, if_neg h, h1]
theorem keyS_get {k : Int} : ∀ (L : List Int), getM k (keyS L) = if k ∈ L then some () else none
 | [] => rfl
 | y :: r => by
  have ih := keyS_get (k := k) r
  unfold keyS at ih ⊢
  rw [List.map_cons, getM]
  by_cases h : y = k
  ·subst h; simp
  ·have h' : ¬ k = y := fun e => h e.symm
   simp only [h, if_false, List.mem_cons, h', false_or]
   exact ih
abbrev mC (L : List Int) : Blk := .map (entsM aInt oneC (keyS L))
theorem bareC : ∀ (M : List (Int × Unit)), bareM (entsM aInt oneC M) = true
 | [] => rfl
 | p :: r => by
  have := bareC r
  simp only [entsM] at this
  simp [entsM, bareM, bareV, aInt, oneC]
  simpa [aInt, oneC] using this
theorem splitC {M : List (Int × Unit)} {l q : List (AV × AV)} {e : AV × AV} (h : entsM aInt oneC M = l ++ e :: q) : ∃ A p C, M = A ++ p :: C ∧ l = entsM aInt oneC A ∧ e = (aInt p.1, oneC p.2) ∧ q = entsM aInt oneC C := by
 unfold entsM at h
 obtain ⟨A, B, h1, h2, h3⟩ := List.map_eq_append_iff.1 h
 obtain ⟨p, C, h4, h5, h6⟩ := List.map_eq_cons_iff.1 h3
 exact ⟨A, p, C, by rw [h1, h4], h2.symm, h5.symm, h6.symm⟩
theorem fit_mC {σ : List (Nat × Nat)} {Φ : List (Nat × List AV)} (L : List Int) : fitB σ Φ (mC L) (mC L) := by
 have k1 : ∀ (M : List (Int × Unit)), fitL σ Φ (M.map fun p => aInt p.1) (M.map fun p => aInt p.1) := fun M => fitL_pure (by
  induction M with
  | nil => rfl
  | cons p r ih => simp only [List.map_cons, pureL, ih]; rfl)
 have k2 : ∀ (M : List (Int × Unit)), fitL σ Φ (M.map fun p => oneC p.2) (M.map fun p => oneC p.2) := fun M => fitL_pure (by
  induction M with
  | nil => rfl
  | cons p r ih => simp only [List.map_cons, pureL, ih]; rfl)
 exact ⟨by simpa [entsM, Function.comp_def] using k1 (keyS L), by simpa [entsM, Function.comp_def] using k2 (keyS L)⟩
theorem fit_cp {t : Tr} {k : Blk} {L : List Int} {H : Heap} (h3 : H.get 3 = some k) (hk : fitB [(3, 3), (1, 1), (0, 0)] [] k k) (h1 : H.get 1 = some (mC L)) (h0 : H.get 0 = some (.cells [aNodes t])) :
  FitH 3 [(3, 3), (1, 1), (0, 0)] [] H ⟨4, [[(3, k), (1, mC L), (0, .cells [aNodes t])]]⟩ where
 nd1 := by simp
 nd2 := by simp
 nd3 := by simp [Heap.ents]
 lt := by simp
 idn := by simp
 num := by simp
 src := by
  intro e he
  have hN := pure_aNodes t
  simp [Heap.ents] at he
  rcases he with rfl | rfl | rfl
  ·exact ⟨3, k, by simp, h3, hk⟩
  ·exact ⟨1, mC L, by simp, h1, fit_mC L⟩
  ·exact ⟨0, .cells [aNodes t], by simp, h0, fitL_pure (by simp [pureL])⟩
 frz := fun x h => by cases h
theorem fit_ce {t : Tr} {L : List Int} {H : Heap} (h1 : H.get 1 = some (mC L)) (h0 : H.get 0 = some (.cells [aNodes t])) :
  FitH 3 [(1, 1), (0, 0)] [] H ⟨4, [[(1, mC L), (0, .cells [aNodes t])]]⟩ where
 nd1 := by simp
 nd2 := by simp
 nd3 := by simp [Heap.ents]
 lt := by simp
 idn := by simp
 num := by simp
 src := by
  intro e he
  have hN := pure_aNodes t
  simp [Heap.ents] at he
  rcases he with rfl | rfl
  ·exact ⟨1, mC L, by simp, h1, fit_mC L⟩
  ·exact ⟨0, .cells [aNodes t], by simp, h0, fitL_pure (by simp [pureL])⟩
 frz := fun x h => by cases h
theorem copy_at {T : List (Entry Tryz.prog)} (t : Tr) (E S : List Int) : CallAtR (ctx T) 54 [.map 1, .map 2] ⟨3, [[(2, mC S), (1, mC E), (0, .cells [aNodes t])]]⟩
  (fun v H' => v = .tup [] ∧ ∃ L, H' = ⟨4, [[(1, mC L), (0, .cells [aNodes t])]]⟩ ∧ ∀ k, k ∈ L ↔ k ∈ E ∨ k ∈ S) := by
 refine callAtR_body (fn := Tryz.f54) (s0 := ⟨[0, 1, 4, 5, 7], [.map 1, .map 2, .undef, .undef, .undef], [], 16, ⟨3, [] :: [[(2, mC S), (1, mC E), (0, .cells [aNodes t])]]⟩⟩) Tryz.func54 rfl rfl rfl ?_
 have hbm := bareC (keyS S)
 repeat apply wq
 repeat apply wq
 refine wps_region callOK ?_
 simp [zS, rgV, rangeM, hbm, Heap.drop, killFs, killF, Heap.new, pushF]
 repeat apply wq
 refine wps_block (wps_loop' (fun y : List (Int × Unit) × Option (Int × Unit) × List Int => (⟨[0, 1, 4, 5, 7], [.map 1, .undef, .undef, .undef, .ptr 3 0], [], 16, ⟨4, [[(3, .rng (entsM aInt oneC y.1) (y.2.1.map fun p => (aInt p.1, oneC p.2))), (1, mC y.2.2), (0, .cells [aNodes t])]]⟩⟩ : St))
  (fun y => ∀ k, (k ∈ y.2.2 ∨ ∃ u, (k, u) ∈ y.1) ↔ (k ∈ E ∨ k ∈ S)) (fun y => y.1.length) [(3, 3), (1, 1), (0, 0)] [] (keyS S, none, E) (fun k => by simp [keyS])
  ⟨rfl, rfl, rfl, by simp [fitL, fitV, lookN, pureV, pureL], fit_cp rfl ⟨rfl, rfl⟩ rfl rfl⟩ ?_)
 rintro ⟨rem, cur, L⟩ hm B hB
 simp only at hm ⊢
 refine wps_seq ?_
 refine wps_next callOK rfl rfl rfl rfl rfl ?_ ?_
 ·intro h0
  refine ⟨_, rfl, ?_⟩
  simp [zS]
  have hrem : rem = [] := by cases rem with
   | nil => rfl
   | cons p r => simp [entsM] at h0
  subst hrem
  repeat apply wq
  refine wps_cf rfl ?_
  repeat apply wq
  refine wps_exit ?_
  simp
  refine ⟨[], rfl, .tup [], ⟨4, [[(1, mC L), (0, .cells [aNodes t])]]⟩, ?_⟩
  have hL : ∀ k, k ∈ L ↔ k ∈ E ∨ k ∈ S := fun k => by
   have := hm k
   simpa using this
  refine ⟨⟨rfl, L, rfl, hL⟩, [(1, 1), (0, 0)], [], ?_, fit_ce rfl rfl⟩
  exact fitV_pure rfl
 ·intro l e q h
  obtain ⟨A, p, C, rfl, rfl, rfl, rfl⟩ := splitC h
  refine ⟨_, _, rfl, rfl, ?_⟩
  simp [zS]
  repeat apply wq
  refine wps_ct rfl ?_
  repeat apply wq
  refine wps_skip ?_
  simp
  repeat apply wq
  refine wps_block ?_
  obtain ⟨k, u⟩ := p
  obtain ⟨L', hL1, hL2⟩ := keyS_set (k := k) L
  have hup := mapI1.update (M := keyS L) (b := 1) (H := ⟨4, [[(3, .rng (entsM aInt oneC A ++ entsM aInt oneC C) (some (aInt k, oneC u))), (1, mC L), (0, .cells [aNodes t])]]⟩) rfl k u
  rw [show u = () from rfl, hL1] at hup
  repeat apply wq
  refine wps_region callOK ?_
  simp [zS, ev_entry, fr_entry, enV, entryA]
  repeat apply wq
  refine wps_region callOK ?_
  simp [zS, hup]
  refine hB _ (A ++ C, some (k, u), L') (by simp) (fun x => ?_) ⟨[(3, 3), (1, 1), (0, 0)], [], rfl, rfl, rfl, by simp [fitL, fitV, lookN, pureV, pureL], ?_⟩
  ·rw [← hm x, hL2 x]
   simp only [List.mem_append, List.mem_cons, Prod.mk.injEq]
   constructor
   ·rintro ((h | rfl) | ⟨v, h | h⟩)
    ·exact .inl h
    ·exact .inr ⟨u, .inr (.inl ⟨rfl, trivial⟩)⟩
    ·exact .inr ⟨v, .inl h⟩
    ·exact .inr ⟨v, .inr (.inr h)⟩
   ·rintro (h | ⟨v, h | ⟨h, _⟩ | h⟩)
    ·exact .inl (.inl h)
    ·exact .inr ⟨v, .inl h⟩
    ·exact .inl (.inr h)
    ·exact .inr ⟨v, .inr h⟩
  ·have e : entsM aInt oneC A ++ entsM aInt oneC C = entsM aInt oneC (A ++ C) := by simp [entsM]
   rw [← e]
   exact fit_cp rfl ⟨rfl, rfl⟩ rfl rfl
@[simp] theorem szT36 : sizeT Tryz.prog 36 = some 1 := rfl
@[simp] theorem agT36 : aggT Tryz.prog 36 = some false := rfl
@[simp] theorem byT36 : bytesT Tryz.prog 36 = some 8 := rfl
@[simp] theorem alT36 (H : Heap) : alV Tryz.prog H 36 = some (.ptr H.n 0, H.new (.cells [.nilP])) := rfl
@[simp] theorem zeT36 : zeroOf Tryz.prog 36 = some (.nilP) := rfl
attribute [simp] Tryz.underlying36
@[simp 500] theorem rvF36 (H : Heap) (cs : List AV) (o : Nat) : readVar Tryz.prog H 36 (.fptr cs o) = getL cs o := rfl
@[simp 500] theorem rvP36 (H : Heap) (b o : Nat) : readVar Tryz.prog H 36 (.ptr b o) = (H.get b).bind fun k => k.rd.bind fun cs => getL cs o := rfl
@[simp] theorem szT55 : sizeT Tryz.prog 55 = some 1 := rfl
@[simp] theorem agT55 : aggT Tryz.prog 55 = some false := rfl
@[simp] theorem byT55 : bytesT Tryz.prog 55 = some 8 := rfl
@[simp] theorem alT55 (H : Heap) : alV Tryz.prog H 55 = some (.ptr H.n 0, H.new (.cells [.nilP])) := rfl
@[simp] theorem zeT55 : zeroOf Tryz.prog 55 = some (.nilP) := rfl
attribute [simp] Tryz.underlying55
@[simp 500] theorem rvF55 (H : Heap) (cs : List AV) (o : Nat) : readVar Tryz.prog H 55 (.fptr cs o) = getL cs o := rfl
@[simp 500] theorem rvP55 (H : Heap) (b o : Nat) : readVar Tryz.prog H 55 (.ptr b o) = (H.get b).bind fun k => k.rd.bind fun cs => getL cs o := rfl
theorem el_attr (L : List At1) : Elems 2 (L.map aAttr) := .map (sz := 2) (f := aAttr) (by decide) (fun x => ⟨rfl, by simp [aAttr, AV.cells, pureL, pureV], fun h => absurd h (by decide), fun _ => ⟨_, rfl⟩⟩) L
theorem el_node (L : List Nd) : Elems 7 (L.map aNode) := .map (sz := 7) (f := aNode) (by decide) (fun x => ⟨rfl, by simp [aNode, Nd.cs, AV.cells, pureL, pureV, aInt, aAttrs], fun h => absurd h (by decide), fun _ => ⟨_, rfl⟩⟩) L
theorem single_attr : ∀ (L : List At1), allSingle (flatAV (L.map aAttr)) = true
 | [] => rfl
 | a :: r => by simp only [List.map_cons, flatAV, allSingle_append, single_attr r]; rfl
def fresh (nd : Nd) : Nd := { nd with up := -1, kids := [] }
theorem sF_none {b : Nat} {k : Blk} : ∀ {f : List (Nat × Blk)}, getF b f = none → setF b k f = none
 | [], _ => rfl
 | x :: r, h => by
  unfold getF at h
  unfold setF
  cases hx : Nat.beq x.1 b with
  | true => rw [hx] at h; cases h
  | false =>
   rw [hx] at h
   simp only at h ⊢
   rw [sF_none h]
   rfl
mutual
theorem fitV_more {σ : List (Nat × Nat)} {Φ : List (Nat × List AV)} : ∀ (a b : AV), fitV σ [] a b → fitV σ Φ a b
 | .undef, b, h => by cases b <;> simp_all [fitV, lookC]
 | .bool _, b, h => by cases b <;> simp_all [fitV, lookC]
 | .int _ _, b, h => by cases b <;> simp_all [fitV, lookC]
 | .float _ _, b, h => by cases b <;> simp_all [fitV, lookC]
 | .cplx _ _ _, b, h => by cases b <;> simp_all [fitV, lookC]
 | .str _, b, h => by cases b <;> simp_all [fitV, lookC]
 | .nilP, b, h => by cases b <;> simp_all [fitV, lookC]
 | .ptr _ _, b, h => by cases b <;> simp_all [fitV, lookC]
 | .fptr _ _, b, h => by cases b <;> simp_all [fitV, lookC]
 | .nilS, b, h => by cases b <;> simp_all [fitV, lookC]
 | .eslc, b, h => by cases b <;> simp_all [fitV, lookC]
 | .zslc, b, h => by cases b <;> simp_all [fitV, lookC]
 | .slc _ _ _ _, b, h => by cases b <;> simp_all [fitV, lookC]
 | .fslc _ _, b, h => by cases b <;> simp_all [fitV, lookC]
 | .xslc _ _, b, h => by cases b <;> simp_all [fitV, lookC]
 | .nilM, b, h => by cases b <;> simp_all [fitV, lookC]
 | .map _, b, h => by cases b <;> simp_all [fitV, lookC]
 | .nilF, b, h => by cases b <;> simp_all [fitV, lookC]
 | .nilI, b, h => by cases b <;> simp_all [fitV, lookC]
 | .iface _ _, b, h => by cases b <;> simp_all [fitV, lookC]
 | .yld _, b, h => by cases b <;> simp_all [fitV, lookC]
 | .zptr _ _, b, h => by cases b <;> simp_all [fitV, lookC]
 | .val _, b, h => by cases b <;> simp_all [fitV, lookC]
 | .agg xs, b, h => by
  cases b with
  | agg ys =>
   simp only [fitV] at h ⊢
   exact h.imp (fitL_more xs ys) id
  | undef => simp [fitV]
  | _ => simp [fitV] at h
 | .tup xs, b, h => by
  cases b with
  | tup ys =>
   simp only [fitV] at h ⊢
   exact h.imp (fitL_more xs ys) id
  | undef => simp [fitV]
  | _ => simp [fitV] at h
 | .func f x y, b, h => by
  cases b with
  | func f' x' y' =>
   simp only [fitV] at h ⊢
   exact h.imp (fun ⟨h1, h2, h3⟩ => ⟨h1, fitL_more x x' h2, fitL_more y y' h3⟩) id
  | undef => simp [fitV]
  | _ => simp [fitV] at h
theorem fitL_more {σ : List (Nat × Nat)} {Φ : List (Nat × List AV)} : ∀ (a b : List AV), fitL σ [] a b → fitL σ Φ a b
 | [], b, h => by simpa [fitL] using h
 | x :: r, [], h => by simp [fitL] at h
 | x :: r, y :: s, h => by
  simp only [fitL] at h ⊢
  exact ⟨fitV_more x y h.1, fitL_more r s h.2⟩
end
section
variable {m n pb k sz : Nat} {pre post es : List AV} {g f : List (Nat × Blk)}
end
end Go.Proofs.YtgpjifeeneeiaaaGreatDoor