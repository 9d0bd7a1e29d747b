/- strings.ContainsAny of "\\x00\\r"; utf.Valid. No condition. -/
import Derived.Test.YtfncefamflainaaGreatDoorMI
import Derived.Test.YtfncefamflainaaGreatDoorMF
import Derived.Lib.TrimUEq
import Derived.Test.YtfncefamflainaaGreatDoorMG
import Derived.Shelf.Unicode.ValidAny
import Derived.Test.YtfncefamflainaaGreatDoorProg
import Derived.Lib.Bytealg
import Derived.Shelf.Strings.IndexAnyAll
namespace Go.Proofs.YtfncefamflainaaGreatDoor
set_option linter.unusedSimpArgs false
set_option linter.unusedVariables false
open Go Go.RowKit
set_option maxRecDepth 100000
@[simp] theorem szT3 : sizeT Tryz.prog 3 = some 1 := rfl
@[simp] theorem agT3 : aggT Tryz.prog 3 = some false := rfl
@[simp] theorem byT3 : bytesT Tryz.prog 3 = some 8 := rfl
@[simp] theorem alT3 (H : Heap) : alV Tryz.prog H 3 = some (.ptr H.n 0, H.new (.cells [.int .i64 0])) := rfl
@[simp] theorem zeT3 : zeroOf Tryz.prog 3 = some (.int .i64 0) := rfl
attribute [simp] Tryz.underlying3
@[simp 500] theorem rvF3 (H : Heap) (cs : List AV) (o : Nat) : readVar Tryz.prog H 3 (.fptr cs o) = getL cs o := rfl
@[simp 500] theorem rvP3 (H : Heap) (b o : Nat) : readVar Tryz.prog H 3 (.ptr b o) = (H.get b).bind fun k => k.rd.bind fun cs => getL cs o := rfl
@[simp] theorem szT21 : sizeT Tryz.prog 21 = some 1 := rfl
@[simp] theorem agT21 : aggT Tryz.prog 21 = some false := rfl
@[simp] theorem byT21 : bytesT Tryz.prog 21 = some 4 := rfl
@[simp] theorem alT21 (H : Heap) : alV Tryz.prog H 21 = some (.ptr H.n 0, H.new (.cells [.int .i32 0])) := rfl
@[simp] theorem zeT21 : zeroOf Tryz.prog 21 = some (.int .i32 0) := rfl
attribute [simp] Tryz.underlying21
@[simp 500] theorem rvF21 (H : Heap) (cs : List AV) (o : Nat) : readVar Tryz.prog H 21 (.fptr cs o) = getL cs o := rfl
@[simp 500] theorem rvP21 (H : Heap) (b o : Nat) : readVar Tryz.prog H 21 (.ptr b o) = (H.get b).bind fun k => k.rd.bind fun cs => getL cs o := rfl
@[simp] theorem szT92 : sizeT Tryz.prog 92 = some 1 := rfl
@[simp] theorem agT92 : aggT Tryz.prog 92 = some false := rfl
@[simp] theorem byT92 : bytesT Tryz.prog 92 = some 24 := rfl
@[simp] theorem alT92 (H : Heap) : alV Tryz.prog H 92 = some (.ptr H.n 0, H.new (.cells [.nilS])) := rfl
@[simp] theorem zeT92 : zeroOf Tryz.prog 92 = some (.nilS) := rfl
attribute [simp] Tryz.underlying92
@[simp 500] theorem rvF92 (H : Heap) (cs : List AV) (o : Nat) : readVar Tryz.prog H 92 (.fptr cs o) = getL cs o := rfl
@[simp 500] theorem rvP92 (H : Heap) (b o : Nat) : readVar Tryz.prog H 92 (.ptr b o) = (H.get b).bind fun k => k.rd.bind fun cs => getL cs o := rfl
@[simp] theorem slz92 (sz : Nat) (e : AV) (r : List AV) : binA Tryz.prog .eql 92 (.fslc sz (e :: r)) .nilS = some (.bool false) := rfl
@[simp] theorem sln92 (sz : Nat) (e : AV) (r : List AV) : binA Tryz.prog .neq 92 (.fslc sz (e :: r)) .nilS = some (.bool true) := rfl
@[simp] theorem slze92 : binA Tryz.prog .eql 92 .eslc .nilS = some (.bool false) := rfl
@[simp] theorem slzz92 : binA Tryz.prog .eql 92 .nilS .nilS = some (.bool true) := rfl
@[simp] theorem szT94 : sizeT Tryz.prog 94 = some 2 := rfl
@[simp] theorem agT94 : aggT Tryz.prog 94 = some true := rfl
@[simp] theorem byT94 : bytesT Tryz.prog 94 = some 16 := rfl
@[simp] theorem alT94 (H : Heap) : alV Tryz.prog H 94 = some (.ptr H.n 0, H.new (.cells [.int .i64 0, .int .i64 0])) := rfl
@[simp] theorem zeT94 : zeroOf Tryz.prog 94 = some (.agg [.int .i64 0, .int .i64 0]) := rfl
attribute [simp] Tryz.underlying94
@[simp 500] theorem rvF94 (H : Heap) (cs : List AV) (o : Nat) : readVar Tryz.prog H 94 (.fptr cs o) = (subL o 2 cs).bind fun cs => some (.agg cs) := rfl
@[simp 500] theorem rvP94 (H : Heap) (b o : Nat) : readVar Tryz.prog H 94 (.ptr b o) = (readCells H b o 2).bind fun cs => some (.agg cs) := rfl
@[simp] theorem fa94_0 (x : AV) : fieldAddrA Tryz.prog 94 x 0 = (match x with | .ptr b o => some (.ptr b (o + 0)) | .fptr cs o => some (.fptr cs (o + 0)) | _ => none) := rfl
@[simp] theorem fd94_0 (cs : List AV) : fieldA Tryz.prog 94 (.agg cs) 0 = getL cs 0 := rfl
@[simp] theorem fa94_1 (x : AV) : fieldAddrA Tryz.prog 94 x 1 = (match x with | .ptr b o => some (.ptr b (o + 1)) | .fptr cs o => some (.fptr cs (o + 1)) | _ => none) := rfl
@[simp] theorem fd94_1 (cs : List AV) : fieldA Tryz.prog 94 (.agg cs) 1 = getL cs 1 := rfl
theorem c66 {T : List (Entry Tryz.prog)} (hS : findE 67 T = some e67.g) (c : UInt8) (hc : c.toNat < 128) : CallAt (ctx T) 66 [.int .i32 (c.toNat : Int)] ⟨0, []⟩ (.bool (sp c)) ⟨0, []⟩ := by
 have ks := fun H => k67 hS c H
 have h1 : (c.toNat : Int) < 128 := by omega
 have hw : IntKind.u8.wrap (c.toNat : Int) = (c.toNat : Int) := by
  simp [IntKind.wrap, IntKind.signed, IntKind.bits]
  omega
 have hcv : ∀ H, convA Tryz.prog H 21 5 (.int .i32 (c.toNat : Int)) = some (.int .u8 (c.toNat : Int), H) := fun H => by simp [convA, hw]
 refine callAt_body (fn := Tryz.f66) (s0 := ⟨[0, 2], [.int .i32 (c.toNat : Int), .undef], [], 10, ⟨0, [[]]⟩⟩) Tryz.func66 rfl rfl rfl ?_
 repeat apply wq
 refine wps_region callOK ?_
 simp [zS]
 repeat apply wq
 refine wps_region callOK ?_
 simp [zS, h1, hcv, ks]
 repeat apply wq
 refine wps_ret ?_
 simp [retVal, Tryz.f66, oneOr, thenQ, blockQ]
 exact ends_pure rfl (by rfl)
end Go.Proofs.YtfncefamflainaaGreatDoor
namespace Go.Proofs.YtfncefamflainaaGreatDoor
noncomputable section
set_option linter.unusedSimpArgs false
set_option linter.unusedVariables false
open Go Go.RowKit
def shrB (k k' : Blk) : Prop := k = k' ∨ ∃ cs G, k = .cells (cs ++ G) ∧ k' = .cells cs
def shrL : List (Nat × Blk) → List (Nat × Blk) → Prop
 | [], [] => True
 | e :: r, e' :: r' => e.1 = e'.1 ∧ shrB e.2 e'.2 ∧ shrL r r'
 | _, _ => False
theorem shrL_refl : ∀ (l : List (Nat × Blk)), shrL l l
 | [] => trivial
 | e :: r => ⟨rfl, .inl rfl, shrL_refl r⟩
theorem shrL_ids : ∀ {l l' : List (Nat × Blk)}, shrL l l' → l'.map (·.1) = l.map (·.1)
 | [], [], _ => rfl
 | e :: r, e' :: r', h => by simp [h.1, shrL_ids h.2.2]
 | [], _ :: _, h => h.elim
 | _ :: _, [], h => h.elim
theorem shrL_mem : ∀ {l l' : List (Nat × Blk)} {e' : Nat × Blk}, shrL l l' → e' ∈ l' → ∃ e, e ∈ l ∧ e.1 = e'.1 ∧ shrB e.2 e'.2
 | e :: r, e1 :: r', e', h, he => by
  rcases List.mem_cons.1 he with rfl | he
  ·exact ⟨e, by simp, h.1, h.2.1⟩
  ·obtain ⟨x, h1, h2⟩ := shrL_mem h.2.2 he
   exact ⟨x, by simp [h1], h2⟩
 | [], [], _, _, he => by cases he
 | [], _ :: _, _, h, _ => h.elim
 | _ :: _, [], _, h, _ => h.elim
structure Shr (H H' : Heap) : Prop where
 n : H'.n = H.n
 l : shrL H.ents H'.ents
theorem BlkR.shr {ρ : Place} {w : World} {l : Loc} {k k' : Blk} (r : BlkR ρ w l k) (h : shrB k k') : BlkR ρ w l k' := by
 rcases h with rfl | ⟨cs, G, rfl, rfl⟩
 ·exact r
 ·refine ⟨by have := r.1; simp at this; omega, r.2.1, fun i hi => ?_⟩
  have h2 := r.2.2 i (by simp; omega)
  rwa [List.getElem_append_left hi] at h2
theorem Sim.shr {ρ : Place} {H H' : Heap} {w : World} (s : Sim ρ H w) (h : Shr H H') : Sim ρ H' w where
 base := s.base
 below := s.below
 os := s.os
 tape := s.tape
 output := s.output
 dom := fun b hb => s.dom b (by rw [← h.n]; exact hb)
 nodup := by rw [shrL_ids h.l]; exact s.nodup
 live := fun e' he' => by
  obtain ⟨e, he, h1, h2⟩ := shrL_mem h.l he'
  obtain ⟨l, hl, hb, hlt, hr⟩ := s.live e he
  exact ⟨l, by rw [← h1]; exact hl, hb, hlt, hr.shr h2⟩
 inj := fun e1 e2 h1 h2 l1 l2 k1 k2 hcb => by
  obtain ⟨a1, ha1, b1, _⟩ := shrL_mem h.l h1
  obtain ⟨a2, ha2, b2, _⟩ := shrL_mem h.l h2
  rw [← b1, ← b2]
  exact s.inj a1 a2 ha1 ha2 l1 l2 (by rw [b1]; exact k1) (by rw [b2]; exact k2) hcb
theorem Step.shr {ρ : Place} {H H' : Heap} {w : World} (s : Sim ρ H w) (h : Shr H H') : Step ρ H w ρ H' w where
 le := Place.le_refl ρ
 size := Nat.le_refl _
 keeps := fun _ _ _ => rfl
 rows := fun e' he' l' hl' => by
  obtain ⟨e, he, h1, _⟩ := shrL_mem h.l he'
  exact .inl ⟨e, he, l', by rw [h1]; exact hl', rfl⟩
 num := Nat.le_of_eq h.n.symm
 low := fun _ _ => rfl
 cold := fun _ h => .inl h
theorem At.shr {b : Base} {s : St} {a : Act} {w : World} {H' : Heap} (h : At b s a w) (k : Shr s.H H') : At b (s.wH H') a w := by
 obtain ⟨ρ, h1, h2, h3, h4⟩ := h
 obtain ⟨ks, vs, ts, sz, H⟩ := s
 exact ⟨ρ, h1.step (Step.shr h2 k), h2.shr k, ⟨h3.1, h3.2⟩, h4.step (Step.shr h2 k)⟩
theorem WpSr.shr {C : Ctx} {n : Nat} {r : Option Nat} {c : Code} {s : St} {Q : Out → St → Prop} {H' : Heap} (k : Shr s.H H') (h : WpSr C n r c (s.wH H') Q) : WpSr C n r c s Q :=
 fun b a w hb ha K hK => h b a w hb (ha.shr k) K hK
def FitS (n : Nat) (σ : List (Nat × Nat)) (Φ : List (Nat × List AV)) (s s' : St) : Prop := ∃ H', Shr s.H H' ∧ Fit n σ Φ (s.wH H') s'
theorem Fit.s {n : Nat} {σ : List (Nat × Nat)} {Φ : List (Nat × List AV)} {s s' : St} (h : Fit n σ Φ s s') : FitS n σ Φ s s' := by
 obtain ⟨ks, vs, ts, sz, H⟩ := s
 exact ⟨H, ⟨rfl, shrL_refl _⟩, h⟩
section
variable {σ : List (Nat × Nat)} {Φ : List (Nat × List AV)} {ρ : Place} {H H1 : Heap} {w : World}
theorem FitH.step (f : FitH H.n σ Φ H H1) (sm : Sim ρ H w) : Step ρ H w (newPlace H.n σ Φ ρ w sm.below) H1 w where
 le := ⟨fun b l hb => by
  have hlt : b < H.n := by
   rcases Nat.lt_or_ge b H.n with h | h
   ·exact h
   ·rw [sm.dom b h] at hb; cases hb
  show (if b < H.n then ρ b else _) = _
  rw [if_pos hlt]; exact hb, fun k hk => ⟨.inl hk, sm.below k hk⟩, sm.os, sm.tape, sm.output⟩
 size := Nat.le_refl _
 keeps := fun _ _ _ => rfl
 rows := fun e he l hl => by
  obtain ⟨c, k, h1, h2, _⟩ := f.src e he
  rw [newPlace_at f h1] at hl
  exact .inl ⟨_, Heap.get_mem h2, l, hl, rfl⟩
 num := f.num
 low := fun b hb => by
  show (if b < H.n then ρ b else _) = _
  rw [if_pos hb]
 cold := fun k hk => by
  rcases hk with hk | ⟨c, cs, l, h1, h2, rfl⟩
  ·exact .inl hk
  ·obtain ⟨cs0, g1, _⟩ := f.frz _ h1
   exact .inr (.inl ⟨_, Heap.get_mem g1, l, h2, rfl⟩)
theorem CallAt.drop {C : Ctx} {f : FuncId} {args args' : List AV} {v : AV} {H' : Heap} (h : CallAt C f args' H1 v H') (fh : (H.ents.map (·.1)).Nodup → FitH H.n σ Φ H H1) (hf : fitL σ Φ args args') : CallAt C f args H v H' := by
 intro ρ w xs sm hx
 have f := fh sm.nodup
 have hx' : VRs (newPlace H.n σ Φ ρ w sm.below) args' xs := by
  obtain ⟨k1, k2⟩ := fitL_spec hf
  refine ⟨by rw [hx.1, k1], fun i h1 h2 => ?_⟩
  exact Fits.run (f.fits sm) sm _ (Nat.le_refl _) (hx.2 i (by omega) h2) (k2 i (by omega) h1)
 have st := f.step sm
 rcases h _ w xs (f.sim sm (Nat.le_refl _)) hx' with ⟨x, ρ', w', h0, h1, h2, h3⟩ | ⟨g, ys, h0, h1⟩
 ·exact .inl ⟨x, ρ', w', h0, h1, h2, st.trans h3⟩
 ·refine .inr ⟨g, ys, h0, h1.mono ?_⟩
  rintro e w' ⟨x, ρ', rfl, m1, m2, m3⟩
  exact ⟨x, ρ', rfl, m1, m2, st.trans m3⟩
end
structure RgA where
 C : Ctx
 call : CallE
 ops : Array Oper
 bef : Array Nat
 base : Nat
 H0 : Heap
open Classical in
def evalA (A : RgA) : Nat → List Oper → St → List Pend → Option (St × List Pend)
 | _, [], s, ps => some (s, ps)
 | i, o :: r, s, ps => match guardA A.ops s o with
  | none => none
  | some false => (match clsOf o.op, wantedBy A.bef i ps with
    | .acts, _ :: _ => none
    | _, _ => match s.put o.dst (.tup []) with
     | none => none
     | some s' => evalA A (i + 1) r s' ps)
  | some true => match clsOf o.op with
   | .allocs => (match mkBlk A.C o s with
    | none => none
    | some k => match s.put o.dst (k.1 (A.base + i)) with
     | none => none
     | some s' => evalA A (i + 1) r s' (⟨i, A.base + i, k.2⟩ :: ps))
   | .acts => (match evalVal A.C A.call o (s.wH (s.H.lay (wantedBy A.bef i ps))) with
    | none => none
    | some v => if v.2 = A.H0 then (match s.put o.dst v.1 with
     | none => none
     | some s' => evalA A (i + 1) r s' (unwantedBy A.bef i ps)) else none)
   | _ => (match evalVal A.C A.call o s with
    | none => none
    | some v => match s.put o.dst v.1 with
     | none => none
     | some s' => evalA A (i + 1) r s' ps)
section
variable {A : RgA} {i : Nat} {o : Oper} {r : List Oper} {s s' : St} {ps : List Pend} {v : AV} {H : Heap}
def putA (A : RgA) (i : Nat) (r : List Oper) (ps : List Pend) : Option St → Option (St × List Pend)
 | none => none
 | some s' => evalA A (i + 1) r s' ps
def valA (A : RgA) (i : Nat) (o : Oper) (r : List Oper) (s : St) (ps : List Pend) : Option (AV × Heap) → Option (St × List Pend)
 | none => none
 | some v => putA A i r ps (s.put o.dst v.1)
open Classical in
def actA (A : RgA) (i : Nat) (o : Oper) (r : List Oper) (s : St) (ps : List Pend) : Option (AV × Heap) → Option (St × List Pend)
 | none => none
 | some v => if v.2 = A.H0 then putA A i r (unwantedBy A.bef i ps) (s.put o.dst v.1) else none
def layA (A : RgA) (i : Nat) (o : Oper) (r : List Oper) (s : St) (ps : List Pend) : Option ((Nat → AV) × Blk) → Option (St × List Pend)
 | none => none
 | some k => putA A i r (⟨i, A.base + i, k.2⟩ :: ps) (s.put o.dst (k.1 (A.base + i)))
def clsA (A : RgA) (i : Nat) (o : Oper) (r : List Oper) (s : St) (ps : List Pend) : Cls → Option (St × List Pend)
 | .allocs => layA A i o r s ps (mkBlk A.C o s)
 | .acts => actA A i o r s ps (evalVal A.C A.call o (s.wH (s.H.lay (wantedBy A.bef i ps))))
 | _ => valA A i o r s ps (evalVal A.C A.call o s)
def offA (A : RgA) (i : Nat) (o : Oper) (r : List Oper) (s : St) (ps : List Pend) : Cls → List (Nat × Blk) → Option (St × List Pend)
 | .acts, _ :: _ => none
 | _, _ => putA A i r ps (s.put o.dst (.tup []))
def gateA (A : RgA) (i : Nat) (o : Oper) (r : List Oper) (s : St) (ps : List Pend) : Option Bool → Option (St × List Pend)
 | none => none
 | some false => offA A i o r s ps (clsOf o.op) (wantedBy A.bef i ps)
 | some true => clsA A i o r s ps (clsOf o.op)
theorem evalA_n : evalA A i [] s ps = some (s, ps) := rfl
theorem evalA_c : evalA A i (o :: r) s ps = gateA A i o r s ps (guardA A.ops s o) := by
 rw [evalA.eq_def]
 simp only
 cases guardA A.ops s o with
 | none => rfl
 | some g =>
  cases g with
  | false =>
   simp only [gateA, offA]
   cases clsOf o.op <;> cases wantedBy A.bef i ps <;> rfl
  | true =>
   simp only [gateA, clsA]
   cases clsOf o.op with
   | allocs => simp only [layA]; cases mkBlk A.C o s <;> rfl
   | acts => simp only [actA]; cases evalVal A.C A.call o (s.wH (s.H.lay (wantedBy A.bef i ps))) <;> rfl
   | pure => simp only [valA]; cases evalVal A.C A.call o s <;> rfl
   | reads => simp only [valA]; cases evalVal A.C A.call o s <;> rfl
theorem putA_s : putA A i r ps (some s') = evalA A (i + 1) r s' ps := rfl
theorem valA_s : valA A i o r s ps (some (v, H)) = putA A i r ps (s.put o.dst v) := rfl
theorem actA_s (h : H = A.H0) : actA A i o r s ps (some (v, H)) = putA A i r (unwantedBy A.bef i ps) (s.put o.dst v) := by
 simp only [actA, h, if_true]
theorem layA_s {k : (Nat → AV) × Blk} : layA A i o r s ps (some k) = putA A i r (⟨i, A.base + i, k.2⟩ :: ps) (s.put o.dst (k.1 (A.base + i))) := rfl
theorem gateA_t : gateA A i o r s ps (some true) = clsA A i o r s ps (clsOf o.op) := rfl
theorem gateA_f : gateA A i o r s ps (some false) = offA A i o r s ps (clsOf o.op) (wantedBy A.bef i ps) := rfl
theorem clsA_l : clsA A i o r s ps .allocs = layA A i o r s ps (mkBlk A.C o s) := rfl
theorem clsA_a : clsA A i o r s ps .acts = actA A i o r s ps (evalVal A.C A.call o (s.wH (s.H.lay (wantedBy A.bef i ps)))) := rfl
theorem clsA_p : clsA A i o r s ps .pure = valA A i o r s ps (evalVal A.C A.call o s) := rfl
theorem clsA_r : clsA A i o r s ps .reads = valA A i o r s ps (evalVal A.C A.call o s) := rfl
theorem offA_a : offA A i o r s ps .acts [] = putA A i r ps (s.put o.dst (.tup [])) := rfl
theorem offA_l {w : List (Nat × Blk)} : offA A i o r s ps .allocs w = putA A i r ps (s.put o.dst (.tup [])) := rfl
theorem offA_p {w : List (Nat × Blk)} : offA A i o r s ps .pure w = putA A i r ps (s.put o.dst (.tup [])) := rfl
theorem offA_r {w : List (Nat × Blk)} : offA A i o r s ps .reads w = putA A i r ps (s.put o.dst (.tup [])) := rfl
end
structure InvA (A : RgA) (d : DrawSt) (s : St) (ps : List Pend) : Prop where
 s_ : d.s = s
 H_ : s.H = A.H0
 ps : d.ps = ps
 hs : ∀ h, h ∈ d.hs → h.2 = A.H0
 rs : ∀ x, x ∈ d.rs → ∃ y, evalVal A.C A.call x.o { x.s with H := A.H0 } = some y ∧ y.1 = x.v
theorem unwanted_nil {bef : Array Nat} {i : Nat} : ∀ {ps : List Pend}, wantedBy bef i ps = [] → unwantedBy bef i ps = ps
 | [], _ => rfl
 | p :: r, h => by
  unfold wantedBy at h
  unfold unwantedBy
  cases ha : ahead bef p.i i with
  | true => rw [ha] at h; cases h
  | false => rw [ha] at h; simp only at h ⊢; rw [unwanted_nil h]
theorem evalA_D {A : RgA} : ∀ {l : List Oper} {i : Nat} {s s' : St} {ps ps' : List Pend} {d : DrawSt}, evalA A i l s ps = some (s', ps') → InvA A d s ps → ∃ d', evalD A.C A.call A.ops A.bef A.base i l d = some d' ∧ InvA A d' s' ps'
 | [], i, s, s', ps, ps', d, h, k => by
  rw [evalA_n, Option.some.injEq, Prod.mk.injEq] at h
  obtain ⟨rfl, rfl⟩ := h
  exact ⟨d, rfl, k⟩
 | o :: r, i, s, s', ps, ps', d, h, k => by
  have next : ∀ {s1 : St} {ps1 : List Pend} {d1 : DrawSt}, stepD A.C A.call A.ops A.bef A.base i o d = some d1 → InvA A d1 s1 ps1 → evalA A (i + 1) r s1 ps1 = some (s', ps') → ∃ d', evalD A.C A.call A.ops A.bef A.base i (o :: r) d = some d' ∧ InvA A d' s' ps' := fun h1 h2 h3 => by
   obtain ⟨d2, r1, r2⟩ := evalA_D h3 h2
   exact ⟨d2, by simp only [evalD, h1, Option.bind_some]; exact r1, r2⟩
  obtain ⟨ds, dps, hs, rs⟩ := d
  obtain ⟨rfl, k2, rfl, k4, k5⟩ := k
  simp only at k2 k4 k5 next
  rw [evalA_c] at h
  have putH : ∀ {dst : Option Tmp} {v : AV} {s1 : St}, ds.put dst v = some s1 → s1.H = A.H0 := fun {dst v s1} hp => by rw [← k2]; exact St.put_heap hp
  cases hg : guardA A.ops ds o with
  | none => rw [hg] at h; cases h
  | some g =>
  rw [hg] at h
  cases g with
  | false =>
   rw [gateA_f] at h
   cases hc : clsOf o.op with
   | acts =>
    rw [hc] at h
    cases hw : wantedBy A.bef i dps with
    | cons a b => rw [hw] at h; cases h
    | nil =>
     rw [hw, offA_a] at h
     cases hp : ds.put o.dst (.tup []) with
     | none => rw [hp] at h; cases h
     | some s1 =>
      rw [hp, putA_s] at h
      refine next (s1 := s1) (ps1 := dps) (d1 := ⟨s1.wH s1.H, dps, (i, s1.H) :: hs, rs⟩) ?_ ⟨rfl, putH hp, rfl, fun x hx => ?_, k5⟩ h
      ·unfold stepD
       simp only [hg, Option.bind_some, hp, hc, hw, unwanted_nil hw, Heap.lay]
      ·rcases List.mem_cons.1 hx with rfl | hx
       ·exact putH hp
       ·exact k4 x hx
   | allocs =>
    rw [hc, offA_l] at h
    cases hp : ds.put o.dst (.tup []) with
    | none => rw [hp] at h; cases h
    | some s1 =>
     rw [hp, putA_s] at h
     refine next (s1 := s1) (ps1 := dps) (d1 := ⟨s1, dps, hs, rs⟩) ?_ ⟨rfl, putH hp, rfl, k4, k5⟩ h
     unfold stepD
     simp only [hg, Option.bind_some, hp, hc]
   | pure =>
    rw [hc, offA_p] at h
    cases hp : ds.put o.dst (.tup []) with
    | none => rw [hp] at h; cases h
    | some s1 =>
     rw [hp, putA_s] at h
     refine next (s1 := s1) (ps1 := dps) (d1 := ⟨s1, dps, hs, rs⟩) ?_ ⟨rfl, putH hp, rfl, k4, k5⟩ h
     unfold stepD
     simp only [hg, Option.bind_some, hp, hc]
   | reads =>
    rw [hc, offA_r] at h
    cases hp : ds.put o.dst (.tup []) with
    | none => rw [hp] at h; cases h
    | some s1 =>
     rw [hp, putA_s] at h
     refine next (s1 := s1) (ps1 := dps) (d1 := ⟨s1, dps, hs, rs⟩) ?_ ⟨rfl, putH hp, rfl, k4, k5⟩ h
     unfold stepD
     simp only [hg, Option.bind_some, hp, hc]
  | true =>
   rw [gateA_t] at h
   cases hc : clsOf o.op with
   | acts =>
    rw [hc, clsA_a] at h
    cases hv : evalVal A.C A.call o (ds.wH (ds.H.lay (wantedBy A.bef i dps))) with
    | none => rw [hv] at h; cases h
    | some v =>
     rw [hv] at h
     simp only [actA] at h
     split at h
     ·rename_i hH
      cases hp : ds.put o.dst v.1 with
      | none => rw [hp] at h; cases h
      | some s1 =>
       rw [hp, putA_s] at h
       have hd : ds.wH v.2 = ds := by rw [hH, ← k2]; rfl
       refine next (s1 := s1) (ps1 := unwantedBy A.bef i dps) (d1 := ⟨s1, unwantedBy A.bef i dps, (i, s1.H) :: hs, rs⟩) ?_ ⟨rfl, putH hp, rfl, fun x hx => ?_, k5⟩ h
       ·unfold stepD
        simp only [hg, Option.bind_some, hc, hv, hd, hp]
       ·rcases List.mem_cons.1 hx with rfl | hx
        ·exact putH hp
        ·exact k4 x hx
     ·cases h
   | allocs =>
    rw [hc, clsA_l] at h
    cases hv : mkBlk A.C o ds with
    | none => rw [hv] at h; cases h
    | some k =>
     rw [hv, layA_s] at h
     cases hp : ds.put o.dst (k.1 (A.base + i)) with
     | none => rw [hp] at h; cases h
     | some s1 =>
      rw [hp, putA_s] at h
      refine next (s1 := s1) (d1 := ⟨s1, ⟨i, A.base + i, k.2⟩ :: dps, hs, rs⟩) ?_ ⟨rfl, putH hp, rfl, k4, k5⟩ h
      unfold stepD
      simp only [hg, Option.bind_some, hc, hv, hp]
   | pure =>
    rw [hc, clsA_p] at h
    cases hv : evalVal A.C A.call o ds with
    | none => rw [hv] at h; cases h
    | some v =>
     obtain ⟨v, Hv⟩ := v
     rw [hv, valA_s] at h
     cases hp : ds.put o.dst v with
     | none => rw [hp] at h; cases h
     | some s1 =>
      rw [hp, putA_s] at h
      refine next (s1 := s1) (ps1 := dps) (d1 := ⟨s1, dps, hs, rs⟩) ?_ ⟨rfl, putH hp, rfl, k4, k5⟩ h
      unfold stepD
      simp only [hg, Option.bind_some, hc, hv, hp]
   | reads =>
    rw [hc, clsA_r] at h
    cases hv : evalVal A.C A.call o ds with
    | none => rw [hv] at h; cases h
    | some v =>
     obtain ⟨v, Hv⟩ := v
     rw [hv, valA_s] at h
     cases hp : ds.put o.dst v with
     | none => rw [hp] at h; cases h
     | some s1 =>
      rw [hp, putA_s] at h
      refine next (s1 := s1) (ps1 := dps) (d1 := ⟨s1, dps, hs, ⟨i, o, ds, v⟩ :: rs⟩) ?_ ⟨rfl, putH hp, rfl, k4, fun x hx => ?_⟩ h
      ·unfold stepD
       simp only [hg, Option.bind_some, hc, hv, hp]
      ·rcases List.mem_cons.1 hx with rfl | hx
       ·simp only
        rw [← k2]
        exact ⟨_, hv, rfl⟩
       ·exact k5 x hx
theorem wps_drawA {C : Ctx} {call : CallE} {ops : Array Oper} {n : Nat} {s : St} {Q : Out → St → Prop} {id : Nat} (hm : C.P.follows .mixedOrders = true) (hC : CallOK C call) (hd : drawOK ops = true)
  (hf : freshenAll ops.toList { s with ts := [] } = { s with ts := [] })
  (h : ∀ B : Array Nat, B = Region.before ops → ∃ s' ps, evalA ⟨C, call, ops, B, s.H.n, ⟨s.H.n + ops.size, s.H.fs⟩⟩ 0 ops.toList { s with ts := [], H := ⟨s.H.n + ops.size, s.H.fs⟩ } [] = some (s', ps) ∧ Q .normal { s' with H := s'.H.lay (allPend ps) }) : WpS C n (.region id ops true) s Q := by
 refine wps_drawn hm hC hd fun B hB => ?_
 obtain ⟨s', ps, h1, h2⟩ := h B hB
 have hr : reserve (freshenAll ops.toList { s with ts := [] }) ops.size = { s with ts := [], H := ⟨s.H.n + ops.size, s.H.fs⟩ } := by rw [hf]; rfl
 rw [hr]
 obtain ⟨d, q1, q2⟩ := evalA_D (d := ⟨{ s with ts := [], H := ⟨s.H.n + ops.size, s.H.fs⟩ }, [], [], []⟩) h1 ⟨rfl, rfl, rfl, fun h hh => (by cases hh), fun x hx => (by cases hx)⟩
 refine ⟨d, q1, sames_K q2.hs q2.rs, ?_⟩
 rw [q2.ps, q2.s_]
 exact h2
end
end Go.Proofs.YtfncefamflainaaGreatDoor
namespace Go.Proofs.YtfncefamflainaaGreatDoor
set_option linter.unusedSimpArgs false
set_option linter.unusedVariables false
open Go Go.RowKit
set_option maxRecDepth 100000
def asciiB (s : Str) : Prop := ∀ c, c ∈ s → c.toNat < 128
theorem dec_ascii {s : Str} {i : Nat} (h : i < s.length) (hc : s[i].toNat < 128) : Utf8.decode ⟨s.toArray⟩ i = (s[i].toNat, 1) := by
 have h0 : (ByteArray.get! ⟨s.toArray⟩ (i + 0)).toNat = s[i].toNat := by
  show (s.toArray[i + 0]!).toNat = _
  simp [h]
 unfold Utf8.decode
 simp only [h0, hc, if_true]
def spnC (L : List (Nat × Nat)) : List AV := L.flatMap fun p => [.int .i64 (p.1 : Int), .int .i64 (p.2 : Int)]
def spn (p : Nat × Nat) : AV := .agg [.int .i64 (p.1 : Int), .int .i64 (p.2 : Int)]
def zeros (n : Nat) : List AV := List.replicate n (.int .i64 0)
def spV (n : Nat) : AV := if n ≤ 32 then .slc 0 0 n (.ex 32) else .slc 0 0 n (.rest 2)
def spB (L : List (Nat × Nat)) : List AV := if L.length ≤ 32 then spnC L ++ zeros (64 - 2 * L.length) else spnC L
theorem spnC_len (L : List (Nat × Nat)) : (spnC L).length = 2 * L.length := by
 induction L with
 | nil => rfl
 | cons a r ih => simp only [spnC, List.flatMap_cons, List.length_append, List.length_cons, List.length_nil] at ih ⊢; omega
theorem spnC_app (L : List (Nat × Nat)) (p : Nat × Nat) : spnC (L ++ [p]) = spnC L ++ [.int .i64 (p.1 : Int), .int .i64 (p.2 : Int)] := by simp [spnC]
theorem spnC_pure (L : List (Nat × Nat)) : pureL (spnC L) = true := by
 induction L with
 | nil => rfl
 | cons a r ih =>
  have : spnC (a :: r) = [.int .i64 (a.1 : Int), .int .i64 (a.2 : Int)] ++ spnC r := rfl
  rw [this, pureL_append, ih]; rfl
theorem zeros_pure (n : Nat) : pureL (zeros n) = true := by
 induction n with
 | zero => rfl
 | succ n ih => simp only [zeros, List.replicate_succ] at ih ⊢; simp [pureL, pureV, ih]
theorem spB_pure (L : List (Nat × Nat)) : pureL (spB L) = true := by
 unfold spB
 split
 ·rw [pureL_append, spnC_pure, zeros_pure]; rfl
 ·exact spnC_pure L
theorem flat_spn (L : List (Nat × Nat)) : flatAV (L.map spn) = spnC L := by
 induction L with
 | nil => rfl
 | cons a r ih => simp only [List.map_cons, flatAV, ih]; rfl
theorem el_spn (L : List (Nat × Nat)) : Elems 2 (L.map spn) := .map (sz := 2) (f := spn) (by decide) (fun x => ⟨rfl, rfl, fun h => absurd h (by decide), fun _ => ⟨_, rfl⟩⟩) L
theorem sub_spB (L : List (Nat × Nat)) : subL 0 (L.length * 2) (spB L) = some (spnC L) := by
 have h : (spnC L).length = L.length * 2 := by rw [spnC_len]; omega
 unfold spB
 split
 ·rw [subL_front (by simp; omega), List.drop_zero, List.take_append_of_le_length (by omega), List.take_of_length_le (by omega)]
 ·rw [subL_front (by omega), List.drop_zero, List.take_of_length_le (by omega)]
theorem app_sp {L : List (Nat × Nat)} {p : Nat × Nat} {I : Blk} (hl : L.length ≤ 1000000) :
  ∃ b m f, b ≠ 1 ∧ appendA Tryz.prog ⟨3, [[(2, .cells [.int .i64 (p.1 : Int), .int .i64 (p.2 : Int)]), (1, I), (0, .cells (spB L))]]⟩ 94 (spV L.length) (.slc 2 0 1 (.ex 1)) =
   some ((if L.length + 1 ≤ 32 then .slc b 0 (L.length + 1) (.ex 32) else .slc b 0 (L.length + 1) (.rest 2)), ⟨m, f⟩) ∧ Heap.get ⟨m, f⟩ 1 = some I ∧ Heap.get ⟨m, f⟩ b = some (.cells (spB (L ++ [p]))) := by
 have hcs : ∀ H : Heap, Heap.get H 2 = some (.cells [.int .i64 (p.1 : Int), .int .i64 (p.2 : Int)]) → srcCells H 2 1 (.slc 2 0 1 (.ex 1)) = some [.int .i64 (p.1 : Int), .int .i64 (p.2 : Int)] := fun H h => by
  simp [srcCells, readCells, h]
 have g0 : Heap.get ⟨3, [[(2, .cells [.int .i64 (p.1 : Int), .int .i64 (p.2 : Int)]), (1, I), (0, .cells (spB L))]]⟩ 0 = some (.cells (spB L)) := by simp [Heap.get, getFs, getF]
 have hsrc := hcs ⟨3, [[(2, .cells [.int .i64 (p.1 : Int), .int .i64 (p.2 : Int)]), (1, I), (0, .cells (spB L))]]⟩ (by simp [Heap.get, getFs, getF])
 have hroom : roomOK (L.length + 1) 16 = true := by unfold roomOK; rw [Nat.ble_eq]; omega
 have hrow : ∀ cs, rowA Tryz.prog 94 cs = .cells cs := fun cs => rfl
 have h64 : (spnC L).length = 2 * L.length := spnC_len L
 have hlen1 : (L ++ [p]).length = L.length + 1 := by simp
 by_cases h1 : L.length + 1 ≤ 32
 ·have hv : spV L.length = .slc 0 0 L.length (.ex 32) := by unfold spV; rw [if_pos (by omega)]
  have hb : Nat.ble (L.length + 1) 32 = true := by rw [Nat.ble_eq]; exact h1
  have hB : spB L = spnC L ++ zeros 2 ++ zeros (62 - 2 * L.length) := by
   unfold spB
   rw [if_pos (by omega), List.append_assoc]
   congr 1
   simp only [zeros]; rw [List.replicate_append_replicate]; congr 1; omega
  have hB2 : spB (L ++ [p]) = spnC L ++ [.int .i64 (p.1 : Int), .int .i64 (p.2 : Int)] ++ zeros (62 - 2 * L.length) := by
   unfold spB
   rw [hlen1, if_pos h1, spnC_app]
   congr 2
   omega
  have hlay : layL [.int .i64 (p.1 : Int), .int .i64 (p.2 : Int)] (0 + L.length * 2) (spB L) = some (spB (L ++ [p])) := by
   have := layL_app (a := spnC L) (b := zeros 2) (b' := [.int .i64 (p.1 : Int), .int .i64 (p.2 : Int)]) (c := zeros (62 - 2 * L.length)) rfl
   rw [h64] at this
   rw [hB, hB2, show 0 + L.length * 2 = 2 * L.length by omega, this]
  refine ⟨0, 3, [[(2, .cells [.int .i64 (p.1 : Int), .int .i64 (p.2 : Int)]), (1, I), (0, .cells (spB (L ++ [p])))]], by omega, ?_, by simp [Heap.get, getFs, getF], by simp [Heap.get, getFs, getF]⟩
  rw [if_pos h1, hv]
  unfold appendA
  simp only [szT94, byT94, zeT94, Option.bind_some, srcLen, hsrc, hroom, hb]
  simp only [writeCells, g0, Option.bind_some, Blk.wt, hlay, Blk.re]
  simp [Heap.ready, refs, Heap.set, setFs, setF, allSingle, AV.single]
  rfl
 ·have hB2 : spB (L ++ [p]) = spnC L ++ [.int .i64 (p.1 : Int), .int .i64 (p.2 : Int)] := by
   unfold spB
   rw [hlen1, if_neg h1, spnC_app]
  have hread : readCells ⟨3, [[(2, .cells [.int .i64 (p.1 : Int), .int .i64 (p.2 : Int)]), (1, I), (0, .cells (spB L))]]⟩ 0 0 (L.length * 2) = some (spnC L) := by
   unfold readCells
   simp only [g0, Option.bind_some, rd_cells]
   exact sub_spB L
  by_cases h2 : L.length = 32
  ·have hv : spV L.length = .slc 0 0 L.length (.ex 32) := by unfold spV; rw [if_pos (by omega)]
   have hb : Nat.ble (L.length + 1) 32 = false := by rw [← Bool.not_eq_true, Nat.ble_eq]; exact h1
   refine ⟨3, 4, [[(3, .cells (spB (L ++ [p]))), (2, .cells [.int .i64 (p.1 : Int), .int .i64 (p.2 : Int)]), (1, I), (0, .cells (spB L))]], by omega, ?_, by simp [Heap.get, getFs, getF], by simp [Heap.get, getFs, getF]⟩
   rw [if_neg h1, hv, hB2]
   unfold appendA
   simp only [szT94, byT94, zeT94, Option.bind_some, srcLen, hsrc, hroom, hb, hread, hrow]
   simp [Heap.new, pushF, allSingle, AV.single]
   rfl
  ·have hv : spV L.length = .slc 0 0 L.length (.rest 2) := by unfold spV; rw [if_neg (by omega)]
   have hB : spB L = spnC L := by unfold spB; rw [if_neg (by omega)]
   have hk : knownCells ⟨3, [[(2, .cells [.int .i64 (p.1 : Int), .int .i64 (p.2 : Int)]), (1, I), (0, .cells (spB L))]]⟩ 0 = some (2 * L.length) := by
    rw [knownCells, g0, hB]; simp [h64]
   have hb1 : Nat.ble (0 + (L.length + 1) * 2) (2 * L.length) = false := by rw [← Bool.not_eq_true, Nat.ble_eq]; omega
   have hb2 : Nat.beq (0 + L.length * 2) (2 * L.length) = true := by rw [show 0 + L.length * 2 = 2 * L.length by omega]; exact Nat.beq_refl _
   refine ⟨3, 4, [[(3, .cells (spB (L ++ [p]))), (2, .cells [.int .i64 (p.1 : Int), .int .i64 (p.2 : Int)]), (1, I)]], by omega, ?_, by simp [Heap.get, getFs, getF], by simp [Heap.get, getFs, getF]⟩
   rw [if_neg h1, hv, hB2]
   unfold appendA
   simp only [szT94, byT94, zeT94, Option.bind_some, srcLen, hsrc, hroom, hk, hb1, hb2, hread, g0, goOn_cells]
   simp [Heap.new, pushF, allSingle, AV.single, Heap.drop, killFs, getF, killF]
   rfl
def hasB (p : Nat → Bool) (s : Str) : Bool := s.any fun c => p c.toNat
theorem hasB_iff {p : Nat → Bool} {s : Str} : hasB p s = true ↔ ∃ i, i < s.length ∧ p (cN s i) = true := by
 unfold hasB
 rw [List.any_eq_true]
 constructor
 ·rintro ⟨c, hc, hp⟩
  obtain ⟨i, h1, h2⟩ := mem_cN hc
  exact ⟨i, h1, by rw [h2]; exact hp⟩
 ·rintro ⟨i, hi, hp⟩
  obtain ⟨c, h1, h2⟩ := cN_mem hi
  exact ⟨c, h1, by rw [h2]; exact hp⟩
def rIdx (p : Nat → Bool) : Nat → Str → Nat → Int
 | 0, _, _ => -1
 | k + 1, s, pos => if s = [] then -1 else if p (Lib.decodeL s).1 = true then pos else rIdx p k (s.drop (Lib.decodeL s).2) (pos + (Lib.decodeL s).2)
theorem rune_high {n b0 b1 b2 b3 : Nat} (h : 128 ≤ b0) : 128 ≤ (Lib.decodeN n b0 b1 b2 b3).1 := by
 unfold Lib.decodeN
 (repeat' split) <;> simp only <;> omega
theorem dec_cases {s : Str} (h : 0 < s.length) : cN s 0 < 128 ∧ Lib.decodeL s = (cN s 0, 1) ∨ 128 ≤ cN s 0 ∧ 128 ≤ (Lib.decodeL s).1 ∧ 1 ≤ (Lib.decodeL s).2 ∧ (Lib.decodeL s).2 ≤ s.length ∧ ∀ k, k < (Lib.decodeL s).2 → 128 ≤ cN s k := by
 by_cases ha : cN s 0 < 128
 ·left
  refine ⟨ha, ?_⟩
  rw [Lib.decodeL_N]
  exact Lib.decodeN_ascii _ _ _ _ _ ha
 right
 have hi : 128 ≤ (Lib.decodeL s).1 := by rw [Lib.decodeL_N]; exact rune_high (by show 128 ≤ cN s 0; omega)
 refine ⟨by omega, hi, ?_⟩
 rcases one_dec s h with ⟨g1, g2⟩ | ⟨g1, g2, g3⟩
 ·rw [g2]
  refine ⟨Nat.le_refl _, h, fun k hk => ?_⟩
  have : k = 0 := by simp only at hk; omega
  subst this; omega
 ·rw [g2]
  rcases one_high g1 with ⟨q1, _⟩ | ⟨q1, q2, q3, q4⟩
  ·omega
  ·exact ⟨by omega, q3, q4⟩
theorem dec_rune (s : Str) : (Lib.decodeL s).1 ≤ 1114111 := Lib.decodeL_rune s
theorem hasB_step {p : Nat → Bool} (hp : ∀ r, p r = true → r < 128) {s : Str} (n : Nat) (h : ∀ k, k < n → 128 ≤ cN s k) : hasB p s = hasB p (s.drop n) := by
 rw [Bool.eq_iff_iff, hasB_iff, hasB_iff]
 constructor
 ·rintro ⟨i, hi, hc⟩
  have : n ≤ i := by
   apply Decidable.byContradiction
   intro hn
   have := h i (by omega)
   have := hp _ hc
   omega
  exact ⟨i - n, by rw [List.length_drop]; omega, by rw [cN_drop, show n + (i - n) = i by omega]; exact hc⟩
 ·rintro ⟨i, hi, hc⟩
  rw [List.length_drop] at hi
  exact ⟨n + i, by omega, by rw [← cN_drop]; exact hc⟩
theorem hasB_cons {p : Nat → Bool} {s : Str} (h : 0 < s.length) : hasB p s = (p (cN s 0) || hasB p (s.drop 1)) := by
 cases s with
 | nil => simp at h
 | cons c r => simp [hasB, cN]
theorem rIdx_low {p : Nat → Bool} (hp : ∀ r, p r = true → r < 128) : ∀ (k : Nat) (s : Str) (pos : Nat), s.length ≤ k → (0 ≤ rIdx p k s pos ↔ hasB p s = true)
 | 0, s, pos, h => by
  have : s = [] := List.eq_nil_of_length_eq_zero (by omega)
  subst this; simp [rIdx, hasB]
 | k + 1, s, pos, h => by
  unfold rIdx
  by_cases hs : s = []
  ·subst hs; simp [hasB]
  rw [if_neg hs]
  have hl : 0 < s.length := List.length_pos_iff.2 hs
  rcases dec_cases hl with ⟨g1, g2⟩ | ⟨g1, g2, g3, g4, g5⟩
  ·rw [g2, hasB_cons hl]
   by_cases hc : p (cN s 0) = true
   ·simp [hc]
   ·rw [if_neg hc, rIdx_low hp k _ _ (by rw [List.length_drop]; omega)]
    simp [hc]
  ·have hn : ¬ p (Lib.decodeL s).1 = true := fun e => by have := hp _ e; omega
   rw [if_neg hn, rIdx_low hp k _ _ (by rw [List.length_drop]; omega), hasB_step hp _ g5]
theorem rIdx_none {p : Nat → Bool} {k pos : Nat} : rIdx p k [] pos = -1 := by cases k <;> simp [rIdx]
theorem rIdx_yes {p : Nat → Bool} {k pos : Nat} {s : Str} (hs : s ≠ []) (h : p (Lib.decodeL s).1 = true) : rIdx p (k + 1) s pos = pos := by unfold rIdx; rw [if_neg hs, if_pos h]
theorem rIdx_no {p : Nat → Bool} {k pos : Nat} {s : Str} (hs : s ≠ []) (h : p (Lib.decodeL s).1 = false) : rIdx p (k + 1) s pos = rIdx p k (s.drop (Lib.decodeL s).2) (pos + (Lib.decodeL s).2) := by
 conv => lhs; unfold rIdx
 rw [if_neg hs, if_neg (by rw [h]; decide)]
theorem dec_pos {s : Str} {i : Nat} : Utf8.decode ⟨s.toArray⟩ i = Lib.decodeL (s.drop i) := by
 have := Lib.decodeL_drop ⟨s.toArray⟩ i
 simpa using this.symm
@[simp] theorem frU_range {d : Option Tmp} {t : TypeId} {l : Operand} {ty : TypeId} {pos : String} {af : Array Edge} {g : Option (Nat × Bool)} {s : St} : freshen s ⟨d, .range t l, ty, pos, af, g⟩ = s := rfl
@[simp] theorem frU_next {d : Option Tmp} {b : Bool} {l : Operand} {ty : TypeId} {pos : String} {af : Array Edge} {g : Option (Nat × Bool)} {s : St} : freshen s ⟨d, .next l b, ty, pos, af, g⟩ = s := rfl
theorem itU_yes {m b i : Nat} {s : Str} {g : List (Nat × Blk)} (h : i < s.length) : nextA ⟨m, [(b, .iter s i) :: g]⟩ b = some (.tup [.bool true, .int .i64 i, .int .i32 ((Lib.decodeL (s.drop i)).1 : Int)], ⟨m, [(b, .iter s (i + (Lib.decodeL (s.drop i)).2)) :: g]⟩) := by
 have hb : Nat.blt i s.length = true := by simpa using h
 simp [nextA, Heap.get, getFs, getF, hb, dec_pos, Heap.set, setFs, setF]
theorem itU_no {m b i : Nat} {s : Str} {g : List (Nat × Blk)} (h : ¬ i < s.length) : nextA ⟨m, [(b, .iter s i) :: g]⟩ b = some (.tup [.bool false], ⟨m, [(b, .iter s i) :: g]⟩) := by
 have hb : Nat.blt i s.length = false := by
  cases hq : Nat.blt i s.length with
  | false => rfl
  | true => exact absurd (by simpa using hq) h
 simp [nextA, Heap.get, getFs, getF, hb]
theorem fit_it {m : Nat} {s : Str} {i : Nat} : FitH 0 [(0, 0)] [] ⟨m, [[(0, .iter s i)]]⟩ ⟨1, [[(0, .iter s i)]]⟩ where
 nd1 := by simp
 nd2 := by simp
 nd3 := by simp [Heap.ents]
 lt := fun x hx => by simp at hx; subst hx; simp
 idn := fun x hx h => by rcases h with h | h <;> exact absurd h (Nat.not_lt_zero _)
 num := Nat.zero_le _
 src := fun e he => by
  simp [Heap.ents] at he
  subst he
  exact ⟨0, .iter s i, by simp, by simp [Heap.get, getFs, getF], rfl, rfl⟩
 frz := fun x hx => by cases hx
theorem c73 {T : List (Entry Tryz.prog)} (s : Str) (hl : s.length ≤ 900000) (clo : FuncId) (p : Nat → Bool) (hp : ∀ r : Nat, r ≤ 1114111 → CallAt (ctx T) clo [.int .i32 (r : Int)] ⟨0, []⟩ (.bool (p r)) ⟨0, []⟩) :
  CallAt (ctx T) 73 [.str s, .func (.func clo) [] [], .bool true] ⟨0, []⟩ (.int .i64 (rIdx p s.length s 0)) ⟨0, []⟩ := by
 refine callAt_body (fn := Tryz.f73) (s0 := ⟨[0, 1, 2, 6, 7, 8, 10, 11], [.str s, .func (.func clo) [] [], .bool true, .undef, .undef, .undef, .undef, .undef], [], 21, ⟨0, [[]]⟩⟩) Tryz.func73 rfl rfl rfl ?_
 repeat apply wq
 refine wps_region callOK ?_
 simp [zS]
 repeat apply wq
 refine wps_region callOK ?_
 simp [zS, rgV]
 repeat apply wq
 refine wps_block (wps_loop' (fun x : Nat × Nat => (⟨[0, 1, 2, 6, 7, 8, 10, 11], [.str s, .func (.func clo) [] [], .bool true, .int .i64 0, .undef, .undef, .ptr 0 0, .undef], [], 21, ⟨1, [[(0, .iter s x.2)]]⟩⟩ : St))
  (fun x => x.2 ≤ s.length ∧ s.length ≤ x.2 + x.1 ∧ rIdx p x.1 (s.drop x.2) x.2 = rIdx p s.length s 0) (fun x => x.1) [(0, 0)] [] (s.length, 0) ⟨Nat.zero_le _, by simp, by simp⟩
  ⟨rfl, rfl, rfl, by simp [fitL, fitV, lookN, pureV, pureL], fit_it⟩ ?_)
 rintro ⟨k, i⟩ ⟨hi, hk, hd⟩ B hB
 simp only at hi hk hd hB
 by_cases h : i < s.length
 ·obtain ⟨k, rfl⟩ : ∃ k', k = k' + 1 := ⟨k - 1, by omega⟩
  have hne : s.drop i ≠ [] := fun e => by have := congrArg List.length e; simp at this; omega
  have hdl : 0 < (s.drop i).length := by rw [List.length_drop]; omega
  have hr := dec_rune (s.drop i)
  have hw : 1 ≤ (Lib.decodeL (s.drop i)).2 ∧ (Lib.decodeL (s.drop i)).2 ≤ s.length - i := by
   rcases dec_cases hdl with ⟨g1, g2⟩ | ⟨g1, g2, g3, g4, g5⟩
   ·rw [g2]; simp only; omega
   ·rw [List.length_drop] at g4; omega
  have hn := fun m => itU_yes (m := m) (b := 0) (g := []) h
  have hcall := (hp _ hr).lift (by simp [pureL, pureV]) ⟨1, [[(0, .iter s (i + (Lib.decodeL (s.drop i)).2))]]⟩
  have hyes := rIdx_yes (p := p) (k := k) (pos := i) hne
  have hno := rIdx_no (p := p) (k := k) (pos := i) hne
  generalize Lib.decodeL (s.drop i) = d at *
  obtain ⟨r, w⟩ := d
  simp only at hr hw hn hcall hyes hno
  repeat apply wq
  refine wps_region callOK ?_
  simp [zS, nxV, hn]
  repeat apply wq
  refine wps_ct rfl ?_
  repeat apply wq
  refine wps_skip ?_
  simp
  repeat apply wq
  refine wps_block ?_
  repeat apply wq
  refine wps_region callOK ?_
  simp [zS]
  rcases Bool.eq_false_or_eq_true (p r) with hpr | hpr
  ·rw [hpr] at hcall
   repeat apply wq
   refine wps_region (callOKF [⟨clo, _, _, _, _, hcall⟩]) ?_
   simp [zS, callF]
   repeat apply wq
   refine wps_ct rfl ?_
   repeat apply wq
   refine wps_region callOK ?_
   simp [zS]
   repeat apply wq
   refine wps_ret ?_
   simp [retVal, Tryz.f73, oneOr, thenQ, blockQ]
   exact ends_pure rfl (by rw [← hd, hyes hpr])
  ·rw [hpr] at hcall
   repeat apply wq
   refine wps_region (callOKF [⟨clo, _, _, _, _, hcall⟩]) ?_
   simp [zS, callF]
   repeat apply wq
   refine wps_cf rfl ?_
   repeat apply wq
   refine wps_skip ?_
   simp
   refine hB _ (k, i + w) (by simp only; omega) ⟨by simp only; omega, by simp only; omega, ?_⟩ ⟨[(0, 0)], [], rfl, rfl, rfl, by simp [fitL, fitV, lookN, pureV, pureL], fit_it⟩
   simp only
   rw [← hd, hno hpr, List.drop_drop]
 ·have hie : i = s.length := by omega
  subst hie
  have hn := fun m => itU_no (m := m) (b := 0) (g := []) h
  rw [List.drop_length, rIdx_none] at hd
  repeat apply wq
  refine wps_region callOK ?_
  simp [zS, nxV, hn]
  repeat apply wq
  refine wps_cf rfl ?_
  repeat apply wq
  refine wps_exit ?_
  simp
  repeat apply wq
  refine wps_region callOK ?_
  simp [zS]
  repeat apply wq
  refine wps_ret ?_
  simp [retVal, Tryz.f73, oneOr, thenQ, blockQ]
  exact ends_pure rfl (by rw [← hd])
theorem c49 {T : List (Entry Tryz.prog)} (s : Str) (hl : s.length ≤ 900000) (clo : FuncId) (p : Nat → Bool) (hp : ∀ r : Nat, r ≤ 1114111 → CallAt (ctx T) clo [.int .i32 (r : Int)] ⟨0, []⟩ (.bool (p r)) ⟨0, []⟩) :
  CallAt (ctx T) 49 [.str s, .func (.func clo) [] []] ⟨0, []⟩ (.int .i64 (rIdx p s.length s 0)) ⟨0, []⟩ := by
 have hc := (c73 s hl clo p hp).lift (by simp [pureL, pureV]) ⟨0, [[]]⟩
 generalize rIdx p s.length s 0 = v at *
 refine callAt_body (fn := Tryz.f49) (s0 := ⟨[0, 1, 4], [.str s, .func (.func clo) [] [], .undef], [], 8, ⟨0, [[]]⟩⟩) Tryz.func49 rfl rfl rfl ?_
 repeat apply wq
 refine wps_region callOK ?_
 simp [zS]
 repeat apply wq
 refine wps_region (callOKF [⟨73, _, _, _, _, hc⟩]) ?_
 simp [zS, callF]
 repeat apply wq
 refine wps_ret ?_
 simp [retVal, Tryz.f49, oneOr, thenQ, blockQ]
 exact ends_pure rfl (by rfl)
def lays196_ren : Go.Shelf.Ren := ⟨fun | 196 => 74 | 259 => 97 | n => n, fun | 0 => 0 | 3 => 3 | 4 => 4 | 5 => 5 | 9 => 9 | 12 => 12 | 46 => 96 | 53 => 113 | 119 => 104 | 138 => 106 | 139 => 107 | n => n, fun | 3 => 1 | 4 => 2 | n => n⟩
theorem lays196 : Go.Proofs.Lays.n196 Tryz.prog lays196_ren where
 mixed := by kernel_rfl
 f196 := Tryz.func74.trans (congrArg some (by kernel_rfl))
 f259 := Tryz.func97.trans (congrArg some (by kernel_rfl))
 t0 := Tryz.underlying0
 a0 := Tryz.isAgg0
 z0 := Tryz.sizeOf0
 v0 := Tryz.zeroValue0
 t3 := Tryz.underlying3
 a3 := Tryz.isAgg3
 z3 := Tryz.sizeOf3
 v3 := Tryz.zeroValue3
 t4 := Tryz.underlying4
 a4 := Tryz.isAgg4
 z4 := Tryz.sizeOf4
 v4 := Tryz.zeroValue4
 t5 := Tryz.underlying5
 a5 := Tryz.isAgg5
 z5 := Tryz.sizeOf5
 v5 := Tryz.zeroValue5
 t9 := Tryz.underlying9
 a9 := Tryz.isAgg9
 z9 := Tryz.sizeOf9
 v9 := Tryz.zeroValue9
 t12 := Tryz.underlying12
 a12 := Tryz.isAgg12
 z12 := Tryz.sizeOf12
 v12 := Tryz.zeroValue12
 t46 := Tryz.underlying96
 a46 := Tryz.isAgg96
 z46 := Tryz.sizeOf96
 v46 := Tryz.zeroValue96
 t53 := Tryz.underlying113
 a53 := Tryz.isAgg113
 z53 := Tryz.sizeOf113
 v53 := Tryz.zeroValue113
 t119 := Tryz.underlying104
 a119 := Tryz.isAgg104
 z119 := Tryz.sizeOf104
 t138 := Tryz.underlying106
 a138 := Tryz.isAgg106
 z138 := Tryz.sizeOf106
 v138 := Tryz.zeroValue106
 t139 := Tryz.underlying107
 a139 := Tryz.isAgg107
 z139 := Tryz.sizeOf107
 v139 := Tryz.zeroValue107
 g3 := by kernel_rfl
 g4 := by kernel_rfl
theorem sim_belowU {ρ : Place} {w w' : World} (sm : Sim ρ ⟨0, []⟩ w) (h : Below w.heap.size w w') : Sim ρ ⟨0, []⟩ w' where
 base := fun k hk => Nat.lt_of_lt_of_le (sm.base k hk) h.size
 below := fun k hk => (h.block k (sm.base k hk)).trans (sm.below k hk)
 os := h.os.trans sm.os
 tape := h.tape.trans sm.tape
 output := h.output.trans sm.output
 dom := sm.dom
 nodup := sm.nodup
 live := fun e he => by simp [Heap.ents] at he
 inj := fun e e' he => by simp [Heap.ents] at he
theorem step_belowU {ρ : Place} {w w' : World} (h : Below w.heap.size w w') : Step ρ ⟨0, []⟩ w ρ ⟨0, []⟩ w' where
 le := Place.le_refl ρ
 size := h.size
 keeps := fun k hk _ => h.block k hk
 rows := fun e' he' => by simp [Heap.ents] at he'
 num := Nat.le_refl _
 low := fun _ _ => rfl
 cold := fun k hk => .inl hk
theorem first_at : ∀ c : Fin 256, utfFirst[c.val]? = some (Lib.firstT c.val : Int) := by decide +kernel
theorem acc_lo : ∀ i : Fin 16, utfAcc[2 * i.val]? = some (Lib.accLo i.val : Int) := by decide +kernel
theorem acc_hi : ∀ i : Fin 16, utfAcc[2 * i.val + 1]? = some (Lib.accHi i.val : Int) := by decide +kernel
theorem tabs_in {ρ : Place} {w : World} (sm : Sim ρ ⟨0, []⟩ w) : Lib.Utf8Tabs (1) (2) w := by
 have cell : ∀ x, x ∈ pins → ∀ i n, x.2[i]? = some n → w.cell? ⟨x.1, i, none⟩ = some (.int .u8 n) := fun x hx i n hn => by
  obtain ⟨hB, hc⟩ := ρ.gp x hx
  rw [World.cell?, sm.below x.1 hB]; exact hc i n hn
 exact ⟨fun c hc => cell (1, utfFirst) (by decide +kernel) c _ (first_at ⟨c, hc⟩),
  fun i hi => ⟨cell (2, utfAcc) (by decide +kernel) _ _ (acc_lo ⟨i, hi⟩), cell (2, utfAcc) (by decide +kernel) _ _ (acc_hi ⟨i, hi⟩)⟩⟩
theorem c74 {T : List (Entry Tryz.prog)} (s : Str) (hl : s.length ≤ 1000000) : CallAt (ctx T) 74 [.str s] ⟨0, []⟩ (.bool (Lib.validD s)) ⟨0, []⟩ := by
 intro ρ w xs sm hx
 match xs, hx with
 | [x], hx =>
  have h0 := hx.2 0 (by simp) (by simp)
  simp only [List.getElem_cons_zero] at h0
  cases h0
  have hrun : (callFunc 74 #[.string ⟨s.toArray⟩]).run (ctx T).P w = .ok (.enter 74 #[.string ⟨s.toArray⟩]) w := by
   have hf : (ctx T).P.funcs[74]? = some Tryz.f74 := Tryz.func74
   have hn : ¬ Tryz.f74.name = "runtime.NumGoroutine" := by decide +kernel
   simp [callFunc, hf, hn, Tryz.f74]
  have hsz : (⟨s.toArray⟩ : ByteArray).size = s.length := by show s.toArray.size = _; simp
  refine .inr ⟨74, _, hrun, callsIn_wide.2 ?_⟩
  refine (Go.Proofs.Any.utf8_ValidString lays196 ⟨s.toArray⟩ w (by rw [hsz]; omega) (tabs_in sm)).mono ?_
  rintro e w' ⟨rfl, hb⟩
  exact ⟨_, ρ, rfl, .bool _, sim_belowU sm hb, step_belowU hb⟩
theorem injS1 (x y : Str) (h : [AV.str x] = [AV.str y]) : x = y := by simpa using h
noncomputable def e74 : Entry Tryz.prog := mkE 74 [[]] (fun x : Str => [.str x]) (fun x => x.length ≤ 1000000) (fun x => .bool (Lib.validD x)) fun x h => c74 (T := []) x h
theorem k74 {T : List (Entry Tryz.prog)} (hT : findE 74 T = some e74.g) {s : Str} (h1 : s.length ≤ 1000000) (H : Heap) : callL (ctx T) (.fn 74) [.str s] H = some (.bool (Lib.validD s), H) :=
 mkE_scalar hT injS1 s h1 rfl (by simp)
theorem c88 {T : List (Entry Tryz.prog)} (s : Str) (c : UInt8) : CallAt (ctx T) 88 [.str s, .int .u8 (c.toNat : Int)] ⟨0, []⟩ (.int .i64 (Lib.indexByte s c)) ⟨0, []⟩ := by
 intro ρ w xs sm hx
 match xs, hx with
 | [x, y], hx =>
  have h0 := hx.2 0 (by simp) (by simp)
  have h1 := hx.2 1 (by simp) (by simp)
  simp only [List.getElem_cons_zero, List.getElem_cons_succ] at h0 h1
  cases h0; cases h1
  have hr := Lib.run_indexByteString (P := Tryz.prog) ⟨s.toArray⟩ (c.toNat : Int) w
  have hf : (ctx T).P.funcs[88]? = some Tryz.f88 := Tryz.func88
  have hn : ¬ Tryz.f88.name = "runtime.NumGoroutine" := by decide +kernel
  have e1 : (Extern.findNext Tryz.f88).isNone = true := by decide +kernel
  have e2 : Extern.find Tryz.f88 = some Extern.BytealgIndexByte.indexByte := by rfl
  have e1' : Extern.findNext Tryz.f88 = none := Option.isNone_iff_eq_none.1 e1
  have hb : Tryz.f88.body.isNone = true := rfl
  refine .inl ⟨_, ρ, w, ?_, .int _ _, sm, Step.refl _ _ _⟩
  have hc : (c.toNat : Int).toNat.toUInt8 = c := by simp
  rw [hc] at hr
  have hr' : Sem.run (ctx T).P (Extern.BytealgIndexByte.indexByte #[.string ⟨s.toArray⟩, .int .u8 (c.toNat : Int)]) w = .ok (.int .i64 (Lib.indexByte s c)) w := hr
  have hb2 : Tryz.f88.body = none := rfl
  have hr2 : Sem.run Tryz.prog (Extern.BytealgIndexByte.indexByte #[.string ⟨s.toArray⟩, .int .u8 (c.toNat : Int)]) w = .ok (.int .i64 (Lib.indexByte s c)) w := hr
  simp [callFunc, hf, hn, hb2, e1', e2, hr2]
theorem inj_sb (x y : Str × UInt8) (h : [AV.str x.1, AV.int .u8 (x.2.toNat : Int)] = [AV.str y.1, AV.int .u8 (y.2.toNat : Int)]) : x = y := by
 simp at h
 exact Prod.ext h.1 (UInt8.toNat_inj.1 (by omega))
theorem wps_scope0 {C : Ctx} {n : Nat} {r : Option Nat} {s : St} {Q : Out → St → Prop} {body : Code} (h : WpSr C n r body s (gotoQ body (fun _ _ => False) Q)) : WpSr C n r (.scope body) s Q := by
 repeat apply wq
 refine wps_scope (fun _ : Unit => body) (fun _ => s) (fun _ => True) (fun _ => 0) () trivial rfl ?_
 intro _ _ B _
 refine h.mono fun x s' hq => ?_
 cases x with
 | goto l =>
  simp only [gotoQ] at hq ⊢
  cases hl : findLabel body l with
  | none => rw [hl] at hq; exact hq
  | some rest => rw [hl] at hq; exact hq.elim
 | normal => exact hq
 | exit k => exact hq
 | ret => exact hq
@[simp] theorem gotoQ_ret {body : Code} {R : Code → St → Prop} {Q : Out → St → Prop} {s : St} : gotoQ body R Q .ret s = Q .ret s := rfl
@[simp] theorem gotoQ_normal {body : Code} {R : Code → St → Prop} {Q : Out → St → Prop} {s : St} : gotoQ body R Q .normal s = Q .normal s := rfl
@[simp] theorem gotoQ_exit {body : Code} {R : Code → St → Prop} {Q : Out → St → Prop} {s : St} {k : Nat} : gotoQ body R Q (.exit k) s = Q (.exit k) s := rfl
theorem c69 {T : List (Entry Tryz.prog)} (s : Str) (c : UInt8) : CallAt (ctx T) 69 [.str s, .int .u8 (c.toNat : Int)] ⟨0, []⟩ (.int .i64 (Lib.indexByte s c)) ⟨0, []⟩ := by
 have hc := (c88 (T := T) s c).lift (by simp [pureL, pureV]) ⟨0, [[]]⟩
 generalize Lib.indexByte s c = v at *
 refine callAt_body (fn := Tryz.f69) (s0 := ⟨[0, 1, 4], [.str s, .int .u8 (c.toNat : Int), .undef], [], 8, ⟨0, [[]]⟩⟩) Tryz.func69 rfl rfl rfl ?_
 repeat apply wq
 refine wps_region callOK ?_
 simp [zS]
 repeat apply wq
 refine wps_region (callOKF [⟨88, _, _, _, _, hc⟩]) ?_
 simp [zS, callF]
 repeat apply wq
 refine wps_ret ?_
 simp [retVal, Tryz.f69, oneOr, thenQ, blockQ]
 exact ends_pure rfl (by rfl)
theorem c42 {T : List (Entry Tryz.prog)} (s : Str) (c : UInt8) : CallAt (ctx T) 42 [.str s, .int .u8 (c.toNat : Int)] ⟨0, []⟩ (.int .i64 (Lib.indexByte s c)) ⟨0, []⟩ := by
 have hc := (c69 (T := T) s c).lift (by simp [pureL, pureV]) ⟨0, [[]]⟩
 generalize Lib.indexByte s c = v at *
 refine callAt_body (fn := Tryz.f42) (s0 := ⟨[0, 1, 4], [.str s, .int .u8 (c.toNat : Int), .undef], [], 8, ⟨0, [[]]⟩⟩) Tryz.func42 rfl rfl rfl ?_
 repeat apply wq
 refine wps_region callOK ?_
 simp [zS]
 repeat apply wq
 refine wps_region (callOKF [⟨69, _, _, _, _, hc⟩]) ?_
 simp [zS, callF]
 repeat apply wq
 refine wps_ret ?_
 simp [retVal, Tryz.f42, oneOr, thenQ, blockQ]
 exact ends_pure rfl (by rfl)
noncomputable def e42 : Entry Tryz.prog := mkE 42 [[], []] (fun x : Str × UInt8 => [.str x.1, .int .u8 (x.2.toNat : Int)]) (fun _ => True) (fun x => .int .i64 (Lib.indexByte x.1 x.2)) fun x _ => c42 (T := []) x.1 x.2
theorem k42 {T : List (Entry Tryz.prog)} (hT : findE 42 T = some e42.g) (s : Str) (c : UInt8) (H : Heap) : callL (ctx T) (.fn 42) [.str s, .int .u8 (c.toNat : Int)] H = some (.int .i64 (Lib.indexByte s c), H) :=
 mkE_scalar hT inj_sb (s, c) trivial rfl (by simp)
def okRune (r : Nat) : Bool := decide (r < 55296) || (decide (57343 < r) && decide (r ≤ 1114111))
theorem c129 {T : List (Entry Tryz.prog)} (r : Nat) : CallAt (ctx T) 129 [.int .i32 (r : Int)] ⟨0, []⟩ (.bool (okRune r)) ⟨0, []⟩ := by
 have h0 : (0 : Int) ≤ r := by omega
 by_cases h1 : r < 55296
 ·have h1' : (r : Int) < 55296 := by omega
  refine callAt_body (fn := Tryz.f129) (s0 := ⟨[0, 2], [.int .i32 (r : Int), .undef], [], 17, ⟨0, [[]]⟩⟩) Tryz.func129 rfl rfl rfl ?_
  (repeat (first
   | (refine wps_seq ?_)
   | (refine wps_block ?_)
   | (refine wps_label ?_; simp only [thenQ, blockQ])
   | ((refine wps_region callOK ?_); simp [zS, h0, h1, h1'])
   | (refine wps_ct rfl ?_)
   | (refine wps_cf rfl ?_)
   | ((refine wps_skip ?_); simp only [thenQ, blockQ])
   | ((refine wps_exit ?_); simp [thenQ, blockQ])))
  repeat apply wq
  refine wps_ret ?_
  simp [retVal, Tryz.f129, oneOr, thenQ, blockQ]
  exact ends_pure rfl (by simp [okRune, h1])
 ·have h1' : ¬ (r : Int) < 55296 := by omega
  by_cases h2 : 57343 < r
  ·have h2' : (57343 : Int) < r := by omega
   by_cases h3 : r ≤ 1114111
   ·have h3' : (r : Int) ≤ 1114111 := by omega
    refine callAt_body (fn := Tryz.f129) (s0 := ⟨[0, 2], [.int .i32 (r : Int), .undef], [], 17, ⟨0, [[]]⟩⟩) Tryz.func129 rfl rfl rfl ?_
    (repeat (first
     | (refine wps_seq ?_)
     | (refine wps_block ?_)
     | (refine wps_label ?_; simp only [thenQ, blockQ])
     | ((refine wps_region callOK ?_); simp [zS, h0, h1, h1', h2, h2', h3, h3'])
     | (refine wps_ct rfl ?_)
     | (refine wps_cf rfl ?_)
     | ((refine wps_skip ?_); simp only [thenQ, blockQ])
     | ((refine wps_exit ?_); simp [thenQ, blockQ])))
    repeat apply wq
    refine wps_ret ?_
    simp [retVal, Tryz.f129, oneOr, thenQ, blockQ]
    exact ends_pure rfl (by simp [okRune, h1, h2, h3])
   ·have h3' : ¬ (r : Int) ≤ 1114111 := by omega
    refine callAt_body (fn := Tryz.f129) (s0 := ⟨[0, 2], [.int .i32 (r : Int), .undef], [], 17, ⟨0, [[]]⟩⟩) Tryz.func129 rfl rfl rfl ?_
    (repeat (first
     | (refine wps_seq ?_)
     | (refine wps_block ?_)
     | (refine wps_label ?_; simp only [thenQ, blockQ])
     | ((refine wps_region callOK ?_); simp [zS, h0, h1, h1', h2, h2', h3, h3'])
     | (refine wps_ct rfl ?_)
     | (refine wps_cf rfl ?_)
     | ((refine wps_skip ?_); simp only [thenQ, blockQ])
     | ((refine wps_exit ?_); simp [thenQ, blockQ])))
    repeat apply wq
    refine wps_ret ?_
    simp [retVal, Tryz.f129, oneOr, thenQ, blockQ]
    exact ends_pure rfl (by simp [okRune, h1, h2, h3])
  ·have h2' : ¬ (57343 : Int) < r := by omega
   refine callAt_body (fn := Tryz.f129) (s0 := ⟨[0, 2], [.int .i32 (r : Int), .undef], [], 17, ⟨0, [[]]⟩⟩) Tryz.func129 rfl rfl rfl ?_
   (repeat (first
    | (refine wps_seq ?_)
    | (refine wps_block ?_)
    | (refine wps_label ?_; simp only [thenQ, blockQ])
    | ((refine wps_region callOK ?_); simp [zS, h0, h1, h1', h2, h2'])
    | (refine wps_ct rfl ?_)
    | (refine wps_cf rfl ?_)
    | ((refine wps_skip ?_); simp only [thenQ, blockQ])
    | ((refine wps_exit ?_); simp [thenQ, blockQ])))
   repeat apply wq
   refine wps_ret ?_
   simp [retVal, Tryz.f129, oneOr, thenQ, blockQ]
   exact ends_pure rfl (by simp [okRune, h1, h2])
noncomputable def e129 : Entry Tryz.prog := mkE 129 [[]] (fun x : Nat => [.int .i32 (x : Int)]) (fun _ => True) (fun x => .bool (okRune x)) fun x _ => c129 (T := []) x
theorem k129 {T : List (Entry Tryz.prog)} (hT : findE 129 T = some e129.g) (r : Nat) (H : Heap) : callL (ctx T) (.fn 129) [.int .i32 (r : Int)] H = some (.bool (okRune r), H) :=
 mkE_scalar hT (fun x y h => by simp at h; omega) r trivial rfl (by simp)
abbrev anyC : Str := [0, 13]
def anyV (r : Nat) : Int := if r = 0 then 0 else if r = 13 then 1 else -1
theorem bad_rune : litOK (.int .i64 (-1)) (callN (ctx []) 100000 (.fn 114) [.str anyC, .int .i32 65533] ⟨0, []⟩) = true := by decide +kernel
theorem anyV_low : ∀ c : Fin 128, anyV c.val = Lib.indexByte anyC (UInt8.ofNat c.val) := by decide +kernel
theorem enc_shape {r : Nat} (h : 128 ≤ r) (hv : okRune r = true) : (∃ a b : UInt8, (Utf8.encode (r : Int)).data.toList = [a, b] ∧ 128 ≤ b.toNat) ∨ 3 ≤ (Utf8.encode (r : Int)).data.toList.length ∧ (Utf8.encode (r : Int)).data.toList.length ≤ 4 := by
 have hval : Utf8.valid (r : Int) = true := by
  simp only [okRune, Bool.or_eq_true, Bool.and_eq_true, decide_eq_true_eq] at hv
  simp only [Utf8.valid, Bool.or_eq_true, Bool.and_eq_true, decide_eq_true_eq]
  omega
 unfold Utf8.encode
 simp only [hval, if_true, Int.toNat_natCast]
 rw [if_neg (by omega)]
 split
 ·left
  refine ⟨_, _, rfl, ?_⟩
  simp only [UInt8.toNat_ofNat']
  omega
 ·right
  split <;> simp
theorem c114 {T : List (Entry Tryz.prog)} (hB : findE 42 T = some e42.g) (hV : findE 129 T = some e129.g) (r : Nat) (hr : r ≤ 1114111) : CallAt (ctx T) 114 [.str anyC, .int .i32 (r : Int)] ⟨0, []⟩ (.int .i64 (anyV r)) ⟨0, []⟩ := by
 have h0 : (0 : Int) ≤ r := by omega
 by_cases h1 : r < 128
 ·have h1' : (r : Int) < 128 := by omega
  have hw : IntKind.u8.wrap (r : Int) = ((UInt8.ofNat r).toNat : Int) := by
   have e : (UInt8.ofNat r).toNat = r := by simp; omega
   rw [e]
   simp [IntKind.wrap, IntKind.signed, IntKind.bits]
   omega
  have hcv : ∀ H, convA Tryz.prog H 21 5 (.int .i32 (r : Int)) = some (.int .u8 ((UInt8.ofNat r).toNat : Int), H) := fun H => by simp [convA, hw]
  have hk := fun H => k42 hB anyC (UInt8.ofNat r) H
  have hv := anyV_low ⟨r, h1⟩
  simp only at hv
  rw [← hv] at hk
  generalize UInt8.ofNat r = c at *
  generalize anyV r = v at *
  refine callAt_body (fn := Tryz.f114) (s0 := ⟨[0, 1, 4, 5, 6, 7, 8, 9, 10, 11, 12, 13, 14, 15, 16, 175, 176], [.str anyC, .int .i32 (r : Int), .undef, .undef, .undef, .undef, .undef, .undef, .undef, .undef, .undef, .undef, .undef, .undef, .undef, .undef, .undef], [], 187, ⟨0, [[]]⟩⟩) Tryz.func114 rfl rfl rfl ?_
  repeat apply wq
  refine wps_region callOK ?_
  simp [zS]
  repeat apply wq
  refine wps_block ?_
  repeat apply wq
  refine wps_region callOK ?_
  simp [zS, h0, h1, h1']
  repeat apply wq
  refine wps_ct rfl ?_
  repeat apply wq
  refine wps_region callOK ?_
  simp [zS, hcv, hk]
  repeat apply wq
  refine wps_ret ?_
  simp [retVal, Tryz.f114, oneOr, thenQ, blockQ]
  exact ends_pure rfl (by rfl)
 have hn : anyV r = -1 := by unfold anyV; rw [if_neg (by omega), if_neg (by omega)]
 by_cases h2 : r = 65533
 ·subst h2
  rw [hn]
  exact closedLit (T := []) bad_rune
 have h1' : ¬ (r : Int) < 128 := by omega
 have h2' : ¬ (r : Int) = 65533 := by omega
 have kv := fun H => k129 hV r H
 rw [hn]
 cases hok : okRune r with
 | false =>
  rw [hok] at kv
  refine callAt_body (fn := Tryz.f114) (s0 := ⟨[0, 1, 4, 5, 6, 7, 8, 9, 10, 11, 12, 13, 14, 15, 16, 175, 176], [.str anyC, .int .i32 (r : Int), .undef, .undef, .undef, .undef, .undef, .undef, .undef, .undef, .undef, .undef, .undef, .undef, .undef, .undef, .undef], [], 187, ⟨0, [[]]⟩⟩) Tryz.func114 rfl rfl rfl ?_
  repeat apply wq
  refine wps_region callOK ?_
  simp [zS]
  repeat apply wq
  refine wps_block ?_
  repeat apply wq
  refine wps_region callOK ?_
  simp [zS, h0, h1, h1']
  repeat apply wq
  refine wps_cf rfl ?_
  repeat apply wq
  refine wps_region callOK ?_
  simp [zS, h2, h2']
  repeat apply wq
  refine wps_cf rfl ?_
  repeat apply wq
  refine wps_region callOK ?_
  simp [zS, kv]
  repeat apply wq
  refine wps_ct rfl ?_
  repeat apply wq
  refine wps_region callOK ?_
  simp [zS]
  repeat apply wq
  refine wps_ret ?_
  simp [retVal, Tryz.f114, oneOr, thenQ, blockQ]
  exact ends_pure rfl (by rfl)
 | true =>
  rw [hok] at kv
  have hsh := enc_shape (by omega) hok
  have hcv : ∀ H, convA Tryz.prog H 21 9 (.int .i32 (r : Int)) = some (.str (Utf8.encode (r : Int)).data.toList, H) := fun H => by simp [convA]
  generalize (Utf8.encode (r : Int)).data.toList = rs at *
  refine callAt_body (fn := Tryz.f114) (s0 := ⟨[0, 1, 4, 5, 6, 7, 8, 9, 10, 11, 12, 13, 14, 15, 16, 175, 176], [.str anyC, .int .i32 (r : Int), .undef, .undef, .undef, .undef, .undef, .undef, .undef, .undef, .undef, .undef, .undef, .undef, .undef, .undef, .undef], [], 187, ⟨0, [[]]⟩⟩) Tryz.func114 rfl rfl rfl ?_
  repeat apply wq
  refine wps_region callOK ?_
  simp [zS]
  repeat apply wq
  refine wps_block ?_
  repeat apply wq
  refine wps_region callOK ?_
  simp [zS, h0, h1, h1']
  repeat apply wq
  refine wps_cf rfl ?_
  repeat apply wq
  refine wps_region callOK ?_
  simp [zS, h2, h2']
  repeat apply wq
  refine wps_cf rfl ?_
  repeat apply wq
  refine wps_region callOK ?_
  simp [zS, kv]
  repeat apply wq
  refine wps_cf rfl ?_
  refine wps_scope0 ?_
  rcases hsh with ⟨a, b, rfl, hb⟩ | ⟨g1, g2⟩
  ·have hkb := fun H => k42 hB [] b H
   have hib : Lib.indexByte [] b = -1 := rfl
   rw [hib] at hkb
   have hne : ¬ (13 : Int) = (b.toNat : Int) := by omega
   have hne' : ¬ (b.toNat : Int) = 13 := by omega
   have ix1 : indexA Tryz.prog 9 (.str anyC) (.int .i64 1) = some (.int .u8 13) := rfl
   have ix2 : indexA Tryz.prog 9 (.str [a, b]) (.int .i64 1) = some (.int .u8 (b.toNat : Int)) := rfl
   have sl : ∀ H, sliceA Tryz.prog H 9 (.str anyC) (some (.int .i64 2)) none none = some (.str []) := fun H => rfl
   repeat apply wq
   refine wps_region callOK ?_
   simp [zS, hcv]
   have w1 : wr .i64 1 = some 1 := rfl
   repeat apply wq
   refine wps_region callOK ?_
   simp [zS, w1]
   repeat apply wq
   refine wps_region callOK ?_
   simp [zS]
   repeat apply wq
   refine wps_region callOK ?_
   simp [zS]
   repeat apply wq
   refine wps_block (wps_loop' (fun _ : Unit => (⟨[0, 1, 4, 5, 6, 7, 8, 9, 10, 11, 12, 13, 14, 15, 16, 175, 176], [.str anyC, .int .i32 (r : Int), .int .i64 0, .undef, .undef, .str [a, b], .int .i64 1, .int .i64 1, .int .i64 0, .undef, .undef, .undef, .undef, .undef, .undef, .undef, .undef], [], 187, ⟨0, [[]]⟩⟩ : St)) (fun _ => True) (fun _ => 0) [] [] () trivial ⟨rfl, rfl, rfl, by simp [fitL, fitV, pureV, pureL], FitH.nothing⟩ ?_)
   intro _ _ B hB
   repeat apply wq
   refine wps_region callOK ?_
   simp [zS]
   repeat apply wq
   refine wps_ct rfl ?_
   repeat apply wq
   refine wps_skip ?_
   simp
   repeat apply wq
   refine wps_block ?_
   refine wps_scope0 ?_
   repeat apply wq
   refine wps_drawK mixed callOK (by decide +kernel) (by decide +kernel) ?_
   simp [zS, evalK_c, evalK_nil, thenK_some, ix1, ix2, hne, hne']
   repeat apply wq
   refine wps_ct rfl ?_
   have w2 : wr .i64 2 = some 2 := rfl
   repeat apply wq
   refine wps_drawK mixed callOK (by decide +kernel) (by decide +kernel) ?_
   simp [zS, evalK_c, evalK_nil, thenK_some, ix2, w2, sl, hkb]
   repeat apply wq
   refine wps_region callOK ?_
   simp [zS]
   repeat apply wq
   refine wps_ct rfl ?_
   repeat apply wq
   refine wps_region callOK ?_
   simp [zS]
   repeat apply wq
   refine wps_ret ?_
   simp [retVal, Tryz.f114, oneOr, thenQ, blockQ]
   exact ends_pure rfl (by rfl)
  ·obtain ⟨L, hL⟩ : ∃ L, rs.length = L + 1 := ⟨rs.length - 1, by omega⟩
   have hw : wr .i64 ((rs.length : Int) - 1) = some ((L : Nat) : Int) := by rw [wr_small (by omega) (by omega), hL]; congr 1; omega
   have hlt : ¬ (L : Int) < 2 := by omega
   have hlt' : ¬ L < 2 := by omega
   repeat apply wq
   refine wps_region callOK ?_
   simp [zS, hcv]
   repeat apply wq
   refine wps_region callOK ?_
   simp [zS, hw]
   repeat apply wq
   refine wps_region callOK ?_
   simp [zS]
   repeat apply wq
   refine wps_region callOK ?_
   simp [zS]
   repeat apply wq
   refine wps_block (wps_loop' (fun _ : Unit => (⟨[0, 1, 4, 5, 6, 7, 8, 9, 10, 11, 12, 13, 14, 15, 16, 175, 176], [.str anyC, .int .i32 (r : Int), .int .i64 0, .undef, .undef, .str rs, .int .i64 (L : Nat), .int .i64 (L : Nat), .int .i64 0, .undef, .undef, .undef, .undef, .undef, .undef, .undef, .undef], [], 187, ⟨0, [[]]⟩⟩ : St)) (fun _ => True) (fun _ => 0) [] [] () trivial ⟨rfl, rfl, rfl, by simp [fitL, fitV, pureV, pureL], FitH.nothing⟩ ?_)
   intro _ _ B hB
   repeat apply wq
   refine wps_region callOK ?_
   simp [zS, hlt, hlt']
   repeat apply wq
   refine wps_cf (by simp [opnd, St.get, hlt, hlt']) ?_
   repeat apply wq
   refine wps_exit ?_
   simp
   repeat apply wq
   refine wps_region callOK ?_
   simp [zS]
   repeat apply wq
   refine wps_ret ?_
   simp [retVal, Tryz.f114, oneOr, thenQ, blockQ]
   exact ends_pure rfl (by rfl)
noncomputable def e114 : Entry Tryz.prog := mkE 114 [[], []] (fun x : Nat => [.str anyC, .int .i32 (x : Int)]) (fun x => x ≤ 1114111) (fun x => .int .i64 (anyV x)) fun x h => c114 (T := [e42, e129]) rfl rfl x h
theorem k114 {T : List (Entry Tryz.prog)} (hT : findE 114 T = some e114.g) {r : Nat} (hr : r ≤ 1114111) (H : Heap) : callL (ctx T) (.fn 114) [.str anyC, .int .i32 (r : Int)] H = some (.int .i64 (anyV r), H) :=
 mkE_scalar hT (fun x y h => by simp at h; omega) r hr rfl (by simp)
def lays153_ren : Go.Shelf.Ren := ⟨fun | 119 => 129 | 137 => 42 | 152 => 114 | 153 => 98 | 217 => 69 | 224 => 90 | 225 => 89 | 226 => 115 | 227 => 116 | 228 => 117 | 266 => 88 | n => n, fun | 0 => 0 | 3 => 3 | 4 => 4 | 5 => 5 | 9 => 9 | 21 => 21 | 46 => 96 | 116 => 131 | 117 => 132 | 124 => 144 | n => n, fun | n => n⟩
theorem lays153 : Go.Proofs.Lays.n153 Tryz.prog lays153_ren where
 mixed := by kernel_rfl
 f119 := Tryz.func129.trans (congrArg some (by kernel_rfl))
 f137 := Tryz.func42.trans (congrArg some (by kernel_rfl))
 f152 := Tryz.func114.trans (congrArg some (by kernel_rfl))
 f153 := Tryz.func98.trans (congrArg some (by kernel_rfl))
 f217 := Tryz.func69.trans (congrArg some (by kernel_rfl))
 f224 := Tryz.func90.trans (congrArg some (by kernel_rfl))
 f225 := Tryz.func89.trans (congrArg some (by kernel_rfl))
 f226 := Tryz.func115.trans (congrArg some (by kernel_rfl))
 f227 := Tryz.func116.trans (congrArg some (by kernel_rfl))
 f228 := Tryz.func117.trans (congrArg some (by kernel_rfl))
 f266 := Tryz.func88.trans (congrArg some (by kernel_rfl))
 t0 := Tryz.underlying0
 a0 := Tryz.isAgg0
 z0 := Tryz.sizeOf0
 v0 := Tryz.zeroValue0
 t3 := Tryz.underlying3
 a3 := Tryz.isAgg3
 z3 := Tryz.sizeOf3
 v3 := Tryz.zeroValue3
 t4 := Tryz.underlying4
 a4 := Tryz.isAgg4
 z4 := Tryz.sizeOf4
 v4 := Tryz.zeroValue4
 t5 := Tryz.underlying5
 a5 := Tryz.isAgg5
 z5 := Tryz.sizeOf5
 v5 := Tryz.zeroValue5
 t9 := Tryz.underlying9
 a9 := Tryz.isAgg9
 z9 := Tryz.sizeOf9
 v9 := Tryz.zeroValue9
 t21 := Tryz.underlying21
 a21 := Tryz.isAgg21
 z21 := Tryz.sizeOf21
 v21 := Tryz.zeroValue21
 t46 := Tryz.underlying96
 a46 := Tryz.isAgg96
 z46 := Tryz.sizeOf96
 v46 := Tryz.zeroValue96
 t116 := Tryz.underlying131
 a116 := Tryz.isAgg131
 z116 := Tryz.sizeOf131
 t117 := Tryz.underlying132
 a117 := Tryz.isAgg132
 z117 := Tryz.sizeOf132
 v117 := Tryz.zeroValue132
 t124 := Tryz.underlying144
 a124 := Tryz.isAgg144
 z124 := Tryz.sizeOf144
 v124 := Tryz.zeroValue144
def badR (r : Nat) : Bool := decide (r = 0) || decide (r = 13)
def idxAny (s : Str) : Int := if s.length ≤ 8 then rIdx badR s.length s 0 else Lib.indexAny s anyC
theorem any_idx : ∀ (s : Str), 0 ≤ Lib.indexAny s anyC ↔ hasB badR s = true
 | [] => by simp [Lib.indexAny, hasB]
 | c :: r => by
  have ih := any_idx r
  have hc : (anyC.contains c) = badR c.toNat := by
   have key : ∀ n : Fin 256, (anyC.contains (UInt8.ofNat n.val)) = badR n.val := by decide +kernel
   have := key ⟨c.toNat, c.toNat_lt⟩
   simpa using this
  have hcons : hasB badR (c :: r) = (badR c.toNat || hasB badR r) := by simp [hasB]
  unfold Lib.indexAny
  rw [hc, hcons]
  cases badR c.toNat with
  | true => simp
  | false =>
   have hge := Lib.indexAny_ge anyC r
   simp only [Bool.false_eq_true, if_false, Bool.false_or]
   rw [← ih]
   split
   ·rename_i h
    simp only [beq_iff_eq] at h
    omega
   ·rename_i h
    simp only [beq_iff_eq] at h
    omega
theorem idxAny_iff (s : Str) : 0 ≤ idxAny s ↔ hasB badR s = true := by
 unfold idxAny
 split
 ·exact rIdx_low (fun r h => by simp [badR] at h; omega) _ _ _ (Nat.le_refl _)
 ·exact any_idx s
theorem set_info : (Tryz.prog.info? 131).map (fun i => (i.zero, i.size)) = some (some (.agg (Array.replicate 256 (.bool false))), 256) := by kernel_rfl
theorem c115 {T : List (Entry Tryz.prog)} (n : Nat) (h : n ≤ 8) : CallAt (ctx T) 115 [.int .i64 (n : Int)] ⟨0, []⟩ (.bool false) ⟨0, []⟩ := by
 have h1 : ¬ (8 : Int) < (n : Int) := by omega
 have h2 : ¬ 8 < n := by omega
 refine callAt_body (fn := Tryz.f115) (s0 := ⟨[0, 2], [.int .i64 (n : Int), .undef], [], 5, ⟨0, [[]]⟩⟩) Tryz.func115 rfl rfl rfl ?_
 (repeat (first
  | (refine wps_seq ?_)
  | (refine wps_block ?_)
  | (refine wps_label ?_; simp only [thenQ, blockQ])
  | ((refine wps_region callOK ?_); simp [zS, h1, h2])
  | (refine wps_ct rfl ?_)
  | (refine wps_cf rfl ?_)
  | ((refine wps_skip ?_); simp only [thenQ, blockQ])
  | ((refine wps_exit ?_); simp [thenQ, blockQ])))
 repeat apply wq
 refine wps_ret ?_
 simp [retVal, Tryz.f115, oneOr, thenQ, blockQ]
 exact ends_pure rfl (by rfl)
theorem c98 {T : List (Entry Tryz.prog)} (hR : findE 114 T = some e114.g) (s : Str) (hl : s.length ≤ 900000) : CallAt (ctx T) 98 [.str s, .str anyC] ⟨0, []⟩ (.int .i64 (idxAny s)) ⟨0, []⟩ := by
 by_cases h8 : s.length ≤ 8
 ·have hv : idxAny s = rIdx badR s.length s 0 := by unfold idxAny; rw [if_pos h8]
  rw [hv]
  have hu := (c115 (T := T) s.length h8).lift (by simp [pureL, pureV]) ⟨0, [[]]⟩
  refine callAt_body (fn := Tryz.f98) (s0 := ⟨[0, 1, 4, 5, 6, 7, 8, 9, 10, 45, 46], [.str s, .str anyC, .undef, .undef, .undef, .undef, .undef, .undef, .undef, .undef, .undef], [], 55, ⟨0, [[]]⟩⟩) Tryz.func98 rfl rfl rfl ?_
  repeat apply wq
  refine wps_region callOK ?_
  simp [zS]
  repeat apply wq
  refine wps_region callOK ?_
  simp [zS]
  repeat apply wq
  refine wps_cf rfl ?_
  repeat apply wq
  refine wps_skip ?_
  simp
  repeat apply wq
  refine wps_region callOK ?_
  simp [zS]
  repeat apply wq
  refine wps_cf rfl ?_
  repeat apply wq
  refine wps_skip ?_
  simp
  repeat apply wq
  repeat apply wq
  refine wps_region (callOKF [⟨115, _, _, _, _, hu⟩]) ?_
  simp [zS, callF]
  repeat apply wq
  refine wps_cf rfl ?_
  repeat apply wq
  refine wps_skip ?_
  simp
  repeat apply wq
  refine wps_region callOK ?_
  simp [zS, rgV]
  repeat apply wq
  refine wps_block (wps_loop' (fun x : Nat × Nat => (⟨[0, 1, 4, 5, 6, 7, 8, 9, 10, 45, 46], [.str s, .str anyC, .int .i64 0, .undef, .undef, .undef, .undef, .undef, .undef, .ptr 0 0, .undef], [], 55, ⟨1, [[(0, .iter s x.2)]]⟩⟩ : St))
   (fun x => x.2 ≤ s.length ∧ s.length ≤ x.2 + x.1 ∧ rIdx badR x.1 (s.drop x.2) x.2 = rIdx badR s.length s 0) (fun x => x.1) [(0, 0)] [] (s.length, 0) ⟨Nat.zero_le _, by simp, by simp⟩
   ⟨rfl, rfl, rfl, by simp [fitL, fitV, lookN, pureV, pureL], fit_it⟩ ?_)
  rintro ⟨k, i⟩ ⟨hi, hk, hd⟩ B hB
  simp only at hi hk hd hB
  by_cases h : i < s.length
  ·obtain ⟨k, rfl⟩ : ∃ k', k = k' + 1 := ⟨k - 1, by omega⟩
   have hne : s.drop i ≠ [] := fun e => by have := congrArg List.length e; simp at this; omega
   have hdl : 0 < (s.drop i).length := by rw [List.length_drop]; omega
   have hr := dec_rune (s.drop i)
   have hw : 1 ≤ (Lib.decodeL (s.drop i)).2 ∧ (Lib.decodeL (s.drop i)).2 ≤ s.length - i := by
    rcases dec_cases hdl with ⟨g1, g2⟩ | ⟨g1, g2, g3, g4, g5⟩
    ·rw [g2]; simp only; omega
    ·rw [List.length_drop] at g4; omega
   have hn := fun m => itU_yes (m := m) (b := 0) (g := []) h
   have hyes := rIdx_yes (p := badR) (k := k) (pos := i) hne
   have hno := rIdx_no (p := badR) (k := k) (pos := i) hne
   generalize Lib.decodeL (s.drop i) = d at *
   obtain ⟨r, w⟩ := d
   simp only at hr hw hn hyes hno
   have hcall := fun H => k114 hR hr H
   have hbv : (0 ≤ anyV r) ↔ badR r = true := by
    unfold anyV badR
    by_cases h1 : r = 0
    ·simp [h1]
    ·by_cases h2 : r = 13
     ·simp [h2]
     ·simp [h1, h2]
   generalize anyV r = v at *
   repeat apply wq
   refine wps_region callOK ?_
   simp [zS, nxV, hn]
   repeat apply wq
   refine wps_ct rfl ?_
   repeat apply wq
   refine wps_skip ?_
   simp
   repeat apply wq
   refine wps_block ?_
   repeat apply wq
   refine wps_region callOK ?_
   simp [zS]
   by_cases hpr : 0 ≤ v
   ·repeat apply wq
    refine wps_region callOK ?_
    simp [zS, hcall, hpr]
    repeat apply wq
    refine wps_ct rfl ?_
    repeat apply wq
    refine wps_region callOK ?_
    simp [zS]
    repeat apply wq
    refine wps_ret ?_
    simp [retVal, Tryz.f98, oneOr, thenQ, blockQ]
    exact ends_pure rfl (by rw [← hd, hyes (hbv.1 hpr)])
   ·have hpf : badR r = false := by
     cases hq : badR r with
     | false => rfl
     | true => exact absurd (hbv.2 hq) hpr
    repeat apply wq
    refine wps_region callOK ?_
    simp [zS, hcall, hpr]
    repeat apply wq
    refine wps_cf rfl ?_
    repeat apply wq
    refine wps_skip ?_
    simp
    refine hB _ (k, i + w) (by simp only; omega) ⟨by simp only; omega, by simp only; omega, ?_⟩ ⟨[(0, 0)], [], rfl, rfl, rfl, by simp [fitL, fitV, lookN, pureV, pureL], fit_it⟩
    simp only
    rw [← hd, hno hpf, List.drop_drop]
  ·have hie : i = s.length := by omega
   subst hie
   have hn := fun m => itU_no (m := m) (b := 0) (g := []) h
   rw [List.drop_length, rIdx_none] at hd
   repeat apply wq
   refine wps_region callOK ?_
   simp [zS, nxV, hn]
   repeat apply wq
   refine wps_cf rfl ?_
   repeat apply wq
   refine wps_exit ?_
   simp
   repeat apply wq
   refine wps_region callOK ?_
   simp [zS]
   repeat apply wq
   refine wps_ret ?_
   simp [retVal, Tryz.f98, oneOr, thenQ, blockQ]
   exact ends_pure rfl (by rw [← hd])
 ·have hv : idxAny s = Lib.indexAny s anyC := by unfold idxAny; rw [if_neg h8]
  rw [hv]
  intro ρ w xs sm hx
  match xs, hx with
  | [x, y], hx =>
   have h0 := hx.2 0 (by simp) (by simp)
   have h1 := hx.2 1 (by simp) (by simp)
   simp only [List.getElem_cons_zero, List.getElem_cons_succ] at h0 h1
   cases h0; cases h1
   have hrun : (callFunc 98 #[.string ⟨s.toArray⟩, .string ⟨anyC.toArray⟩]).run (ctx T).P w = .ok (.enter 98 #[.string ⟨s.toArray⟩, .string ⟨anyC.toArray⟩]) w := by
    have hf : (ctx T).P.funcs[98]? = some Tryz.f98 := Tryz.func98
    have hn : ¬ Tryz.f98.name = "runtime.NumGoroutine" := by decide +kernel
    simp [callFunc, hf, hn, Tryz.f98]
   have hsz : (⟨s.toArray⟩ : ByteArray).size = s.length := by show s.toArray.size = _; simp
   refine .inr ⟨98, _, hrun, callsIn_wide.2 ?_⟩
   refine (Go.Proofs.Any.strings_IndexAny_long lays153 (zero_of_info set_info).1 (zero_of_info set_info).2 ⟨s.toArray⟩ ⟨anyC.toArray⟩ w (by decide) (by rw [hsz]; omega) (by rw [hsz]; omega) (by decide) (fun j b hj => ?_)).mono ?_
   ·have hm : b ∈ anyC := List.mem_of_getElem? hj
    simp at hm
    rcases hm with rfl | rfl <;> decide
   ·rintro e w' ⟨rfl, hb⟩
    have hb' : Below w.heap.size w w' := by
     rw [hb]
     exact ((Below.refl _ _).alloc (Nat.le_refl _) _).alloc (by simp) _
    exact ⟨_, ρ, rfl, .int _ _, sim_belowU sm hb', step_belowU hb'⟩
theorem c75 {T : List (Entry Tryz.prog)} (hR : findE 114 T = some e114.g) (s : Str) (hl : s.length ≤ 900000) : CallAt (ctx T) 75 [.str s, .str anyC] ⟨0, []⟩ (.bool (hasB badR s)) ⟨0, []⟩ := by
 have hc := (c98 hR s hl).lift (by simp [pureL, pureV]) ⟨0, [[]]⟩
 have hi := idxAny_iff s
 generalize idxAny s = v at *
 refine callAt_body (fn := Tryz.f75) (s0 := ⟨[0, 1, 4], [.str s, .str anyC, .undef], [], 9, ⟨0, [[]]⟩⟩) Tryz.func75 rfl rfl rfl ?_
 repeat apply wq
 refine wps_region callOK ?_
 simp [zS]
 repeat apply wq
 refine wps_region (callOKF [⟨98, _, _, _, _, hc⟩]) ?_
 simp [zS, callF]
 repeat apply wq
 refine wps_ret ?_
 simp [retVal, Tryz.f75, oneOr, thenQ, blockQ]
 exact ends_pure rfl (by simp [hi])
noncomputable def e75 : Entry Tryz.prog := mkE 75 [[], []] (fun x : Str => [.str x, .str anyC]) (fun x => x.length ≤ 900000) (fun x => .bool (hasB badR x)) fun x h => c75 (T := [e114]) rfl x h
theorem k75 {T : List (Entry Tryz.prog)} (hT : findE 75 T = some e75.g) {s : Str} (h1 : s.length ≤ 900000) (H : Heap) : callL (ctx T) (.fn 75) [.str s, .str anyC] H = some (.bool (hasB badR s), H) :=
 mkE_scalar hT (fun x y h => by simpa using h) s h1 rfl (by simp)
theorem valid_eq (s : Str) : (Lib.validD s && !hasB badR s) = validR s := by
 have h := valid_two s.length s (Nat.le_refl _)
 have e : hasB badR s = true ↔ hasN s 0 ∨ hasN s 13 := by
  rw [hasB_iff]
  constructor
  ·rintro ⟨i, hi, hc⟩
   simp [badR] at hc
   rcases hc with hc | hc
   ·exact .inl ⟨i, hi, hc⟩
   ·exact .inr ⟨i, hi, hc⟩
  ·rintro (⟨i, hi, hc⟩ | ⟨i, hi, hc⟩)
   ·exact ⟨i, hi, by simp [badR, hc]⟩
   ·exact ⟨i, hi, by simp [badR, hc]⟩
 unfold validR
 rw [Bool.eq_iff_iff]
 simp only [Bool.and_eq_true, Bool.not_eq_true', decide_eq_true_eq]
 rw [h, ← Bool.not_eq_true, e, not_or]
theorem c52 {T : List (Entry Tryz.prog)} (hV : findE 74 T = some e74.g) (hC : findE 75 T = some e75.g) (s : Str) (hl : s.length ≤ 900000) : CallAt (ctx T) 52 [.str s] ⟨0, []⟩ (.bool (validR s)) ⟨0, []⟩ := by
 have k1 := fun H => k74 hV (s := s) (by omega) H
 have k2 := fun H => k75 hC (s := s) hl H
 have hv := valid_eq s
 generalize validR s = v at *
 rcases Bool.eq_false_or_eq_true (Lib.validD s) with h | h
 ·rw [h] at k1 hv
  refine callAt_body (fn := Tryz.f52) (s0 := ⟨[0, 2], [.str s, .undef], [], 10, ⟨0, [[]]⟩⟩) Tryz.func52 rfl rfl rfl ?_
  repeat apply wq
  refine wps_region callOK ?_
  simp [zS]
  repeat apply wq
  refine wps_region callOK ?_
  simp [zS, k1, k2]
  repeat apply wq
  refine wps_ret ?_
  simp [retVal, Tryz.f52, oneOr, thenQ, blockQ]
  exact ends_pure rfl (by simpa using hv)
 ·rw [h] at k1 hv
  refine callAt_body (fn := Tryz.f52) (s0 := ⟨[0, 2], [.str s, .undef], [], 10, ⟨0, [[]]⟩⟩) Tryz.func52 rfl rfl rfl ?_
  repeat apply wq
  refine wps_region callOK ?_
  simp [zS]
  repeat apply wq
  refine wps_region callOK ?_
  simp [zS, k1]
  repeat apply wq
  refine wps_ret ?_
  simp [retVal, Tryz.f52, oneOr, thenQ, blockQ]
  exact ends_pure rfl (by simpa using hv)
noncomputable def e52 : Entry Tryz.prog := mkE 52 [[]] (fun x : Str => [.str x]) (fun x => x.length ≤ 900000) (fun x => .bool (validR x)) fun x h => c52 (T := [e74, e75]) rfl rfl x h
theorem k52 {T : List (Entry Tryz.prog)} (hT : findE 52 T = some e52.g) {s : Str} (h1 : s.length ≤ 900000) (H : Heap) : callL (ctx T) (.fn 52) [.str s] H = some (.bool (validR s), H) :=
 mkE_scalar hT inj_str s h1 rfl (by simp)
end Go.Proofs.YtfncefamflainaaGreatDoor