/- What the abstract interpreter's heap says of a world, and how a world's steps keep it. No condition. -/
import Derived.Test.YtpkplilgjdbhhaaE1
import Derived.Laws.IdiomCopy
import Derived.Laws.NewBlocks
import Derived.Laws.Append
namespace Go.Proofs.Ytpkplilgjdbhhaa
set_option linter.unusedSimpArgs false
set_option linter.unusedVariables false
open Go Go.RowKit

/-- where a block lies: its row, the place of its first cell, and the end of its row -/
structure Loc where
  cb : Nat
  off : Nat
  fin : Nat

/-- package-level variables that hold some int, whatever it is (a library's), and that nobody writes -/
def globs : List Nat := [0]
structure Place where
  at_ : Nat → Option Loc
  W : World
  B : Nat → Prop
  gl : ∀ g, g ∈ globs → B g ∧ ∃ m, W.cell? ⟨g, 0, none⟩ = some (.int .i64 m)
instance : CoeFun Place fun _ => Nat → Option Loc := ⟨Place.at_⟩
structure Place.le (ρ ρ' : Place) : Prop where
  at_ : ∀ b l, ρ b = some l → ρ' b = some l
  fz : ∀ k, ρ.B k → ρ'.B k ∧ ρ'.W.heap[k]? = ρ.W.heap[k]?
  os : ρ'.W.os = ρ.W.os
  tape : ρ'.W.tape = ρ.W.tape
  output : ρ'.W.output = ρ.W.output
instance (ρ ρ' : Place) : CoeFun (ρ.le ρ') fun _ => ∀ b l, ρ b = some l → ρ' b = some l := ⟨Place.le.at_⟩
theorem Place.le_refl (ρ : Place) : ρ.le ρ := ⟨fun _ _ h => h, fun _ h => ⟨h, rfl⟩, rfl, rfl, rfl⟩
theorem Place.le_trans {a b c : Place} (h : a.le b) (k : b.le c) : a.le c :=
  ⟨fun x l e => k x l (h x l e), fun x hx => let ⟨h1, h2⟩ := h.fz x hx; let ⟨k1, k2⟩ := k.fz x h1; ⟨k1, k2.trans h2⟩, k.os.trans h.os, k.tape.trans h.tape, k.output.trans h.output⟩
def Place.upd (ρ : Place) (b : Nat) (l : Loc) : Place := { ρ with at_ := fun x => if x = b then some l else ρ x }
theorem Place.le_upd {ρ : Place} {b : Nat} {l : Loc} (h : ρ b = none) : ρ.le (ρ.upd b l) := by
  refine ⟨fun x m e => ?_, fun _ h => ⟨h, rfl⟩, rfl, rfl, rfl⟩
  show (if x = b then some l else ρ x) = some m
  split
  · rename_i hx; subst hx; rw [h] at e; cases e
  · exact e
theorem Place.upd_same {ρ : Place} {b : Nat} {l : Loc} : (ρ.upd b l) b = some l := by simp [Place.upd]
theorem Place.upd_other {ρ : Place} {b x : Nat} {l : Loc} (h : x ≠ b) : (ρ.upd b l) x = ρ x := by simp [Place.upd, h]
/-- the frozen rows alone -/
def Place.bare (ρ : Place) : Place := { ρ with at_ := fun _ => none }
theorem Place.bare_le (ρ : Place) : ρ.bare.le ρ := ⟨fun _ _ h => by simp [Place.bare] at h, fun _ h => ⟨h, rfl⟩, rfl, rfl, rfl⟩
theorem Place.le.bare {ρ ρ' : Place} (h : ρ.le ρ') : ρ.bare.le ρ'.bare := ⟨fun _ _ h => by simp [Place.bare] at h, h.fz, h.os, h.tape, h.output⟩
theorem Place.le.cell {ρ ρ' : Place} (h : ρ.le ρ') {a : Addr} (ha : ρ.B a.block) : ρ'.W.cell? a = ρ.W.cell? a := by simp only [World.cell?, (h.fz _ ha).2]

/-- an abstract value stands for a value; W: the world at the beginning, B: its size -/
inductive VR : Place → AV → Value → Prop
  | undef {ρ : Place} (x : Value) : VR ρ .undef x
  | bool {ρ : Place} (b : Bool) : VR ρ (.bool b) (.bool b)
  | int {ρ : Place} (k : IntKind) (n : Int) : VR ρ (.int k n) (.int k n)
  | float {ρ : Place} (k : FloatKind) (n : Nat) : VR ρ (.float k n) (.float k n)
  | cplx {ρ : Place} (k : FloatKind) (a b : Nat) : VR ρ (.cplx k a b) (.complex k a b)
  | str {ρ : Place} (s : List UInt8) : VR ρ (.str s) (.string ⟨s.toArray⟩)
  | nilP {ρ : Place} : VR ρ .nilP (.pointer none)
  | ptr {ρ : Place} (b o : Nat) (l : Loc) (h : ρ b = some l) : VR ρ (.ptr b o) (.pointer (some ⟨l.cb, l.off + o, none⟩))
  | fptr {ρ : Place} (cs : List AV) (o cb off : Nat) (vs : Nat → Value) (hB : ρ.B cb)
      (hc : ∀ i, i < cs.length → ρ.W.cell? ⟨cb, off + i, none⟩ = some (vs i)) (hv : ∀ i (h : i < cs.length), VR ρ.bare cs[i] (vs i)) :
      VR ρ (.fptr cs o) (.pointer (some ⟨cb, off + o, none⟩))
  | nilS {ρ : Place} : VR ρ .nilS (.slice none 0 0)
  | eslc {ρ : Place} (a : Addr) (c : Nat) : VR ρ .eslc (.slice (some a) 0 c)
  | zslcN {ρ : Place} : VR ρ .zslc (.slice none 0 0)
  | zslcE {ρ : Place} (a : Addr) : VR ρ .zslc (.slice (some a) 0 0)
  | slcE {ρ : Place} (b o len c : Nat) (l : Loc) (h : ρ b = some l) (hc : len ≤ c) : VR ρ (.slc b o len (.ex c)) (.slice (some ⟨l.cb, l.off + o, none⟩) len c)
  | slcR {ρ : Place} (b o len sz c : Nat) (l : Loc) (h : ρ b = some l) (hc : len ≤ c) (hf : l.off + o + c * sz = l.fin) : VR ρ (.slc b o len (.rest sz)) (.slice (some ⟨l.cb, l.off + o, none⟩) len c)
  | fslc {ρ : Place} (sz : Nat) (es : List AV) (cb off cap : Nat) (vs : Nat → Nat → Value) (hB : ρ.B cb) (hcap : es.length ≤ cap)
      (hz : ∀ i (h : i < es.length), es[i].cells.length = sz)
      (hc : ∀ i, i < es.length → ∀ j, j < sz → ρ.W.cell? ⟨cb, off + i * sz + j, none⟩ = some (vs i j))
      (hv : ∀ i (h : i < es.length) j (h' : j < es[i].cells.length), VR ρ.bare es[i].cells[j] (vs i j)) :
      VR ρ (.fslc sz es) (.slice (some ⟨cb, off, none⟩) es.length cap)
  | fnil {ρ : Place} (sz : Nat) : VR ρ (.fslc sz []) (.slice none 0 0)
  | fnone {ρ : Place} (sz : Nat) (a : Addr) (c : Nat) : VR ρ (.fslc sz []) (.slice (some a) 0 c)
  | nilM {ρ : Place} : VR ρ .nilM (.map none)
  | map {ρ : Place} (b : Nat) (l : Loc) (h : ρ b = some l) : VR ρ (.map b) (.map (some l.cb))
  | nilF {ρ : Place} : VR ρ .nilF .nilFunc
  | func {ρ : Place} (fn : Fn) (a c : List AV) (a' c' : Array Value) (ha : a'.size = a.length) (hc : c'.size = c.length)
      (hav : ∀ i (h : i < a.length) (h' : i < a'.size), VR ρ a[i] a'[i]) (hcv : ∀ i (h : i < c.length) (h' : i < c'.size), VR ρ c[i] c'[i]) :
      VR ρ (.func fn a c) (.func fn a' c')
  | nilI {ρ : Place} : VR ρ .nilI .nilIface
  | iface {ρ : Place} (t : TypeId) (v : AV) (x : Value) (h : VR ρ v x) : VR ρ (.iface t v) (.iface t x)
  | agg {ρ : Place} (cs : List AV) (vs : Array Value) (hl : vs.size = cs.length) (hv : ∀ i (h : i < cs.length) (h' : i < vs.size), VR ρ cs[i] vs[i]) : VR ρ (.agg cs) (.agg vs)
  | tup {ρ : Place} (cs : List AV) (vs : Array Value) (hl : vs.size = cs.length) (hv : ∀ i (h : i < cs.length) (h' : i < vs.size), VR ρ cs[i] vs[i]) : VR ρ (.tup cs) (.tuple vs)

section

theorem VR.mono {ρ ρ' : Place} (h : ρ.le ρ') {v : AV} {x : Value} (r : VR ρ v x) : VR ρ' v x := by
  induction r generalizing ρ' with
  | undef x => exact .undef x
  | bool b => exact .bool b
  | int k n => exact .int k n
  | float k n => exact .float k n
  | cplx k a b => exact .cplx k a b
  | str s => exact .str s
  | nilP => exact .nilP
  | ptr b o l e => exact .ptr b o l (h _ _ e)
  | fptr cs o cb off vs hB hc hv ih => exact .fptr cs o cb off vs (h.fz _ hB).1 (fun i hi => by rw [h.cell (a := ⟨cb, _, none⟩) hB]; exact hc i hi) (fun i hi => ih i hi h.bare)
  | nilS => exact .nilS
  | eslc a c => exact .eslc a c
  | zslcN => exact .zslcN
  | zslcE a => exact .zslcE a
  | slcE b o len c l e hc => exact .slcE b o len c l (h _ _ e) hc
  | slcR b o len sz c l e hc hf => exact .slcR b o len sz c l (h _ _ e) hc hf
  | fslc sz es cb off cap vs hB hcap hz hc hv ih => exact .fslc sz es cb off cap vs (h.fz _ hB).1 hcap hz (fun i hi j hj => by rw [h.cell (a := ⟨cb, _, none⟩) hB]; exact hc i hi j hj) (fun i hi j hj => ih i hi j hj h.bare)
  | fnil sz => exact .fnil sz
  | fnone sz a c => exact .fnone sz a c
  | nilM => exact .nilM
  | map b l e => exact .map b l (h _ _ e)
  | nilF => exact .nilF
  | func fn a c a' c' ha hc hav hcv iha ihc => exact .func fn a c a' c' ha hc (fun i h1 h2 => iha i h1 h2 h) (fun i h1 h2 => ihc i h1 h2 h)
  | nilI => exact .nilI
  | iface t v x _ ih => exact .iface t v x (ih h)
  | agg cs vs hl hv ih => exact .agg cs vs hl fun i h1 h2 => ih i h1 h2 h
  | tup cs vs hl hv ih => exact .tup cs vs hl fun i h1 h2 => ih i h1 h2 h

theorem VR.oneCell {ρ : Place} {v : AV} {x : Value} (r : VR ρ v x) (h : v.single = true) : x.oneCell' = true := by
  cases r <;> first | rfl | simp [AV.single] at h

/-- values for values -/
def VRs (ρ : Place) (vs : List AV) (xs : List Value) : Prop := xs.length = vs.length ∧ ∀ i (h : i < vs.length) (h' : i < xs.length), VR ρ vs[i] xs[i]
theorem VRs.nil {ρ : Place} : VRs ρ [] [] := ⟨rfl, fun i h => absurd h (Nat.not_lt_zero i)⟩
theorem VRs.cons {ρ : Place} {v : AV} {x : Value} {vs : List AV} {xs : List Value} (h : VR ρ v x) (r : VRs ρ vs xs) : VRs ρ (v :: vs) (x :: xs) := by
  refine ⟨by simp [r.1], fun i h1 h2 => ?_⟩
  cases i with
  | zero => exact h
  | succ i => exact r.2 i (by simpa using h1) (by simpa using h2)
theorem VRs.head {ρ : Place} {v : AV} {x : Value} {vs : List AV} {xs : List Value} (r : VRs ρ (v :: vs) (x :: xs)) : VR ρ v x := r.2 0 (by simp) (by simp)
theorem VRs.tail {ρ : Place} {v : AV} {x : Value} {vs : List AV} {xs : List Value} (r : VRs ρ (v :: vs) (x :: xs)) : VRs ρ vs xs :=
  ⟨by simpa using r.1, fun i h1 h2 => r.2 (i + 1) (by simpa using h1) (by simpa using h2)⟩
theorem VRs.mono {ρ ρ' : Place} (h : ρ.le ρ') {vs : List AV} {xs : List Value} (r : VRs ρ vs xs) : VRs ρ' vs xs := ⟨r.1, fun i h1 h2 => (r.2 i h1 h2).mono h⟩
theorem VRs.append {ρ : Place} {vs us : List AV} {xs ys : List Value} (h : VRs ρ vs xs) (k : VRs ρ us ys) : VRs ρ (vs ++ us) (xs ++ ys) := by
  induction vs generalizing xs with
  | nil => cases xs with
    | nil => exact k
    | cons _ _ => have := h.1; simp at this
  | cons v vs ih => cases xs with
    | nil => have := h.1; simp at this
    | cons x xs => exact .cons h.head (ih h.tail)

theorem VR.cells {ρ : Place} {v : AV} {x : Value} (r : VR ρ v x) (h : v ≠ .undef) (h' : ∀ l, v ≠ .tup l) : VRs ρ v.cells x.cells.toList := by
  cases r with
  | undef _ => exact absurd rfl h
  | tup cs vs _ _ => exact absurd rfl (h' cs)
  | agg cs vs hl hv => exact ⟨by simp [Value.cells, AV.cells, hl], fun i h1 h2 => hv i h1 (by simpa [Value.cells] using h2)⟩
  | _ => exact .cons (by constructor <;> assumption) .nil

/-! ### The abstract heap's blocks, and the world -/
/-- what a block says of the world -/
def BlkR (ρ : Place) (w : World) (l : Loc) : Blk → Prop
  | .cells cs => l.off + cs.length ≤ l.fin ∧
      (∀ i, i < l.fin → (w.cell? ⟨l.cb, i, none⟩).isSome = true ∧ w.frozen? ⟨l.cb, i, none⟩ = false) ∧
      ∀ i (h : i < cs.length), ∃ x, w.cell? ⟨l.cb, l.off + i, none⟩ = some x ∧ VR ρ cs[i] x
  | .map es => ∃ (ents : Array MapEntry) (clock : Nat), w.heap[l.cb]? = some (.map ents clock) ∧ ents.size = es.length ∧
      ∀ i (h : i < es.length) (h' : i < ents.size), VR ρ es[i].1 ents[i].key ∧ VR ρ es[i].2 ents[i].val
  | .loop .. => False

def Heap.ents (H : Heap) : List (Nat × Blk) := H.fs.flatten

theorem BlkR.mono {ρ ρ' : Place} (h : ρ.le ρ') {w : World} {l : Loc} {k : Blk} (r : BlkR ρ w l k) : BlkR ρ' w l k := by
  cases k with
  | cells cs => exact ⟨r.1, r.2.1, fun i hi => let ⟨x, hx, hv⟩ := r.2.2 i hi; ⟨x, hx, hv.mono h⟩⟩
  | map es => obtain ⟨ents, clock, h1, h2, h3⟩ := r; exact ⟨ents, clock, h1, h2, fun i a b => ⟨(h3 i a b).1.mono h, (h3 i a b).2.mono h⟩⟩
  | loop => exact r
/-- a block that has not turned says what it said -/
theorem BlkR.same {ρ : Place} {w w' : World} {l : Loc} {k : Blk} (h : w'.heap[l.cb]? = w.heap[l.cb]?) (r : BlkR ρ w l k) : BlkR ρ w' l k := by
  have hc : ∀ i, w'.cell? ⟨l.cb, i, none⟩ = w.cell? ⟨l.cb, i, none⟩ := fun i => by simp [World.cell?, h]
  have hf : ∀ i, w'.frozen? ⟨l.cb, i, none⟩ = w.frozen? ⟨l.cb, i, none⟩ := fun i => by simp [World.frozen?, h]
  cases k with
  | cells cs => exact ⟨r.1, fun i hi => by rw [hc, hf]; exact r.2.1 i hi, fun i hi => by rw [hc]; exact r.2.2 i hi⟩
  | map es => obtain ⟨ents, clock, h1, h2, h3⟩ := r; exact ⟨ents, clock, by rw [h]; exact h1, h2, h3⟩
  | loop => exact r

structure Sim (ρ : Place) (H : Heap) (w : World) : Prop where
  base : ∀ k, ρ.B k → k < w.heap.size
  below : ∀ k, ρ.B k → w.heap[k]? = ρ.W.heap[k]?
  os : w.os = ρ.W.os
  tape : w.tape = ρ.W.tape
  output : w.output = ρ.W.output
  dom : ∀ b, H.n ≤ b → ρ b = none
  nodup : (H.ents.map (·.1)).Nodup
  live : ∀ e, e ∈ H.ents → ∃ l, ρ e.1 = some l ∧ ¬ ρ.B l.cb ∧ l.cb < w.heap.size ∧ BlkR ρ w l e.2
  inj : ∀ e e', e ∈ H.ents → e' ∈ H.ents → ∀ l l', ρ e.1 = some l → ρ e'.1 = some l' → l.cb = l'.cb → e.1 = e'.1

/-- from one state to the next: places stay, the heap only grows, rows that no block names stay as they are, blocks lie in rows that were named, or are new -/
structure Step (ρ : Place) (H : Heap) (w : World) (ρ' : Place) (H' : Heap) (w' : World) : Prop where
  le : ρ.le ρ'
  size : w.heap.size ≤ w'.heap.size
  keeps : ∀ k, k < w.heap.size → (∀ e, e ∈ H.ents → ∀ l, ρ e.1 = some l → l.cb ≠ k) → w'.heap[k]? = w.heap[k]?
  rows : ∀ e', e' ∈ H'.ents → ∀ l', ρ' e'.1 = some l' → (∃ e, e ∈ H.ents ∧ ∃ l, ρ e.1 = some l ∧ l.cb = l'.cb) ∨ w.heap.size ≤ l'.cb
  num : H.n ≤ H'.n
  low : ∀ b, b < H.n → ρ' b = ρ b
  cold : ∀ k, ρ'.B k → ρ.B k ∨ (∃ e, e ∈ H.ents ∧ ∃ l, ρ e.1 = some l ∧ l.cb = k) ∨ w.heap.size ≤ k

theorem Step.trans {ρ ρ' ρ'' : Place} {H H' H'' : Heap} {w w' w'' : World} (h : Step ρ H w ρ' H' w') (k : Step ρ' H' w' ρ'' H'' w'') : Step ρ H w ρ'' H'' w'' where
  le := Place.le_trans h.le k.le
  size := Nat.le_trans h.size k.size
  num := Nat.le_trans h.num k.num
  low := fun b hb => (k.low b (Nat.lt_of_lt_of_le hb h.num)).trans (h.low b hb)
  cold := fun j hj => by
    rcases k.cold j hj with h1 | ⟨e, he, l, hl, hlj⟩ | hge
    · exact h.cold j h1
    · rcases h.rows e he l hl with ⟨e0, he0, l0, hl0, hcb⟩ | hge
      · exact .inr (.inl ⟨e0, he0, l0, hl0, hcb.trans hlj⟩)
      · exact .inr (.inr (by rw [← hlj]; exact hge))
    · exact .inr (.inr (Nat.le_trans h.size hge))
  keeps := fun j hj hn => by
    rw [k.keeps j (Nat.lt_of_lt_of_le hj h.size) (fun e he l hl hlj => ?_), h.keeps j hj hn]
    rcases h.rows e he l hl with ⟨e0, he0, l0, hl0, hcb⟩ | hge
    · exact hn e0 he0 l0 hl0 (by rw [hcb, hlj])
    · omega
  rows := fun e he l hl => by
    rcases k.rows e he l hl with ⟨e1, he1, l1, hl1, hcb⟩ | hge
    · rcases h.rows e1 he1 l1 hl1 with ⟨e0, he0, l0, hl0, hcb0⟩ | hge
      · exact .inl ⟨e0, he0, l0, hl0, by rw [hcb0, hcb]⟩
      · exact .inr (by rw [← hcb]; exact hge)
    · exact .inr (Nat.le_trans h.size hge)

/-- the heap's entries go (and are laid in another order), nothing else turns -/
theorem Step.of_sub {ρ : Place} {H H' : Heap} {w : World} (hs : ∀ e, e ∈ H'.ents → e ∈ H.ents) (hn : H.n ≤ H'.n) : Step ρ H w ρ H' w where
  le := Place.le_refl _
  size := Nat.le_refl _
  num := hn
  low := fun _ _ => rfl
  cold := fun _ h => .inl h
  keeps := fun _ _ _ => rfl
  rows := fun e he l h => .inl ⟨e, hs e he, l, h, rfl⟩
theorem Sim.of_sub {ρ : Place} {H H' : Heap} {w : World} (s : Sim ρ H w) (hs : ∀ e, e ∈ H'.ents → e ∈ H.ents) (hn : H.n ≤ H'.n) (hd : (H'.ents.map (·.1)).Nodup) : Sim ρ H' w where
  base := s.base
  below := s.below
  os := s.os
  tape := s.tape
  output := s.output
  dom := fun b hb => s.dom b (Nat.le_trans hn hb)
  nodup := hd
  live := fun e he => s.live e (hs e he)
  inj := fun e e' he he' => s.inj e e' (hs e he) (hs e' he')
theorem Sim.placed {ρ : Place} {H : Heap} {w : World} (s : Sim ρ H w) : ∀ e, e ∈ H.ents → ∃ l, ρ e.1 = some l := fun e he => let ⟨l, h, _⟩ := s.live e he; ⟨l, h⟩
theorem Step.refl (ρ : Place) (H : Heap) (w : World) : Step ρ H w ρ H w := .of_sub (fun _ h => h) (Nat.le_refl _)

/-- a draw -/
theorem Sim.drew {ρ : Place} {H : Heap} {w : World} (s : Sim ρ H w) : Sim ρ H w.drew where
  base := s.base
  below := s.below
  os := s.os
  tape := s.tape
  output := s.output
  dom := s.dom
  nodup := s.nodup
  live := fun e he => let ⟨l, h1, h2, h3, h4⟩ := s.live e he; ⟨l, h1, h2, h3, h4.same rfl⟩
  inj := s.inj
theorem Step.drew (ρ : Place) (H : Heap) (w : World) : Step ρ H w ρ H w.drew where
  le := Place.le_refl _
  size := Nat.le_refl _
  num := Nat.le_refl _
  low := fun _ _ => rfl
  cold := fun _ h => .inl h
  keeps := fun _ _ _ => rfl
  rows := fun e he l h => .inl ⟨e, he, l, h, rfl⟩

theorem getF_mem {b : Nat} {k : Blk} : ∀ {f : List (Nat × Blk)}, getF b f = some k → (b, k) ∈ f
  | [], h => by simp [getF] at h
  | x :: r, h => by
    unfold getF at h
    split at h
    · rename_i hb
      have hb' : x.1 = b := Nat.eq_of_beq_eq_true hb
      simp only [Option.some.injEq] at h
      subst hb'; subst h
      exact List.mem_cons_self
    · exact List.mem_cons_of_mem _ (getF_mem h)
theorem getFs_mem {b : Nat} {k : Blk} : ∀ {fs : List (List (Nat × Blk))}, getFs b fs = some k → (b, k) ∈ fs.flatten
  | [], h => by simp [getFs] at h
  | f :: r, h => by
    unfold getFs at h
    rw [List.flatten_cons, List.mem_append]
    split at h
    · rename_i x hx
      simp only [Option.some.injEq] at h
      subst h
      exact .inl (getF_mem hx)
    · exact .inr (getFs_mem h)
theorem Heap.get_mem {H : Heap} {b : Nat} {k : Blk} (h : H.get b = some k) : (b, k) ∈ H.ents := getFs_mem h

theorem pushF_ents (x : Nat × Blk) (fs : List (List (Nat × Blk))) : (pushF x fs).flatten = x :: fs.flatten := by cases fs <;> simp [pushF]
theorem Heap.new_ents (H : Heap) (k : Blk) : (H.new k).ents = (H.n, k) :: H.ents := pushF_ents _ _

theorem Sim.id_lt {ρ : Place} {H : Heap} {w : World} (s : Sim ρ H w) {e : Nat × Blk} (he : e ∈ H.ents) : e.1 < H.n := by
  obtain ⟨l, hl, _⟩ := s.live e he
  rcases Nat.lt_or_ge e.1 H.n with h | h
  · exact h
  · rw [s.dom _ h] at hl; cases hl

/-- a block is laid: a new row of the world -/
theorem Sim.alloc {ρ : Place} {H : Heap} {w : World} (s : Sim ρ H w) (o : Obj) (fin : Nat) (b : Nat) (k : Blk) (H' : Heap)
    (hb : ρ b = none) (hb0 : H.n ≤ b) (hbn : b < H'.n) (hn : H.n ≤ H'.n) (he : H'.ents = (b, k) :: H.ents)
    (hk : BlkR (ρ.upd b ⟨w.heap.size, 0, fin⟩) (w.alloc o) ⟨w.heap.size, 0, fin⟩ k) :
    Sim (ρ.upd b ⟨w.heap.size, 0, fin⟩) H' (w.alloc o) ∧ Step ρ H w (ρ.upd b ⟨w.heap.size, 0, fin⟩) H' (w.alloc o) := by
  have hle : ρ.le (ρ.upd b ⟨w.heap.size, 0, fin⟩) := Place.le_upd hb
  have hne : ∀ e, e ∈ H.ents → e.1 ≠ b := fun e hm hx => by obtain ⟨l, hl, _⟩ := s.live e hm; rw [hx, hb] at hl; cases hl
  have hcell : ∀ k, k < w.heap.size → (w.alloc o).heap[k]? = w.heap[k]? := fun k hk => Below.heap_alloc w o k hk
  refine ⟨⟨?_, ?_, s.os, s.tape, s.output, ?_, ?_, ?_, ?_⟩, ⟨hle, by simp, fun k hk _ => hcell k hk, ?_, hn, fun x hx => Place.upd_other (by omega), fun _ h => .inl h⟩⟩
  · intro k hk; have := s.base k hk; simp; omega
  · intro k hk; rw [hcell k (s.base k hk)]; exact s.below k hk
  · intro x hx; rw [Place.upd_other (by omega)]; exact s.dom x (by omega)
  · rw [he, List.map_cons, List.nodup_cons]
    refine ⟨fun hm => ?_, s.nodup⟩
    obtain ⟨e, hem, hex⟩ := List.mem_map.1 hm
    exact hne e hem hex
  · intro e hem
    rw [he] at hem
    rcases List.mem_cons.1 hem with rfl | hem
    · exact ⟨_, Place.upd_same, fun hx => absurd (s.base _ hx) (Nat.lt_irrefl _), by simp, hk⟩
    · obtain ⟨l, h1, h2, h3, h4⟩ := s.live e hem
      exact ⟨l, hle _ _ h1, h2, by simp; omega, (h4.same (hcell _ h3)).mono hle⟩
  · intro e e' h1 h2 l l' hl hl' hcb
    rw [he] at h1 h2
    rcases List.mem_cons.1 h1 with rfl | h1 <;> rcases List.mem_cons.1 h2 with rfl | h2
    · rfl
    · rw [Place.upd_same] at hl; cases hl
      rw [Place.upd_other (hne e' h2)] at hl'
      obtain ⟨m, hm, _, hlt, _⟩ := s.live e' h2
      rw [hm] at hl'; cases hl'
      simp at hcb; omega
    · rw [Place.upd_same] at hl'; cases hl'
      rw [Place.upd_other (hne e h1)] at hl
      obtain ⟨m, hm, _, hlt, _⟩ := s.live e h1
      rw [hm] at hl; cases hl
      simp at hcb; omega
    · rw [Place.upd_other (hne e h1)] at hl
      rw [Place.upd_other (hne e' h2)] at hl'
      exact s.inj e e' h1 h2 l l' hl hl' hcb
  · intro e' h1 l' hl'
    rw [he] at h1
    rcases List.mem_cons.1 h1 with rfl | h1
    · rw [Place.upd_same] at hl'; cases hl'; exact .inr (Nat.le_refl _)
    · rw [Place.upd_other (hne e' h1)] at hl'
      exact .inl ⟨e', h1, l', hl', rfl⟩
theorem Sim.new {ρ : Place} {H : Heap} {w : World} (s : Sim ρ H w) (o : Obj) (fin : Nat) (k : Blk)
    (hk : BlkR (ρ.upd H.n ⟨w.heap.size, 0, fin⟩) (w.alloc o) ⟨w.heap.size, 0, fin⟩ k) :
    Sim (ρ.upd H.n ⟨w.heap.size, 0, fin⟩) (H.new k) (w.alloc o) ∧ Step ρ H w (ρ.upd H.n ⟨w.heap.size, 0, fin⟩) (H.new k) (w.alloc o) :=
  s.alloc o fin H.n k (H.new k) (s.dom _ (Nat.le_refl _)) (Nat.le_refl _) (Nat.lt_succ_self _) (Nat.le_succ _) (H.new_ents k) hk

/-! ### Entries that are turned, moved, dropped -/
theorem setF_ids {b : Nat} {k : Blk} : ∀ {f f' : List (Nat × Blk)}, setF b k f = some f' → f'.map (·.1) = f.map (·.1)
  | [], _, h => by simp [setF] at h
  | x :: r, f', h => by
    unfold setF at h
    split at h
    · rename_i hb
      simp only [Option.some.injEq] at h
      subst h
      simp [Nat.eq_of_beq_eq_true hb]
    · obtain ⟨r', hr, hf⟩ := Option.bind_eq_some_iff.1 h
      simp only [Option.some.injEq] at hf
      subst hf
      simp [setF_ids hr]
theorem setF_old {b : Nat} {k : Blk} : ∀ {f f' : List (Nat × Blk)}, setF b k f = some f' → (b, k) ∈ f' ∧ (∃ k0, (b, k0) ∈ f) ∧ ∀ e, e ∈ f' → e = (b, k) ∨ e ∈ f
  | [], _, h => by simp [setF] at h
  | x :: r, f', h => by
    unfold setF at h
    split at h
    · rename_i hb
      simp only [Option.some.injEq] at h
      subst h
      refine ⟨List.mem_cons_self, ⟨x.2, ?_⟩, fun e he => ?_⟩
      · rw [← Nat.eq_of_beq_eq_true hb]; exact List.mem_cons_self
      · rcases List.mem_cons.1 he with rfl | he
        · exact .inl rfl
        · exact .inr (List.mem_cons_of_mem _ he)
    · obtain ⟨r', hr, hf⟩ := Option.bind_eq_some_iff.1 h
      simp only [Option.some.injEq] at hf
      subst hf
      obtain ⟨h1, ⟨k0, h2⟩, h3⟩ := setF_old hr
      refine ⟨List.mem_cons_of_mem _ h1, ⟨k0, List.mem_cons_of_mem _ h2⟩, fun e he => ?_⟩
      rcases List.mem_cons.1 he with rfl | he
      · exact .inr List.mem_cons_self
      · rcases h3 e he with h | h
        · exact .inl h
        · exact .inr (List.mem_cons_of_mem _ h)
theorem setFs_spec {b : Nat} {k : Blk} : ∀ {fs fs' : List (List (Nat × Blk))}, setFs b k fs = some fs' →
    fs'.flatten.map (·.1) = fs.flatten.map (·.1) ∧ (b, k) ∈ fs'.flatten ∧ (∃ k0, (b, k0) ∈ fs.flatten) ∧ ∀ e, e ∈ fs'.flatten → e = (b, k) ∨ e ∈ fs.flatten
  | [], _, h => by simp [setFs] at h
  | f :: r, fs', h => by
    unfold setFs at h
    split at h
    · rename_i f' hf
      simp only [Option.some.injEq] at h
      subst h
      obtain ⟨h1, ⟨k0, h2⟩, h3⟩ := setF_old hf
      simp only [List.flatten_cons, List.map_append, setF_ids hf, List.mem_append, true_and]
      refine ⟨.inl h1, ⟨k0, .inl h2⟩, fun e he => ?_⟩
      rcases he with he | he
      · rcases h3 e he with h | h
        · exact .inl h
        · exact .inr (.inl h)
      · exact .inr (.inr he)
    · obtain ⟨r', hr, hf⟩ := Option.bind_eq_some_iff.1 h
      simp only [Option.some.injEq] at hf
      subst hf
      obtain ⟨h0, h1, ⟨k0, h2⟩, h3⟩ := setFs_spec hr
      simp only [List.flatten_cons, List.map_append, h0, List.mem_append, true_and]
      refine ⟨.inr h1, ⟨k0, .inr h2⟩, fun e he => ?_⟩
      rcases he with he | he
      · exact .inr (.inl he)
      · rcases h3 e he with h | h
        · exact .inl h
        · exact .inr (.inr h)
theorem mem_of_ids {l : List (Nat × Blk)} (hd : (l.map (·.1)).Nodup) {b : Nat} {k k' : Blk} (h : (b, k) ∈ l) (h' : (b, k') ∈ l) : k = k' := by
  induction l with
  | nil => cases h
  | cons x r ih =>
    rw [List.map_cons, List.nodup_cons] at hd
    rcases List.mem_cons.1 h with rfl | h1 <;> rcases List.mem_cons.1 h' with h2 | h2
    · cases h2; rfl
    · exact absurd (List.mem_map.2 ⟨_, h2, rfl⟩) hd.1
    · subst h2; exact absurd (List.mem_map.2 ⟨_, h1, rfl⟩) hd.1
    · exact ih hd.2 h1 h2

theorem killF_perm {b : Nat} {k : Blk} : ∀ {f : List (Nat × Blk)}, getF b f = some k → f.Perm ((b, k) :: killF b f)
  | [], h => by simp [getF] at h
  | x :: r, h => by
    unfold getF at h
    unfold killF
    split at h
    · rename_i hb
      simp only [Option.some.injEq] at h
      subst h
      rw [← Nat.eq_of_beq_eq_true hb]
    · exact ((killF_perm h).cons x).trans (List.Perm.swap _ _ _)
theorem killF_sub (b : Nat) : ∀ (f : List (Nat × Blk)), (killF b f).Sublist f
  | [] => List.Sublist.refl _
  | x :: r => by
    unfold killF
    split
    · exact List.sublist_cons_self x r
    · exact (killF_sub b r).cons_cons x
theorem killFs_sub (b : Nat) : ∀ (fs : List (List (Nat × Blk))), (killFs b fs).flatten.Sublist fs.flatten
  | [] => List.Sublist.refl _
  | f :: r => by
    unfold killFs
    split
    · simp only [List.flatten_cons]; exact (killF_sub b f).append (List.Sublist.refl _)
    · simp only [List.flatten_cons]; exact (List.Sublist.refl _).append (killFs_sub b r)
theorem reach_perm : ∀ (n : Nat) (todo : List Nat) (f acc : List (Nat × Blk)), ((reach n todo f acc).1 ++ (reach n todo f acc).2).Perm (acc ++ f)
  | 0, _, _, _ => List.Perm.refl _
  | n + 1, todo, f, acc => by
    unfold reach
    split
    · exact List.Perm.refl _
    · split
      · exact List.Perm.refl _
      · split
        · exact reach_perm n _ _ _
        · rename_i k hk
          refine (reach_perm n _ _ _).trans ?_
          refine List.Perm.trans ?_ ((killF_perm hk).symm.append_left acc)
          simp only [List.cons_append]
          exact List.perm_middle.symm
theorem promote_perm (b : Nat) : ∀ (roots : List Nat) (carry : List (Nat × Blk)) (fs : List (List (Nat × Blk))), (promote b roots carry fs).flatten.Perm (carry ++ fs.flatten)
  | _, carry, [] => by simp [promote]
  | roots, carry, f :: r => by
    unfold promote
    split
    · simp only [List.flatten_cons, List.append_assoc]; exact List.Perm.refl _
    · generalize hx : reach 100000 roots f [] = x
      obtain ⟨ex, rest⟩ := x
      have hp := reach_perm 100000 roots f []
      rw [hx] at hp
      simp only [List.nil_append] at hp
      simp only [List.flatten_cons]
      refine ((promote_perm b _ (ex ++ carry) r).append_left rest).trans ?_
      have h1 : (rest ++ (ex ++ carry ++ r.flatten)).Perm ((rest ++ ex) ++ (carry ++ r.flatten)) := by simp only [List.append_assoc]; exact List.Perm.refl _
      refine h1.trans ?_
      refine ((List.perm_append_comm.trans hp).append_right _).trans ?_
      rw [← List.append_assoc, ← List.append_assoc]
      exact List.perm_append_comm.append_right _
theorem ready_perm (H : Heap) (b : Nat) (vs : List AV) : (H.ready b vs).ents.Perm H.ents := by
  unfold Heap.ready
  split
  · exact List.Perm.refl _
  · exact promote_perm b _ [] H.fs
theorem ready_n (H : Heap) (b : Nat) (vs : List AV) : (H.ready b vs).n = H.n := by unfold Heap.ready; split <;> rfl
theorem nodup_ids_perm {l l' : List (Nat × Blk)} (h : l.Perm l') (hd : (l'.map (·.1)).Nodup) : (l.map (·.1)).Nodup := (h.map _).nodup_iff.2 hd
theorem nodup_ids_sub {l l' : List (Nat × Blk)} (h : l.Sublist l') (hd : (l'.map (·.1)).Nodup) : (l.map (·.1)).Nodup := (h.map _).nodup hd

theorem ontoF_ents (l : List (Nat × Blk)) (fs : List (List (Nat × Blk))) : (ontoF l fs).flatten = l ++ fs.flatten := by cases fs <;> simp [ontoF]
theorem Sim.pop {ρ : Place} {H : Heap} {w : World} (s : Sim ρ H w) (v : AV) : Sim ρ (popTo v H) w ∧ Step ρ H w ρ (popTo v H) w := by
  unfold popTo
  split
  · exact ⟨s, .refl _ _ _⟩
  · rename_i f r hfs
    have he : H.ents = f ++ r.flatten := by simp [Heap.ents, hfs]
    split
    · have hs : ∀ e, e ∈ Heap.ents ⟨H.n, r⟩ → e ∈ H.ents := fun e h => by rw [he]; exact List.mem_append.2 (.inr h)
      refine ⟨s.of_sub hs (Nat.le_refl _) (nodup_ids_sub (l' := H.ents) ?_ s.nodup), .of_sub hs (Nat.le_refl _)⟩
      rw [he]; exact List.sublist_append_right _ _
    · rename_i b bs _
      have hp := reach_perm 100000 (b :: bs) f []
      generalize reach 100000 (b :: bs) f [] = x at hp
      obtain ⟨ex, rest⟩ := x
      simp only [List.nil_append] at hp
      have hx : Heap.ents ⟨H.n, ontoF ex r⟩ = ex ++ r.flatten := ontoF_ents _ _
      have hs : ∀ e, e ∈ Heap.ents ⟨H.n, ontoF ex r⟩ → e ∈ H.ents := fun e h => by
        rw [hx] at h
        rw [he]
        rcases List.mem_append.1 h with h | h
        · exact List.mem_append.2 (.inl (hp.mem_iff.1 (List.mem_append.2 (.inl h))))
        · exact List.mem_append.2 (.inr h)
      refine ⟨s.of_sub hs (Nat.le_refl _) ?_, .of_sub hs (Nat.le_refl _)⟩
      have hd : (((ex ++ rest) ++ r.flatten).map (·.1)).Nodup := nodup_ids_perm (hp.append_right _) (he ▸ s.nodup)
      rw [hx]
      refine nodup_ids_sub ?_ hd
      exact (List.sublist_append_left ex rest).append (List.Sublist.refl _)
theorem Sim.killed {ρ : Place} {H : Heap} {w : World} (s : Sim ρ H w) (b : Nat) : Sim ρ (H.kill b) w ∧ Step ρ H w ρ (H.kill b) w := by
  unfold Heap.kill
  split
  · exact ⟨s, .refl _ _ _⟩
  · rename_i f r hfs
    have hx : (Heap.ents ⟨H.n, killF b f :: r⟩).Sublist H.ents := by
      simp only [Heap.ents, hfs, List.flatten_cons]; exact (killF_sub b f).append (List.Sublist.refl _)
    exact ⟨s.of_sub (fun e h => hx.subset h) (Nat.le_refl _) (nodup_ids_sub hx s.nodup), .of_sub (fun e h => hx.subset h) (Nat.le_refl _)⟩
theorem Sim.dropped {ρ : Place} {H : Heap} {w : World} (s : Sim ρ H w) (b : Nat) : Sim ρ (H.drop b) w ∧ Step ρ H w ρ (H.drop b) w := by
  have hx : (H.drop b).ents.Sublist H.ents := killFs_sub b H.fs
  exact ⟨s.of_sub (fun e h => hx.subset h) (Nat.le_refl _) (nodup_ids_sub hx s.nodup), .of_sub (fun e h => hx.subset h) (Nat.le_refl _)⟩
theorem Sim.opened {ρ : Place} {H : Heap} {w : World} (s : Sim ρ H w) : Sim ρ ⟨H.n, [] :: H.fs⟩ w ∧ Step ρ H w ρ ⟨H.n, [] :: H.fs⟩ w :=
  ⟨s.of_sub (fun _ h => h) (Nat.le_refl _) s.nodup, .of_sub (fun _ h => h) (Nat.le_refl _)⟩

/-- one block is turned, in its own row -/
theorem Sim.turned {ρ : Place} {H H' : Heap} {w w' : World} (s : Sim ρ H w) {b : Nat} {k0 k : Blk} {l : Loc} (hb : (b, k0) ∈ H.ents) (hl : ρ b = some l)
    (hn : H'.n = H.n) (hd : (H'.ents.map (·.1)).Nodup) (hk : (b, k) ∈ H'.ents) (hs : ∀ e, e ∈ H'.ents → e = (b, k) ∨ e ∈ H.ents)
    (hsize : w'.heap.size = w.heap.size) (hkeep : ∀ j, j ≠ l.cb → w'.heap[j]? = w.heap[j]?) (hos : w'.os = w.os) (ht : w'.tape = w.tape) (ho : w'.output = w.output)
    (hr : BlkR ρ w' l k) : Sim ρ H' w' ∧ Step ρ H w ρ H' w' := by
  have hmem : ∀ e, e ∈ H'.ents → e = (b, k) ∨ (e ∈ H.ents ∧ e.1 ≠ b) := fun e he => by
    rcases hs e he with h | h
    · exact .inl h
    · by_cases hx : e.1 = b
      · left
        obtain ⟨e1, e2⟩ := e
        simp only at hx
        subst hx
        rw [mem_of_ids hd he hk]
      · exact .inr ⟨h, hx⟩
  have hid : ∀ e, e ∈ H'.ents → ∃ e0, e0 ∈ H.ents ∧ e0.1 = e.1 := fun e he => by
    rcases hmem e he with rfl | ⟨h, _⟩
    · exact ⟨_, hb, rfl⟩
    · exact ⟨e, h, rfl⟩
  obtain ⟨l0, hl0, hB, hlt, _⟩ := s.live _ hb
  rw [hl] at hl0; cases hl0
  refine ⟨⟨by rw [hsize]; exact s.base, ?_, hos.trans s.os, ht.trans s.tape, ho.trans s.output, fun x hx => s.dom x (by omega), hd, ?_, ?_⟩, ⟨Place.le_refl _, by omega, ?_, ?_, by omega, fun _ _ => rfl, fun _ h => .inl h⟩⟩
  · intro j hj; rw [hkeep j (fun hx => hB (hx ▸ hj))]; exact s.below j hj
  · intro e he
    rcases hmem e he with rfl | ⟨h, hx⟩
    · exact ⟨l, hl, hB, by omega, hr⟩
    · obtain ⟨m, h1, h2, h3, h4⟩ := s.live e h
      refine ⟨m, h1, h2, by omega, h4.same (hkeep _ fun hc => hx ?_)⟩
      exact s.inj e (b, k0) h hb m l h1 hl hc
  · intro e e' he he' m m' hm hm' hc
    obtain ⟨e0, h0, h0'⟩ := hid e he
    obtain ⟨e1, h1, h1'⟩ := hid e' he'
    rw [← h0', ← h1']
    exact s.inj e0 e1 h0 h1 m m' (by rw [h0']; exact hm) (by rw [h1']; exact hm') hc
  · intro j hj hn'
    exact hkeep j fun hc => hn' (b, k0) hb l hl hc.symm
  · intro e he m hm
    obtain ⟨e0, h0, h0'⟩ := hid e he
    exact .inl ⟨e0, h0, m, by rw [h0']; exact hm, rfl⟩
theorem killFs_perm {b : Nat} {k : Blk} : ∀ {fs : List (List (Nat × Blk))}, getFs b fs = some k → fs.flatten.Perm ((b, k) :: (killFs b fs).flatten)
  | [], h => by simp [getFs] at h
  | f :: r, h => by
    unfold getFs at h
    unfold killFs
    split at h
    · rename_i x hx
      simp only [Option.some.injEq] at h
      subst h
      simp only [hx, List.flatten_cons]
      exact (killF_perm hx).append_right _
    · rename_i hx
      simp only [hx, List.flatten_cons]
      exact ((killFs_perm h).append_left f).trans List.perm_middle
/-- a block's row goes on under a new number: the old number is known no longer -/
theorem Sim.regrow {ρ : Place} {H : Heap} {w w' : World} (s : Sim ρ H w) {b : Nat} {k0 k : Blk} {l l' : Loc} (hb : H.get b = some k0) (hl : ρ b = some l) (hcb : l'.cb = l.cb)
    (hsize : w'.heap.size = w.heap.size) (hkeep : ∀ j, j ≠ l.cb → w'.heap[j]? = w.heap[j]?) (hos : w'.os = w.os) (ht : w'.tape = w.tape) (ho : w'.output = w.output)
    (hr : BlkR (ρ.upd H.n l') w' l' k) : Sim (ρ.upd H.n l') ((H.drop b).new k) w' ∧ Step ρ H w (ρ.upd H.n l') ((H.drop b).new k) w' := by
  have hn0 : ρ H.n = none := s.dom _ (Nat.le_refl _)
  have hle : ρ.le (ρ.upd H.n l') := Place.le_upd hn0
  have hp : H.ents.Perm ((b, k0) :: (H.drop b).ents) := killFs_perm hb
  have hd : (((b, k0) :: (H.drop b).ents).map (·.1)).Nodup := (hp.map _).nodup_iff.1 s.nodup
  rw [List.map_cons, List.nodup_cons] at hd
  have hsub : ∀ e, e ∈ (H.drop b).ents → e ∈ H.ents ∧ e.1 ≠ b := fun e he => ⟨hp.mem_iff.2 (List.mem_cons_of_mem _ he), fun hx => hd.1 (List.mem_map.2 ⟨e, he, hx⟩)⟩
  have hbm : (b, k0) ∈ H.ents := Heap.get_mem hb
  have hne : ∀ e, e ∈ H.ents → e.1 ≠ H.n := fun e he hx => by obtain ⟨m, hm, _⟩ := s.live e he; rw [hx, hn0] at hm; cases hm
  have hents : ((H.drop b).new k).ents = (H.n, k) :: (H.drop b).ents := Heap.new_ents _ _
  obtain ⟨l0, hl0, hB, hlt, _⟩ := s.live _ hbm
  rw [hl] at hl0; cases hl0
  refine ⟨⟨by rw [hsize]; exact s.base, fun j hj => by rw [hkeep j (fun hx => hB (hx ▸ hj))]; exact s.below j hj, hos.trans s.os, ht.trans s.tape, ho.trans s.output, ?_, ?_, ?_, ?_⟩, ⟨hle, by omega, ?_, ?_, ?_, fun x hx => Place.upd_other (by omega), fun _ h => .inl h⟩⟩
  · intro x hx
    have hx' : H.n + 1 ≤ x := hx
    rw [Place.upd_other (by omega)]; exact s.dom x (by omega)
  · rw [hents, List.map_cons, List.nodup_cons]
    refine ⟨fun hm => ?_, hd.2⟩
    obtain ⟨e, he, hx⟩ := List.mem_map.1 hm
    exact hne e (hsub e he).1 hx
  · intro e he
    rw [hents] at he
    rcases List.mem_cons.1 he with rfl | he
    · exact ⟨l', Place.upd_same, by rw [hcb]; exact hB, by omega, hr⟩
    · obtain ⟨h1, h2⟩ := hsub e he
      obtain ⟨m, g1, g2, g3, g4⟩ := s.live e h1
      refine ⟨m, hle _ _ g1, g2, by omega, (g4.same (hkeep _ fun hc => h2 ?_)).mono hle⟩
      exact s.inj e (b, k0) h1 hbm m l g1 hl hc
  · intro e e' he he' m m' hm hm' hc
    rw [hents] at he he'
    rcases List.mem_cons.1 he with rfl | he <;> rcases List.mem_cons.1 he' with rfl | he'
    · rfl
    · rw [Place.upd_same] at hm; cases hm
      obtain ⟨h1, h2⟩ := hsub e' he'
      rw [Place.upd_other (hne e' h1)] at hm'
      exact absurd (s.inj e' (b, k0) h1 hbm m' l hm' hl (by omega)) h2
    · rw [Place.upd_same] at hm'; cases hm'
      obtain ⟨h1, h2⟩ := hsub e he
      rw [Place.upd_other (hne e h1)] at hm
      exact absurd (s.inj e (b, k0) h1 hbm m l hm hl (by omega)) h2
    · rw [Place.upd_other (hne e (hsub e he).1)] at hm
      rw [Place.upd_other (hne e' (hsub e' he').1)] at hm'
      exact s.inj e e' (hsub e he).1 (hsub e' he').1 m m' hm hm' hc
  · intro j hj hnj
    exact hkeep j fun hc => hnj _ hbm l hl hc.symm
  · intro e he m hm
    rw [hents] at he
    rcases List.mem_cons.1 he with rfl | he
    · rw [Place.upd_same] at hm; cases hm
      exact .inl ⟨_, hbm, l, hl, hcb.symm⟩
    · obtain ⟨h1, _⟩ := hsub e he
      rw [Place.upd_other (hne e h1)] at hm
      exact .inl ⟨e, h1, m, hm, rfl⟩
  · exact Nat.le_succ _
theorem set_spec {H H' : Heap} {b : Nat} {k : Blk} {vs : List AV} (h : (H.ready b vs).set b k = some H') (hd : (H.ents.map (·.1)).Nodup) :
    H'.n = H.n ∧ (H'.ents.map (·.1)).Nodup ∧ (b, k) ∈ H'.ents ∧ (∃ k0, (b, k0) ∈ H.ents) ∧ ∀ e, e ∈ H'.ents → e = (b, k) ∨ e ∈ H.ents := by
  obtain ⟨fs, hf, hH⟩ := Option.bind_eq_some_iff.1 h
  simp only [Option.some.injEq] at hH
  subst hH
  obtain ⟨h0, h1, ⟨k0, h2⟩, h3⟩ := setFs_spec hf
  have hp := ready_perm H b vs
  refine ⟨ready_n _ _ _, ?_, h1, ⟨k0, hp.mem_iff.1 h2⟩, fun e he => ?_⟩
  · show (fs.flatten.map (·.1)).Nodup
    rw [h0]; exact nodup_ids_perm hp hd
  · rcases h3 e he with h | h
    · exact .inl h
    · exact .inr (hp.mem_iff.1 h)
end
end Go.Proofs.Ytpkplilgjdbhhaa
