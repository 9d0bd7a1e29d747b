/- What a call leaves may be told weaker. No condition. -/
import Derived.Test.YtfgdcciaecajpaaGreatDoorME
namespace Go.Proofs.YtfgdcciaecajpaaGreatDoor
noncomputable section
set_option linter.unusedSimpArgs false
set_option linter.unusedVariables false
open Go Go.RowKit
theorem subL_app {α : Type} {a b c : List α} {o n : Nat} (h1 : a.length = o) (h2 : b.length = n) : subL o n (a ++ b ++ c) = some b := by
 subst h1; subst h2
 unfold subL
 rw [List.append_assoc, List.drop_left, takeL_front (by simp), List.take_left]
theorem overL_app {α : Type} : ∀ {b b' c : List α}, b.length = b'.length → overL b' (b ++ c) = some (b' ++ c)
 | [], [], c, _ => rfl
 | x :: b, y :: b', c, h => by
  simp only [overL, List.cons_append]
  rw [overL_app (by simpa using h)]; rfl
 | [], _ :: _, _, h => by simp at h
 | _ :: _, [], _, h => by simp at h
theorem layL_app {α : Type} {b b' c : List α} (h : b.length = b'.length) : ∀ {a : List α}, layL b' a.length (a ++ b ++ c) = some (a ++ b' ++ c)
 | [] => by simpa [layL] using overL_app h
 | x :: a => by
  simp only [List.length_cons, layL, List.cons_append]
  rw [layL_app h]; rfl
theorem flat_append (a b : List AV) : flatAV (a ++ b) = flatAV a ++ flatAV b := by
 induction a with
 | nil => rfl
 | cons x r ih => simp [flatAV, ih]
theorem flat_split {es : List AV} {i : Nat} (h : i < es.length) : flatAV es = flatAV (es.take i) ++ es[i].cells ++ flatAV (es.drop (i + 1)) := by
 have e : es = es.take i ++ (es[i] :: es.drop (i + 1)) := by rw [← List.drop_eq_getElem_cons h, List.take_append_drop]
 conv => lhs; rw [e]
 rw [flat_append, flatAV, List.append_assoc]
theorem Elems.take {sz : Nat} {es : List AV} (h : Elems sz es) (i : Nat) : Elems sz (es.take i) := ⟨h.sz0, fun e he => h.all e (List.mem_of_mem_take he)⟩
theorem Elems.drop {sz : Nat} {es : List AV} (h : Elems sz es) (i : Nat) : Elems sz (es.drop i) := ⟨h.sz0, fun e he => h.all e (List.mem_of_mem_drop he)⟩
theorem Elems.len {sz : Nat} {es : List AV} (h : Elems sz es) : (flatAV es).length = es.length * sz := flat_len fun e he => (h.all e he).1
theorem Elems.pure {sz : Nat} {es : List AV} (h : Elems sz es) : pureL (flatAV es) = true := flat_pure fun e he => (h.all e he).2.1
theorem Elems.size {sz : Nat} {es : List AV} (h : Elems sz es) : allSize sz es = true := allSize_of fun e he => (h.all e he).1
theorem Elems.append {sz : Nat} {a b : List AV} (h : Elems sz a) (k : Elems sz b) : Elems sz (a ++ b) := ⟨h.sz0, fun e he => (List.mem_append.1 he).elim (h.all e) (k.all e)⟩
theorem lay_at {sz : Nat} {es : List AV} (h : Elems sz es) {i : Nat} (hi : i < es.length) {e : AV} (he : e.cells.length = sz) : layL e.cells (i * sz) (flatAV es) = some (flatAV (es.set i e)) := by
 rw [flat_split hi]
 have h1 : (flatAV (es.take i)).length = i * sz := by rw [(h.take i).len, List.length_take, Nat.min_eq_left (by omega)]
 have h2 : es[i].cells.length = e.cells.length := by rw [he]; exact (h.all _ (List.getElem_mem hi)).1
 rw [← h1, layL_app h2, List.set_eq_take_append_cons_drop, if_pos hi, flat_append, flatAV, List.append_assoc]
theorem allSingle_append {a b : List AV} : allSingle (a ++ b) = (allSingle a && allSingle b) := by
 induction a with
 | nil => simp [allSingle]
 | cons x r ih => cases h : x.single <;> simp [allSingle, h, ih]
theorem lay_end {sz : Nat} {es : List AV} (h : Elems sz es) {i : Nat} (hi : i ≤ es.length) {l : List AV} (hl : l.length = (es.length - i) * sz) : layL l (i * sz) (flatAV es) = some (flatAV (es.take i) ++ l) := by
 have e : flatAV es = flatAV (es.take i) ++ flatAV (es.drop i) ++ [] := by rw [List.append_nil, ← flat_append, List.take_append_drop]
 have h1 : (flatAV (es.take i)).length = i * sz := by rw [(h.take i).len, List.length_take, Nat.min_eq_left hi]
 rw [e, ← h1, layL_app (by rw [(h.drop i).len, hl, List.length_drop]), List.append_nil]
theorem sub_pre {sz : Nat} {es : List AV} (h : Elems sz es) {k : Nat} (hk : k ≤ es.length) : subL 0 (k * sz) (flatAV es) = some (flatAV (es.take k)) := by
 have e : flatAV es = [] ++ flatAV (es.take k) ++ flatAV (es.drop k) := by rw [List.nil_append, ← flat_append, List.take_append_drop]
 rw [e]
 exact subL_app rfl (by rw [(h.take k).len, List.length_take, Nat.min_eq_left hk])
theorem Elems.map {α : Type} {f : α → AV} {sz : Nat} (h0 : sz ≠ 0) (h : ∀ x, (f x).cells.length = sz ∧ pureL (f x).cells = true ∧ (sz = 1 → (f x).cells = [f x]) ∧ (sz ≠ 1 → ∃ cs, f x = .agg cs)) (l : List α) : Elems sz (l.map f) :=
 ⟨h0, fun e he => by obtain ⟨x, _, rfl⟩ := List.mem_map.1 he; exact h x⟩
def ownV (b sz : Nat) (es : List AV) : AV := match es with
 | [] => .zslc
 | _ :: _ => .slc b 0 es.length (.rest sz)
def ownF (b : Nat) (es : List AV) : List (Nat × Blk) := match es with
 | [] => []
 | _ :: _ => [(b, .cells (flatAV es))]
def ownH (H : Heap) (es : List AV) : Heap := match es with
 | [] => H
 | _ :: _ => H.new (.cells (flatAV es))
theorem ownF_drop {b : Nat} {es : List AV} {f g : List (Nat × Blk)} {n : Nat} {fs : List (List (Nat × Blk))} (h : ∀ e, e ∈ f ++ g → e.1 ≠ b) (h2 : ∀ e, e ∈ fs.flatten → e.1 ≠ b) : Heap.drop ⟨n, (f ++ (ownF b es ++ g)) :: fs⟩ b = ⟨n, (f ++ g) :: fs⟩ := by
 have miss : ∀ (l : List (Nat × Blk)), (∀ e, e ∈ l → e.1 ≠ b) → getF b l = none := by
  intro l
  induction l with
  | nil => intro _; rfl
  | cons e r ih =>
   intro h
   unfold getF
   rw [beqN_ne (h e (by simp))]; exact ih fun x hx => h x (by simp [hx])
 have stay : ∀ (l : List (Nat × Blk)), (∀ e, e ∈ l → e.1 ≠ b) → killF b l = l := by
  intro l
  induction l with
  | nil => intro _; rfl
  | cons e r ih =>
   intro h
   unfold killF
   rw [beqN_ne (h e (by simp))]
   simp only
   rw [ih fun x hx => h x (by simp [hx])]
 have stayF : ∀ (l : List (List (Nat × Blk))), (∀ e, e ∈ l.flatten → e.1 ≠ b) → killFs b l = l := by
  intro l
  induction l with
  | nil => intro _; rfl
  | cons f r ih =>
   intro h
   unfold killFs
   rw [miss f fun e he => h e (by simp [he])]
   simp only
   rw [ih fun e he => h e (by rw [List.flatten_cons]; exact List.mem_append_right _ he)]
 unfold Heap.drop
 simp only
 congr 1
 cases es with
 | nil =>
  simp only [ownF, List.nil_append]
  rw [stayF]
  intro e he
  rw [List.flatten_cons] at he
  exact (List.mem_append.1 he).elim (h e) (h2 e)
 | cons x r =>
  have hit : ∀ (l : List (Nat × Blk)), (∀ e, e ∈ l → e.1 ≠ b) → ∀ k, getF b (l ++ ((b, k) :: g)) = some k ∧ killF b (l ++ ((b, k) :: g)) = l ++ g := by
   intro l
   induction l with
   | nil => intro _ k; simp [getF, killF]
   | cons e r ih =>
    intro h k
    obtain ⟨i1, i2⟩ := ih (fun x hx => h x (by simp [hx])) k
    simp only [List.cons_append]
    unfold getF killF
    rw [beqN_ne (h e (by simp))]
    exact ⟨i1, by simp [i2]⟩
  obtain ⟨i1, i2⟩ := hit f (fun e he => h e (List.mem_append_left _ he)) (.cells (flatAV (x :: r)))
  simp only [ownF, List.cons_append, List.nil_append]
  unfold killFs
  rw [i1]
  simp only [i2]
theorem ownV_ne {b sz : Nat} {es : List AV} (h : es ≠ []) : ownV b sz es = .slc b 0 es.length (.rest sz) := by cases es <;> first | exact absurd rfl h | rfl
theorem ownF_ne {b : Nat} {es : List AV} (h : es ≠ []) : ownF b es = [(b, .cells (flatAV es))] := by cases es <;> first | exact absurd rfl h | rfl
theorem own_append {P : Program} {H : Heap} {elem : TypeId} {b sz by_ n : Nat} {es cs : List AV} {x z : AV} (hsz : sizeT P elem = some sz) (hby : bytesT P elem = some by_) (hz : zeroOf P elem = some z) (hzl : z.cells.length = sz) (h0 : sz ≠ 0) (hb0 : by_ ≠ 0)
  (hx : srcLen x = some (n + 1)) (hc : srcCells H sz (n + 1) x = some cs) (hcl : cs.length = (n + 1) * sz) (hcs : allSingle cs = true) (he : Elems sz es) (hroom : (es.length + (n + 1)) * by_ ≤ 17592186044416)
  (hb : es ≠ [] → H.get b = some (.cells (flatAV es))) (hd : es = [] → H.drop b = H)
  (hrow : ∀ cs, rowA P elem cs = .cells cs) : appendA P H elem (ownV b sz es) x = some (.slc H.n 0 (es.length + (n + 1)) (.rest sz), (H.drop b).new (.cells (flatAV es ++ cs))) := by
 have c0 : (Nat.beq sz 0 || !(Nat.beq z.cells.length sz && Nat.blt 0 by_)) = false := by
  have h1 : Nat.beq sz 0 = false := beqN_ne h0
  have h2 : Nat.blt 0 by_ = true := by simp; omega
  rw [h1, hzl, Nat.beq_refl, h2]; rfl
 have hr : roomOK (es.length + (n + 1)) by_ = true := by unfold roomOK; rw [Nat.ble_eq]; exact hroom
 have hcb : Nat.beq cs.length ((n + 1) * sz) = true := by rw [hcl]; exact Nat.beq_refl _
 unfold appendA
 simp only [hsz, hby, hz, hx, Option.bind_some, c0]
 cases es with
 | nil =>
  simp only [ownV]
  simp only [List.length_nil, Nat.zero_add] at hr
  simp only [hr, hc, Option.bind_some, hcb, hd rfl, flatAV, List.nil_append, List.length_nil, Nat.zero_add, hrow]
 | cons e r =>
  have hg := hb (by simp)
  have hl : (flatAV (e :: r)).length = (e :: r).length * sz := he.len
  simp only [ownV, hc, Option.bind_some, hr, hcs]
  have h1 : Nat.beq sz sz = true := Nat.beq_refl _
  have hk : knownCells H b = some ((e :: r).length * sz) := by unfold knownCells; simp only [hg, Option.bind_some, rd_cells, hl]
  have h2 : Nat.ble (0 + ((e :: r).length + (n + 1)) * sz) ((e :: r).length * sz) = false := by
   rw [← Bool.not_eq_true, Nat.ble_eq, Nat.add_mul]
   have : 0 < (n + 1) * sz := Nat.mul_pos (by omega) (by omega)
   omega
  have h3 : Nat.beq (0 + (e :: r).length * sz) ((e :: r).length * sz) = true := by rw [Nat.zero_add]; exact Nat.beq_refl _
  have h4 : readCells H b 0 ((e :: r).length * sz) = some (flatAV (e :: r)) := by
   unfold readCells
   simp only [hg, Option.bind_some, rd_cells]
   unfold subL
   rw [List.drop_zero, ← hl, takeL_all]
  simp only [h1, hk, Option.bind_some, h2, h3, hcb, h4, hg, goOn_cells]
theorem own_app1 {P : Program} {elem : TypeId} {b sz by_ t m : Nat} {es cs : List AV} {z : AV} {g : List (Nat × Blk)} {fs : List (List (Nat × Blk))} (hsz : sizeT P elem = some sz) (hby : bytesT P elem = some by_) (hz : zeroOf P elem = some z) (hzl : z.cells.length = sz)
  (h0 : sz ≠ 0) (hb0 : by_ ≠ 0) (hcl : cs.length = sz) (hcs : allSingle cs = true) (he : Elems sz es) (hroom : (es.length + 1) * by_ ≤ 17592186044416) (htb : t ≠ b) (hg : ∀ e, e ∈ g → e.1 ≠ b) (hfs : ∀ e, e ∈ fs.flatten → e.1 ≠ b) (hrow : ∀ cs, rowA P elem cs = .cells cs := by intro cs; rfl) :
  appendA P ⟨m, ((t, .cells cs) :: (ownF b es ++ g)) :: fs⟩ elem (ownV b sz es) (.slc t 0 1 (.ex 1)) = some (.slc m 0 (es.length + 1) (.rest sz), ⟨m + 1, ((m, .cells (flatAV es ++ cs)) :: (t, .cells cs) :: g) :: fs⟩) := by
 have hd := ownF_drop (b := b) (es := es) (f := [(t, .cells cs)]) (g := g) (n := m) (fs := fs) (fun e he => by
  rcases List.mem_append.1 he with he | he
  ·simp at he; subst he; exact htb
  ·exact hg e he) hfs
 simp only [List.cons_append, List.nil_append] at hd
 have hsub : subL 0 sz cs = some cs := by
  have := takeL_all cs
  rw [hcl] at this
  unfold subL; rw [List.drop_zero]; exact this
 have := own_append (P := P) (H := ⟨m, ((t, .cells cs) :: (ownF b es ++ g)) :: fs⟩) (elem := elem) (b := b) (n := 0) (es := es) (x := .slc t 0 1 (.ex 1)) (cs := cs) hsz hby hz hzl h0 hb0 rfl
  (by simp [srcCells, readCells, Heap.get, getFs, getF, hsub]) (by simpa using hcl) hcs he (by simpa using hroom)
  (fun hne => by rw [ownF_ne hne]; simp [Heap.get, getFs, getF, beqN_ne htb]) (fun hes => by subst hes; simpa [ownF] using hd) hrow
 rw [hd] at this
 simpa [Heap.new, pushF] using this
theorem CallAt.new {C : Ctx} {f : FuncId} {args : List AV} {len : Nat} {cap : Cap} {cs : List AV} (h : CallAt C f args ⟨0, []⟩ (.slc 0 0 len cap) ⟨1, [[(0, .cells cs)]]⟩) (hp : pureL args = true) (hc : pureL cs = true) (H : Heap) :
  CallAt C f args H (.slc H.n 0 len cap) (H.new (.cells cs)) := by
 intro ρ w xs sm hx
 have up : ∀ {x : Value} {ρ' : Place} {w' : World}, VR ρ' (.slc 0 0 len cap) x → Sim ρ' ⟨1, [[(0, .cells cs)]]⟩ w' → Step ρ.bare ⟨0, []⟩ w ρ' ⟨1, [[(0, .cells cs)]]⟩ w' →
   ∃ ρ'', VR ρ'' (.slc H.n 0 len cap) x ∧ Sim ρ'' (H.new (.cells cs)) w' ∧ Step ρ H w ρ'' (H.new (.cells cs)) w' := by
  intro x ρ' w' h1 h2 h3
  obtain ⟨l, l1, l2, l3, l4⟩ := h2.live (0, .cells cs) (by simp [Heap.ents])
  simp only at l1
  have hrow : w.heap.size ≤ l.cb := by
   rcases h3.rows (0, .cells cs) (by simp [Heap.ents]) l l1 with ⟨e, he, _⟩ | h
   ·cases he
   ·exact h
  have hkeep : ∀ k, k < w.heap.size → w'.heap[k]? = w.heap[k]? := fun k hk => h3.keeps k hk fun e he => by cases he
  have hle : ρ.le { ρ' with at_ := fun b => if b = H.n then some l else ρ b } := ⟨fun b m hb => by
   show (if b = H.n then some l else ρ b) = some m
   rw [if_neg (fun e => by subst e; rw [sm.dom _ (Nat.le_refl _)] at hb; cases hb)]; exact hb, h3.le.fz, h3.le.os, h3.le.tape, h3.le.output⟩
  have hat : (({ ρ' with at_ := fun b => if b = H.n then some l else ρ b } : Place)) H.n = some l := if_pos rfl
  have hother : ∀ b, b ≠ H.n → (({ ρ' with at_ := fun b => if b = H.n then some l else ρ b } : Place)) b = ρ b := fun b hb => if_neg hb
  have hid : ∀ e, e ∈ H.ents → e.1 ≠ H.n := fun e he => by have := sm.id_lt he; omega
  refine ⟨{ ρ' with at_ := fun b => if b = H.n then some l else ρ b }, ?_, ⟨h2.base, h2.below, h2.os, h2.tape, h2.output, fun b hb => ?_, ?_, fun e he => ?_, fun e e' he he' m m' hm hm' hcb => ?_⟩,
   ⟨hle, h3.size, fun k hk _ => hkeep k hk, fun e he m hm => ?_, Nat.le_succ _, fun b hb => hother b (by omega), fun k hk => ?_⟩⟩
  ·cases h1 with
   | slcE b o len' c l' hl' hcap => rw [l1] at hl'; cases hl'; exact .slcE _ _ _ c l hat hcap
   | slcR b o len' sz c l' hl' hcap hfin => rw [l1] at hl'; cases hl'; exact .slcR _ _ _ _ c l hat hcap hfin
  ·have hb' : H.n + 1 ≤ b := hb
   rw [hother b (by omega)]; exact sm.dom b (by omega)
  ·rw [Heap.new_ents, List.map_cons, List.nodup_cons]
   exact ⟨fun hm => by obtain ⟨e, he, hx⟩ := List.mem_map.1 hm; exact hid e he hx, sm.nodup⟩
  ·rw [Heap.new_ents] at he
   rcases List.mem_cons.1 he with rfl | he
   ·refine ⟨l, hat, l2, l3, l4.1, l4.2.1, fun i hi => ?_⟩
    obtain ⟨y, hy, hv⟩ := l4.2.2 i hi
    have hbl : ρ'.bare.le { ρ' with at_ := fun b => if b = H.n then some l else ρ b } := ⟨fun _ _ h => (by simp [Place.bare] at h), fun _ hk => ⟨hk, rfl⟩, rfl, rfl, rfl⟩
    exact ⟨y, hy, (hv.pure (pureL_get hc i hi)).mono hbl⟩
   ·obtain ⟨m, g1, g2, g3, g4⟩ := sm.live e he
    refine ⟨m, by rw [hother _ (hid e he)]; exact g1, fun hB => ?_, Nat.lt_of_lt_of_le g3 h3.size, (g4.same (hkeep _ g3)).mono hle⟩
    rcases h3.cold _ hB with h | ⟨e, he, _⟩ | h
    ·exact g2 h
    ·cases he
    ·omega
  ·rw [Heap.new_ents] at he he'
   rcases List.mem_cons.1 he with rfl | he <;> rcases List.mem_cons.1 he' with rfl | he'
   ·rfl
   ·rw [hat] at hm; cases hm
    rw [hother _ (hid e' he')] at hm'
    obtain ⟨q, g1, _, g3, _⟩ := sm.live e' he'
    rw [hm'] at g1; cases g1
    omega
   ·rw [hat] at hm'; cases hm'
    rw [hother _ (hid e he)] at hm
    obtain ⟨q, g1, _, g3, _⟩ := sm.live e he
    rw [hm] at g1; cases g1
    omega
   ·rw [hother _ (hid e he)] at hm
    rw [hother _ (hid e' he')] at hm'
    exact sm.inj e e' he he' m m' hm hm' hcb
  ·rw [Heap.new_ents] at he
   rcases List.mem_cons.1 he with rfl | he
   ·rw [hat] at hm; cases hm; exact .inr hrow
   ·rw [hother _ (hid e he)] at hm; exact .inl ⟨e, he, m, hm, rfl⟩
  ·rcases h3.cold _ hk with h | ⟨e, he, _⟩ | h
   ·exact .inl h
   ·cases he
   ·exact .inr (.inr h)
 rcases h ρ.bare w xs sm.bare (hx.pure hp) with ⟨x, ρ', w', h0, h1, h2, h3⟩ | ⟨g, ys, h0, h1⟩
 ·obtain ⟨ρ'', k1, k2, k3⟩ := up h1 h2 h3
  exact .inl ⟨x, ρ'', w', h0, k1, k2, k3⟩
 ·refine .inr ⟨g, ys, h0, h1.mono ?_⟩
  rintro e w' ⟨x, ρ', rfl, m1, m2, m3⟩
  obtain ⟨ρ'', k1, k2, k3⟩ := up m1 m2 m3
  exact ⟨x, ρ'', rfl, k1, k2, k3⟩
theorem CallAt.own {C : Ctx} {f : FuncId} {args : List AV} {sz : Nat} {es : List AV} (he : Elems sz es) (h : CallAt C f args ⟨0, []⟩ (ownV 0 sz es) ⟨1, [ownF 0 es]⟩) (hp : pureL args = true) (H : Heap) :
  CallAt C f args H (ownV H.n sz es) (ownH H es) := by
 cases es with
 | nil =>
  have h' : CallAt C f args ⟨0, []⟩ .zslc ⟨0, []⟩ := by
   intro ρ w xs sm hx
   have dn : ∀ {x : Value} {ρ' : Place} {w' : World}, VR ρ' .zslc x → Sim ρ' ⟨1, [[]]⟩ w' → Step ρ ⟨0, []⟩ w ρ' ⟨1, [[]]⟩ w' → ∃ ρ'', VR ρ'' .zslc x ∧ Sim ρ'' ⟨0, []⟩ w' ∧ Step ρ ⟨0, []⟩ w ρ'' ⟨0, []⟩ w' := fun {x ρ' w'} h1 h2 h3 => by
    have hd : ∀ b, ρ b = none := fun b => sm.dom b (Nat.zero_le _)
    refine ⟨ρ'.bare, h1.pure rfl, h2.bare, ⟨⟨fun b l hb => (by rw [hd b] at hb; cases hb), h3.le.fz, h3.le.os, h3.le.tape, h3.le.output⟩, h3.size, h3.keeps, fun e he => (by cases he), Nat.le_refl _, fun b hb => absurd hb (Nat.not_lt_zero b), h3.cold⟩⟩
   rcases h ρ w xs sm hx with ⟨x, ρ', w', h0, h1, h2, h3⟩ | ⟨g, ys, h0, h1⟩
   ·obtain ⟨ρ'', k1, k2, k3⟩ := dn h1 h2 h3
    exact .inl ⟨x, ρ'', w', h0, k1, k2, k3⟩
   ·refine .inr ⟨g, ys, h0, h1.mono ?_⟩
    rintro e w' ⟨x, ρ', rfl, m1, m2, m3⟩
    obtain ⟨ρ'', k1, k2, k3⟩ := dn m1 m2 m3
    exact ⟨x, ρ'', rfl, k1, k2, k3⟩
  exact h'.lift hp H
 | cons e r => exact CallAt.new h hp he.pure H
theorem FitH.keep1 {H : Heap} {b : Nat} {cs : List AV} (h : H.get b = some (.cells cs)) (hp : pureL cs = true) {fs : List (List (Nat × Blk))} (hfs : fs.flatten = [(0, .cells cs)]) : FitH 0 [(b, 0)] [] H ⟨1, fs⟩ where
 nd1 := by simp
 nd2 := by simp
 nd3 := by simp [Heap.ents, hfs]
 lt := fun x hx => by simp at hx; subst hx; exact Nat.zero_lt_one
 idn := fun x hx h => absurd h (Nat.not_lt_zero _)
 num := Nat.zero_le _
 src := fun e he => by
  have he' : e ∈ fs.flatten := he
  rw [hfs] at he'
  simp at he'
  subst he'
  exact ⟨b, .cells cs, by simp, h, fitL_pure hp⟩
 frz := fun x hx => by cases hx
theorem FitH.keep0 {H : Heap} {m : Nat} {fs : List (List (Nat × Blk))} (hfs : fs.flatten = []) : FitH 0 [] [] H ⟨m, fs⟩ where
 nd1 := List.nodup_nil
 nd2 := List.nodup_nil
 nd3 := by simp [Heap.ents, hfs]
 lt := fun x h => by cases h
 idn := fun x h => by cases h
 num := Nat.zero_le _
 src := fun e he => by
  have he' : e ∈ fs.flatten := he
  rw [hfs] at he'; cases he'
 frz := fun x h => by cases h
theorem FitH.same {n : Nat} {σ : List (Nat × Nat)} {H H' : Heap} (hσ : ∀ x, x ∈ σ → x.1 = x.2) (nd : (σ.map (·.1)).Nodup) (lt : ∀ x, x ∈ σ → x.2 < H'.n) (num : n ≤ H'.n) (nd3 : (H'.ents.map (·.1)).Nodup)
  (src : ∀ e, e ∈ H'.ents → (e.1, e.1) ∈ σ ∧ H.get e.1 = some e.2 ∧ fitB σ [] e.2 e.2) : FitH n σ [] H H' where
 nd1 := by simpa using nd
 nd2 := by
  have : σ.map (·.2) = σ.map (·.1) := List.map_congr_left fun x hx => (hσ x hx).symm
  rw [this]; exact nd
 nd3 := nd3
 lt := lt
 idn := fun x hx _ => hσ x hx
 num := num
 src := fun e he => ⟨e.1, e.2, (src e he).1, (src e he).2.1, (src e he).2.2⟩
 frz := fun x h => by cases h
theorem FitH.canonS {sz b : Nat} {es : List AV} {g g0 : List (Nat × Blk)} (he : Elems sz es) (hs : g.Sublist g0) (h0 : ∀ e, e ∈ g0 → e.1 < b) (hg : ∀ e, e ∈ g → fitB ((b, b) :: g.map fun e => (e.1, e.1)) [] e.2 e.2) (hn0 : (g0.map (·.1)).Nodup) :
  FitH 0 ((b, b) :: g.map fun e => (e.1, e.1)) [] (ownH ⟨b, [g0]⟩ es) ⟨b + 1, [ownF b es ++ g]⟩ := by
 have hn : (g.map (·.1)).Nodup := (hs.map _).nodup hn0
 have hb0 : b ∉ g0.map (·.1) := fun h => by obtain ⟨e, he, hx⟩ := List.mem_map.1 h; have := h0 e he; omega
 have hb : b ∉ g.map (·.1) := fun h => hb0 ((hs.map _).subset h)
 have hm : (g.map fun e => (e.1, e.1)).map (·.1) = g.map (·.1) := by simp
 refine .same (fun x hx => ?_) ?_ (fun x hx => ?_) (Nat.zero_le _) ?_ fun e hx => ?_
 ·rcases List.mem_cons.1 hx with rfl | hx
  ·rfl
  ·obtain ⟨e, _, rfl⟩ := List.mem_map.1 hx; rfl
 ·rw [List.map_cons, hm]; exact List.nodup_cons.2 ⟨hb, hn⟩
 ·rcases List.mem_cons.1 hx with rfl | hx
  ·exact Nat.lt_succ_self _
  ·obtain ⟨e, hm, rfl⟩ := List.mem_map.1 hx
   have := h0 e (hs.subset hm)
   show e.1 < b + 1
   omega
 ·cases es with
  | nil => simpa [Heap.ents, ownF] using hn
  | cons x r =>
   simp only [Heap.ents, ownF, List.flatten_cons, List.flatten_nil, List.append_nil, List.cons_append, List.nil_append, List.map_cons]
   exact List.nodup_cons.2 ⟨hb, hn⟩
 ·have old : e ∈ g → (e.1, e.1) ∈ (b, b) :: (g.map fun e => (e.1, e.1)) ∧ (ownH ⟨b, [g0]⟩ es).get e.1 = some e.2 ∧ fitB ((b, b) :: g.map fun e => (e.1, e.1)) [] e.2 e.2 := fun h => by
   refine ⟨List.mem_cons_of_mem _ (List.mem_map.2 ⟨e, h, rfl⟩), ?_, hg e h⟩
   cases es with
   | nil => exact get_of_mem (fs := [g0]) (by simpa using hn0) (by simpa using hs.subset h)
   | cons x r => exact get_of_mem (fs := [(b, .cells (flatAV (x :: r))) :: g0]) (by simpa using ⟨fun y hy => hb0 (List.mem_map.2 ⟨_, hy, rfl⟩), hn0⟩) (by simp [hs.subset h])
  have hx' : e ∈ ownF b es ++ g := by simpa [Heap.ents] using hx
  cases es with
  | nil => exact old hx'
  | cons x r =>
   rcases List.mem_cons.1 hx' with rfl | h
   ·refine ⟨List.mem_cons_self, ?_, fitL_pure he.pure⟩
    simp [ownH, Heap.new, pushF, Heap.get, getFs, getF]
   ·exact old h
theorem FitH.canon {sz b : Nat} {es : List AV} {g : List (Nat × Blk)} (he : Elems sz es) (hg : ∀ e, e ∈ g → e.1 < b ∧ fitB ((b, b) :: g.map fun e => (e.1, e.1)) [] e.2 e.2) (hn : (g.map (·.1)).Nodup) :
  FitH 0 ((b, b) :: g.map fun e => (e.1, e.1)) [] (ownH ⟨b, [g]⟩ es) ⟨b + 1, [ownF b es ++ g]⟩ :=
 .canonS he (List.Sublist.refl _) (fun e h => (hg e h).1) (fun e h => (hg e h).2) hn
def litV (b m sz : Nat) (es : List AV) : AV := match es with
 | [] => .slc b 0 0 (.ex 0)
 | _ :: _ => .slc m 0 es.length (.rest sz)
theorem fitV_own {σ : List (Nat × Nat)} {Φ : List (Nat × List AV)} {b b' sz : Nat} {es : List AV} (h : lookN b σ = some b') : fitV σ Φ (ownV b sz es) (ownV b' sz es) := by
 cases es <;> simp [ownV, fitV, h]
theorem ends_own {H : Heap} {b sz len : Nat} {es : List AV} (he : Elems sz es) (hne : es ≠ []) (hl : es.length = len) (hb : H.get b = some (.cells (flatAV es))) : ∃ σ Φ, fitV σ Φ (.slc b 0 len (.rest sz)) (ownV 0 sz es) ∧ FitH 0 σ Φ H ⟨1, [ownF 0 es]⟩ := by
 subst hl
 refine ⟨[(b, 0)], [], ?_, .keep1 hb he.pure (by simp [ownF_ne hne])⟩
 rw [ownV_ne hne]
 simp [fitV, lookN]
theorem ends_none {H : Heap} {u : AV} {sz : Nat} (h : u = .nilS ∨ u = .zslc ∨ ∃ b, u = .slc b 0 0 (.ex 0)) : ∃ σ Φ, fitV σ Φ u (ownV 0 sz []) ∧ FitH 0 σ Φ H ⟨1, [ownF 0 []]⟩ := by
 refine ⟨[], [], ?_, .keep0 (by simp [ownF])⟩
 rcases h with rfl | rfl | ⟨b, rfl⟩ <;> simp [ownV, fitV]
open Classical in
noncomputable def ownG {α : Type} (ss : List (List Nat)) (enc : α → List AV) (pre : α → Prop) (sz : Nat) (els : α → List AV) : List AV → Heap → Option (AV × Heap) := fun args H =>
 if h : pureL args = true ∧ ∃ x, thawL ⟨0, []⟩ ss args = some (enc x) ∧ pre x then some (ownV H.n sz (els h.2.choose), ownH H (els h.2.choose)) else none
noncomputable def mkOwn {P : Program} {α : Type} (f : FuncId) (ss : List (List Nat)) (enc : α → List AV) (pre : α → Prop) (sz : Nat) (els : α → List AV) (he : ∀ x, Elems sz (els x))
  (h : ∀ x, pre x → CallAt ⟨P, fun _ => [], fun _ => none⟩ f (enc x) ⟨0, []⟩ (ownV 0 sz (els x)) ⟨1, [ownF 0 (els x)]⟩) : Entry P :=
 ⟨f, ownG ss enc pre sz els, fun args H v H' hv => by
  unfold ownG at hv
  split at hv
  ·rename_i hx
   obtain ⟨hp, hx2⟩ := hx
   simp only [Option.some.injEq, Prod.mk.injEq] at hv
   obtain ⟨rfl, rfl⟩ := hv
   have hs := hx2.choose_spec
   have hf := thawL_fit (H := ⟨0, []⟩) List.nodup_nil hs.1
   exact ((h _ hs.2).norm hf).own (he _) hp H
  ·cases hv⟩
theorem mkOwn_eq {P : Program} {keep : FuncId → List Nat} {T : List (Entry P)} {α : Type} {f : FuncId} {ss : List (List Nat)} {enc : α → List AV} {pre : α → Prop} {sz : Nat} {els : α → List AV} {he : ∀ x, Elems sz (els x)}
  {h : ∀ x, pre x → CallAt ⟨P, fun _ => [], fun _ => none⟩ f (enc x) ⟨0, []⟩ (ownV 0 sz (els x)) ⟨1, [ownF 0 (els x)]⟩} (hT : findE f T = some (mkOwn f ss enc pre sz els he h).g) (inj : ∀ x y, enc x = enc y → x = y) (x : α) (hx : pre x)
  {args : List AV} (hp : pureL args = true) (ht : thawL ⟨0, []⟩ ss args = some (enc x)) (H : Heap) : callL (mkC P keep T) (.fn f) args H = some (ownV H.n sz (els x), ownH H (els x)) := by
 rw [callL_summ (g := (mkOwn f ss enc pre sz els he h).g) hT]
 show ownG ss enc pre sz els args H = _
 unfold ownG
 have hex : pureL args = true ∧ ∃ y, thawL ⟨0, []⟩ ss args = some (enc y) ∧ pre y := ⟨hp, x, ht, hx⟩
 rw [dif_pos hex]
 have e : enc x = enc hex.2.choose := Option.some.inj (ht.symm.trans hex.2.choose_spec.1)
 rw [← inj _ _ e]
theorem src_fslc {H : Heap} {sz n : Nat} {es : List AV} (h : es.length = n) : srcLen (.fslc sz es) = some n ∧ srcCells H sz n (.fslc sz es) = some (flatAV es) := by
 subst h
 refine ⟨rfl, ?_⟩
 simp only [srcCells, Nat.beq_refl, List.take_length]
theorem app_lit {P : Program} {H : Heap} {elem : TypeId} {b sz by_ n : Nat} {cs : List AV} {x z : AV} (hsz : sizeT P elem = some sz) (hby : bytesT P elem = some by_) (hz : zeroOf P elem = some z) (hzl : z.cells.length = sz) (h0 : sz ≠ 0) (hb0 : by_ ≠ 0)
  (hx : srcLen x = some (n + 1)) (hc : srcCells H sz (n + 1) x = some cs) (hcl : cs.length = (n + 1) * sz) (hcs : allSingle cs = true) (hroom : (n + 1) * by_ ≤ 17592186044416) (hb : H.get b = some (.cells [])) (hrow : ∀ cs, rowA P elem cs = .cells cs) :
  appendA P H elem (.slc b 0 0 (.ex 0)) x = some (.slc H.n 0 (n + 1) (.rest sz), H.new (.cells cs)) := by
 have c0 : (Nat.beq sz 0 || !(Nat.beq z.cells.length sz && Nat.blt 0 by_)) = false := by
  have h1 : Nat.beq sz 0 = false := beqN_ne h0
  have h2 : Nat.blt 0 by_ = true := by simp; omega
  rw [h1, hzl, Nat.beq_refl, h2]; rfl
 have hr : roomOK (0 + (n + 1)) by_ = true := by unfold roomOK; rw [Nat.ble_eq, Nat.zero_add]; exact hroom
 have hcb : Nat.beq cs.length ((n + 1) * sz) = true := by rw [hcl]; exact Nat.beq_refl _
 have h2 : Nat.ble (0 + (n + 1)) 0 = false := by rw [← Bool.not_eq_true, Nat.ble_eq]; omega
 unfold appendA
 simp only [hsz, hby, hz, hx, Option.bind_some, c0, hc, hr, hcs, h2, hcb, hrow]
 simp [readCells, hb, subL, takeL]
theorem app_lits {P : Program} {elem : TypeId} {b m sz by_ : Nat} {es : List AV} {z : AV} {g : List (Nat × Blk)} {fs : List (List (Nat × Blk))} (hsz : sizeT P elem = some sz) (hby : bytesT P elem = some by_) (hz : zeroOf P elem = some z) (hzl : z.cells.length = sz) (h0 : sz ≠ 0) (hb0 : by_ ≠ 0)
  (he : Elems sz es) (hcs : allSingle (flatAV es) = true) (hroom : es.length * by_ ≤ 17592186044416) (hrow : ∀ cs, rowA P elem cs = .cells cs := by intro cs; rfl) :
  appendA P ⟨m, ((b, .cells []) :: g) :: fs⟩ elem (.slc b 0 0 (.ex 0)) (.fslc sz es) = some (litV b m sz es, ownH ⟨m, ((b, .cells []) :: g) :: fs⟩ es) := by
 cases es with
 | nil =>
  have c0 : (Nat.beq sz 0 || !(Nat.beq z.cells.length sz && Nat.blt 0 by_)) = false := by
   have h1 : Nat.beq sz 0 = false := beqN_ne h0
   have h2 : Nat.blt 0 by_ = true := by simp; omega
   rw [h1, hzl, Nat.beq_refl, h2]; rfl
  unfold appendA
  simp only [hsz, hby, hz, Option.bind_some, srcLen, List.length_nil, c0, srcCells, Nat.beq_refl, List.take_nil, flatAV]
  simp [roomOK, allSingle, writeCells, Heap.get, getFs, getF, layL, overL, Heap.ready, Heap.set, setFs, setF, litV, ownH]
 | cons e r =>
  have := app_lit (P := P) (H := ⟨m, ((b, .cells []) :: g) :: fs⟩) (elem := elem) (b := b) (n := r.length) (x := .fslc sz (e :: r)) (cs := flatAV (e :: r)) hsz hby hz hzl h0 hb0 (src_fslc (H := ⟨0, []⟩) (es := e :: r) (n := r.length + 1) (by simp)).1 (src_fslc (es := e :: r) (n := r.length + 1) (by simp)).2 he.len hcs hroom (by simp [Heap.get, getFs, getF]) hrow
  rw [this]; rfl
theorem FitH.grown {H : Heap} {b sz : Nat} {es : List AV} (he : Elems sz es) (hne : es ≠ []) (h : H.get b = some (.cells (flatAV es))) : FitH 0 [(b, 0)] [] H ⟨1, [ownF 0 es]⟩ := .keep1 h he.pure (by simp [ownF_ne hne])
section
variable {P : Program} {H : Heap} {t elem : TypeId} {b sz len i : Nat} {cs : List AV}
theorem slice_from (hu : P.underlying t = some (.slice elem)) (hs : sizeT P elem = some sz) (h0 : sz ≠ 0) (hb : H.get b = some (.cells cs)) (hc : cs.length = len * sz) (hi : i < len) :
  sliceA P H t (.slc b 0 len (.rest sz)) (some (.int .i64 (i : Int))) none none = some (.slc b (i * sz) (len - i) (.rest sz)) := by
 have hk : knownCells H b = some (len * sz) := by unfold knownCells; simp only [hb, Option.bind_some, rd_cells, hc]
 have h1 : Nat.ble (len * sz) (i * sz) = false := by
  rw [← Bool.not_eq_true, Nat.ble_eq]
  have := Nat.mul_lt_mul_of_pos_right hi (show 0 < sz by omega)
  omega
 unfold sliceA
 simp only [hiOK, hu, Option.bind_some, hs, sliceBlk, hk, Nat.beq_refl, bound, Nat.sub_zero]
 have h2 : idx (i : Int) (Nat.succ len) = some i := idx_nat (by omega)
 simp only [h2, Option.bind_some, h1, Nat.zero_add]
theorem slice_to (hu : P.underlying t = some (.slice elem)) (hs : sizeT P elem = some sz) (h0 : sz ≠ 0) (hb : H.get b = some (.cells cs)) (hc : cs.length = len * sz) (hi : i ≤ len) (hl : 0 < len) :
  sliceA P H t (.slc b 0 len (.rest sz)) none (some (.int .i64 (i : Int))) none = some (.slc b 0 i (.rest sz)) := by
 have hk : knownCells H b = some (len * sz) := by unfold knownCells; simp only [hb, Option.bind_some, rd_cells, hc]
 have h1 : Nat.ble (len * sz) (0 * sz) = false := by
  rw [← Bool.not_eq_true, Nat.ble_eq]
  have := Nat.mul_pos hl (show 0 < sz by omega)
  omega
 have hd : len * sz / sz = len := Nat.mul_div_cancel _ (by omega)
 unfold sliceA
 simp only [hiOK, hu, Option.bind_some, hs, sliceBlk, hk, Nat.beq_refl, bound, Nat.sub_zero, hd]
 have h2 : idx (i : Int) (Nat.succ len) = some i := idx_nat (by omega)
 rw [Nat.zero_mul] at h1
 simp only [h2, Option.bind_some, Nat.zero_mul, h1, Nat.zero_add, Nat.sub_zero]
end
theorem CallAt.freeze {C : Ctx} {f : FuncId} {args : List AV} {v v' : AV} {H1 : Heap} {Φ : List (Nat × List AV)} (h : CallAt C f args ⟨0, []⟩ v H1) (fv : fitV [] Φ v v') (fh : FitH 0 [] Φ H1 ⟨0, []⟩) : CallAt C f args ⟨0, []⟩ v' ⟨0, []⟩ := by
 intro ρ w xs sm hx
 have dn : ∀ {x : Value} {ρ' : Place} {w' : World}, VR ρ' v x → Sim ρ' H1 w' → Step ρ ⟨0, []⟩ w ρ' H1 w' → ∃ ρ'', VR ρ'' v' x ∧ Sim ρ'' ⟨0, []⟩ w' ∧ Step ρ ⟨0, []⟩ w ρ'' ⟨0, []⟩ w' := fun {x ρ' w'} h1 h2 h3 => by
  have hd : ∀ b, ρ b = none := fun b => sm.dom b (Nat.zero_le _)
  refine ⟨newPlace 0 [] Φ ρ' w' h2.below, Fits.run (fh.fits h2) h2 _ (Nat.le_refl _) h1 fv, fh.sim h2 (Nat.zero_le _), ⟨⟨fun b l hb => (by rw [hd b] at hb; cases hb), fun k hk => ?_, ?_, ?_, ?_⟩, h3.size, h3.keeps, fun e he => (by cases he), Nat.le_refl _, fun b hb => absurd hb (Nat.not_lt_zero b), fun k hk => ?_⟩⟩
  ·obtain ⟨g1, g2⟩ := h3.le.fz k hk
   exact ⟨.inl g1, (h2.below k g1).trans g2⟩
  ·exact h2.os.trans h3.le.os
  ·exact h2.tape.trans h3.le.tape
  ·exact h2.output.trans h3.le.output
  ·rcases hk with hk | ⟨b, cs, l, m1, m2, rfl⟩
   ·exact h3.cold k hk
   ·obtain ⟨cs0, g1, _⟩ := fh.frz _ m1
    rcases h3.rows _ (Heap.get_mem g1) l m2 with ⟨e, he, _⟩ | h
    ·cases he
    ·exact .inr (.inr h)
 rcases h ρ w xs sm hx with ⟨x, ρ', w', h0, h1, h2, h3⟩ | ⟨g, ys, h0, h1⟩
 ·obtain ⟨ρ'', k1, k2, k3⟩ := dn h1 h2 h3
  exact .inl ⟨x, ρ'', w', h0, k1, k2, k3⟩
 ·refine .inr ⟨g, ys, h0, h1.mono ?_⟩
  rintro e w' ⟨x, ρ', rfl, m1, m2, m3⟩
  obtain ⟨ρ'', k1, k2, k3⟩ := dn m1 m2 m3
  exact ⟨x, ρ'', rfl, k1, k2, k3⟩
theorem CallAt.froze {C : Ctx} {f : FuncId} {args : List AV} {sz : Nat} {es : List AV} (he : Elems sz es) (h : CallAt C f args ⟨0, []⟩ (ownV 0 sz es) ⟨1, [ownF 0 es]⟩) : CallAt C f args ⟨0, []⟩ (.fslc sz es) ⟨0, []⟩ := by
 cases es with
 | nil => exact h.freeze (Φ := []) (by simp [ownV, fitV]) FitH.empty
 | cons e r =>
  refine h.freeze (Φ := [(0, flatAV (e :: r))]) ?_ (.froze (by simp) fun x hx => ?_)
  ·simp only [ownV, fitV]
   refine .inl ⟨flatAV (e :: r), by simp [lookC], ?_, trivial, he.size⟩
   unfold subL
   rw [List.drop_zero, ← he.len, takeL_all]
  ·simp at hx
   subst hx
   exact ⟨flatAV (e :: r), by simp [ownF, Heap.get, getFs, getF], fitL_pure he.pure, he.pure⟩
theorem ends_front {H : Heap} {b sz len : Nat} {cap : Cap} {es fr : List AV} (he : Elems sz es) (hb : H.get b = some (.cells (flatAV es))) (hl : len ≤ es.length) (hf : fr = es.take len) : ∃ σ Φ, fitV σ Φ (.slc b 0 len cap) (.fslc sz fr) ∧ FitH 0 σ Φ H ⟨0, []⟩ := by
 subst hf
 refine ⟨[], [(b, flatAV es)], ?_, .froze (by simp) fun x hx => ?_⟩
 ·simp only [fitV]
  exact .inl ⟨flatAV es, by simp [lookC], sub_pre he hl, by simp; omega, (he.take len).size⟩
 ·simp only [List.mem_singleton] at hx
  subst hx
  exact ⟨flatAV es, hb, fitL_pure he.pure, he.pure⟩
section
variable {κ ν : Type} [DecidableEq κ]
def getM (a : κ) : List (κ × ν) → Option ν
 | [] => none
 | p :: r => if p.1 = a then some p.2 else getM a r
def setM (a : κ) (v : ν) : List (κ × ν) → List (κ × ν)
 | [] => [(a, v)]
 | p :: r => if p.1 = a then (a, v) :: r else p :: setM a v r
def delM (a : κ) : List (κ × ν) → List (κ × ν)
 | [] => []
 | p :: r => if p.1 = a then r else p :: delM a r
def idxM (a : κ) : List (κ × ν) → Option Nat
 | [] => none
 | p :: r => if p.1 = a then some 0 else (idxM a r).map (· + 1)
structure MapT (P : Program) (t : TypeId) (ek : κ → AV) (ev : ν → AV) where
 tk : TypeId
 te : TypeId
 kd : TypeDesc
 hu : P.underlying t = some (.map tk te)
 hk : P.underlying tk = some kd
 eq : ∀ a b, keyEq P tk kd (ek a) (ek b) = some (decide (a = b))
 pure : ∀ a v, [ek a, ev v].flatMap (refs 6) = []
def entsM (ek : κ → AV) (ev : ν → AV) (M : List (κ × ν)) : List (AV × AV) := M.map fun p => (ek p.1, ev p.2)
variable {P : Program} {t : TypeId} {ek : κ → AV} {ev : ν → AV}
theorem MapT.pos (m : MapT P t ek ev) (a : κ) : ∀ (M : List (κ × ν)) (i : Nat), posA P m.tk m.kd (ek a) i (entsM ek ev M) = some ((idxM a M).map (i + ·))
 | [], i => rfl
 | p :: r, i => by
  simp only [entsM, List.map_cons, posA, m.eq, Option.bind_some, idxM]
  by_cases h : p.1 = a
  ·have h' : a = p.1 := h.symm
   simp [h]
  ·have h' : ¬ a = p.1 := fun e => h e.symm
   simp only [h', decide_false, h, if_false]
   have := MapT.pos m a r (i + 1)
   rw [entsM] at this
   rw [this]
   cases idxM a r with
   | none => rfl
   | some j => simp; omega
theorem MapT.ok (m : MapT P t ek ev) (a : κ) : keyOK P m.tk m.kd (ek a) = some () := by simp [keyOK, m.eq]
theorem idxM_get {a : κ} : ∀ {M : List (κ × ν)} {i : Nat}, idxM a M = some i → ∃ h : i < M.length, M[i].1 = a ∧ getM a M = some M[i].2
 | [], _, h => by cases h
 | p :: r, i, h => by
  unfold idxM at h
  unfold getM
  split at h
  ·rename_i hp
   simp only [Option.some.injEq] at h
   subst h
   exact ⟨by simp, hp, by simp [hp]⟩
  ·rename_i hp
   cases hj : idxM a r with
   | none => simp [hj] at h
   | some j =>
    simp only [hj, Option.map_some, Option.some.injEq] at h
    subst h
    obtain ⟨h1, h2, h3⟩ := idxM_get hj
    exact ⟨by simpa using h1, by simpa using h2, by simp [hp, h3]⟩
theorem idxM_none {a : κ} : ∀ {M : List (κ × ν)}, idxM a M = none → getM a M = none
 | [], _ => rfl
 | p :: r, h => by
  unfold idxM at h
  unfold getM
  split at h
  ·cases h
  ·rename_i hp
   cases hj : idxM a r with
   | none => simp [hp, idxM_none hj]
   | some j => simp [hj] at h
theorem MapT.find (m : MapT P t ek ev) (a : κ) (M : List (κ × ν)) : findA P m.tk m.kd (ek a) (entsM ek ev M) = some ((getM a M).map ev) := by
 unfold findA
 rw [m.pos]
 simp only [Option.bind_some]
 cases h : idxM a M with
 | none => simp [idxM_none h]
 | some i =>
  obtain ⟨h1, h2, h3⟩ := idxM_get h
  simp only [Option.map_some, Nat.zero_add, h3]
  have hl : i < (entsM ek ev M).length := by simpa [entsM] using h1
  rw [getL_get hl]
  simp [entsM]
theorem setM_idx {a : κ} {v : ν} : ∀ {M : List (κ × ν)} {i : Nat}, idxM a M = some i → setL (ek a, ev v) (entsM ek ev M) i = some (entsM ek ev (setM a v M))
 | [], _, h => by cases h
 | p :: r, i, h => by
  unfold idxM at h
  unfold setM
  split at h
  ·rename_i hp
   simp only [Option.some.injEq] at h
   subst h
   simp [hp, entsM, setL]
  ·rename_i hp
   cases hj : idxM a r with
   | none => simp [hj] at h
   | some j =>
    simp only [hj, Option.map_some, Option.some.injEq] at h
    subst h
    have := setM_idx (v := v) hj
    rw [entsM] at this
    simp [hp, entsM, setL, this]
theorem setM_new {a : κ} {v : ν} : ∀ {M : List (κ × ν)}, idxM a M = none → setM a v M = M ++ [(a, v)]
 | [], _ => rfl
 | p :: r, h => by
  unfold idxM at h
  unfold setM
  split at h
  ·cases h
  ·rename_i hp
   cases hj : idxM a r with
   | none => simp [hp, setM_new hj]
   | some j => simp [hj] at h
theorem MapT.upd (m : MapT P t ek ev) (a : κ) (v : ν) (M : List (κ × ν)) : updA P m.tk m.kd (ek a) (ev v) (entsM ek ev M) = some (entsM ek ev (setM a v M)) := by
 unfold updA
 rw [m.pos]
 simp only [Option.bind_some]
 cases h : idxM a M with
 | none => simp [setM_new h, entsM]
 | some i =>
  obtain ⟨h1, h2, _⟩ := idxM_get h
  simp only [Option.map_some, Nat.zero_add]
  have hl : i < (entsM ek ev M).length := by simpa [entsM] using h1
  rw [getL_get hl]
  have he : (entsM ek ev M)[i].1 = ek a := by simp [entsM, h2]
  simp only [Option.bind_some, he, decide_true]
  exact setM_idx h
theorem delM_idx {a : κ} : ∀ {M : List (κ × ν)} {i : Nat}, idxM a M = some i → (entsM ek ev M).eraseIdx i = entsM ek ev (delM a M)
 | [], _, h => by cases h
 | p :: r, i, h => by
  unfold idxM at h
  unfold delM
  split at h
  ·rename_i hp
   simp only [Option.some.injEq] at h
   subst h
   simp [hp, entsM]
  ·rename_i hp
   cases hj : idxM a r with
   | none => simp [hj] at h
   | some j =>
    simp only [hj, Option.map_some, Option.some.injEq] at h
    subst h
    have := delM_idx hj
    rw [entsM] at this
    simp [hp, entsM, this]
theorem delM_none {a : κ} : ∀ {M : List (κ × ν)}, idxM a M = none → delM a M = M
 | [], _ => rfl
 | p :: r, h => by
  unfold idxM at h
  unfold delM
  split at h
  ·cases h
  ·rename_i hp
   cases hj : idxM a r with
   | none => simp [hp, delM_none hj]
   | some j => simp [hj] at h
theorem MapT.del (m : MapT P t ek ev) (a : κ) (M : List (κ × ν)) : delA P m.tk m.kd (ek a) (entsM ek ev M) = some (entsM ek ev (delM a M)) := by
 unfold delA
 rw [m.pos]
 simp only [Option.bind_some]
 cases h : idxM a M with
 | none => simp [delM_none h]
 | some i => simp [delM_idx h]
variable {H : Heap} {b : Nat} {M : List (κ × ν)}
theorem MapT.look (m : MapT P t ek ev) {z : AV} (hz : zeroOf P m.te = some z) (hb : H.get b = some (.map (entsM ek ev M))) (a : κ) : lookupA P H t (.map b) (ek a) false = some (((getM a M).map ev).getD z) := by
 unfold lookupA
 simp only [m.hu, m.hk, Option.bind_some, m.ok, hb, m.find]
 cases getM a M <;> simp [hz]
theorem MapT.delete (m : MapT P t ek ev) (hb : H.get b = some (.map (entsM ek ev M))) (a : κ) : deleteA P H t (.map b) (ek a) = H.set b (.map (entsM ek ev (delM a M))) := by
 unfold deleteA
 simp only [m.hu, m.hk, Option.bind_some, m.ok, hb, m.del]
theorem MapT.len (m : MapT P t ek ev) (hb : H.get b = some (.map (entsM ek ev M))) : lenA P H t (.map b) = some M.length := by
 unfold lenA
 simp only [m.hu, Option.bind_some, hb]
 simp [entsM]
end
def okFs (ok : TypeId → Bool) (P : Program) : Nat → List Field → Option Nat
 | o, [] => some o
 | o, f :: r => match Nat.beq f.offset o && ok f.type with
  | true => okFs ok P (o + P.cellsOf f.type) r
  | false => none
def okTy (P : Program) : Nat → TypeId → Bool
 | 0, _ => false
 | Nat.succ n, t => match P.underlying t with
  | some .bool => Nat.beq (P.cellsOf t) 1
  | some (.int _) => Nat.beq (P.cellsOf t) 1
  | some .string => Nat.beq (P.cellsOf t) 1
  | some (.slice e) => Nat.beq (P.cellsOf t) 1 && Nat.ble 1 (P.cellsOf e) && (aggT P e).isSome && okTy P n e && (match aggT P e with
   | some false => Nat.beq (P.cellsOf e) 1
   | _ => true)
  | some (.struct fs) => match okFs (okTy P n) P 0 fs.toList with
   | some k => Nat.beq k (P.cellsOf t)
   | none => false
  | _ => false
inductive Parts (S : TypeId → List AV → Prop) : List Field → List AV → Prop
 | nil : Parts S [] []
 | cons (f : Field) (r : List Field) (a b : List AV) (h : S f.type a) (k : Parts S r b) : Parts S (f :: r) (a ++ b)
def ShapeT (P : Program) : Nat → TypeId → List AV → Prop
 | 0, _, _ => False
 | Nat.succ n, t, as => match P.underlying t with
  | some .bool => ∃ b, as = [.bool b]
  | some (.int k) => ∃ i, as = [.int k i] ∧ (Lit.int k i).wf = true
  | some .string => ∃ s : List UInt8, as = [.str s] ∧ s.length ≤ maxLen
  | some (.slice e) => ∃ es, as = [.fslc (P.cellsOf e) es] ∧ es.length ≤ maxLen ∧ ∀ x, x ∈ es → ∃ ag cs, aggT P e = some ag ∧ wrapA ag cs = some x ∧ ShapeT P n e cs
  | some (.struct fs) => Parts (ShapeT P n) fs.toList as
  | _ => False
section
variable {W : World} {H : Type} {enc : TypeId × Value → H} {P : Program} {base : Nat} {sp : Nat → Bool} {held : Bool}
theorem shape_len : ∀ {n : Nat} {t : TypeId} {as : List AV}, okTy P n t = true → ShapeT P n t as → as.length = P.cellsOf t ∧ allSingle as = true
 | 0, _, _, h, _ => by simp [okTy] at h
 | n + 1, t, as, h, hs => by
  unfold okTy at h
  unfold ShapeT at hs
  split at h
  ·rename_i hu
   rw [hu] at hs
   obtain ⟨b, rfl⟩ := hs
   exact ⟨(Nat.eq_of_beq_eq_true h).symm, rfl⟩
  ·rename_i hu
   rw [hu] at hs
   obtain ⟨b, rfl, _⟩ := hs
   exact ⟨(Nat.eq_of_beq_eq_true h).symm, rfl⟩
  ·rename_i hu
   rw [hu] at hs
   obtain ⟨b, rfl, _⟩ := hs
   exact ⟨(Nat.eq_of_beq_eq_true h).symm, rfl⟩
  ·rename_i hu
   rw [hu] at hs
   obtain ⟨es, rfl, _⟩ := hs
   simp only [Bool.and_eq_true] at h
   exact ⟨(Nat.eq_of_beq_eq_true h.1.1.1.1).symm, rfl⟩
  ·rename_i fs hu
   rw [hu] at hs
   have key : ∀ (l : List Field) (o : Nat) (as : List AV) (k : Nat), okFs (okTy P n) P o l = some k → Parts (ShapeT P n) l as → o + as.length = k ∧ allSingle as = true := by
    intro l
    induction l with
    | nil =>
     intro o as k h1 h2
     cases h2
     simp only [okFs, Option.some.injEq] at h1
     exact ⟨by simpa using h1, rfl⟩
    | cons f r ih =>
     intro o as k h1 h2
     cases h2 with
     | cons _ _ a b ha hb =>
      unfold okFs at h1
      split at h1
      ·rename_i hc
       simp only [Bool.and_eq_true] at hc
       obtain ⟨l1, l2⟩ := shape_len hc.2 ha
       obtain ⟨m1, m2⟩ := ih _ _ _ h1 hb
       exact ⟨by rw [List.length_append]; omega, by rw [allSingle_append, l2, m2]; rfl⟩
      ·cases h1
   split at h
   ·rename_i k hk
    obtain ⟨h1, h2⟩ := key _ _ _ _ hk hs
    exact ⟨by rw [← Nat.eq_of_beq_eq_true h]; omega, h2⟩
   ·cases h
  ·cases h
theorem shape_run : ∀ {n : Nat} {fuel : Nat} {t : TypeId} {cs : List Value} {x : DataW H × List MemPlace}, okTy P n t = true → DataW.trod enc P W base sp held fuel t cs = some x → ∃ as, cellsA P n t x.1 = some as ∧ ShapeT P n t as
 | 0, _, _, _, _, h, _ => by simp [okTy] at h
 | n + 1, fuel, t, cs, x, h, htr => by
  have hfu : ∃ m, fuel = m + 1 := by
   cases fuel with
   | zero => simp [DataW.trod] at htr
   | succ m => exact ⟨m, rfl⟩
  obtain ⟨m, rfl⟩ := hfu
  have h' := h
  unfold okTy at h
  split at h
  ·rename_i hu
   unfold DataW.trod at htr
   rw [hu] at htr
   split at htr <;> simp_all
   obtain ⟨rfl⟩ := htr
   exact ⟨_, by simp [cellsA, hu, litA]; rfl, by simp [ShapeT, hu]⟩
  ·rename_i k hu
   unfold DataW.trod at htr
   rw [hu] at htr
   split at htr <;> simp_all
   obtain ⟨⟨rfl, hw⟩, rfl⟩ := htr
   exact ⟨_, by simp [cellsA, hu, litA]; rfl, by simp [ShapeT, hu, hw]⟩
  ·rename_i hu
   unfold DataW.trod at htr
   rw [hu] at htr
   split at htr <;> simp_all
   obtain ⟨hw, rfl⟩ := htr
   refine ⟨_, by simp [cellsA, hu, litA]; rfl, ?_⟩
   simp only [ShapeT, hu]
   refine ⟨_, rfl, ?_⟩
   have e : ∀ s : ByteArray, s.data.toList.length = s.size := fun s => by rw [Array.length_toList]; rfl
   rw [e]; exact hw
  ·rename_i e hu
   simp only [Bool.and_eq_true] at h
   obtain ⟨⟨⟨⟨_, h1⟩, h2⟩, h3⟩, h4⟩ := h
   obtain ⟨ag, hag⟩ := Option.isSome_iff_exists.1 h2
   rw [hag] at h4
   rcases DataW.trod_slice hu htr with ⟨rfl, rfl⟩ | ⟨a, len, cap, elems, rest, m', hm, rfl, rfl, hb, hl, hc, hlen, hel, _⟩
   ·refine ⟨_, by simp only [cellsA, hu, Option.bind_some]; rfl, ?_⟩
    simp only [ShapeT, hu]
    exact ⟨[], rfl, Nat.zero_le _, fun x hx => by cases hx⟩
   ·-- each element
    have each : ∀ y, y ∈ elems → ∃ as a, cellsA P n e y.1 = some as ∧ ShapeT P n e as ∧ wrapA ag as = some a := by
     intro y hy
     obtain ⟨i, hi, rfl⟩ := List.getElem_of_mem hy
     have hi' := hel i (by omega)
     rw [List.getElem?_eq_getElem hi] at hi'
     obtain ⟨ci, _, hti⟩ := Option.bind_eq_some_iff.1 hi'
     obtain ⟨as, q1, q2⟩ := shape_run h3 hti
     obtain ⟨l1, l2⟩ := shape_len h3 q2
     refine ⟨as, ?_⟩
     cases ag with
     | true => exact ⟨_, q1, q2, rfl⟩
     | false =>
      have h5 := Nat.eq_of_beq_eq_true h4
      rw [h5] at l1
      match as, l1, l2 with
      | [a], _, l2 =>
       refine ⟨a, q1, q2, ?_⟩
       have hs : a.single = true := by
        cases hx : a.single with
        | true => rfl
        | false => simp [allSingle, hx] at l2
       simp only [wrapA, hs]
    have all : ∀ l : List (DataW H × List MemPlace), (∀ y, y ∈ l → ∃ as a, cellsA P n e y.1 = some as ∧ ShapeT P n e as ∧ wrapA ag as = some a) →
      ∃ es, mapOpt (fun d => (cellsA P n e d).bind (wrapA ag)) (l.map (·.1)) = some es ∧ es.length = l.length ∧ ∀ x, x ∈ es → ∃ ag cs, aggT P e = some ag ∧ wrapA ag cs = some x ∧ ShapeT P n e cs := by
     intro l
     induction l with
     | nil => intro _; exact ⟨[], rfl, rfl, fun x hx => by cases hx⟩
     | cons y r ih =>
      intro hy
      obtain ⟨as, a, q1, q2, q3⟩ := hy y (by simp)
      obtain ⟨es, r1, r2, r3⟩ := ih fun z hz => hy z (by simp [hz])
      refine ⟨a :: es, by simp [mapOpt, q1, q3, r1], by simp [r2], fun x hx => ?_⟩
      rcases List.mem_cons.1 hx with rfl | hx
      ·exact ⟨ag, as, hag, q3, q2⟩
      ·exact r3 x hx
    obtain ⟨es, r1, r2, r3⟩ := all elems each
    have hlenes : es.length ≤ maxLen := by omega
    cases elems with
    | nil =>
     refine ⟨_, by simp only [cellsA, hu, Option.bind_some, List.map_nil]; rfl, ?_⟩
     simp only [ShapeT, hu]
     exact ⟨[], rfl, Nat.zero_le _, fun x hx => by cases hx⟩
    | cons y r =>
     have hsz : allSize (P.cellsOf e) es = true := allSize_of fun x hx => by
      obtain ⟨ag', cs', k1, k2, k3⟩ := r3 x hx
      rw [wrapA_cells k2]
      exact (shape_len h3 k3).1
     refine ⟨[.fslc (P.cellsOf e) es], ?_, ?_⟩
     ·simp only [cellsA, hu, Option.bind_some, List.map_cons, hag]
      simp only [List.map_cons] at r1
      simp only [r1, Option.bind_some, hsz, h1]
     ·simp only [ShapeT, hu]
      exact ⟨es, rfl, hlenes, r3⟩
  ·rename_i fs hu
   unfold DataW.trod at htr
   rw [hu] at htr
   have hst : (if cs.length = P.cellsOf t then (fs.toList.mapM fun f => DataW.trod enc P W base sp held m f.type ((cs.drop f.offset).take (P.cellsOf f.type))).map fun xs => (DataW.agg (xs.map (·.1)), xs.flatMap (·.2)) else none) = some x := by
    split at htr <;> simp_all
   split at hst
   ·obtain ⟨xs, hxs, rfl⟩ := Option.map_eq_some_iff.1 hst
    have key : ∀ (l : List Field) (o k : Nat) (xs : List (DataW H × List MemPlace)), okFs (okTy P n) P o l = some k → l.mapM (fun f => DataW.trod enc P W base sp held m f.type ((cs.drop f.offset).take (P.cellsOf f.type))) = some xs →
      ∃ as, partsA (cellsA P n) P o l (xs.map (·.1)) = some as ∧ Parts (ShapeT P n) l as ∧ o + as.length = k := by
     intro l
     induction l with
     | nil =>
      intro o k xs h1 h2
      simp at h2
      subst h2
      simp only [okFs, Option.some.injEq] at h1
      exact ⟨[], rfl, .nil, by simpa using h1⟩
     | cons f r ih =>
      intro o k xs h1 h2
      rw [List.mapM_cons] at h2
      obtain ⟨y, hy, h2⟩ := Option.bind_eq_some_iff.1 h2
      obtain ⟨ys, hys, h2⟩ := Option.bind_eq_some_iff.1 h2
      obtain rfl : y :: ys = xs := by simpa using h2
      unfold okFs at h1
      split at h1
      ·rename_i hc
       simp only [Bool.and_eq_true] at hc
       obtain ⟨as, q1, q2⟩ := shape_run hc.2 hy
       obtain ⟨bs, r1, r2, r3⟩ := ih _ _ _ h1 hys
       obtain ⟨l1, _⟩ := shape_len hc.2 q2
       have hb : Nat.beq as.length (P.cellsOf f.type) = true := by rw [l1]; exact Nat.beq_refl _
       refine ⟨as ++ bs, ?_, .cons f r as bs q2 r2, by rw [List.length_append]; omega⟩
       simp only [List.map_cons, partsA, hc.1, q1, Option.bind_some, hb, r1]
      ·cases h1
    split at h
    ·rename_i k hk
     obtain ⟨as, q1, q2, q3⟩ := key _ _ _ _ hk hxs
     have hb : Nat.beq as.length (P.cellsOf t) = true := by rw [← Nat.eq_of_beq_eq_true h, ← q3, Nat.zero_add]; exact Nat.beq_refl _
     refine ⟨as, ?_, by simp only [ShapeT, hu]; exact q2⟩
     simp only [cellsA, hu, Option.bind_some, q1, hb]
    ·cases h
   ·cases hst
  ·cases h
end
open Classical in
noncomputable def evalK (C : Ctx) (call : CallE) (ops : Array Oper) (H0 : Heap) : List Oper → St → Option St
 | [], s => some s
 | o :: r, s => (evalOp C call ops o s).bind fun s1 => if s1.H = H0 then evalK C call ops H0 r s1 else none
def noAllocs : List Oper → Bool
 | [] => true
 | o :: r => match clsOf o.op with
  | .allocs => false
  | _ => noAllocs r
section
variable {C : Ctx} {call : CallE} {ops : Array Oper} {H0 : Heap}
theorem evalK_nil {s : St} : evalK C call ops H0 [] s = some s := rfl
open Classical in
theorem evalK_cons {o : Oper} {r : List Oper} {s : St} : evalK C call ops H0 (o :: r) s = (evalOp C call ops o s).bind fun s1 => if s1.H = H0 then evalK C call ops H0 r s1 else none := rfl
open Classical in
noncomputable def thenK (C : Ctx) (call : CallE) (ops : Array Oper) (H0 : Heap) : Option St → List Oper → Option St
 | some s, l => if s.H = H0 then evalK C call ops H0 l s else none
 | none, _ => none
theorem evalK_c {o : Oper} {r : List Oper} {s : St} : evalK C call ops H0 (o :: r) s = thenK C call ops H0 (evalOp C call ops o s) r := by
 rw [evalK_cons]; cases evalOp C call ops o s <;> rfl
theorem thenK_some {s : St} {l : List Oper} (h : s.H = H0) : thenK C call ops H0 (some s) l = evalK C call ops H0 l s := by
 simp only [thenK, h, if_true]
structure InvK (C : Ctx) (call : CallE) (H0 : Heap) (d : DrawSt) (s : St) : Prop where
 s_ : d.s = s
 H_ : s.H = H0
 ps : d.ps = []
 hs : ∀ h, h ∈ d.hs → h.2 = H0
 rs : ∀ x, x ∈ d.rs → ∃ y, evalVal C call x.o { x.s with H := H0 } = some y ∧ y.1 = x.v
theorem step_K {bef : Array Nat} {base i : Nat} {o : Oper} {s s1 : St} {d : DrawSt} (hn : clsOf o.op ≠ .allocs) (h : evalOp C call ops o s = some s1) (hH : s1.H = H0) (k : InvK C call H0 d s) : ∃ d', stepD C call ops bef base i o d = some d' ∧ InvK C call H0 d' s1 := by
 obtain ⟨ds, ps, hs, rs⟩ := d
 obtain ⟨rfl, k2, rfl, k4, k5⟩ := k
 simp only at k2 k4 k5 h
 obtain ⟨g, hg, h⟩ := Option.bind_eq_some_iff.1 h
 unfold stepD
 simp only [hg, Option.bind_some]
 cases g with
 | false =>
  simp only at h ⊢
  rw [h]
  simp only [Option.bind_some, wantedBy, unwantedBy, Heap.lay]
  cases hc : clsOf o.op with
  | acts => exact ⟨_, rfl, rfl, hH, rfl, fun x hx => by
    rcases List.mem_cons.1 hx with rfl | hx
    ·exact hH
    ·exact k4 x hx, k5⟩
  | pure => exact ⟨_, rfl, rfl, hH, rfl, k4, k5⟩
  | reads => exact ⟨_, rfl, rfl, hH, rfl, k4, k5⟩
  | allocs => exact absurd hc hn
 | true =>
  simp only at h ⊢
  obtain ⟨⟨v, Hv⟩, hv, hp⟩ := Option.bind_eq_some_iff.1 h
  simp only at hp
  cases hc : clsOf o.op with
  | acts =>
   simp only [wantedBy, unwantedBy, Heap.lay]
   have e : evalVal C call o (ds.wH ds.H) = some (v, Hv) := hv
   have hp' : St.put (ds.wH Hv) o.dst v = some s1 := hp
   simp only [e, Option.bind_some, hp']
   exact ⟨_, rfl, rfl, hH, rfl, fun x hx => by
    rcases List.mem_cons.1 hx with rfl | hx
    ·exact hH
    ·exact k4 x hx, k5⟩
  | pure =>
   obtain ⟨e, _⟩ := evalVal_pure hc hv
   subst e
   have hp' : ds.put o.dst v = some s1 := hp
   simp only [hv, Option.bind_some, hp']
   exact ⟨_, rfl, rfl, hH, rfl, k4, k5⟩
  | reads =>
   have e := evalVal_reads hc hv
   subst e
   have hp' : ds.put o.dst v = some s1 := hp
   simp only [hv, Option.bind_some, hp']
   refine ⟨_, rfl, rfl, hH, rfl, k4, fun x hx => ?_⟩
   rcases List.mem_cons.1 hx with rfl | hx
   ·simp only
    rw [← k2]
    exact ⟨_, hv, rfl⟩
   ·exact k5 x hx
  | allocs => exact absurd hc hn
theorem evalK_D {bef : Array Nat} {base : Nat} : ∀ {l : List Oper} {i : Nat} {s s' : St} {d : DrawSt}, noAllocs l = true → evalK C call ops H0 l s = some s' → InvK C call H0 d s → ∃ d', evalD C call ops bef base i l d = some d' ∧ InvK C call H0 d' s'
 | [], i, s, s', d, _, h, k => by
  rw [evalK_nil, Option.some.injEq] at h
  subst h
  exact ⟨d, rfl, k⟩
 | o :: r, i, s, s', d, hn, h, k => by
  have hno : clsOf o.op ≠ .allocs ∧ noAllocs r = true := by
   unfold noAllocs at hn
   cases hc : clsOf o.op <;> simp [hc] at hn ⊢ <;> exact hn
  rw [evalK_cons] at h
  obtain ⟨s1, h1, h2⟩ := Option.bind_eq_some_iff.1 h
  split at h2
  ·rename_i hH
   obtain ⟨d1, q1, q2⟩ := step_K (bef := bef) (base := base) (i := i) hno.1 h1 hH k
   obtain ⟨d2, r1, r2⟩ := evalK_D (bef := bef) (base := base) (i := i + 1) hno.2 h2 q2
   exact ⟨d2, by simp only [evalD, q1, Option.bind_some]; exact r1, r2⟩
  ·cases h2
theorem fresh_K : ∀ {l : List Oper} {s : St}, noAllocs l = true → freshenAll l s = s
 | [], s, _ => rfl
 | o :: r, s, hn => by
  have hno : clsOf o.op ≠ .allocs ∧ noAllocs r = true := by
   unfold noAllocs at hn
   cases hc : clsOf o.op <;> simp [hc] at hn ⊢ <;> exact hn
  have : freshen s o = s := by
   unfold freshen
   cases hop : o.op <;> first | rfl | (exfalso; exact hno.1 (by rw [hop]; rfl))
  simp only [freshenAll, this]
  exact fresh_K hno.2
theorem same_K {bef : Array Nat} {x : Rec} (hx : ∃ y, evalVal C call x.o { x.s with H := H0 } = some y ∧ y.1 = x.v) : ∀ {hs : List (Nat × Heap)}, (∀ h, h ∈ hs → h.2 = H0) → sameAll C call bef x H0 hs = true
 | [], _ => by
  obtain ⟨y, h1, h2⟩ := hx
  simp only [sameAll, sameAt, h1, h2, decide_true]
 | h :: r, hh => by
  obtain ⟨y, h1, h2⟩ := hx
  have e := hh h (by simp)
  have ih := same_K (bef := bef) ⟨y, h1, h2⟩ (hs := r) fun z hz => hh z (by simp [hz])
  have hs : sameAt C call x h.2 = true := by rw [e]; simp only [sameAt, h1, h2, decide_true]
  unfold sameAll
  rw [hs, ih]
  cases ahead bef x.i h.1 <;> cases ahead bef h.1 x.i <;> rfl
theorem sames_K {bef : Array Nat} {hs : List (Nat × Heap)} (hh : ∀ h, h ∈ hs → h.2 = H0) : ∀ {rs : List Rec}, (∀ x, x ∈ rs → ∃ y, evalVal C call x.o { x.s with H := H0 } = some y ∧ y.1 = x.v) → sameRecs C call bef H0 hs rs = true
 | [], _ => rfl
 | x :: r, h => by
  unfold sameRecs
  rw [same_K (h x (by simp)) hh]
  exact sames_K hh fun y hy => h y (by simp [hy])
theorem wps_drawK {n : Nat} {s : St} {Q : Out → St → Prop} {id : Nat} (hm : C.P.follows .mixedOrders = true) (hC : CallOK C call) (hd : drawOK ops = true) (hn : noAllocs ops.toList = true)
  (h : ∃ s', evalK C call ops ⟨s.H.n + ops.size, s.H.fs⟩ ops.toList { s with ts := [], H := ⟨s.H.n + ops.size, s.H.fs⟩ } = some s' ∧ Q .normal s') : WpS C n (.region id ops true) s Q := by
 obtain ⟨s', h1, h2⟩ := h
 refine wps_drawn hm hC hd fun B hB => ?_
 have hr : reserve (freshenAll ops.toList { s with ts := [] }) ops.size = { s with ts := [], H := ⟨s.H.n + ops.size, s.H.fs⟩ } := by rw [fresh_K hn]; rfl
 rw [hr]
 obtain ⟨d, q1, q2⟩ := evalK_D (bef := B) (base := s.H.n) (i := 0) (d := ⟨{ s with ts := [], H := ⟨s.H.n + ops.size, s.H.fs⟩ }, [], [], []⟩) hn h1 ⟨rfl, rfl, rfl, fun h hh => (by cases hh), fun x hx => (by cases hx)⟩
 refine ⟨d, q1, sames_K q2.hs q2.rs, ?_⟩
 rw [q2.ps, q2.s_]
 exact h2
end
theorem law_calls {C : Ctx} {f : FuncId} {fn : Func} {body : Code} {args : Array Value} {as : List AV} {W : World} {hg : GlobsIn W} (hf : C.P.funcs[f]? = some fn) (hname : (fn.name == "runtime.NumGoroutine") = false) (hb : fn.body = some body)
  (h : CallAt C f as ⟨0, []⟩ (.bool true) ⟨0, []⟩) (hx : VRs (start W hg) as args.toList) : Calls C.P f args W fun e w' => e = .returned (.bool true) ∧ Below W.heap.size W w' := by
 have hname' : ¬ fn.name = "runtime.NumGoroutine" := fun e => by rw [e] at hname; simp at hname
 have hrun : (callFunc f args).run C.P W = .ok (.enter f args) W := by simp [callFunc, hf, hname', hb]
 rcases h (start W hg) W args.toList (sim_start W hg) hx with ⟨x, ρ', w', h0, _⟩ | ⟨g, ys, h0, h1⟩
 ·rw [Array.toArray_toList, hrun] at h0; cases h0
 ·rw [Array.toArray_toList, hrun] at h0
  cases h0
  refine (h1.calls fun k => room_wide k).mono ?_
  rintro e w' ⟨x, ρ', rfl, k1, k2, k3⟩
  have hx' : x = .bool true := by cases k1; rfl
  subst hx'
  exact ⟨rfl, Step.grown k2 k3⟩
section
variable {H : Type} {enc : TypeId × Value → H} {P : Program} {W : World} {hg : GlobsIn W}
theorem arg_shape {n : Nat} {r : Reach} {b0 base : Nat} {sp : Nat → Bool} {held : Bool} {t : TypeId} {v : Value} {d : DataW H} {ps : List MemPlace} (hok : okTy P n t = true) {ag : Bool} (hag : aggT P t = some ag) (ha : ag = false → P.cellsOf t = 1)
  (ht : DataW.Trod enc P W base sp held t v d ps) (hv : Value.okWide P W r b0 t v) : ∃ as a, ShapeT P n t as ∧ wrapA ag as = some a ∧ VR (start W hg) a v := by
 have ht' := ht
 obtain ⟨fuel, hf⟩ := ht
 obtain ⟨as, h1, h2⟩ := shape_run hok hf
 obtain ⟨l1, l2⟩ := shape_len hok h2
 have hw : ∃ a, wrapA ag as = some a := by
  cases ag with
  | true => exact ⟨_, rfl⟩
  | false =>
   rw [ha rfl] at l1
   match as, l1, l2 with
   | [a], _, l2 =>
    have hs : a.single = true := by
     cases hx : a.single with
     | true => rfl
     | false => simp [allSingle, hx] at l2
    exact ⟨a, by simp only [wrapA, hs]⟩
 obtain ⟨a, hw⟩ := hw
 have harg : argA P n t d = some a := by
  unfold argA
  simp only [hag, Option.bind_some, h1]
  exact hw
 exact ⟨as, a, h2, hw, argA_run ht' hv harg⟩
end
mutual
def renV (τ : Nat → Nat) : AV → AV
 | .ptr b o => .ptr (τ b) o
 | .slc b o len cap => .slc (τ b) o len cap
 | .map b => .map (τ b)
 | .yld b => .yld (τ b)
 | .zptr b o => .zptr (τ b) o
 | .func fn a c => .func fn (renL τ a) (renL τ c)
 | .iface t v => .iface t (renV τ v)
 | .agg cs => .agg (renL τ cs)
 | .tup cs => .tup (renL τ cs)
 | v => v
def renL (τ : Nat → Nat) : List AV → List AV
 | [] => []
 | v :: r => renV τ v :: renL τ r
end
theorem renL_length (τ : Nat → Nat) : ∀ (l : List AV), (renL τ l).length = l.length
 | [] => rfl
 | v :: r => by simp [renL, renL_length τ r]
theorem renL_get (τ : Nat → Nat) : ∀ (l : List AV) (i : Nat) (h : i < (renL τ l).length) (h' : i < l.length), (renL τ l)[i] = renV τ l[i]
 | [], i, h, _ => absurd h (Nat.not_lt_zero i)
 | v :: r, 0, _, _ => rfl
 | v :: r, i + 1, h, h' => by simpa [renL] using renL_get τ r i (by simpa [renL] using h) (by simpa using h')
mutual
theorem renV_pure (τ : Nat → Nat) : ∀ {v : AV}, pureV v = true → renV τ v = v
 | .func fn a c, h => by
  simp only [pureV, Bool.and_eq_true] at h
  simp only [renV, renL_pure τ h.1, renL_pure τ h.2]
 | .iface t v, h => by simp only [renV, renV_pure τ (show pureV v = true from h)]
 | .agg cs, h => by simp only [renV, renL_pure τ (show pureL cs = true from h)]
 | .tup cs, h => by simp only [renV, renL_pure τ (show pureL cs = true from h)]
 | .ptr _ _, h => by simp [pureV] at h
 | .slc _ _ _ _, h => by simp [pureV] at h
 | .map _, h => by simp [pureV] at h
 | .yld _, h => by simp [pureV] at h
 | .zptr _ _, h => by simp [pureV] at h
 | .undef, _ => rfl
 | .bool _, _ => rfl
 | .int _ _, _ => rfl
 | .float _ _, _ => rfl
 | .cplx _ _ _, _ => rfl
 | .str _, _ => rfl
 | .nilP, _ => rfl
 | .fptr _ _, _ => rfl
 | .nilS, _ => rfl
 | .eslc, _ => rfl
 | .zslc, _ => rfl
 | .fslc _ _, _ => rfl
 | .xslc _ _, _ => rfl
 | .nilM, _ => rfl
 | .nilF, _ => rfl
 | .nilI, _ => rfl
 | .val _, _ => rfl
theorem renL_pure (τ : Nat → Nat) : ∀ {l : List AV}, pureL l = true → renL τ l = l
 | [], _ => rfl
 | v :: r, h => by
  simp only [pureL, Bool.and_eq_true] at h
  simp only [renL, renV_pure τ h.1, renL_pure τ h.2]
end
theorem VR.ren {τ : Nat → Nat} {ρ ρ' : Place} {v : AV} {x : Value} (r : VR ρ v x) : (∀ b l, ρ b = some l → ρ' (τ b) = some l) → ρ'.bare = ρ.bare → VR ρ' (renV τ v) x := by
 induction r generalizing ρ' with
 | undef x => exact fun _ _ => .undef x
 | bool b => exact fun _ _ => .bool b
 | int k n => exact fun _ _ => .int k n
 | float k n => exact fun _ _ => .float k n
 | cplx k a b => exact fun _ _ => .cplx k a b
 | str s => exact fun _ _ => .str s
 | nilP => exact fun _ _ => .nilP
 | ptr b o l e => exact fun h _ => .ptr _ o l (h b l e)
 | fptr cs o cb off vs hB hc hv ih =>
  intro _ hb
  have hW := congrArg Place.W hb
  have hBB := congrArg Place.B hb
  simp only [Place.bare] at hW hBB
  exact .fptr cs o cb off vs (by rw [hBB]; exact hB) (fun i hi => by rw [hW]; exact hc i hi) fun i hi => by rw [hb]; exact hv i hi
 | nilS => exact fun _ _ => .nilS
 | eslc a c => exact fun _ _ => .eslc a c
 | zslcN => exact fun _ _ => .zslcN
 | zslcE a => exact fun _ _ => .zslcE a
 | slcE b o len c l e hc => exact fun h _ => .slcE _ o len c l (h b l e) hc
 | slcR b o len sz c l e hc hf => exact fun h _ => .slcR _ o len sz c l (h b l e) hc hf
 | fslc sz es cb off cap vs hB hcap hz hc hv ih =>
  intro _ hb
  have hW := congrArg Place.W hb
  have hBB := congrArg Place.B hb
  simp only [Place.bare] at hW hBB
  exact .fslc sz es cb off cap vs (by rw [hBB]; exact hB) hcap hz (fun i hi j hj => by rw [hW]; exact hc i hi j hj) fun i hi j hj => by rw [hb]; exact hv i hi j hj
 | xslc sz es cb off vs hB hz hc hv ih =>
  intro _ hb
  have hW := congrArg Place.W hb
  have hBB := congrArg Place.B hb
  simp only [Place.bare] at hW hBB
  exact .xslc sz es cb off vs (by rw [hBB]; exact hB) hz (fun i hi j hj => by rw [hW]; exact hc i hi j hj) fun i hi j hj => by rw [hb]; exact hv i hi j hj
 | fnil sz => exact fun _ _ => .fnil sz
 | fnone sz a c => exact fun _ _ => .fnone sz a c
 | nilM => exact fun _ _ => .nilM
 | map b l e => exact fun h _ => .map _ l (h b l e)
 | nilF => exact fun _ _ => .nilF
 | func fn a c a' c' ha hc hav hcv iha ihc =>
  intro h hb
  exact .func fn _ _ a' c' (by rw [renL_length]; exact ha) (by rw [renL_length]; exact hc)
   (fun i h1 h2 => by rw [renL_get τ a i h1 (by rw [← renL_length τ]; exact h1)]; exact iha i _ h2 h hb)
   (fun i h1 h2 => by rw [renL_get τ c i h1 (by rw [← renL_length τ]; exact h1)]; exact ihc i _ h2 h hb)
 | nilI => exact fun _ _ => .nilI
 | iface t v x _ ih => exact fun h hb => .iface t _ x (ih h hb)
 | agg cs vs hl hv ih => exact fun h hb => .agg _ vs (by rw [renL_length]; exact hl) fun i h1 h2 => by rw [renL_get τ cs i h1 (by rw [← renL_length τ]; exact h1)]; exact ih i _ h2 h hb
 | tup cs vs hl hv ih => exact fun h hb => .tup _ vs (by rw [renL_length]; exact hl) fun i h1 h2 => by rw [renL_get τ cs i h1 (by rw [← renL_length τ]; exact h1)]; exact ih i _ h2 h hb
 | yld b l e => exact fun h _ => .yld _ l (h b l e)
 | zptrN b o => exact fun _ _ => .zptrN _ o
 | zptrP b o l e => exact fun h _ => .zptrP _ o l (h b l e)
 | val v e => exact fun _ _ => .val v e
def renT (τ : Nat → Nat) : List (Nat × AV) → List (Nat × AV)
 | [] => []
 | x :: r => (x.1, renV τ x.2) :: renT τ r
def renM (τ : Nat → Nat) : List (AV × AV) → List (AV × AV)
 | [] => []
 | x :: r => (renV τ x.1, renV τ x.2) :: renM τ r
def renB (τ : Nat → Nat) : Blk → Blk
 | .cells cs => .cells (renL τ cs)
 | .map es => .map (renM τ es)
 | .obj t cs => .obj t (renL τ cs)
 | .buf t fz cs => .buf t fz (renL τ cs)
 | .iter s p => .iter s p
 | .rng l c => .rng l c
 | .loop st pend ks vs ts sz ps a b => .loop st pend ks (renL τ vs) (renT τ ts) sz ps a b
theorem renM_length (τ : Nat → Nat) : ∀ (l : List (AV × AV)), (renM τ l).length = l.length
 | [] => rfl
 | v :: r => by simp [renM, renM_length τ r]
theorem renM_get (τ : Nat → Nat) : ∀ (l : List (AV × AV)) (i : Nat) (h : i < (renM τ l).length) (h' : i < l.length), (renM τ l)[i] = (renV τ l[i].1, renV τ l[i].2)
 | [], i, h, _ => absurd h (Nat.not_lt_zero i)
 | v :: r, 0, _, _ => rfl
 | v :: r, i + 1, h, h' => by simpa [renM] using renM_get τ r i (by simpa [renM] using h) (by simpa using h')
theorem look_ren (τ : Nat → Nat) {t : Nat} : ∀ {ts : List (Nat × AV)} {v : AV}, look t (renT τ ts) = some v → ∃ u, look t ts = some u ∧ v = renV τ u
 | [], v, h => by simp [renT, look_n] at h
 | x :: r, v, h => by
  unfold renT at h; rw [look_c] at h
  rw [look_c]
  split at h
  ·rename_i hb
   simp only [Option.some.injEq] at h
   exact ⟨x.2, by simp [hb], h.symm⟩
  ·rename_i hb
   obtain ⟨u, h1, h2⟩ := look_ren τ h
   exact ⟨u, by simp [hb, h1], h2⟩
theorem lookK_ren (τ : Nat → Nat) {t : Nat} : ∀ {ks : List Nat} {vs : List AV}, lookK t ks (renL τ vs) = (lookK t ks vs).map (renV τ)
 | [], vs => by simp [lookK_c, lookK_n]
 | k :: ks, [] => by simp [renL, lookK_c]
 | k :: ks, v :: r => by
  unfold renL; rw [lookK_c, lookK_c]
  simp only
  split
  ·rfl
  ·exact lookK_ren τ
theorem BlkR.ren {τ : Nat → Nat} {ρ ρ' : Place} {w : World} {l : Loc} {k : Blk} (r : BlkR ρ w l k) (h : ∀ b l, ρ b = some l → ρ' (τ b) = some l) (hb : ρ'.bare = ρ.bare) : BlkR ρ' w l (renB τ k) := by
 have cells : ∀ {cs : List AV}, (∀ i (h : i < cs.length), ∃ x, w.cell? ⟨l.cb, l.off + i, none⟩ = some x ∧ VR ρ cs[i] x) → ∀ i (h : i < (renL τ cs).length), ∃ x, w.cell? ⟨l.cb, l.off + i, none⟩ = some x ∧ VR ρ' (renL τ cs)[i] x := fun {cs} hv i hi => by
  have hi' : i < cs.length := by rw [← renL_length τ]; exact hi
  obtain ⟨x, hx, hxv⟩ := hv i hi'
  exact ⟨x, hx, by rw [renL_get τ cs i hi hi']; exact hxv.ren h hb⟩
 cases k with
 | cells cs => exact ⟨by rw [renL_length]; exact r.1, r.2.1, cells r.2.2⟩
 | map es =>
  obtain ⟨ents, clock, h1, h2, h3, h4⟩ := r
  refine ⟨ents, clock, h1, by rw [renM_length]; exact h2, fun i a b => ?_, h4⟩
  have ha : i < es.length := by rw [← renM_length τ]; exact a
  rw [renM_get τ es i a ha]
  exact ⟨(h3 i ha b).1.ren h hb, (h3 i ha b).2.ren h hb⟩
 | obj t cs => exact ⟨⟨by rw [renL_length]; exact r.1.1, r.1.2.1, cells r.1.2.2⟩, r.2.1, by rw [renL_length]; exact r.2.2⟩
 | buf t fz cs => exact ⟨⟨by rw [renL_length]; exact r.1.1, r.1.2.1, cells r.1.2.2⟩, r.2.1, by rw [renL_length]; exact r.2.2.1, r.2.2.2⟩
 | iter s p => exact r
 | rng l c =>
  obtain ⟨h0, q, h1, h2, h3, h4, h5⟩ := r
  have hW := congrArg Place.W hb
  have hBB := congrArg Place.B hb
  simp only [Place.bare] at hW hBB
  exact ⟨h0, q, by rw [hBB]; exact h1, by rw [hW]; exact h2, h3, h4, by rw [hb]; exact h5⟩
 | loop st pend ks vs ts sz ps a b =>
  obtain ⟨q, h1, h2, h3, h4, h5, h6, h7, h8⟩ := r
  refine ⟨q, h1, h2, h3, h4, h5, h6, h7, fun t v hv => ?_⟩
  rw [lookK_ren] at hv
  cases hk : lookK t ks vs with
  | some u =>
   simp only [hk, Option.map_some, Option.some.injEq] at hv
   subst hv
   exact (h8 t u (by simp [hk])).ren h hb
  | none =>
   simp only [hk, Option.map_none] at hv
   obtain ⟨u, g1, g2⟩ := look_ren τ hv
   subst g2
   exact (h8 t u (by simp [hk, g1])).ren h hb
def outN (σ : List (Nat × Nat)) (N m : Nat) (b : Nat) : Nat := match lookR b σ with
 | some x => x
 | none => N + (b - m)
structure OutH (σ : List (Nat × Nat)) (H Hs Hs' H' : Heap) : Prop where
 num : H'.n = H.n + (Hs'.n - Hs.n)
 nodup : (H.ents.map (·.1)).Nodup → (∀ e, e ∈ H.ents → e.1 < H.n) → (H'.ents.map (·.1)).Nodup
 src : ∀ e, e ∈ H'.ents → (∃ e', e' ∈ Hs'.ents ∧ e = (outN σ H.n Hs.n e'.1, renB (outN σ H.n Hs.n) e'.2)) ∨ (e ∈ H.ents ∧ ∀ x, x ∈ σ → x.1 ≠ e.1)
theorem CallAt.framed {C : Ctx} {f : FuncId} {args args' : List AV} {v' : AV} {H Hs Hs' H' : Heap} {σ : List (Nat × Nat)} (h : CallAt C f args' Hs v' Hs') (fh : FitH 0 σ [] H Hs) (hf : fitL σ [] args args') (out : OutH σ H Hs Hs' H') (hmn : Hs.n ≤ Hs'.n) :
  CallAt C f args H (renV (outN σ H.n Hs.n) v') H' := by
 intro ρ w xs sm hx
 obtain ⟨ρs, hρs⟩ : ∃ ρs, ρs = newPlace 0 σ [] ρ w sm.below := ⟨_, rfl⟩
 have sms : Sim ρs Hs w := by rw [hρs]; exact fh.sim sm (Nat.zero_le _)
 have hxs : VRs ρs args' xs := by
  obtain ⟨k1, k2⟩ := fitL_spec hf
  rw [hρs]
  refine ⟨by rw [hx.1, k1], fun i h1 h2 => ?_⟩
  exact Fits.run (fh.fits sm) sm _ (Nat.le_refl _) (hx.2 i (by omega) h2) (k2 i (by omega) h1)
 have hB : ∀ k, ρs.B k → ρ.B k := fun k hk => by
  rw [hρs] at hk
  rcases hk with hk | ⟨b, cs, l, h1, _⟩
  ·exact hk
  ·cases h1
 have hB' : ∀ k, ρ.B k → ρs.B k := fun k hk => by rw [hρs]; exact .inl hk
 have hat : ∀ b, ρs b = (lookR b σ).bind ρ.at_ := fun b => by subst hρs; simp only [newPlace, Nat.not_lt_zero, if_false]
 have hsW : ρs.W = w := by rw [hρs]; rfl
 have hrowS : ∀ e, e ∈ Hs.ents → ∀ l, ρs e.1 = some l → ∃ e0, e0 ∈ H.ents ∧ ρ e0.1 = some l ∧ (e0.1, e.1) ∈ σ := fun e he l hl => by
  obtain ⟨b, k, h1, h2, _⟩ := fh.src e he
  rw [hρs, newPlace_at fh h1] at hl
  exact ⟨(b, k), Heap.get_mem h2, hl, h1⟩
 have up : ∀ {x : Value} {ρ1 : Place} {w' : World}, VR ρ1 v' x → Sim ρ1 Hs' w' → Step ρs Hs w ρ1 Hs' w' → ∃ ρ', VR ρ' (renV (outN σ H.n Hs.n) v') x ∧ Sim ρ' H' w' ∧ Step ρ H w ρ' H' w' := by
  intro x ρ1 w' hv s1 t1
  obtain ⟨ρ', hρ'⟩ : ∃ ρ' : Place, ρ' = { ρ1 with at_ := fun b => if b < H.n then ρ b else if b < H.n + (Hs'.n - Hs.n) then ρ1 (b - H.n + Hs.n) else none } := ⟨_, rfl⟩
  have hlow : ∀ b, b < H.n → ρ' b = ρ b := fun b hb => by rw [hρ']; show (if b < H.n then ρ b else _) = _; rw [if_pos hb]
  have hW' : ρ'.W = ρ1.W := by rw [hρ']
  have hB1 : ρ'.B = ρ1.B := by rw [hρ']
  have hbare : ρ'.bare = ρ1.bare := by rw [hρ']; rfl
  have key : ∀ b l, ρ1 b = some l → ρ' (outN σ H.n Hs.n b) = some l := fun b l hl => by
   have hbn : b < Hs'.n := by
    rcases Nat.lt_or_ge b Hs'.n with hh | hh
    ·exact hh
    ·rw [s1.dom b hh] at hl; cases hl
   rcases Nat.lt_or_ge b Hs.n with hh | hh
   ·rw [t1.low b hh, hat] at hl
    obtain ⟨y, hy, hyl⟩ := Option.bind_eq_some_iff.1 hl
    unfold outN
    rw [hy]
    have hyn : y < H.n := by
     rcases Nat.lt_or_ge y H.n with hq | hq
     ·exact hq
     ·rw [sm.dom y hq] at hyl; cases hyl
    rw [hlow y hyn]; exact hyl
   ·have hno : lookR b σ = none := by
     cases hq : lookR b σ with
     | none => rfl
     | some y =>
      have := fh.lt _ (lookR_mem hq)
      simp only at this
      omega
    unfold outN
    rw [hno, hρ']
    show (if H.n + (b - Hs.n) < H.n then _ else if H.n + (b - Hs.n) < H.n + (Hs'.n - Hs.n) then ρ1 (H.n + (b - Hs.n) - H.n + Hs.n) else none) = _
    rw [if_neg (by omega), if_pos (by omega), show H.n + (b - Hs.n) - H.n + Hs.n = b by omega]
    exact hl
  have hle : ρ.le ρ' := by
   refine ⟨fun b l hl => ?_, fun k hk => ?_, ?_, ?_, ?_⟩
   ·have hbn : b < H.n := by
     rcases Nat.lt_or_ge b H.n with hq | hq
     ·exact hq
     ·rw [sm.dom b hq] at hl; cases hl
    rw [hlow b hbn]; exact hl
   ·obtain ⟨g1, g2⟩ := t1.le.fz k (hB' k hk)
    refine ⟨by rw [hB1]; exact g1, ?_⟩
    rw [hW', g2, hsW]
    exact sm.below k hk
   ·rw [hW', t1.le.os, hsW]; exact sm.os
   ·rw [hW', t1.le.tape, hsW]; exact sm.tape
   ·rw [hW', t1.le.output, hsW]; exact sm.output
  have other : ∀ e, e ∈ H.ents → (∀ y, y ∈ σ → y.1 ≠ e.1) → ∀ l, ρ e.1 = some l → ∀ e', e' ∈ Hs.ents → ∀ l', ρs e'.1 = some l' → l'.cb ≠ l.cb := fun e he hn l hl e' he' l' hl' hcb => by
   obtain ⟨e0, h1, h2, h3⟩ := hrowS e' he' l' hl'
   have := sm.inj _ _ h1 he l' l h2 hl hcb
   exact hn _ h3 this
  refine ⟨ρ', hv.ren key hbare, ⟨?_, ?_, ?_, ?_, ?_, ?_, ?_, ?_, ?_⟩, ⟨hle, t1.size, ?_, ?_, ?_, ?_, ?_⟩⟩
  ·rw [hB1]; exact s1.base
  ·rw [hB1, hW']; exact s1.below
  ·rw [hW']; exact s1.os
  ·rw [hW']; exact s1.tape
  ·rw [hW']; exact s1.output
  ·intro b hb
   rw [out.num] at hb
   rw [hρ']
   show (if b < H.n then ρ b else if b < H.n + (Hs'.n - Hs.n) then _ else none) = none
   rw [if_neg (by omega), if_neg (by omega)]
  ·exact out.nodup sm.nodup fun e he => sm.id_lt he
  ·intro e he
   rcases out.src e he with ⟨e', he', rfl⟩ | ⟨he', hn⟩
   ·obtain ⟨l, g1, g2, g3, g4⟩ := s1.live e' he'
    exact ⟨l, key _ l g1, by rw [hB1]; exact g2, g3, g4.ren key hbare⟩
   ·obtain ⟨l, g1, g2, g3, g4⟩ := sm.live e he'
    refine ⟨l, hle.at_ _ _ g1, fun hB2 => ?_, Nat.lt_of_lt_of_le g3 t1.size, (g4.same (t1.keeps _ g3 fun e2 he2 l2 hl2 => other e he' hn l g1 e2 he2 l2 hl2)).mono hle⟩
    rw [hB1] at hB2
    rcases t1.cold _ hB2 with hh | ⟨e2, he2, l2, hl2, hcb⟩ | hh
    ·exact g2 (hB _ hh)
    ·exact other e he' hn l g1 e2 he2 l2 hl2 hcb
    ·omega
  ·intro e e2 he he2 l l2 hl hl2 hcb
   have side : ∀ a, a ∈ Hs'.ents → ∀ la, ρ' (outN σ H.n Hs.n a.1) = some la → ρ1 a.1 = some la := fun a ha la hla => by
    obtain ⟨l0, g1, _⟩ := s1.live a ha
    rw [key _ l0 g1] at hla
    cases hla; exact g1
   have mixed : ∀ a, a ∈ Hs'.ents → ∀ q, q ∈ H.ents → (∀ y, y ∈ σ → y.1 ≠ q.1) → ∀ la lq, ρ1 a.1 = some la → ρ q.1 = some lq → la.cb ≠ lq.cb := fun a ha q hq hn la lq hla hlq hc => by
    rcases t1.rows a ha la hla with ⟨e0, he0, l0, hl0, hc0⟩ | hge
    ·exact other q hq hn lq hlq e0 he0 l0 hl0 (hc0.trans hc)
    ·obtain ⟨l3, g1, _, g3, _⟩ := sm.live q hq
     rw [hlq] at g1; cases g1
     omega
   rcases out.src e he with ⟨a, ha, rfl⟩ | ⟨ha, hn⟩ <;> rcases out.src e2 he2 with ⟨a2, ha2, rfl⟩ | ⟨ha2, hn2⟩
   ·have := s1.inj a a2 ha ha2 l l2 (side a ha l hl) (side a2 ha2 l2 hl2) hcb
    simp only [this]
   ·have hq : ρ e2.1 = some l2 := by rw [← hlow _ (sm.id_lt ha2)]; exact hl2
    exact absurd hcb (mixed a ha e2 ha2 hn2 l l2 (side a ha l hl) hq)
   ·have hq : ρ e.1 = some l := by rw [← hlow _ (sm.id_lt ha)]; exact hl
    exact absurd hcb.symm (mixed a2 ha2 e ha hn l2 l (side a2 ha2 l2 hl2) hq)
   ·have hq : ρ e.1 = some l := by rw [← hlow _ (sm.id_lt ha)]; exact hl
    have hq2 : ρ e2.1 = some l2 := by rw [← hlow _ (sm.id_lt ha2)]; exact hl2
    exact sm.inj e e2 ha ha2 l l2 hq hq2 hcb
  ·intro k hk hn
   refine t1.keeps k hk fun e he l hl => ?_
   obtain ⟨e0, h1, h2, _⟩ := hrowS e he l hl
   exact hn e0 h1 l h2
  ·intro e he l hl
   rcases out.src e he with ⟨a, ha, rfl⟩ | ⟨ha, hn⟩
   ·obtain ⟨l0, g1, _⟩ := s1.live a ha
    have e1 := key _ l0 g1
    simp only at hl
    rw [e1] at hl; cases hl
    rcases t1.rows a ha _ g1 with ⟨e0, he0, l1, hl1, hc0⟩ | hge
    ·obtain ⟨e3, h1, h2, _⟩ := hrowS e0 he0 l1 hl1
     exact .inl ⟨e3, h1, l1, h2, hc0⟩
    ·exact .inr hge
   ·have hq : ρ e.1 = some l := by rw [← hlow _ (sm.id_lt ha)]; exact hl
    exact .inl ⟨e, ha, l, hq, rfl⟩
  ·rw [out.num]; omega
  ·exact hlow
  ·intro k hk
   rw [hB1] at hk
   rcases t1.cold k hk with hh | ⟨e, he, l, hl, hlk⟩ | hh
   ·exact .inl (hB _ hh)
   ·obtain ⟨e0, h1, h2, _⟩ := hrowS e he l hl
    exact .inr (.inl ⟨e0, h1, l, h2, hlk⟩)
   ·exact .inr (.inr hh)
 rcases h ρs w xs sms hxs with ⟨x, ρ1, w', h0, h1, h2, h3⟩ | ⟨g, ys, h0, h1⟩
 ·obtain ⟨ρ', k1, k2, k3⟩ := up h1 h2 h3
  exact .inl ⟨x, ρ', w', h0, k1, k2, k3⟩
 ·refine .inr ⟨g, ys, h0, h1.mono ?_⟩
  rintro e w' ⟨x, ρ1, rfl, m1, m2, m3⟩
  obtain ⟨ρ', k1, k2, k3⟩ := up m1 m2 m3
  exact ⟨x, ρ', rfl, k1, k2, k3⟩
def shrB (k k' : Blk) : Prop := k = k' ∨ ∃ cs G, k = .cells (cs ++ G) ∧ k' = .cells cs
def shrL : List (Nat × Blk) → List (Nat × Blk) → Prop
 | [], [] => True
 | e :: r, e' :: r' => e.1 = e'.1 ∧ shrB e.2 e'.2 ∧ shrL r r'
 | _, _ => False
theorem shrL_refl : ∀ (l : List (Nat × Blk)), shrL l l
 | [] => trivial
 | e :: r => ⟨rfl, .inl rfl, shrL_refl r⟩
theorem shrL_ids : ∀ {l l' : List (Nat × Blk)}, shrL l l' → l'.map (·.1) = l.map (·.1)
 | [], [], _ => rfl
 | e :: r, e' :: r', h => by simp [h.1, shrL_ids h.2.2]
 | [], _ :: _, h => h.elim
 | _ :: _, [], h => h.elim
theorem shrL_mem : ∀ {l l' : List (Nat × Blk)} {e' : Nat × Blk}, shrL l l' → e' ∈ l' → ∃ e, e ∈ l ∧ e.1 = e'.1 ∧ shrB e.2 e'.2
 | e :: r, e1 :: r', e', h, he => by
  rcases List.mem_cons.1 he with rfl | he
  ·exact ⟨e, by simp, h.1, h.2.1⟩
  ·obtain ⟨x, h1, h2⟩ := shrL_mem h.2.2 he
   exact ⟨x, by simp [h1], h2⟩
 | [], [], _, _, he => by cases he
 | [], _ :: _, _, h, _ => h.elim
 | _ :: _, [], _, h, _ => h.elim
structure Shr (H H' : Heap) : Prop where
 n : H'.n = H.n
 l : shrL H.ents H'.ents
theorem BlkR.shr {ρ : Place} {w : World} {l : Loc} {k k' : Blk} (r : BlkR ρ w l k) (h : shrB k k') : BlkR ρ w l k' := by
 rcases h with rfl | ⟨cs, G, rfl, rfl⟩
 ·exact r
 ·refine ⟨by have := r.1; simp at this; omega, r.2.1, fun i hi => ?_⟩
  have h2 := r.2.2 i (by simp; omega)
  rwa [List.getElem_append_left hi] at h2
theorem Sim.shr {ρ : Place} {H H' : Heap} {w : World} (s : Sim ρ H w) (h : Shr H H') : Sim ρ H' w where
 base := s.base
 below := s.below
 os := s.os
 tape := s.tape
 output := s.output
 dom := fun b hb => s.dom b (by rw [← h.n]; exact hb)
 nodup := by rw [shrL_ids h.l]; exact s.nodup
 live := fun e' he' => by
  obtain ⟨e, he, h1, h2⟩ := shrL_mem h.l he'
  obtain ⟨l, hl, hb, hlt, hr⟩ := s.live e he
  exact ⟨l, by rw [← h1]; exact hl, hb, hlt, hr.shr h2⟩
 inj := fun e1 e2 h1 h2 l1 l2 k1 k2 hcb => by
  obtain ⟨a1, ha1, b1, _⟩ := shrL_mem h.l h1
  obtain ⟨a2, ha2, b2, _⟩ := shrL_mem h.l h2
  rw [← b1, ← b2]
  exact s.inj a1 a2 ha1 ha2 l1 l2 (by rw [b1]; exact k1) (by rw [b2]; exact k2) hcb
theorem Step.shr {ρ : Place} {H H' : Heap} {w : World} (s : Sim ρ H w) (h : Shr H H') : Step ρ H w ρ H' w where
 le := Place.le_refl ρ
 size := Nat.le_refl _
 keeps := fun _ _ _ => rfl
 rows := fun e' he' l' hl' => by
  obtain ⟨e, he, h1, _⟩ := shrL_mem h.l he'
  exact .inl ⟨e, he, l', by rw [h1]; exact hl', rfl⟩
 num := Nat.le_of_eq h.n.symm
 low := fun _ _ => rfl
 cold := fun _ h => .inl h
theorem At.shr {b : Base} {s : St} {a : Act} {w : World} {H' : Heap} (h : At b s a w) (k : Shr s.H H') : At b (s.wH H') a w := by
 obtain ⟨ρ, h1, h2, h3, h4⟩ := h
 obtain ⟨ks, vs, ts, sz, H⟩ := s
 exact ⟨ρ, h1.step (Step.shr h2 k), h2.shr k, ⟨h3.1, h3.2⟩, h4.step (Step.shr h2 k)⟩
theorem WpSr.shr {C : Ctx} {n : Nat} {r : Option Nat} {c : Code} {s : St} {Q : Out → St → Prop} {H' : Heap} (k : Shr s.H H') (h : WpSr C n r c (s.wH H') Q) : WpSr C n r c s Q :=
 fun b a w hb ha K hK => h b a w hb (ha.shr k) K hK
def FitS (n : Nat) (σ : List (Nat × Nat)) (Φ : List (Nat × List AV)) (s s' : St) : Prop := ∃ H', Shr s.H H' ∧ Fit n σ Φ (s.wH H') s'
theorem At.fitS {b : Base} {s s' : St} {a : Act} {w : World} {σ : List (Nat × Nat)} {Φ : List (Nat × List AV)} (h : At b s a w) (f : FitS b.n σ Φ s s') : At b s' a w := by
 obtain ⟨H', h1, h2⟩ := f
 exact (h.shr h1).fit h2
theorem Fit.s {n : Nat} {σ : List (Nat × Nat)} {Φ : List (Nat × List AV)} {s s' : St} (h : Fit n σ Φ s s') : FitS n σ Φ s s' := by
 obtain ⟨ks, vs, ts, sz, H⟩ := s
 exact ⟨H, ⟨rfl, shrL_refl _⟩, h⟩
theorem WpSr.fitS {C : Ctx} {n : Nat} {r : Option Nat} {c : Code} {s s' : St} {Q : Out → St → Prop} (σ : List (Nat × Nat)) (Φ : List (Nat × List AV)) (f : FitS n σ Φ s s') (h : WpSr C n r c s' Q) : WpSr C n r c s Q :=
 fun b a w hb ha K hK => h b a w hb (ha.fitS (hb ▸ f)) K hK
section
variable {σ : List (Nat × Nat)} {Φ : List (Nat × List AV)} {ρ : Place} {H H1 : Heap} {w : World}
theorem FitH.step (f : FitH H.n σ Φ H H1) (sm : Sim ρ H w) : Step ρ H w (newPlace H.n σ Φ ρ w sm.below) H1 w where
 le := ⟨fun b l hb => by
  have hlt : b < H.n := by
   rcases Nat.lt_or_ge b H.n with h | h
   ·exact h
   ·rw [sm.dom b h] at hb; cases hb
  show (if b < H.n then ρ b else _) = _
  rw [if_pos hlt]; exact hb, fun k hk => ⟨.inl hk, sm.below k hk⟩, sm.os, sm.tape, sm.output⟩
 size := Nat.le_refl _
 keeps := fun _ _ _ => rfl
 rows := fun e he l hl => by
  obtain ⟨c, k, h1, h2, _⟩ := f.src e he
  rw [newPlace_at f h1] at hl
  exact .inl ⟨_, Heap.get_mem h2, l, hl, rfl⟩
 num := f.num
 low := fun b hb => by
  show (if b < H.n then ρ b else _) = _
  rw [if_pos hb]
 cold := fun k hk => by
  rcases hk with hk | ⟨c, cs, l, h1, h2, rfl⟩
  ·exact .inl hk
  ·obtain ⟨cs0, g1, _⟩ := f.frz _ h1
   exact .inr (.inl ⟨_, Heap.get_mem g1, l, h2, rfl⟩)
theorem CallAt.drop {C : Ctx} {f : FuncId} {args args' : List AV} {v : AV} {H' : Heap} (h : CallAt C f args' H1 v H') (fh : (H.ents.map (·.1)).Nodup → FitH H.n σ Φ H H1) (hf : fitL σ Φ args args') : CallAt C f args H v H' := by
 intro ρ w xs sm hx
 have f := fh sm.nodup
 have hx' : VRs (newPlace H.n σ Φ ρ w sm.below) args' xs := by
  obtain ⟨k1, k2⟩ := fitL_spec hf
  refine ⟨by rw [hx.1, k1], fun i h1 h2 => ?_⟩
  exact Fits.run (f.fits sm) sm _ (Nat.le_refl _) (hx.2 i (by omega) h2) (k2 i (by omega) h1)
 have st := f.step sm
 rcases h _ w xs (f.sim sm (Nat.le_refl _)) hx' with ⟨x, ρ', w', h0, h1, h2, h3⟩ | ⟨g, ys, h0, h1⟩
 ·exact .inl ⟨x, ρ', w', h0, h1, h2, st.trans h3⟩
 ·refine .inr ⟨g, ys, h0, h1.mono ?_⟩
  rintro e w' ⟨x, ρ', rfl, m1, m2, m3⟩
  exact ⟨x, ρ', rfl, m1, m2, st.trans m3⟩
end
structure RgA where
 C : Ctx
 call : CallE
 ops : Array Oper
 bef : Array Nat
 base : Nat
 H0 : Heap
open Classical in
section
variable {A : RgA} {i : Nat} {o : Oper} {r : List Oper} {s s' : St} {ps : List Pend} {v : AV} {H : Heap}
open Classical in
end
structure RgE where
 C : Ctx
 call : CallE
 ops : Array Oper
 bef : Array Nat
 base : Nat
def evE (A : RgE) (i : Nat) (l : List Oper) (s : St) (ps : List Pend) (hs : List (Nat × Heap)) (rs : List Rec) : Option DrawSt := evalD A.C A.call A.ops A.bef A.base i l ⟨s, ps, hs, rs⟩
section
variable {A : RgE} {i : Nat} {o : Oper} {r : List Oper} {s s' : St} {ps : List Pend} {hs : List (Nat × Heap)} {rs : List Rec} {v : AV} {H : Heap}
def putE (A : RgE) (i : Nat) (r : List Oper) (ps : List Pend) (hs : List (Nat × Heap)) (rs : List Rec) : Option St → Option DrawSt
 | none => none
 | some s' => evE A (i + 1) r s' ps hs rs
def putX (A : RgE) (i : Nat) (r : List Oper) (ps : List Pend) (hs : List (Nat × Heap)) (rs : List Rec) : Option St → Option DrawSt
 | none => none
 | some s' => evE A (i + 1) r s' ps ((i, s'.H) :: hs) rs
def valE (A : RgE) (i : Nat) (o : Oper) (r : List Oper) (s : St) (ps : List Pend) (hs : List (Nat × Heap)) (rs : List Rec) : Option (AV × Heap) → Option DrawSt
 | none => none
 | some v => putE A i r ps hs rs (s.put o.dst v.1)
def redE (A : RgE) (i : Nat) (o : Oper) (r : List Oper) (s : St) (ps : List Pend) (hs : List (Nat × Heap)) (rs : List Rec) : Option (AV × Heap) → Option DrawSt
 | none => none
 | some v => putE A i r ps hs (⟨i, o, s, v.1⟩ :: rs) (s.put o.dst v.1)
def actE (A : RgE) (i : Nat) (o : Oper) (r : List Oper) (s : St) (ps : List Pend) (hs : List (Nat × Heap)) (rs : List Rec) : Option (AV × Heap) → Option DrawSt
 | none => none
 | some v => putX A i r (unwantedBy A.bef i ps) hs rs (St.put (s.wH v.2) o.dst v.1)
def layE (A : RgE) (i : Nat) (o : Oper) (r : List Oper) (s : St) (ps : List Pend) (hs : List (Nat × Heap)) (rs : List Rec) : Option ((Nat → AV) × Blk) → Option DrawSt
 | none => none
 | some k => putE A i r (⟨i, A.base + i, k.2⟩ :: ps) hs rs (s.put o.dst (k.1 (A.base + i)))
def clsE (A : RgE) (i : Nat) (o : Oper) (r : List Oper) (s : St) (ps : List Pend) (hs : List (Nat × Heap)) (rs : List Rec) : Cls → Option DrawSt
 | .allocs => layE A i o r s ps hs rs (mkBlk A.C o s)
 | .acts => actE A i o r s ps hs rs (evalVal A.C A.call o (s.wH (s.H.lay (wantedBy A.bef i ps))))
 | .reads => redE A i o r s ps hs rs (evalVal A.C A.call o s)
 | .pure => valE A i o r s ps hs rs (evalVal A.C A.call o s)
def clsF (A : RgE) (i : Nat) (o : Oper) (r : List Oper) (ps : List Pend) (hs : List (Nat × Heap)) (rs : List Rec) : Cls → Option St → Option DrawSt
 | _, none => none
 | .acts, some s' => evE A (i + 1) r (s'.wH (s'.H.lay (wantedBy A.bef i ps))) (unwantedBy A.bef i ps) ((i, s'.H.lay (wantedBy A.bef i ps)) :: hs) rs
 | .allocs, some s' => evE A (i + 1) r s' ps hs rs
 | .reads, some s' => evE A (i + 1) r s' ps hs rs
 | .pure, some s' => evE A (i + 1) r s' ps hs rs
def gateE (A : RgE) (i : Nat) (o : Oper) (r : List Oper) (s : St) (ps : List Pend) (hs : List (Nat × Heap)) (rs : List Rec) : Option Bool → Option DrawSt
 | none => none
 | some false => clsF A i o r ps hs rs (clsOf o.op) (s.put o.dst (.tup []))
 | some true => clsE A i o r s ps hs rs (clsOf o.op)
theorem evE_n : evE A i [] s ps hs rs = some ⟨s, ps, hs, rs⟩ := rfl
theorem evE_c : evE A i (o :: r) s ps hs rs = gateE A i o r s ps hs rs (guardA A.ops s o) := by
 show (stepD A.C A.call A.ops A.bef A.base i o ⟨s, ps, hs, rs⟩).bind (fun d => evalD A.C A.call A.ops A.bef A.base (Nat.succ i) r d) = _
 cases hg : guardA A.ops s o with
 | none => unfold stepD; simp only [hg, gateE]; rfl
 | some g =>
  cases g with
  | false =>
   simp only [gateE]
   unfold stepD
   simp only [hg, Option.bind_some]
   cases s.put o.dst (.tup []) with
   | none => cases clsOf o.op <;> rfl
   | some s' => cases clsOf o.op <;> rfl
  | true =>
   simp only [gateE]
   unfold stepD
   simp only [hg, Option.bind_some]
   cases hc : clsOf o.op with
   | allocs =>
    simp only [clsE]
    cases mkBlk A.C o s with
    | none => rfl
    | some k =>
     simp only [Option.bind_some, layE]
     cases s.put o.dst (k.1 (A.base + i)) <;> rfl
   | acts =>
    simp only [clsE]
    cases evalVal A.C A.call o (s.wH (s.H.lay (wantedBy A.bef i ps))) with
    | none => rfl
    | some v =>
     simp only [Option.bind_some, actE]
     cases St.put (s.wH v.2) o.dst v.1 <;> rfl
   | reads =>
    simp only [clsE]
    cases evalVal A.C A.call o s with
    | none => rfl
    | some v =>
     simp only [Option.bind_some, redE]
     cases s.put o.dst v.1 <;> rfl
   | pure =>
    simp only [clsE]
    cases evalVal A.C A.call o s with
    | none => rfl
    | some v =>
     simp only [Option.bind_some, valE]
     cases s.put o.dst v.1 <;> rfl
theorem putE_s : putE A i r ps hs rs (some s') = evE A (i + 1) r s' ps hs rs := rfl
theorem putX_s : putX A i r ps hs rs (some s') = evE A (i + 1) r s' ps ((i, s'.H) :: hs) rs := rfl
theorem valE_s : valE A i o r s ps hs rs (some (v, H)) = putE A i r ps hs rs (s.put o.dst v) := rfl
theorem redE_s : redE A i o r s ps hs rs (some (v, H)) = putE A i r ps hs (⟨i, o, s, v⟩ :: rs) (s.put o.dst v) := rfl
theorem actE_s : actE A i o r s ps hs rs (some (v, H)) = putX A i r (unwantedBy A.bef i ps) hs rs (St.put (s.wH H) o.dst v) := rfl
theorem layE_s {k : (Nat → AV) × Blk} : layE A i o r s ps hs rs (some k) = putE A i r (⟨i, A.base + i, k.2⟩ :: ps) hs rs (s.put o.dst (k.1 (A.base + i))) := rfl
theorem gateE_t : gateE A i o r s ps hs rs (some true) = clsE A i o r s ps hs rs (clsOf o.op) := rfl
theorem clsF_a : clsF A i o r ps hs rs .acts (some s') = evE A (i + 1) r (s'.wH (s'.H.lay (wantedBy A.bef i ps))) (unwantedBy A.bef i ps) ((i, s'.H.lay (wantedBy A.bef i ps)) :: hs) rs := rfl
theorem clsF_l : clsF A i o r ps hs rs .allocs (some s') = evE A (i + 1) r s' ps hs rs := rfl
theorem clsF_r : clsF A i o r ps hs rs .reads (some s') = evE A (i + 1) r s' ps hs rs := rfl
theorem clsF_p : clsF A i o r ps hs rs .pure (some s') = evE A (i + 1) r s' ps hs rs := rfl
theorem gateE_f : gateE A i o r s ps hs rs (some false) = clsF A i o r ps hs rs (clsOf o.op) (s.put o.dst (.tup [])) := rfl
theorem clsE_l : clsE A i o r s ps hs rs .allocs = layE A i o r s ps hs rs (mkBlk A.C o s) := rfl
theorem clsE_a : clsE A i o r s ps hs rs .acts = actE A i o r s ps hs rs (evalVal A.C A.call o (s.wH (s.H.lay (wantedBy A.bef i ps)))) := rfl
theorem clsE_p : clsE A i o r s ps hs rs .pure = valE A i o r s ps hs rs (evalVal A.C A.call o s) := rfl
theorem clsE_r : clsE A i o r s ps hs rs .reads = redE A i o r s ps hs rs (evalVal A.C A.call o s) := rfl
end
theorem drawE {C : Ctx} {call : CallE} {ops : Array Oper} {s : St} {E : Option DrawSt} {P : DrawSt → Prop} (B : Array Nat)
  (h : evE ⟨C, call, ops, B, s.H.n⟩ 0 ops.toList (reserve (freshenAll ops.toList { s with ts := [] }) ops.size) [] [] [] = E) (k : ∃ d, E = some d ∧ P d) :
  ∃ d, evalD C call ops B s.H.n 0 ops.toList ⟨reserve (freshenAll ops.toList { s with ts := [] }) ops.size, [], [], []⟩ = some d ∧ P d := by
 subst h
 exact k
theorem CallAt.post {C : Ctx} {f : FuncId} {args : List AV} {v v' : AV} {H H1 H' : Heap} {σ : List (Nat × Nat)} {Φ : List (Nat × List AV)} (h : CallAt C f args H v H1) (fv : fitV σ Φ v v') (fh : FitH H.n σ Φ H1 H') : CallAt C f args H v' H' := by
 intro ρ w xs sm hx
 have dn : ∀ {x : Value} {ρ' : Place} {w' : World}, VR ρ' v x → Sim ρ' H1 w' → Step ρ H w ρ' H1 w' → ∃ ρ'', VR ρ'' v' x ∧ Sim ρ'' H' w' ∧ Step ρ H w ρ'' H' w' := fun {x ρ' w'} h1 h2 h3 => by
  have at_low : ∀ b, b < H.n → (newPlace H.n σ Φ ρ' w' h2.below) b = ρ b := fun b hb => by
   show (if b < H.n then ρ' b else _) = _
   rw [if_pos hb]; exact h3.low b hb
  refine ⟨newPlace H.n σ Φ ρ' w' h2.below, Fits.run (fh.fits h2) h2 _ (Nat.le_refl _) h1 fv, fh.sim h2 h3.num, ⟨⟨fun b l hb => ?_, fun k hk => ?_, ?_, ?_, ?_⟩, h3.size, h3.keeps, fun e he l hl => ?_, fh.num, at_low, fun k hk => ?_⟩⟩
  ·have hlt : b < H.n := by
    rcases Nat.lt_or_ge b H.n with hq | hq
    ·exact hq
    ·rw [sm.dom b hq] at hb; cases hb
   rw [at_low b hlt]; exact hb
  ·obtain ⟨g1, g2⟩ := h3.le.fz k hk
   exact ⟨.inl g1, (h2.below k g1).trans g2⟩
  ·exact h2.os.trans h3.le.os
  ·exact h2.tape.trans h3.le.tape
  ·exact h2.output.trans h3.le.output
  ·obtain ⟨c, k, g1, g2, _⟩ := fh.src e he
   rw [newPlace_at fh g1] at hl
   exact h3.rows _ (Heap.get_mem g2) l hl
  ·rcases hk with hk | ⟨b, cs, l, m1, m2, rfl⟩
   ·exact h3.cold k hk
   ·obtain ⟨cs0, g1, _⟩ := fh.frz _ m1
    rcases h3.rows _ (Heap.get_mem g1) l m2 with ⟨e, he, l0, q1, q2⟩ | hge
    ·exact .inr (.inl ⟨e, he, l0, q1, q2⟩)
    ·exact .inr (.inr hge)
 rcases h ρ w xs sm hx with ⟨x, ρ', w', h0, h1, h2, h3⟩ | ⟨g, ys, h0, h1⟩
 ·obtain ⟨ρ'', k1, k2, k3⟩ := dn h1 h2 h3
  exact .inl ⟨x, ρ'', w', h0, k1, k2, k3⟩
 ·refine .inr ⟨g, ys, h0, h1.mono ?_⟩
  rintro e w' ⟨x, ρ', rfl, m1, m2, m3⟩
  obtain ⟨ρ'', k1, k2, k3⟩ := dn m1 m2 m3
  exact ⟨x, ρ'', rfl, k1, k2, k3⟩
end
end Go.Proofs.YtfgdcciaecajpaaGreatDoor