/- Slices that a function owns: their elements, what is appended, what is new. No condition. -/
import Derived.Test.YtpkplilgjdbhhaaF5
namespace Go.Proofs.Ytpkplilgjdbhhaa
set_option linter.unusedSimpArgs false
set_option linter.unusedVariables false
open Go Go.RowKit

theorem subL_app {α : Type} {a b c : List α} {o n : Nat} (h1 : a.length = o) (h2 : b.length = n) : subL o n (a ++ b ++ c) = some b := by
  subst h1; subst h2
  unfold subL
  rw [List.append_assoc, List.drop_left, takeL_front (by simp), List.take_left]
theorem overL_app {α : Type} : ∀ {b b' c : List α}, b.length = b'.length → overL b' (b ++ c) = some (b' ++ c)
  | [], [], c, _ => rfl
  | x :: b, y :: b', c, h => by
    simp only [overL, List.cons_append]
    rw [overL_app (by simpa using h)]; rfl
  | [], _ :: _, _, h => by simp at h
  | _ :: _, [], _, h => by simp at h
theorem layL_app {α : Type} {b b' c : List α} (h : b.length = b'.length) : ∀ {a : List α}, layL b' a.length (a ++ b ++ c) = some (a ++ b' ++ c)
  | [] => by simpa [layL] using overL_app h
  | x :: a => by
    simp only [List.length_cons, layL, List.cons_append]
    rw [layL_app h]; rfl
theorem flat_append (a b : List AV) : flatAV (a ++ b) = flatAV a ++ flatAV b := by
  induction a with
  | nil => rfl
  | cons x r ih => simp [flatAV, ih]
theorem flat_split {es : List AV} {i : Nat} (h : i < es.length) : flatAV es = flatAV (es.take i) ++ es[i].cells ++ flatAV (es.drop (i + 1)) := by
  have e : es = es.take i ++ (es[i] :: es.drop (i + 1)) := by rw [← List.drop_eq_getElem_cons h, List.take_append_drop]
  conv => lhs; rw [e]
  rw [flat_append, flatAV, List.append_assoc]
theorem Elems.take {sz : Nat} {es : List AV} (h : Elems sz es) (i : Nat) : Elems sz (es.take i) := ⟨h.sz0, fun e he => h.all e (List.mem_of_mem_take he)⟩
theorem Elems.drop {sz : Nat} {es : List AV} (h : Elems sz es) (i : Nat) : Elems sz (es.drop i) := ⟨h.sz0, fun e he => h.all e (List.mem_of_mem_drop he)⟩
theorem Elems.len {sz : Nat} {es : List AV} (h : Elems sz es) : (flatAV es).length = es.length * sz := flat_len fun e he => (h.all e he).1
theorem Elems.pure {sz : Nat} {es : List AV} (h : Elems sz es) : pureL (flatAV es) = true := flat_pure fun e he => (h.all e he).2.1
theorem Elems.size {sz : Nat} {es : List AV} (h : Elems sz es) : allSize sz es = true := allSize_of fun e he => (h.all e he).1
theorem Elems.append {sz : Nat} {a b : List AV} (h : Elems sz a) (k : Elems sz b) : Elems sz (a ++ b) := ⟨h.sz0, fun e he => (List.mem_append.1 he).elim (h.all e) (k.all e)⟩
/-- the cells of an element -/
theorem sub_at {sz : Nat} {es : List AV} (h : Elems sz es) {i : Nat} (hi : i < es.length) : subL (i * sz) sz (flatAV es) = some es[i].cells := by
  rw [flat_split hi]
  refine subL_app ?_ (h.all _ (List.getElem_mem hi)).1
  rw [(h.take i).len, List.length_take, Nat.min_eq_left (by omega)]
theorem lay_at {sz : Nat} {es : List AV} (h : Elems sz es) {i : Nat} (hi : i < es.length) {e : AV} (he : e.cells.length = sz) : layL e.cells (i * sz) (flatAV es) = some (flatAV (es.set i e)) := by
  rw [flat_split hi]
  have h1 : (flatAV (es.take i)).length = i * sz := by rw [(h.take i).len, List.length_take, Nat.min_eq_left (by omega)]
  have h2 : es[i].cells.length = e.cells.length := by rw [he]; exact (h.all _ (List.getElem_mem hi)).1
  rw [← h1, layL_app h2, List.set_eq_take_append_cons_drop, if_pos hi, flat_append, flatAV, List.append_assoc]
/-- one cell of an element -/
theorem lay_cell {sz : Nat} {es : List AV} (h : Elems sz es) {i : Nat} (hi : i < es.length) {p q : List AV} {x v : AV} (he : es[i].cells = p ++ x :: q) : layL [v] (i * sz + p.length) (flatAV es) = some (flatAV (es.set i (.agg (p ++ v :: q)))) := by
  rw [flat_split hi, he]
  have h1 : (flatAV (es.take i)).length = i * sz := by rw [(h.take i).len, List.length_take, Nat.min_eq_left (by omega)]
  have e1 : flatAV (es.take i) ++ (p ++ x :: q) ++ flatAV (es.drop (i + 1)) = (flatAV (es.take i) ++ p) ++ [x] ++ (q ++ flatAV (es.drop (i + 1))) := by simp
  have e2 : i * sz + p.length = (flatAV (es.take i) ++ p).length := by simp [h1]
  rw [e1, e2, layL_app (by simp), List.set_eq_take_append_cons_drop, if_pos hi, flat_append, flatAV]
  simp
theorem allSingle_append {a b : List AV} : allSingle (a ++ b) = (allSingle a && allSingle b) := by
  induction a with
  | nil => simp [allSingle]
  | cons x r ih => cases h : x.single <;> simp [allSingle, h, ih]
/-- the elements from i on are written anew -/
theorem lay_end {sz : Nat} {es : List AV} (h : Elems sz es) {i : Nat} (hi : i ≤ es.length) {l : List AV} (hl : l.length = (es.length - i) * sz) : layL l (i * sz) (flatAV es) = some (flatAV (es.take i) ++ l) := by
  have e : flatAV es = flatAV (es.take i) ++ flatAV (es.drop i) ++ [] := by rw [List.append_nil, ← flat_append, List.take_append_drop]
  have h1 : (flatAV (es.take i)).length = i * sz := by rw [(h.take i).len, List.length_take, Nat.min_eq_left hi]
  rw [e, ← h1, layL_app (by rw [(h.drop i).len, hl, List.length_drop]), List.append_nil]
theorem replL_len {z : List AV} : ∀ (n : Nat), (replL z n).length = n * z.length
  | 0 => by simp [replL]
  | n + 1 => by simp only [replL, List.length_append, replL_len n]; rw [Nat.add_mul]; omega
theorem replL_single {z : List AV} (h : allSingle z = true) : ∀ (n : Nat), allSingle (replL z n) = true
  | 0 => rfl
  | n + 1 => by simp only [replL, allSingle_append, h, replL_single h n]; rfl
theorem sub_pre {sz : Nat} {es : List AV} (h : Elems sz es) {k : Nat} (hk : k ≤ es.length) : subL 0 (k * sz) (flatAV es) = some (flatAV (es.take k)) := by
  have e : flatAV es = [] ++ flatAV (es.take k) ++ flatAV (es.drop k) := by rw [List.nil_append, ← flat_append, List.take_append_drop]
  rw [e]
  exact subL_app rfl (by rw [(h.take k).len, List.length_take, Nat.min_eq_left hk])
theorem Elems.map {α : Type} {f : α → AV} {sz : Nat} (h0 : sz ≠ 0) (h : ∀ x, (f x).cells.length = sz ∧ pureL (f x).cells = true ∧ (sz = 1 → (f x).cells = [f x]) ∧ (sz ≠ 1 → ∃ cs, f x = .agg cs)) (l : List α) : Elems sz (l.map f) :=
  ⟨h0, fun e he => by obtain ⟨x, _, rfl⟩ := List.mem_map.1 he; exact h x⟩

/-! ### A slice that grows: without memory as long as it is empty -/
def ownV (b sz : Nat) (es : List AV) : AV := match es with
  | [] => .zslc
  | _ :: _ => .slc b 0 es.length (.rest sz)
def ownF (b : Nat) (es : List AV) : List (Nat × Blk) := match es with
  | [] => []
  | _ :: _ => [(b, .cells (flatAV es))]
/-- the heap behind it -/
def ownH (H : Heap) (es : List AV) : Heap := match es with
  | [] => H
  | _ :: _ => H.new (.cells (flatAV es))
theorem ownF_drop {b : Nat} {es : List AV} {f g : List (Nat × Blk)} {n : Nat} {fs : List (List (Nat × Blk))} (h : ∀ e, e ∈ f ++ g → e.1 ≠ b) (h2 : ∀ e, e ∈ fs.flatten → e.1 ≠ b) : Heap.drop ⟨n, (f ++ (ownF b es ++ g)) :: fs⟩ b = ⟨n, (f ++ g) :: fs⟩ := by
  have miss : ∀ (l : List (Nat × Blk)), (∀ e, e ∈ l → e.1 ≠ b) → getF b l = none := by
    intro l
    induction l with
    | nil => intro _; rfl
    | cons e r ih =>
      intro h
      unfold getF
      rw [beqN_ne (h e (by simp))]; exact ih fun x hx => h x (by simp [hx])
  have stay : ∀ (l : List (Nat × Blk)), (∀ e, e ∈ l → e.1 ≠ b) → killF b l = l := by
    intro l
    induction l with
    | nil => intro _; rfl
    | cons e r ih =>
      intro h
      unfold killF
      rw [beqN_ne (h e (by simp))]
      simp only
      rw [ih fun x hx => h x (by simp [hx])]
  have stayF : ∀ (l : List (List (Nat × Blk))), (∀ e, e ∈ l.flatten → e.1 ≠ b) → killFs b l = l := by
    intro l
    induction l with
    | nil => intro _; rfl
    | cons f r ih =>
      intro h
      unfold killFs
      rw [miss f fun e he => h e (by simp [he])]
      simp only
      rw [ih fun e he => h e (by rw [List.flatten_cons]; exact List.mem_append_right _ he)]
  unfold Heap.drop
  simp only
  congr 1
  cases es with
  | nil =>
    simp only [ownF, List.nil_append]
    rw [stayF]
    intro e he
    rw [List.flatten_cons] at he
    exact (List.mem_append.1 he).elim (h e) (h2 e)
  | cons x r =>
    have hit : ∀ (l : List (Nat × Blk)), (∀ e, e ∈ l → e.1 ≠ b) → ∀ k, getF b (l ++ ((b, k) :: g)) = some k ∧ killF b (l ++ ((b, k) :: g)) = l ++ g := by
      intro l
      induction l with
      | nil => intro _ k; simp [getF, killF]
      | cons e r ih =>
        intro h k
        obtain ⟨i1, i2⟩ := ih (fun x hx => h x (by simp [hx])) k
        simp only [List.cons_append]
        unfold getF killF
        rw [beqN_ne (h e (by simp))]
        exact ⟨i1, by simp [i2]⟩
    obtain ⟨i1, i2⟩ := hit f (fun e he => h e (List.mem_append_left _ he)) (.cells (flatAV (x :: r)))
    simp only [ownF, List.cons_append, List.nil_append]
    unfold killFs
    rw [i1]
    simp only [i2]
theorem ownV_ne {b sz : Nat} {es : List AV} (h : es ≠ []) : ownV b sz es = .slc b 0 es.length (.rest sz) := by cases es <;> first | exact absurd rfl h | rfl
theorem ownF_ne {b : Nat} {es : List AV} (h : es ≠ []) : ownF b es = [(b, .cells (flatAV es))] := by cases es <;> first | exact absurd rfl h | rfl
/-- append to it: a new block -/
theorem own_append {P : Program} {H : Heap} {elem : TypeId} {b sz by_ n : Nat} {es cs : List AV} {x z : AV} (hsz : sizeT P elem = some sz) (hby : bytesT P elem = some by_) (hz : zeroOf P elem = some z) (hzl : z.cells.length = sz) (h0 : sz ≠ 0) (hb0 : by_ ≠ 0)
    (hx : srcLen x = some (n + 1)) (hc : srcCells H sz (n + 1) x = some cs) (hcl : cs.length = (n + 1) * sz) (hcs : allSingle cs = true) (he : Elems sz es) (hroom : (es.length + (n + 1)) * by_ ≤ 17592186044416)
    (hb : es ≠ [] → H.get b = some (.cells (flatAV es))) (hd : es = [] → H.drop b = H) :
    appendA P H elem (ownV b sz es) x = some (.slc H.n 0 (es.length + (n + 1)) (.rest sz), (H.drop b).new (.cells (flatAV es ++ cs))) := by
  have c0 : (Nat.beq sz 0 || !(Nat.beq z.cells.length sz && Nat.blt 0 by_)) = false := by
    have h1 : Nat.beq sz 0 = false := beqN_ne h0
    have h2 : Nat.blt 0 by_ = true := by simp; omega
    rw [h1, hzl, Nat.beq_refl, h2]; rfl
  have hr : roomOK (es.length + (n + 1)) by_ = true := by unfold roomOK; rw [Nat.ble_eq]; exact hroom
  have hcb : Nat.beq cs.length ((n + 1) * sz) = true := by rw [hcl]; exact Nat.beq_refl _
  unfold appendA
  simp only [hsz, hby, hz, hx, Option.bind_some, c0]
  cases es with
  | nil =>
    simp only [ownV]
    simp only [List.length_nil, Nat.zero_add] at hr
    simp only [hr, hc, Option.bind_some, hcb, hd rfl, flatAV, List.nil_append, List.length_nil, Nat.zero_add]
  | cons e r =>
    have hg := hb (by simp)
    have hl : (flatAV (e :: r)).length = (e :: r).length * sz := he.len
    simp only [ownV, hc, Option.bind_some, hr, hcs]
    have h1 : Nat.beq sz sz = true := Nat.beq_refl _
    have hk : knownCells H b = some ((e :: r).length * sz) := by unfold knownCells; simp only [hg, Option.bind_some, hl]
    have h2 : Nat.ble (0 + ((e :: r).length + (n + 1)) * sz) ((e :: r).length * sz) = false := by
      rw [← Bool.not_eq_true, Nat.ble_eq, Nat.add_mul]
      have : 0 < (n + 1) * sz := Nat.mul_pos (by omega) (by omega)
      omega
    have h3 : Nat.beq (0 + (e :: r).length * sz) ((e :: r).length * sz) = true := by rw [Nat.zero_add]; exact Nat.beq_refl _
    have h4 : readCells H b 0 ((e :: r).length * sz) = some (flatAV (e :: r)) := by
      unfold readCells
      simp only [hg, Option.bind_some]
      unfold subL
      rw [List.drop_zero, ← hl, takeL_all]
    simp only [h1, hk, Option.bind_some, h2, h3, hcb, h4]

/-- one element more -/
theorem own_app1 {P : Program} {elem : TypeId} {b sz by_ t m : Nat} {es cs : List AV} {z : AV} {g : List (Nat × Blk)} {fs : List (List (Nat × Blk))} (hsz : sizeT P elem = some sz) (hby : bytesT P elem = some by_) (hz : zeroOf P elem = some z) (hzl : z.cells.length = sz)
    (h0 : sz ≠ 0) (hb0 : by_ ≠ 0) (hcl : cs.length = sz) (hcs : allSingle cs = true) (he : Elems sz es) (hroom : (es.length + 1) * by_ ≤ 17592186044416) (htb : t ≠ b) (hg : ∀ e, e ∈ g → e.1 ≠ b) (hfs : ∀ e, e ∈ fs.flatten → e.1 ≠ b) :
    appendA P ⟨m, ((t, .cells cs) :: (ownF b es ++ g)) :: fs⟩ elem (ownV b sz es) (.slc t 0 1 (.ex 1)) = some (.slc m 0 (es.length + 1) (.rest sz), ⟨m + 1, ((m, .cells (flatAV es ++ cs)) :: (t, .cells cs) :: g) :: fs⟩) := by
  have hd := ownF_drop (b := b) (es := es) (f := [(t, .cells cs)]) (g := g) (n := m) (fs := fs) (fun e he => by
    rcases List.mem_append.1 he with he | he
    · simp at he; subst he; exact htb
    · exact hg e he) hfs
  simp only [List.cons_append, List.nil_append] at hd
  have hsub : subL 0 sz cs = some cs := by
    have := takeL_all cs
    rw [hcl] at this
    unfold subL; rw [List.drop_zero]; exact this
  have := own_append (P := P) (H := ⟨m, ((t, .cells cs) :: (ownF b es ++ g)) :: fs⟩) (elem := elem) (b := b) (n := 0) (es := es) (x := .slc t 0 1 (.ex 1)) (cs := cs) hsz hby hz hzl h0 hb0 rfl
    (by simp [srcCells, readCells, Heap.get, getFs, getF, hsub]) (by simpa using hcl) hcs he (by simpa using hroom)
    (fun hne => by rw [ownF_ne hne]; simp [Heap.get, getFs, getF, beqN_ne htb]) (fun hes => by subst hes; simpa [ownF] using hd)
  rw [hd] at this
  simpa [Heap.new, pushF] using this
/-! ### What a function makes anew -/
theorem CallAt.new {C : Ctx} {f : FuncId} {args : List AV} {len : Nat} {cap : Cap} {cs : List AV} (h : CallAt C f args ⟨0, []⟩ (.slc 0 0 len cap) ⟨1, [[(0, .cells cs)]]⟩) (hp : pureL args = true) (hc : pureL cs = true) (H : Heap) :
    CallAt C f args H (.slc H.n 0 len cap) (H.new (.cells cs)) := by
  intro ρ w xs sm hx
  have up : ∀ {x : Value} {ρ' : Place} {w' : World}, VR ρ' (.slc 0 0 len cap) x → Sim ρ' ⟨1, [[(0, .cells cs)]]⟩ w' → Step ρ.bare ⟨0, []⟩ w ρ' ⟨1, [[(0, .cells cs)]]⟩ w' →
      ∃ ρ'', VR ρ'' (.slc H.n 0 len cap) x ∧ Sim ρ'' (H.new (.cells cs)) w' ∧ Step ρ H w ρ'' (H.new (.cells cs)) w' := by
    intro x ρ' w' h1 h2 h3
    obtain ⟨l, l1, l2, l3, l4⟩ := h2.live (0, .cells cs) (by simp [Heap.ents])
    simp only at l1
    have hrow : w.heap.size ≤ l.cb := by
      rcases h3.rows (0, .cells cs) (by simp [Heap.ents]) l l1 with ⟨e, he, _⟩ | h
      · cases he
      · exact h
    have hkeep : ∀ k, k < w.heap.size → w'.heap[k]? = w.heap[k]? := fun k hk => h3.keeps k hk fun e he => by cases he
    have hle : ρ.le { ρ' with at_ := fun b => if b = H.n then some l else ρ b } := ⟨fun b m hb => by
      show (if b = H.n then some l else ρ b) = some m
      rw [if_neg (fun e => by subst e; rw [sm.dom _ (Nat.le_refl _)] at hb; cases hb)]; exact hb, h3.le.fz, h3.le.os, h3.le.tape, h3.le.output⟩
    have hat : (({ ρ' with at_ := fun b => if b = H.n then some l else ρ b } : Place)) H.n = some l := if_pos rfl
    have hother : ∀ b, b ≠ H.n → (({ ρ' with at_ := fun b => if b = H.n then some l else ρ b } : Place)) b = ρ b := fun b hb => if_neg hb
    have hid : ∀ e, e ∈ H.ents → e.1 ≠ H.n := fun e he => by have := sm.id_lt he; omega
    refine ⟨{ ρ' with at_ := fun b => if b = H.n then some l else ρ b }, ?_, ⟨h2.base, h2.below, h2.os, h2.tape, h2.output, fun b hb => ?_, ?_, fun e he => ?_, fun e e' he he' m m' hm hm' hcb => ?_⟩,
      ⟨hle, h3.size, fun k hk _ => hkeep k hk, fun e he m hm => ?_, Nat.le_succ _, fun b hb => hother b (by omega), fun k hk => ?_⟩⟩
    · cases h1 with
      | slcE b o len' c l' hl' hcap => rw [l1] at hl'; cases hl'; exact .slcE _ _ _ c l hat hcap
      | slcR b o len' sz c l' hl' hcap hfin => rw [l1] at hl'; cases hl'; exact .slcR _ _ _ _ c l hat hcap hfin
    · have hb' : H.n + 1 ≤ b := hb
      rw [hother b (by omega)]; exact sm.dom b (by omega)
    · rw [Heap.new_ents, List.map_cons, List.nodup_cons]
      exact ⟨fun hm => by obtain ⟨e, he, hx⟩ := List.mem_map.1 hm; exact hid e he hx, sm.nodup⟩
    · rw [Heap.new_ents] at he
      rcases List.mem_cons.1 he with rfl | he
      · refine ⟨l, hat, l2, l3, l4.1, l4.2.1, fun i hi => ?_⟩
        obtain ⟨y, hy, hv⟩ := l4.2.2 i hi
        have hbl : ρ'.bare.le { ρ' with at_ := fun b => if b = H.n then some l else ρ b } := ⟨fun _ _ h => (by simp [Place.bare] at h), fun _ hk => ⟨hk, rfl⟩, rfl, rfl, rfl⟩
        exact ⟨y, hy, (hv.pure (pureL_get hc i hi)).mono hbl⟩
      · obtain ⟨m, g1, g2, g3, g4⟩ := sm.live e he
        refine ⟨m, by rw [hother _ (hid e he)]; exact g1, fun hB => ?_, Nat.lt_of_lt_of_le g3 h3.size, (g4.same (hkeep _ g3)).mono hle⟩
        rcases h3.cold _ hB with h | ⟨e, he, _⟩ | h
        · exact g2 h
        · cases he
        · omega
    · rw [Heap.new_ents] at he he'
      rcases List.mem_cons.1 he with rfl | he <;> rcases List.mem_cons.1 he' with rfl | he'
      · rfl
      · rw [hat] at hm; cases hm
        rw [hother _ (hid e' he')] at hm'
        obtain ⟨q, g1, _, g3, _⟩ := sm.live e' he'
        rw [hm'] at g1; cases g1
        omega
      · rw [hat] at hm'; cases hm'
        rw [hother _ (hid e he)] at hm
        obtain ⟨q, g1, _, g3, _⟩ := sm.live e he
        rw [hm] at g1; cases g1
        omega
      · rw [hother _ (hid e he)] at hm
        rw [hother _ (hid e' he')] at hm'
        exact sm.inj e e' he he' m m' hm hm' hcb
    · rw [Heap.new_ents] at he
      rcases List.mem_cons.1 he with rfl | he
      · rw [hat] at hm; cases hm; exact .inr hrow
      · rw [hother _ (hid e he)] at hm; exact .inl ⟨e, he, m, hm, rfl⟩
    · rcases h3.cold _ hk with h | ⟨e, he, _⟩ | h
      · exact .inl h
      · cases he
      · exact .inr (.inr h)
  rcases h ρ.bare w xs sm.bare (hx.pure hp) with ⟨x, ρ', w', h0, h1, h2, h3⟩ | ⟨g, ys, h0, h1⟩
  · obtain ⟨ρ'', k1, k2, k3⟩ := up h1 h2 h3
    exact .inl ⟨x, ρ'', w', h0, k1, k2, k3⟩
  · refine .inr ⟨g, ys, h0, h1.mono ?_⟩
    rintro e w' ⟨x, ρ', rfl, m1, m2, m3⟩
    obtain ⟨ρ'', k1, k2, k3⟩ := up m1 m2 m3
    exact ⟨x, ρ'', rfl, k1, k2, k3⟩
/-- a function that makes a slice of elements anew (one without memory, if there are none) -/
theorem CallAt.own {C : Ctx} {f : FuncId} {args : List AV} {sz : Nat} {es : List AV} (he : Elems sz es) (h : CallAt C f args ⟨0, []⟩ (ownV 0 sz es) ⟨1, [ownF 0 es]⟩) (hp : pureL args = true) (H : Heap) :
    CallAt C f args H (ownV H.n sz es) (ownH H es) := by
  cases es with
  | nil =>
    have h' : CallAt C f args ⟨0, []⟩ .zslc ⟨0, []⟩ := by
      intro ρ w xs sm hx
      have dn : ∀ {x : Value} {ρ' : Place} {w' : World}, VR ρ' .zslc x → Sim ρ' ⟨1, [[]]⟩ w' → Step ρ ⟨0, []⟩ w ρ' ⟨1, [[]]⟩ w' → ∃ ρ'', VR ρ'' .zslc x ∧ Sim ρ'' ⟨0, []⟩ w' ∧ Step ρ ⟨0, []⟩ w ρ'' ⟨0, []⟩ w' := fun {x ρ' w'} h1 h2 h3 => by
        have hd : ∀ b, ρ b = none := fun b => sm.dom b (Nat.zero_le _)
        refine ⟨ρ'.bare, h1.pure rfl, h2.bare, ⟨⟨fun b l hb => (by rw [hd b] at hb; cases hb), h3.le.fz, h3.le.os, h3.le.tape, h3.le.output⟩, h3.size, h3.keeps, fun e he => (by cases he), Nat.le_refl _, fun b hb => absurd hb (Nat.not_lt_zero b), h3.cold⟩⟩
      rcases h ρ w xs sm hx with ⟨x, ρ', w', h0, h1, h2, h3⟩ | ⟨g, ys, h0, h1⟩
      · obtain ⟨ρ'', k1, k2, k3⟩ := dn h1 h2 h3
        exact .inl ⟨x, ρ'', w', h0, k1, k2, k3⟩
      · refine .inr ⟨g, ys, h0, h1.mono ?_⟩
        rintro e w' ⟨x, ρ', rfl, m1, m2, m3⟩
        obtain ⟨ρ'', k1, k2, k3⟩ := dn m1 m2 m3
        exact ⟨x, ρ'', rfl, k1, k2, k3⟩
    exact h'.lift hp H
  | cons e r => exact CallAt.new h hp he.pure H
/-- one block stays -/
theorem FitH.keep1 {H : Heap} {b : Nat} {cs : List AV} (h : H.get b = some (.cells cs)) (hp : pureL cs = true) {fs : List (List (Nat × Blk))} (hfs : fs.flatten = [(0, .cells cs)]) : FitH 0 [(b, 0)] [] H ⟨1, fs⟩ where
  nd1 := by simp
  nd2 := by simp
  nd3 := by simp [Heap.ents, hfs]
  lt := fun x hx => by simp at hx; subst hx; exact Nat.zero_lt_one
  idn := fun x hx h => by rcases h with h | h <;> exact absurd h (Nat.not_lt_zero _)
  num := Nat.zero_le _
  src := fun e he => by
    have he' : e ∈ fs.flatten := he
    rw [hfs] at he'
    simp at he'
    subst he'
    exact ⟨b, .cells cs, by simp, h, fitL_pure hp⟩
  frz := fun x hx => by cases hx
theorem FitH.keep0 {H : Heap} {m : Nat} {fs : List (List (Nat × Blk))} (hfs : fs.flatten = []) : FitH 0 [] [] H ⟨m, fs⟩ where
  nd1 := List.nodup_nil
  nd2 := List.nodup_nil
  nd3 := by simp [Heap.ents, hfs]
  lt := fun x h => by cases h
  idn := fun x h => by cases h
  num := Nat.zero_le _
  src := fun e he => by
    have he' : e ∈ fs.flatten := he
    rw [hfs] at he'; cases he'
  frz := fun x h => by cases h
/-- some blocks stay as they are -/
theorem FitH.same {n : Nat} {σ : List (Nat × Nat)} {H H' : Heap} (hσ : ∀ x, x ∈ σ → x.1 = x.2) (nd : (σ.map (·.1)).Nodup) (lt : ∀ x, x ∈ σ → x.2 < H'.n) (num : n ≤ H'.n) (nd3 : (H'.ents.map (·.1)).Nodup)
    (src : ∀ e, e ∈ H'.ents → (e.1, e.1) ∈ σ ∧ H.get e.1 = some e.2 ∧ fitB σ [] e.2 e.2) : FitH n σ [] H H' where
  nd1 := by simpa using nd
  nd2 := by
    have : σ.map (·.2) = σ.map (·.1) := List.map_congr_left fun x hx => (hσ x hx).symm
    rw [this]; exact nd
  nd3 := nd3
  lt := lt
  idn := fun x hx _ => hσ x hx
  num := num
  src := fun e he => ⟨e.1, e.2, (src e he).1, (src e he).2.1, (src e he).2.2⟩
  frz := fun x h => by cases h
/-- a new slice is laid, and its number set aside even where there is none; of the other blocks some stay -/
theorem FitH.canonS {sz b : Nat} {es : List AV} {g g0 : List (Nat × Blk)} (he : Elems sz es) (hs : g.Sublist g0) (h0 : ∀ e, e ∈ g0 → e.1 < b) (hg : ∀ e, e ∈ g → fitB ((b, b) :: g.map fun e => (e.1, e.1)) [] e.2 e.2) (hn0 : (g0.map (·.1)).Nodup) :
    FitH 0 ((b, b) :: g.map fun e => (e.1, e.1)) [] (ownH ⟨b, [g0]⟩ es) ⟨b + 1, [ownF b es ++ g]⟩ := by
  have hn : (g.map (·.1)).Nodup := (hs.map _).nodup hn0
  have hb0 : b ∉ g0.map (·.1) := fun h => by obtain ⟨e, he, hx⟩ := List.mem_map.1 h; have := h0 e he; omega
  have hb : b ∉ g.map (·.1) := fun h => hb0 ((hs.map _).subset h)
  have hm : (g.map fun e => (e.1, e.1)).map (·.1) = g.map (·.1) := by simp
  refine .same (fun x hx => ?_) ?_ (fun x hx => ?_) (Nat.zero_le _) ?_ fun e hx => ?_
  · rcases List.mem_cons.1 hx with rfl | hx
    · rfl
    · obtain ⟨e, _, rfl⟩ := List.mem_map.1 hx; rfl
  · rw [List.map_cons, hm]; exact List.nodup_cons.2 ⟨hb, hn⟩
  · rcases List.mem_cons.1 hx with rfl | hx
    · exact Nat.lt_succ_self _
    · obtain ⟨e, hm, rfl⟩ := List.mem_map.1 hx
      have := h0 e (hs.subset hm)
      show e.1 < b + 1
      omega
  · cases es with
    | nil => simpa [Heap.ents, ownF] using hn
    | cons x r =>
      simp only [Heap.ents, ownF, List.flatten_cons, List.flatten_nil, List.append_nil, List.cons_append, List.nil_append, List.map_cons]
      exact List.nodup_cons.2 ⟨hb, hn⟩
  · have old : e ∈ g → (e.1, e.1) ∈ (b, b) :: (g.map fun e => (e.1, e.1)) ∧ (ownH ⟨b, [g0]⟩ es).get e.1 = some e.2 ∧ fitB ((b, b) :: g.map fun e => (e.1, e.1)) [] e.2 e.2 := fun h => by
      refine ⟨List.mem_cons_of_mem _ (List.mem_map.2 ⟨e, h, rfl⟩), ?_, hg e h⟩
      cases es with
      | nil => exact get_of_mem (fs := [g0]) (by simpa using hn0) (by simpa using hs.subset h)
      | cons x r => exact get_of_mem (fs := [(b, .cells (flatAV (x :: r))) :: g0]) (by simpa using ⟨fun y hy => hb0 (List.mem_map.2 ⟨_, hy, rfl⟩), hn0⟩) (by simp [hs.subset h])
    have hx' : e ∈ ownF b es ++ g := by simpa [Heap.ents] using hx
    cases es with
    | nil => exact old hx'
    | cons x r =>
      rcases List.mem_cons.1 hx' with rfl | h
      · refine ⟨List.mem_cons_self, ?_, fitL_pure he.pure⟩
        simp [ownH, Heap.new, pushF, Heap.get, getFs, getF]
      · exact old h
theorem FitH.canon {sz b : Nat} {es : List AV} {g : List (Nat × Blk)} (he : Elems sz es) (hg : ∀ e, e ∈ g → e.1 < b ∧ fitB ((b, b) :: g.map fun e => (e.1, e.1)) [] e.2 e.2) (hn : (g.map (·.1)).Nodup) :
    FitH 0 ((b, b) :: g.map fun e => (e.1, e.1)) [] (ownH ⟨b, [g]⟩ es) ⟨b + 1, [ownF b es ++ g]⟩ :=
  .canonS he (List.Sublist.refl _) (fun e h => (hg e h).1) (fun e h => (hg e h).2) hn
/-- a slice that was appended to an empty one that is written down -/
def litV (b m sz : Nat) (es : List AV) : AV := match es with
  | [] => .slc b 0 0 (.ex 0)
  | _ :: _ => .slc m 0 es.length (.rest sz)
theorem fitV_lit {σ : List (Nat × Nat)} {Φ : List (Nat × List AV)} {b m m' sz : Nat} {es : List AV} (h : lookN m σ = some m') : fitV σ Φ (litV b m sz es) (ownV m' sz es) := by
  cases es <;> simp [litV, ownV, fitV, h]
theorem fitV_own {σ : List (Nat × Nat)} {Φ : List (Nat × List AV)} {b b' sz : Nat} {es : List AV} (h : lookN b σ = some b') : fitV σ Φ (ownV b sz es) (ownV b' sz es) := by
  cases es <;> simp [ownV, fitV, h]
/-- the answer is a slice made anew -/
theorem ends_own {H : Heap} {b sz len : Nat} {es : List AV} (he : Elems sz es) (hne : es ≠ []) (hl : es.length = len) (hb : H.get b = some (.cells (flatAV es))) : ∃ σ Φ, fitV σ Φ (.slc b 0 len (.rest sz)) (ownV 0 sz es) ∧ FitH 0 σ Φ H ⟨1, [ownF 0 es]⟩ := by
  subst hl
  refine ⟨[(b, 0)], [], ?_, .keep1 hb he.pure (by simp [ownF_ne hne])⟩
  rw [ownV_ne hne]
  simp [fitV, lookN]
theorem ends_none {H : Heap} {u : AV} {sz : Nat} (h : u = .nilS ∨ u = .zslc ∨ ∃ b, u = .slc b 0 0 (.ex 0)) : ∃ σ Φ, fitV σ Φ u (ownV 0 sz []) ∧ FitH 0 σ Φ H ⟨1, [ownF 0 []]⟩ := by
  refine ⟨[], [], ?_, .keep0 (by simp [ownF])⟩
  rcases h with rfl | rfl | ⟨b, rfl⟩ <;> simp [ownV, fitV]
open Classical in
noncomputable def ownG {α : Type} (ss : List (List Nat)) (enc : α → List AV) (pre : α → Prop) (sz : Nat) (els : α → List AV) : List AV → Heap → Option (AV × Heap) := fun args H =>
  if h : pureL args = true ∧ ∃ x, thawL ⟨0, []⟩ ss args = some (enc x) ∧ pre x then some (ownV H.n sz (els h.2.choose), ownH H (els h.2.choose)) else none
noncomputable def mkOwn {P : Program} {α : Type} (f : FuncId) (ss : List (List Nat)) (enc : α → List AV) (pre : α → Prop) (sz : Nat) (els : α → List AV) (he : ∀ x, Elems sz (els x))
    (h : ∀ x, pre x → CallAt ⟨P, fun _ => [], fun _ => none⟩ f (enc x) ⟨0, []⟩ (ownV 0 sz (els x)) ⟨1, [ownF 0 (els x)]⟩) : Entry P :=
  ⟨f, ownG ss enc pre sz els, fun args H v H' hv => by
    unfold ownG at hv
    split at hv
    · rename_i hx
      obtain ⟨hp, hx2⟩ := hx
      simp only [Option.some.injEq, Prod.mk.injEq] at hv
      obtain ⟨rfl, rfl⟩ := hv
      have hs := hx2.choose_spec
      have hf := thawL_fit (H := ⟨0, []⟩) List.nodup_nil hs.1
      exact ((h _ hs.2).norm hf).own (he _) hp H
    · cases hv⟩
theorem mkOwn_eq {P : Program} {keep : FuncId → List Nat} {T : List (Entry P)} {α : Type} {f : FuncId} {ss : List (List Nat)} {enc : α → List AV} {pre : α → Prop} {sz : Nat} {els : α → List AV} {he : ∀ x, Elems sz (els x)}
    {h : ∀ x, pre x → CallAt ⟨P, fun _ => [], fun _ => none⟩ f (enc x) ⟨0, []⟩ (ownV 0 sz (els x)) ⟨1, [ownF 0 (els x)]⟩} (hT : findE f T = some (mkOwn f ss enc pre sz els he h).g) (inj : ∀ x y, enc x = enc y → x = y) (x : α) (hx : pre x)
    {args : List AV} (hp : pureL args = true) (ht : thawL ⟨0, []⟩ ss args = some (enc x)) (H : Heap) : callL (mkC P keep T) f args H = some (ownV H.n sz (els x), ownH H (els x)) := by
  rw [callL_summ (g := (mkOwn f ss enc pre sz els he h).g) hT]
  show ownG ss enc pre sz els args H = _
  unfold ownG
  have hex : pureL args = true ∧ ∃ y, thawL ⟨0, []⟩ ss args = some (enc y) ∧ pre y := ⟨hp, x, ht, hx⟩
  rw [dif_pos hex]
  have e : enc x = enc hex.2.choose := Option.some.inj (ht.symm.trans hex.2.choose_spec.1)
  rw [← inj _ _ e]
theorem src_fslc {H : Heap} {sz n : Nat} {es : List AV} (h : es.length = n) : srcLen (.fslc sz es) = some n ∧ srcCells H sz n (.fslc sz es) = some (flatAV es) := by
  subst h
  refine ⟨rfl, ?_⟩
  simp only [srcCells, Nat.beq_refl, List.take_length]
/-- append to an empty slice that is written down -/
theorem app_lit {P : Program} {H : Heap} {elem : TypeId} {b sz by_ n : Nat} {cs : List AV} {x z : AV} (hsz : sizeT P elem = some sz) (hby : bytesT P elem = some by_) (hz : zeroOf P elem = some z) (hzl : z.cells.length = sz) (h0 : sz ≠ 0) (hb0 : by_ ≠ 0)
    (hx : srcLen x = some (n + 1)) (hc : srcCells H sz (n + 1) x = some cs) (hcl : cs.length = (n + 1) * sz) (hcs : allSingle cs = true) (hroom : (n + 1) * by_ ≤ 17592186044416) (hb : H.get b = some (.cells [])) :
    appendA P H elem (.slc b 0 0 (.ex 0)) x = some (.slc H.n 0 (n + 1) (.rest sz), H.new (.cells cs)) := by
  have c0 : (Nat.beq sz 0 || !(Nat.beq z.cells.length sz && Nat.blt 0 by_)) = false := by
    have h1 : Nat.beq sz 0 = false := beqN_ne h0
    have h2 : Nat.blt 0 by_ = true := by simp; omega
    rw [h1, hzl, Nat.beq_refl, h2]; rfl
  have hr : roomOK (0 + (n + 1)) by_ = true := by unfold roomOK; rw [Nat.ble_eq, Nat.zero_add]; exact hroom
  have hcb : Nat.beq cs.length ((n + 1) * sz) = true := by rw [hcl]; exact Nat.beq_refl _
  have h2 : Nat.ble (0 + (n + 1)) 0 = false := by rw [← Bool.not_eq_true, Nat.ble_eq]; omega
  unfold appendA
  simp only [hsz, hby, hz, hx, Option.bind_some, c0, hc, hr, hcs, h2, hcb]
  simp [readCells, hb, subL, takeL]
theorem app_lits {P : Program} {elem : TypeId} {b m sz by_ : Nat} {es : List AV} {z : AV} {g : List (Nat × Blk)} {fs : List (List (Nat × Blk))} (hsz : sizeT P elem = some sz) (hby : bytesT P elem = some by_) (hz : zeroOf P elem = some z) (hzl : z.cells.length = sz) (h0 : sz ≠ 0) (hb0 : by_ ≠ 0)
    (he : Elems sz es) (hcs : allSingle (flatAV es) = true) (hroom : es.length * by_ ≤ 17592186044416) :
    appendA P ⟨m, ((b, .cells []) :: g) :: fs⟩ elem (.slc b 0 0 (.ex 0)) (.fslc sz es) = some (litV b m sz es, ownH ⟨m, ((b, .cells []) :: g) :: fs⟩ es) := by
  cases es with
  | nil =>
    have c0 : (Nat.beq sz 0 || !(Nat.beq z.cells.length sz && Nat.blt 0 by_)) = false := by
      have h1 : Nat.beq sz 0 = false := beqN_ne h0
      have h2 : Nat.blt 0 by_ = true := by simp; omega
      rw [h1, hzl, Nat.beq_refl, h2]; rfl
    unfold appendA
    simp only [hsz, hby, hz, Option.bind_some, srcLen, List.length_nil, c0, srcCells, Nat.beq_refl, List.take_nil, flatAV]
    simp [roomOK, allSingle, writeCells, Heap.get, getFs, getF, layL, overL, Heap.ready, Heap.set, setFs, setF, litV, ownH]
  | cons e r =>
    have := app_lit (P := P) (H := ⟨m, ((b, .cells []) :: g) :: fs⟩) (elem := elem) (b := b) (n := r.length) (x := .fslc sz (e :: r)) (cs := flatAV (e :: r)) hsz hby hz hzl h0 hb0 (src_fslc (H := ⟨0, []⟩) (es := e :: r) (n := r.length + 1) (by simp)).1 (src_fslc (es := e :: r) (n := r.length + 1) (by simp)).2 he.len hcs hroom (by simp [Heap.get, getFs, getF])
    rw [this]; rfl
theorem flat_getL {sz : Nat} {es : List AV} (h : Elems sz es) {i j : Nat} (hi : i < es.length) (hj : j < es[i].cells.length) : getL (flatAV es) (i * sz + j) = some es[i].cells[j] := by
  obtain ⟨h1, h2⟩ := flat_getE (fun i hi => (h.all _ (List.getElem_mem hi)).1) i j hi hj
  rw [getL_get h1, h2]
theorem own_get {b : Nat} {es : List AV} {g : List (Nat × Blk)} (h : es ≠ []) : getF b (ownF b es ++ g) = some (.cells (flatAV es)) := by
  rw [ownF_ne h]
  show getF b ((b, _) :: g) = _
  unfold getF; rw [Nat.beq_refl]
theorem own_skip {b c : Nat} {es : List AV} {g : List (Nat × Blk)} (h : c ≠ b) : getF c (ownF b es ++ g) = getF c g := by
  cases es with
  | nil => rfl
  | cons x r =>
    show getF c ((b, _) :: g) = _
    conv => lhs; unfold getF
    rw [beqN_ne (fun e => h e.symm)]
/-- the end of a round that appended: the new block takes the old one's number -/
theorem FitH.grown {H : Heap} {b sz : Nat} {es : List AV} (he : Elems sz es) (hne : es ≠ []) (h : H.get b = some (.cells (flatAV es))) : FitH 0 [(b, 0)] [] H ⟨1, [ownF 0 es]⟩ := .keep1 h he.pure (by simp [ownF_ne hne])
section
variable {P : Program} {H : Heap} {t elem : TypeId} {b sz len i : Nat} {cs : List AV}
theorem slice_from (hu : P.underlying t = some (.slice elem)) (hs : sizeT P elem = some sz) (h0 : sz ≠ 0) (hb : H.get b = some (.cells cs)) (hc : cs.length = len * sz) (hi : i < len) :
    sliceA P H t (.slc b 0 len (.rest sz)) (some (.int .i64 (i : Int))) none none = some (.slc b (i * sz) (len - i) (.rest sz)) := by
  have hk : knownCells H b = some (len * sz) := by unfold knownCells; simp only [hb, Option.bind_some, hc]
  have h1 : Nat.ble (len * sz) (i * sz) = false := by
    rw [← Bool.not_eq_true, Nat.ble_eq]
    have := Nat.mul_lt_mul_of_pos_right hi (show 0 < sz by omega)
    omega
  unfold sliceA
  simp only [hiOK, hu, Option.bind_some, hs, sliceBlk, hk, Nat.beq_refl, bound, Nat.sub_zero]
  have h2 : idx (i : Int) (Nat.succ len) = some i := idx_nat (by omega)
  simp only [h2, Option.bind_some, h1, Nat.zero_add]
theorem slice_to (hu : P.underlying t = some (.slice elem)) (hs : sizeT P elem = some sz) (h0 : sz ≠ 0) (hb : H.get b = some (.cells cs)) (hc : cs.length = len * sz) (hi : i ≤ len) (hl : 0 < len) :
    sliceA P H t (.slc b 0 len (.rest sz)) none (some (.int .i64 (i : Int))) none = some (.slc b 0 i (.rest sz)) := by
  have hk : knownCells H b = some (len * sz) := by unfold knownCells; simp only [hb, Option.bind_some, hc]
  have h1 : Nat.ble (len * sz) (0 * sz) = false := by
    rw [← Bool.not_eq_true, Nat.ble_eq]
    have := Nat.mul_pos hl (show 0 < sz by omega)
    omega
  have hd : len * sz / sz = len := Nat.mul_div_cancel _ (by omega)
  unfold sliceA
  simp only [hiOK, hu, Option.bind_some, hs, sliceBlk, hk, Nat.beq_refl, bound, Nat.sub_zero, hd]
  have h2 : idx (i : Int) (Nat.succ len) = some i := idx_nat (by omega)
  rw [Nat.zero_mul] at h1
  simp only [h2, Option.bind_some, Nat.zero_mul, h1, Nat.zero_add, Nat.sub_zero]
end
/-- what is made anew is frozen at once -/
theorem CallAt.freeze {C : Ctx} {f : FuncId} {args : List AV} {v v' : AV} {H1 : Heap} {Φ : List (Nat × List AV)} (h : CallAt C f args ⟨0, []⟩ v H1) (fv : fitV [] Φ v v') (fh : FitH 0 [] Φ H1 ⟨0, []⟩) : CallAt C f args ⟨0, []⟩ v' ⟨0, []⟩ := by
  intro ρ w xs sm hx
  have dn : ∀ {x : Value} {ρ' : Place} {w' : World}, VR ρ' v x → Sim ρ' H1 w' → Step ρ ⟨0, []⟩ w ρ' H1 w' → ∃ ρ'', VR ρ'' v' x ∧ Sim ρ'' ⟨0, []⟩ w' ∧ Step ρ ⟨0, []⟩ w ρ'' ⟨0, []⟩ w' := fun {x ρ' w'} h1 h2 h3 => by
    have hd : ∀ b, ρ b = none := fun b => sm.dom b (Nat.zero_le _)
    refine ⟨newPlace 0 [] Φ ρ' w' h2.below, Fits.run (fh.fits h2) h2 _ (Nat.le_refl _) h1 fv, fh.sim h2 (Nat.zero_le _), ⟨⟨fun b l hb => (by rw [hd b] at hb; cases hb), fun k hk => ?_, ?_, ?_, ?_⟩, h3.size, h3.keeps, fun e he => (by cases he), Nat.le_refl _, fun b hb => absurd hb (Nat.not_lt_zero b), fun k hk => ?_⟩⟩
    · obtain ⟨g1, g2⟩ := h3.le.fz k hk
      exact ⟨.inl g1, (h2.below k g1).trans g2⟩
    · exact h2.os.trans h3.le.os
    · exact h2.tape.trans h3.le.tape
    · exact h2.output.trans h3.le.output
    · rcases hk with hk | ⟨b, cs, l, m1, m2, rfl⟩
      · exact h3.cold k hk
      · obtain ⟨cs0, g1, _⟩ := fh.frz _ m1
        rcases h3.rows _ (Heap.get_mem g1) l m2 with ⟨e, he, _⟩ | h
        · cases he
        · exact .inr (.inr h)
  rcases h ρ w xs sm hx with ⟨x, ρ', w', h0, h1, h2, h3⟩ | ⟨g, ys, h0, h1⟩
  · obtain ⟨ρ'', k1, k2, k3⟩ := dn h1 h2 h3
    exact .inl ⟨x, ρ'', w', h0, k1, k2, k3⟩
  · refine .inr ⟨g, ys, h0, h1.mono ?_⟩
    rintro e w' ⟨x, ρ', rfl, m1, m2, m3⟩
    obtain ⟨ρ'', k1, k2, k3⟩ := dn m1 m2 m3
    exact ⟨x, ρ'', rfl, k1, k2, k3⟩
theorem CallAt.froze {C : Ctx} {f : FuncId} {args : List AV} {sz : Nat} {es : List AV} (he : Elems sz es) (h : CallAt C f args ⟨0, []⟩ (ownV 0 sz es) ⟨1, [ownF 0 es]⟩) : CallAt C f args ⟨0, []⟩ (.fslc sz es) ⟨0, []⟩ := by
  cases es with
  | nil => exact h.freeze (Φ := []) (by simp [ownV, fitV]) FitH.empty
  | cons e r =>
    refine h.freeze (Φ := [(0, flatAV (e :: r))]) ?_ (.froze (by simp) fun x hx => ?_)
    · simp only [ownV, fitV]
      refine .inl ⟨flatAV (e :: r), by simp [lookC], ?_, trivial, he.size⟩
      unfold subL
      rw [List.drop_zero, ← he.len, takeL_all]
    · simp at hx
      subst hx
      exact ⟨flatAV (e :: r), by simp [ownF, Heap.get, getFs, getF], fitL_pure he.pure, he.pure⟩
theorem thawA_own {H : Heap} {sz b : Nat} {r : List Nat} {es : List AV} (he : Elems sz es) (h : es ≠ [] → H.get b = some (.cells (flatAV es))) : thawA H (sz :: r) (ownV b sz es) = some (.fslc sz es) := by
  cases es with
  | nil => exact thawA_zslc he.sz0
  | cons e t => exact thawA_slc he (h (by simp))
/-- the answer is the front of a block's slice -/
theorem ends_front {H : Heap} {b sz len : Nat} {cap : Cap} {es fr : List AV} (he : Elems sz es) (hb : H.get b = some (.cells (flatAV es))) (hl : len ≤ es.length) (hf : fr = es.take len) : ∃ σ Φ, fitV σ Φ (.slc b 0 len cap) (.fslc sz fr) ∧ FitH 0 σ Φ H ⟨0, []⟩ := by
  subst hf
  refine ⟨[], [(b, flatAV es)], ?_, .froze (by simp) fun x hx => ?_⟩
  · simp only [fitV]
    exact .inl ⟨flatAV es, by simp [lookC], sub_pre he hl, by simp; omega, (he.take len).size⟩
  · simp only [List.mem_singleton] at hx
    subst hx
    exact ⟨flatAV es, hb, fitL_pure he.pure, he.pure⟩
theorem ends_zslc {H : Heap} {sz : Nat} {es : List AV} (h : es = []) : ∃ σ Φ, fitV σ Φ .zslc (.fslc sz es) ∧ FitH 0 σ Φ H ⟨0, []⟩ := ⟨[], [], by subst h; simp [fitV], FitH.empty⟩
theorem ends_ownV {H : Heap} {b sz : Nat} {es : List AV} (he : Elems sz es) (hb : es ≠ [] → H.get b = some (.cells (flatAV es))) : ∃ σ Φ, fitV σ Φ (ownV b sz es) (.fslc sz es) ∧ FitH 0 σ Φ H ⟨0, []⟩ := by
  cases es with
  | nil => exact ends_zslc rfl
  | cons e r => exact ends_front he (hb (by simp)) (Nat.le_refl _) (by simp)
end Go.Proofs.Ytpkplilgjdbhhaa
