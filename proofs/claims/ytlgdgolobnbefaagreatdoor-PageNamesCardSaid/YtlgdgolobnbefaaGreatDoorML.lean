/- The printer's plain side: nodes put one behind the other; parts. No condition. -/
import Derived.Test.YtlgdgolobnbefaaGreatDoorMK
import Derived.Test.YtlgdgolobnbefaaGreatDoorMJ
namespace Go.Proofs.YtlgdgolobnbefaaGreatDoor
set_option linter.unusedSimpArgs false
set_option linter.unusedVariables false
open Go Go.RowKit
set_option maxRecDepth 100000
mutual
theorem refs_pure : ∀ (n : Nat) (v : AV), pureV v = true → refs n v = []
  | 0, _, _ => rfl
  | n + 1, v, h => by
    cases v with
    | func fn a c =>
      simp only [pureV, Bool.and_eq_true] at h
      simp only [refs, refsL_pure n a h.1, refsL_pure n c h.2, List.append_nil]
    | iface t v =>
      simp only [pureV] at h
      simp only [refs, refs_pure n v h]
    | agg cs =>
      simp only [pureV] at h
      simp only [refs, refsL_pure n cs h]
    | tup cs =>
      simp only [pureV] at h
      simp only [refs, refsL_pure n cs h]
    | _ => first | rfl | (simp [pureV] at h)
theorem refsL_pure : ∀ (n : Nat) (l : List AV), pureL l = true → l.flatMap (refs n) = []
  | _, [], _ => rfl
  | n, v :: r, h => by
    simp only [pureL, Bool.and_eq_true] at h
    rw [List.flatMap_cons, refs_pure n v h.1, refsL_pure n r h.2]
    rfl
end
def VE (pb : Nat) (pre : List AV) (k sz : Nat) (es : List AV) (post : List AV) (g : List (Nat × Blk)) : List (Nat × Blk) := (pb, .cells (pre ++ ownV k sz es :: post)) :: (ownF k es ++ g)
structure Eok (m pb : Nat) (pre : List AV) (k sz : Nat) (es : List AV) (post : List AV) (g : List (Nat × Blk)) : Prop where
  lp : pb < m
  lk : k < m ∧ k ∉ pb :: g.map (·.1)
  lg : ∀ e, e ∈ g → e.1 < m
  nd : (pb :: g.map (·.1)).Nodup
  sg : ∀ e, e ∈ g → SelfB m e.2
  sp : ∀ σ, Idl m σ → fitL σ [] pre pre
  sq : ∀ σ, Idl m σ → fitL σ [] post post
  el : Elems sz es
section
variable {m n pb k sz : Nat} {pre post es : List AV} {g f : List (Nat × Blk)}
theorem VE_p : getF pb (VE pb pre k sz es post g) = some (.cells (pre ++ ownV k sz es :: post)) := by simp [VE, getF]
theorem gF_none {b : Nat} : ∀ {l : List (Nat × Blk)}, b ∉ l.map (·.1) → getF b l = none
  | [], _ => rfl
  | e :: r, h => by
    simp only [List.map_cons, List.mem_cons, not_or] at h
    unfold getF
    rw [beqN_ne fun x => h.1 x.symm]
    exact gF_none h.2
theorem Eok.k_p (h : Eok m pb pre k sz es post g) : Nat.beq pb k = false := beqN_ne fun e => h.lk.2 (by simp [e])
theorem VE_k (h : Eok m pb pre k sz es post g) (hne : es ≠ []) : getF k (VE pb pre k sz es post g) = some (.cells (flatAV es)) := by
  unfold VE getF
  rw [h.k_p, ownF_ne hne]
  simp [getF]
theorem gF_of {l : List (Nat × Blk)} (nd : (l.map (·.1)).Nodup) {e : Nat × Blk} (he : e ∈ l) : getF e.1 l = some e.2 := by
  have := get_of_mem (fs := [l]) (b := e.1) (k := e.2) (by simpa using nd) (by simpa using he)
  simp only [getFs] at this
  revert this
  cases getF e.1 l with
  | none => intro h; cases h
  | some x => intro h; exact h
theorem drop_E (h : Eok m pb pre k sz es post g) (hf : ∀ i, i < m → getF i f = none) : Heap.drop ⟨n, [f, VE pb pre k sz es post g]⟩ k = ⟨n, [f, (pb, .cells (pre ++ ownV k sz es :: post)) :: g]⟩ := by
  have h1 : getF k f = none := hf k h.lk.1
  have h2 := h.lk.2
  simp only [List.mem_cons, not_or] at h2
  unfold Heap.drop
  simp only
  unfold killFs
  rw [h1]
  simp only
  unfold killFs
  unfold VE getF
  rw [h.k_p]
  cases es with
  | nil =>
    simp only [ownF, List.nil_append]
    rw [gF_none h2.2]
    simp [killFs]
  | cons y r =>
    rw [ownF_ne (by simp)]
    simp [getF, killF, h.k_p]
theorem app_E {P : Program} {elem : TypeId} {by_ : Nat} {z : AV} (hsz : sizeT P elem = some sz) (hby : bytesT P elem = some by_) (hz : zeroOf P elem = some z) (hzl : z.cells.length = sz) (hb0 : by_ ≠ 0) (h : Eok m pb pre k sz es post g) {t : Nat} {e : AV} (hel : e.cells.length = sz) (hsg : allSingle e.cells = true)
    (hf : ∀ i, i < m → getF i f = none) (ht : getF t f = some (.cells e.cells)) (hl : (es.length + 1) * by_ ≤ 17592186044416) (hrow : ∀ cs, rowA P elem cs = .cells cs) :
    appendA P ⟨n, [f, VE pb pre k sz es post g]⟩ elem (ownV k sz es) (.slc t 0 1 (.ex 1)) =
      some (.slc n 0 (es.length + 1) (.rest sz), ⟨n + 1, [(n, .cells (flatAV (es ++ [e]))) :: f, (pb, .cells (pre ++ ownV k sz es :: post)) :: g]⟩) := by
  have hd := drop_E (n := n) h hf
  have hsub : subL 0 (1 * sz) e.cells = some e.cells := by
    have := takeL_all e.cells
    rw [hel] at this
    rw [Nat.one_mul]
    unfold subL; rw [List.drop_zero]; exact this
  have := own_append (P := P) (H := ⟨n, [f, VE pb pre k sz es post g]⟩) (elem := elem) (b := k) (n := 0) (es := es) (x := .slc t 0 1 (.ex 1)) (cs := e.cells) hsz hby hz hzl h.el.sz0 hb0 rfl
    (by simp [srcCells, readCells, Heap.get, getFs, ht, hsub]; simpa using hsub) (by simpa using hel) hsg h.el (by simpa using hl)
    (fun hne => by
      simp only [Heap.get, getFs]
      rw [hf k h.lk.1, VE_k h hne])
    (fun he => by
      subst he
      rw [hd]
      rfl) hrow
  rw [hd] at this
  have e1 : flatAV (es ++ [e]) = flatAV es ++ e.cells := by rw [flat_append]; simp [flatAV]
  rw [e1]
  simpa [Heap.new, pushF] using this
theorem prom_E (hp : pb < m) {c : Nat} {row vrow : List AV} (hc : m ≤ c) (hf : ∀ i, i < m → getF i f = none) (hr : pureL row = true) :
    promote pb [c] [] [(c, .cells row) :: f, (pb, .cells vrow) :: g] = [f, (c, .cells row) :: (pb, .cells vrow) :: g] := by
  have hcp : Nat.beq c pb = false := beqN_ne (by omega)
  have g1 : getF pb f = none := hf pb hp
  have r1 : reach 100000 [c] ((c, .cells row) :: f) [] = ([(c, .cells row)], f) := by
    have hk : refsB (.cells row) = [] := refsL_pure 4 _ hr
    show reach (Nat.succ (Nat.succ 99998)) [c] ((c, .cells row) :: f) [] = _
    unfold reach
    simp only [getF, Nat.beq_refl, hk, List.nil_append, killF]
    unfold reach
    rfl
  have e1 : refsF [((c, .cells row) : Nat × Blk)] ++ [c] = [c] := by
    have hk : refsB (.cells row) = [] := refsL_pure 4 _ hr
    simp [refsF, hk]
  have n1 : getF pb ((c, Blk.cells row) :: f) = none := by simp [getF, hcp, g1]
  unfold promote
  rw [n1]
  simp only [r1, e1]
  unfold promote
  simp [getF]
theorem fit_E {c : Nat} {H : Heap} {es' cs0 : List AV} (h : Eok m pb pre k sz es post g) (hc : m ≤ c) (hne : es' ≠ []) (hcs : ∀ σ, fitL σ [] cs0 (flatAV es')) (hp : H.get pb = some (.cells (pre ++ .slc c 0 es'.length (.rest sz) :: post))) (hk : H.get c = some (.cells cs0))
    (hg : ∀ e, e ∈ g → H.get e.1 = some e.2) : FitH m ((c, m) :: idn m) [] H ⟨m + 1, [VE pb pre m sz es' post g]⟩ := by
  have idl := idl_cons (m := m) (k := c) (k' := m) hc
  have nd := h.nd
  rw [List.nodup_cons] at nd
  refine ⟨?_, ?_, ?_, ?_, ?_, by show m ≤ m + 1; omega, ?_, fun x h => by cases h⟩
  · simp only [List.map_nil, List.append_nil, List.map_cons, List.nodup_cons]
    refine ⟨?_, idn_nd m⟩
    simp [idn]; omega
  · simp only [List.map_cons, List.nodup_cons]
    refine ⟨?_, idn_nd2 m⟩
    simp [idn]
  · simp only [Heap.ents, List.flatten_cons, List.flatten_nil, List.append_nil, VE, ownF_ne hne, List.map_cons, List.map_append, List.map_nil, List.cons_append, List.nil_append, List.nodup_cons, List.mem_cons, not_or]
    refine ⟨⟨by have := h.lp; omega, nd.1⟩, ?_, nd.2⟩
    intro hx
    obtain ⟨e, he, hx⟩ := List.mem_map.1 hx
    have := h.lg e he; omega
  · intro x hx
    rcases List.mem_cons.1 hx with rfl | hx
    · exact Nat.lt_succ_self m
    · obtain ⟨i, hi, rfl⟩ := List.mem_map.1 hx
      have : i < m := by simpa using hi
      show i < m + 1; omega
  · intro x hx hlt
    rcases List.mem_cons.1 hx with rfl | hx
    · simp at hlt
    · obtain ⟨i, hi, rfl⟩ := List.mem_map.1 hx
      rfl
  · intro e he
    simp only [Heap.ents, List.flatten_cons, List.flatten_nil, List.append_nil, VE, ownF_ne hne, List.cons_append, List.nil_append, List.mem_cons] at he
    rcases he with rfl | rfl | he
    · refine ⟨pb, _, List.mem_cons_of_mem _ (idn_mem h.lp), hp, ?_⟩
      show fitL _ _ _ _
      rw [ownV_ne hne]
      refine fitL_app (h.sp _ idl) ?_
      simp only [fitL]
      exact ⟨by simp [fitV, lookN], h.sq _ idl⟩
    · exact ⟨c, _, List.mem_cons_self, hk, hcs _⟩
    · exact ⟨e.1, e.2, List.mem_cons_of_mem _ (idn_mem (h.lg e he)), hg e he, h.sg e he _ idl⟩
theorem Eok.next (h : Eok m pb pre k sz es post g) {es' : List AV} (he : Elems sz es') : Eok (m + 1) pb pre m sz es' post g where
  lp := by have := h.lp; omega
  lk := ⟨Nat.lt_succ_self m, fun hx => by
    rcases List.mem_cons.1 hx with hx | hx
    · have := h.lp; omega
    · obtain ⟨e, he, hx⟩ := List.mem_map.1 hx
      have := h.lg e he; omega⟩
  lg := fun e he => by have := h.lg e he; omega
  nd := h.nd
  sg := fun e he => (h.sg e he).mono (Nat.le_succ m)
  sp := fun σ hσ => h.sp σ fun i hi => hσ i (by omega)
  sq := fun σ hσ => h.sq σ fun i hi => hσ i (by omega)
  el := he
theorem Eok.mono (h : Eok m pb pre k sz es post g) {m' : Nat} (hm : m ≤ m') {es' : List AV} (he : Elems sz es') : Eok m' pb pre k sz es' post g where
  lp := Nat.lt_of_lt_of_le h.lp hm
  lk := ⟨Nat.lt_of_lt_of_le h.lk.1 hm, h.lk.2⟩
  lg := fun e he => Nat.lt_of_lt_of_le (h.lg e he) hm
  nd := h.nd
  sg := fun e he => (h.sg e he).mono hm
  sp := fun σ hσ => h.sp σ fun i hi => hσ i (by omega)
  sq := fun σ hσ => h.sq σ fun i hi => hσ i (by omega)
  el := he
theorem fit_W {m' : Nat} {H : Heap} {es' : List AV} (h : Eok m pb pre k sz es post g) (hm : m ≤ m') (hne : es' ≠ []) (he' : Elems sz es') (hp : H.get pb = some (.cells (pre ++ ownV k sz es' :: post))) (hk : H.get k = some (.cells (flatAV es')))
    (hg : ∀ e, e ∈ g → H.get e.1 = some e.2) : FitH m (idn m) [] H ⟨m', [VE pb pre k sz es' post g]⟩ := by
  have idl := idl_idn m
  have nd := h.nd
  have hkk := h.lk.2
  simp only [List.mem_cons, not_or] at hkk
  rw [List.nodup_cons] at nd
  refine ⟨by simpa using idn_nd m, idn_nd2 m, ?_, ?_, ?_, hm, ?_, fun x h => by cases h⟩
  · simp only [Heap.ents, List.flatten_cons, List.flatten_nil, List.append_nil, VE, ownF_ne hne, List.map_cons, List.map_append, List.map_nil, List.cons_append, List.nil_append, List.nodup_cons, List.mem_cons, not_or]
    exact ⟨⟨fun e => hkk.1 e.symm, nd.1⟩, hkk.2, nd.2⟩
  · intro x hx
    obtain ⟨i, hi, rfl⟩ := List.mem_map.1 hx
    have : i < m := by simpa using hi
    show i < m'; omega
  · intro x hx hlt
    obtain ⟨i, hi, rfl⟩ := List.mem_map.1 hx
    rfl
  · intro e he
    simp only [Heap.ents, List.flatten_cons, List.flatten_nil, List.append_nil, VE, ownF_ne hne, List.cons_append, List.nil_append, List.mem_cons] at he
    rcases he with rfl | rfl | he
    · refine ⟨pb, _, idn_mem h.lp, hp, ?_⟩
      show fitL _ _ _ _
      rw [ownV_ne hne]
      refine fitL_app (h.sp _ idl) ?_
      simp only [fitL]
      exact ⟨by simp [fitV, lookN_idn h.lk.1], h.sq _ idl⟩
    · exact ⟨k, _, idn_mem h.lk.1, hk, fitL_pure he'.pure⟩
    · exact ⟨e.1, e.2, idn_mem (h.lg e he), hg e he, h.sg e he _ idl⟩
end
@[simp] theorem szT94 : sizeT Tryz.prog 94 = some 1 := rfl
@[simp] theorem agT94 : aggT Tryz.prog 94 = some false := rfl
@[simp] theorem byT94 : bytesT Tryz.prog 94 = some 8 := rfl
@[simp] theorem alT94 (H : Heap) : alV Tryz.prog H 94 = some (.ptr H.n 0, H.new (.cells [.nilP])) := rfl
@[simp] theorem zeT94 : zeroOf Tryz.prog 94 = some (.nilP) := rfl
attribute [simp] Tryz.underlying94
@[simp 500] theorem rvF94 (H : Heap) (cs : List AV) (o : Nat) : readVar Tryz.prog H 94 (.fptr cs o) = getL cs o := rfl
@[simp 500] theorem rvP94 (H : Heap) (b o : Nat) : readVar Tryz.prog H 94 (.ptr b o) = (H.get b).bind fun k => k.rd.bind fun cs => getL cs o := rfl
@[simp] theorem szT119 : sizeT Tryz.prog 119 = some 1 := rfl
@[simp] theorem agT119 : aggT Tryz.prog 119 = some false := rfl
@[simp] theorem byT119 : bytesT Tryz.prog 119 = some 8 := rfl
@[simp] theorem alT119 (H : Heap) : alV Tryz.prog H 119 = some (.ptr H.n 0, H.new (.cells [.nilP])) := rfl
@[simp] theorem zeT119 : zeroOf Tryz.prog 119 = some (.nilP) := rfl
attribute [simp] Tryz.underlying119
@[simp 500] theorem rvF119 (H : Heap) (cs : List AV) (o : Nat) : readVar Tryz.prog H 119 (.fptr cs o) = getL cs o := rfl
@[simp 500] theorem rvP119 (H : Heap) (b o : Nat) : readVar Tryz.prog H 119 (.ptr b o) = (H.get b).bind fun k => k.rd.bind fun cs => getL cs o := rfl
theorem el_attr (L : List At1) : Elems 2 (L.map aAttr) := .map (sz := 2) (f := aAttr) (by decide) (fun x => ⟨rfl, by simp [aAttr, AV.cells, pureL, pureV], fun h => absurd h (by decide), fun _ => ⟨_, rfl⟩⟩) L
theorem el_node (L : List Nd) : Elems 7 (L.map aNode) := .map (sz := 7) (f := aNode) (by decide) (fun x => ⟨rfl, by simp [aNode, Nd.cs, AV.cells, pureL, pureV, aInt, aAttrs], fun h => absurd h (by decide), fun _ => ⟨_, rfl⟩⟩) L
theorem single_attr : ∀ (L : List At1), allSingle (flatAV (L.map aAttr)) = true
  | [] => rfl
  | a :: r => by simp only [List.map_cons, flatAV, allSingle_append, single_attr r]; rfl
theorem c72 {T : List (Entry Tryz.prog)} (L : List At1) (hl : L.length ≤ 1000000) : CallAt (ctx T) 72 [aAttrs L] ⟨0, []⟩ (aAttrs L) ⟨0, []⟩ := by
  have happ := app_lits (P := Tryz.prog) (elem := 98) (b := 0) (m := 1) (es := L.map aAttr) (g := []) (fs := []) szT98 byT98 zeT98 rfl (by omega) (by omega) (el_attr _) (single_attr _) (by simp; omega)
  cases L with
  | nil =>
    refine callAt_body (fn := Tryz.f72) (s0 := ⟨[0, 2], [.fslc 2 [], .undef], [], 8, ⟨0, [[]]⟩⟩) Tryz.func72 rfl rfl rfl ?_
    repeat refine wps_seq ?_
    refine wps_region callOK ?_
    simp [zS]
    refine wps_empty (pre := []) ?_ ?_
    · repeat refine wps_seq ?_
      refine wps_region callOK ?_
      simp [zS]
      repeat refine wps_seq ?_
      refine wps_cond (t := true) rfl (fun _ => ?_) fun h => by cases h
      repeat refine wps_seq ?_
      refine wps_region callOK ?_
      simp [zS]
      repeat refine wps_seq ?_
      refine wps_ret ?_
      simp [retVal, Tryz.f72, oneOr]
      exact ⟨[], [], by simp [fitV, aAttrs], FitH.empty⟩
    · repeat refine wps_seq ?_
      refine wps_region callOK ?_
      simp [zS]
      repeat refine wps_seq ?_
      refine wps_cond (t := false) rfl (fun h => by cases h) fun _ => ?_
      repeat refine wps_seq ?_
      refine wps_skip ?_
      simp
      have happ : appendA Tryz.prog ⟨1, [[(0, .cells [])]]⟩ 98 (.slc 0 0 0 (.ex 0)) .eslc = some (.slc 0 0 0 (.ex 0), ⟨1, [[(0, .cells [])]]⟩) := rfl
      repeat refine wps_seq ?_
      refine wps_region callOK ?_
      simp [zS, happ]
      repeat refine wps_seq ?_
      refine wps_ret ?_
      simp [retVal, Tryz.f72, oneOr]
      exact ends_front (es := []) (len := 0) (el_attr []) (by simp [Heap.get, getFs, getF, flatAV]) (by simp) (by simp)
  | cons x r =>
    have e1 : litV 0 1 2 ((x :: r).map aAttr) = .slc 1 0 (r.length + 1) (.rest 2) := by simp [litV]
    have e2 : ownH ⟨1, [[(0, .cells [])]]⟩ ((x :: r).map aAttr) = ⟨2, [[(1, .cells (flatAV ((x :: r).map aAttr))), (0, .cells [])]]⟩ := rfl
    rw [e1, e2] at happ
    refine callAt_body (fn := Tryz.f72) (s0 := ⟨[0, 2], [aAttrs (x :: r), .undef], [], 8, ⟨0, [[]]⟩⟩) Tryz.func72 rfl rfl rfl ?_
    repeat refine wps_seq ?_
    refine wps_region callOK ?_
    simp [zS, aAttrs]
    repeat refine wps_seq ?_
    refine wps_region callOK ?_
    simp [zS, aAttrs]
    repeat refine wps_seq ?_
    refine wps_cond (t := false) rfl (fun h => by cases h) fun _ => ?_
    repeat refine wps_seq ?_
    refine wps_skip ?_
    simp
    simp only [List.map_cons] at happ
    repeat refine wps_seq ?_
    refine wps_region callOK ?_
    simp [zS, happ]
    repeat refine wps_seq ?_
    refine wps_ret ?_
    simp [retVal, Tryz.f72, oneOr]
    exact ends_front (es := (x :: r).map aAttr) (len := r.length + 1) (el_attr _) (by simp [Heap.get, getFs, getF]) (by simp) (by rw [List.take_of_length_le (by simp)]; rfl)
noncomputable def e72 : Entry Tryz.prog := mkE 72 [[2]] (fun L : List At1 => [aAttrs L]) (fun L => L.length ≤ 1000000) (fun L => aAttrs L) fun L hl => c72 (T := []) L hl
theorem k72 {T : List (Entry Tryz.prog)} (hT : findE 72 T = some e72.g) {L : List At1} (hl : L.length ≤ 1000000) (H : Heap) : callL (ctx T) (.fn 72) [aAttrs L] H = some (aAttrs L, H) :=
  mkE_pure hT (fun x y h => by simp only [List.cons.injEq] at h; exact inj_aAttrs h.1) L hl (by simp [pureL]) (by simp [thawA_ok]) H
def fresh (nd : Nd) : Nd := { nd with up := -1, kids := [] }
def nodeZ (nd : Nd) : AV := .agg [aInt nd.kind, aInt nd.space, .str nd.name, aAttrs nd.attrs, .str nd.data, aInt (-1), .nilS]
theorem c52 {T : List (Entry Tryz.prog)} (hC : findE 72 T = some e72.g) {m pb k : Nat} {pre post : List AV} {L : List Nd} {g : List (Nat × Blk)} (h : Eok m pb pre k 7 (L.map aNode) post g) (hl : L.length + 1 ≤ 1000000) (nd : Nd) (ha : nd.attrs.length ≤ 1000000) :
    CallAt (ctx T) 52 [.ptr pb pre.length, aNode nd] ⟨m, [VE pb pre k 7 (L.map aNode) post g]⟩ (.int .i64 (L.length : Int)) ⟨m + 1, [VE pb pre m 7 ((L ++ [fresh nd]).map aNode) post g]⟩ := by
  have kc := fun H => k72 hC ha H
  have lp := h.lp
  have hgv : ∀ n f, (∀ i, i < m → getF i f = none) → Heap.get ⟨n, [f, VE pb pre k 7 (L.map aNode) post g]⟩ pb = some (.cells (pre ++ ownV k 7 (L.map aNode) :: post)) := fun n f hf => by
    simp only [Heap.get, getFs]
    rw [hf pb lp, VE_p]
  have fl1 : ∀ cs : List AV, ∀ i, i < m → getF i [(m, .cells cs)] = none := fun cs i hi => by
    unfold getF
    rw [beqN_ne (show m ≠ i by omega)]
    rfl
  have fl2 : ∀ (j : Nat) (ds cs : List AV), ∀ i, i < m → getF i [(m + j, .cells ds), (m, .cells cs)] = none := fun j ds cs i hi => by
    unfold getF
    rw [beqN_ne (show m + j ≠ i by omega)]
    exact fl1 cs i hi
  have gx : getL (pre ++ ownV k 7 (L.map aNode) :: post) pre.length = some (ownV k 7 (L.map aNode)) := by
    rw [getL_get (by simp), List.getElem_append_right (by omega)]
    simp
  have hes : Elems 7 (L.map aNode ++ [nodeZ nd]) := by
    exact (el_node L).append ⟨by omega, fun v hv => by
      simp only [List.mem_singleton] at hv
      subst hv
      exact ⟨rfl, by simp [nodeZ, AV.cells, aInt, aAttrs, pureL, pureV], fun h => by omega, fun _ => ⟨_, rfl⟩⟩⟩
  have rd2 : ∀ n, readVar Tryz.prog ⟨n, [[(m, .cells nd.cs)], VE pb pre k 7 (L.map aNode) post g]⟩ 30 (.ptr pb pre.length) = some (ownV k 7 (L.map aNode)) := fun n => by
    simp [hgv n _ (fl1 _), gx]
  have hf2 := fl2 (1 + 17) (nodeZ nd).cells nd.cs
  rw [← Nat.add_assoc] at hf2
  obtain ⟨f, hfd⟩ : ∃ f, f = [(m + 1 + 17, Blk.cells (nodeZ nd).cells), (m, .cells nd.cs)] := ⟨_, rfl⟩
  rw [← hfd] at hf2
  have happ := app_E (P := Tryz.prog) (elem := 50) (n := m + 1 + 22) (f := f) szT50 byT50 zeT50 rfl (by omega) h (t := m + 1 + 17) (e := nodeZ nd) rfl rfl hf2 (by rw [hfd]; simp [getF]) (by simp; omega) (fun _ => rfl)
  have pr := prom_E (f := f) (g := g) (c := m + 1 + 22) (row := flatAV (L.map aNode ++ [nodeZ nd])) (vrow := pre ++ ownV k 7 (L.map aNode) :: post) lp (by omega) hf2 hes.pure
  have hly : layL [.slc (m + 1 + 22) 0 (L.length + 1) (.rest 7)] pre.length (pre ++ ownV k 7 (L.map aNode) :: post) = some (pre ++ .slc (m + 1 + 22) 0 (L.length + 1) (.rest 7) :: post) := by
    have := layL_app (a := pre) (b := [ownV k 7 (L.map aNode)]) (b' := [.slc (m + 1 + 22) 0 (L.length + 1) (.rest 7)]) (c := post) rfl
    simpa using this
  obtain ⟨R, hR⟩ : ∃ R, R = flatAV (L.map aNode ++ [nodeZ nd]) := ⟨_, rfl⟩
  rw [← hR] at happ pr
  simp only [List.length_map] at happ
  have q1 : Nat.beq (m + 1 + 22) pb = false := beqN_ne (by omega)
  have q2 : Nat.beq (m + 1 + 17) pb = false := beqN_ne (by omega)
  have q3 : Nat.beq m pb = false := beqN_ne (by omega)
  have c0 : getL nd.cs 0 = some (.int .i64 nd.kind) := rfl
  have c1 : getL nd.cs 1 = some (.int .i64 nd.space) := rfl
  have c2 : getL nd.cs 2 = some (.str nd.name) := rfl
  have c3 : getL nd.cs 3 = some (aAttrs nd.attrs) := rfl
  have c4 : getL nd.cs 4 = some (.str nd.data) := rfl
  have bld : buildA Tryz.prog 50 [(0, .int .i64 nd.kind), (1, .int .i64 nd.space), (2, .str nd.name), (3, aAttrs nd.attrs), (4, .str nd.data), (5, .int .i64 (-1))] = some (.agg [.int .i64 nd.kind, .int .i64 nd.space, .str nd.name, aAttrs nd.attrs, .str nd.data, .int .i64 (-1), .nilS]) := rfl
  refine callAt_body (fn := Tryz.f52) (s0 := ⟨[0, 1, 3, 4], [.ptr pb pre.length, aNode nd, .undef, .undef], [], 32, ⟨m, [] :: [VE pb pre k 7 (L.map aNode) post g]⟩⟩) Tryz.func52 rfl rfl rfl ?_
  repeat refine wps_seq ?_
  repeat refine wps_seq ?_
  refine wps_region callOK ?_
  simp [zS]
  rw [hfd] at happ pr
  simp only [nodeZ, AV.cells, aInt] at happ pr
  have sg : (aAttrs nd.attrs).single = true := rfl
  repeat refine wps_seq ?_
  refine wps_drawn mixed callOK (by decide +kernel) fun B_ hB_ => ?_
  have d_4_13 : ahead B_ 4 13 = false := by rw [hB_]; decide +kernel
  have d_4_18 : ahead B_ 4 18 = true := by rw [hB_]; decide +kernel
  have d_4_21 : ahead B_ 4 21 = true := by rw [hB_]; decide +kernel
  have d_6_13 : ahead B_ 6 13 = false := by rw [hB_]; decide +kernel
  have d_6_18 : ahead B_ 6 18 = true := by rw [hB_]; decide +kernel
  have d_6_21 : ahead B_ 6 21 = true := by rw [hB_]; decide +kernel
  have d_8_13 : ahead B_ 8 13 = false := by rw [hB_]; decide +kernel
  have d_8_18 : ahead B_ 8 18 = true := by rw [hB_]; decide +kernel
  have d_8_21 : ahead B_ 8 21 = true := by rw [hB_]; decide +kernel
  have d_10_13 : ahead B_ 10 13 = false := by rw [hB_]; decide +kernel
  have d_10_18 : ahead B_ 10 18 = true := by rw [hB_]; decide +kernel
  have d_10_21 : ahead B_ 10 21 = true := by rw [hB_]; decide +kernel
  have d_12_13 : ahead B_ 12 13 = true := by rw [hB_]; decide +kernel
  have d_12_18 : ahead B_ 12 18 = true := by rw [hB_]; decide +kernel
  have d_12_21 : ahead B_ 12 21 = true := by rw [hB_]; decide +kernel
  have d_13_4 : ahead B_ 13 4 = false := by rw [hB_]; decide +kernel
  have d_13_6 : ahead B_ 13 6 = false := by rw [hB_]; decide +kernel
  have d_13_8 : ahead B_ 13 8 = false := by rw [hB_]; decide +kernel
  have d_13_10 : ahead B_ 13 10 = false := by rw [hB_]; decide +kernel
  have d_13_12 : ahead B_ 13 12 = false := by rw [hB_]; decide +kernel
  have d_13_15 : ahead B_ 13 15 = false := by rw [hB_]; decide +kernel
  have d_15_13 : ahead B_ 15 13 = false := by rw [hB_]; decide +kernel
  have d_15_18 : ahead B_ 15 18 = true := by rw [hB_]; decide +kernel
  have d_15_21 : ahead B_ 15 21 = true := by rw [hB_]; decide +kernel
  have d_17_13 : ahead B_ 17 13 = false := by rw [hB_]; decide +kernel
  have d_17_18 : ahead B_ 17 18 = true := by rw [hB_]; decide +kernel
  have d_17_21 : ahead B_ 17 21 = true := by rw [hB_]; decide +kernel
  have d_18_4 : ahead B_ 18 4 = false := by rw [hB_]; decide +kernel
  have d_18_6 : ahead B_ 18 6 = false := by rw [hB_]; decide +kernel
  have d_18_8 : ahead B_ 18 8 = false := by rw [hB_]; decide +kernel
  have d_18_10 : ahead B_ 18 10 = false := by rw [hB_]; decide +kernel
  have d_18_12 : ahead B_ 18 12 = false := by rw [hB_]; decide +kernel
  have d_18_15 : ahead B_ 18 15 = false := by rw [hB_]; decide +kernel
  have d_21_4 : ahead B_ 21 4 = false := by rw [hB_]; decide +kernel
  have d_21_6 : ahead B_ 21 6 = false := by rw [hB_]; decide +kernel
  have d_21_8 : ahead B_ 21 8 = false := by rw [hB_]; decide +kernel
  have d_21_10 : ahead B_ 21 10 = false := by rw [hB_]; decide +kernel
  have d_21_12 : ahead B_ 21 12 = false := by rw [hB_]; decide +kernel
  have d_21_15 : ahead B_ 21 15 = false := by rw [hB_]; decide +kernel
  apply drawE B_
  simp [zS, mkBlk, guardA, clsOf, reserve, freshenAll, wantedBy, unwantedBy, Heap.lay, ontoF, evE_c, evE_n, putE_s, putX_s, valE_s, redE_s, actE_s, layE_s, gateE_t, clsE_l, clsE_a, clsE_p, clsE_r, d_4_13, d_4_18, d_4_21, d_6_13, d_6_18, d_6_21, d_8_13, d_8_18, d_8_21, d_10_13, d_10_18, d_10_21, d_12_13, d_12_18, d_12_21, d_13_4, d_13_6, d_13_8, d_13_10, d_13_12, d_13_15, d_15_13, d_15_18, d_15_21, d_17_13, d_17_18, d_17_21, d_18_4, d_18_6, d_18_8, d_18_10, d_18_12, d_18_15, d_21_4, d_21_6, d_21_8, d_21_10, d_21_12, d_21_15, rd2, bld, sg, kc, happ, q1, q2, q3, pr, hly, c0, c1, c2, c3, c4]
  exact rfl
  refine ⟨_, rfl, ?_, ?_⟩
  simp [zS, reserve, freshenAll, sameRecs, sameAll, sameAt, d_4_13, d_4_18, d_4_21, d_6_13, d_6_18, d_6_21, d_8_13, d_8_18, d_8_21, d_10_13, d_10_18, d_10_21, d_12_13, d_12_18, d_12_21, d_13_4, d_13_6, d_13_8, d_13_10, d_13_12, d_13_15, d_15_13, d_15_18, d_15_21, d_17_13, d_17_18, d_17_21, d_18_4, d_18_6, d_18_8, d_18_10, d_18_12, d_18_15, d_21_4, d_21_6, d_21_8, d_21_10, d_21_12, d_21_15, rd2, bld, sg, kc, happ, q1, q2, q3, pr, hly, c0, c1, c2, c3, c4]
  simp [allPend, Heap.lay, ontoF, thenQ]
  have g3 : Heap.get ⟨m + 1 + 22 + 1, [[(m + 1 + 17, .cells [.int .i64 nd.kind, .int .i64 nd.space, .str nd.name, aAttrs nd.attrs, .str nd.data, .int .i64 (-1), .nilS]), (m, .cells nd.cs)], (m + 1 + 22, .cells R) :: (pb, .cells (pre ++ .slc (m + 1 + 22) 0 (L.length + 1) (.rest 7) :: post)) :: g]⟩ pb = some (.cells (pre ++ .slc (m + 1 + 22) 0 (L.length + 1) (.rest 7) :: post)) := by
    simp [Heap.get, getFs, getF, q1, q2, q3]
  have gx3 : getL (pre ++ .slc (m + 1 + 22) 0 (L.length + 1) (.rest 7) :: post) pre.length = some (.slc (m + 1 + 22) 0 (L.length + 1) (.rest 7)) := by
    rw [getL_get (by simp), List.getElem_append_right (by omega)]
    simp
  have hfit := fit_E (es' := (L ++ [fresh nd]).map aNode) (c := m + 1 + 22) (cs0 := R) (H := ⟨m + 1 + 22 + 1, [[(m + 1 + 17, .cells [.int .i64 nd.kind, .int .i64 nd.space, .str nd.name, aAttrs nd.attrs, .str nd.data, .int .i64 (-1), .nilS]), (m, .cells nd.cs)], (m + 1 + 22, .cells R) :: (pb, .cells (pre ++ .slc (m + 1 + 22) 0 (L.length + 1) (.rest 7) :: post)) :: g]⟩) h (by omega) (by simp)
    (fun σ => by
      subst hR
      rw [List.map_append, flat_append, flat_append]
      refine fitL_app (fitL_pure (el_node L).pure) ?_
      simp [flatAV, nodeZ, aNode, fresh, Nd.cs, AV.cells, fitL, fitV, aInt, pureV])
    (by
      rw [g3]
      simp)
    (by simp [Heap.get, getFs, getF, show Nat.beq (m + 1 + 17) (m + 1 + 22) = false from beqN_ne (by omega), show Nat.beq m (m + 1 + 22) = false from beqN_ne (by omega)])
    (fun e he => by
      have := h.lg e he
      have nd := h.nd
      rw [List.nodup_cons] at nd
      have e1 : pb ≠ e.1 := fun x => nd.1 (List.mem_map.2 ⟨e, he, x.symm⟩)
      simp [Heap.get, getFs, getF, beqN_ne (show m + 1 + 22 ≠ e.1 by omega), beqN_ne (show m + 1 + 17 ≠ e.1 by omega), beqN_ne (show m ≠ e.1 by omega), beqN_ne e1, gF_of nd.2 he])
  have rd3 : readVar Tryz.prog ⟨m + 1 + 22 + 1, [[(m + 1 + 17, .cells [.int .i64 nd.kind, .int .i64 nd.space, .str nd.name, aAttrs nd.attrs, .str nd.data, .int .i64 (-1), .nilS]), (m, .cells nd.cs)], (m + 1 + 22, .cells R) :: (pb, .cells (pre ++ .slc (m + 1 + 22) 0 (L.length + 1) (.rest 7) :: post)) :: g]⟩ 30 (.ptr pb pre.length) = some (.slc (m + 1 + 22) 0 (L.length + 1) (.rest 7)) := by
    simp [g3, gx3]
  have hsub : wr .i64 (L.length : Int) = some (L.length : Int) := by
    have := sub_one (q := L.length) (by omega)
    simpa using this
  have hlen : ∀ H, lenA Tryz.prog H 30 (.slc (m + 1 + 22) 0 (L.length + 1) (.rest 7)) = some (L.length + 1) := fun H => rfl
  repeat refine wps_seq ?_
  refine wps_region callOK ?_
  simp [zS, rd3, hsub, hlen]
  repeat refine wps_seq ?_
  refine wps_ret ?_
  simp [retVal, Tryz.f52, oneOr]
  rw [List.map_append] at hfit
  refine ⟨_, _, ?_, hfit⟩
  simp [fitV, pureV]
theorem thaw_tree {H : Heap} {k : Nat} {t : Tr} (hne : t ≠ []) (hk : H.get k = some (.cells (flatAV (t.map aNode)))) : thawA H [7] (.agg [ownV k 7 (t.map aNode)]) = some (aTree t) := by
  have el := el_node t
  have e1 := sub_pre el (Nat.le_refl _)
  rw [List.take_of_length_le (Nat.le_refl _)] at e1
  have e2 := el.chunk
  rw [List.length_map] at e1 e2
  rw [ownV_ne (by simp [hne])]
  simp [thawA, okV, pureL, pureV, thawC, thaw1, hk, el.pure, e1, e2, el.size, aTree]
theorem c89 {T : List (Entry Tryz.prog)} (hS : findE 73 T = some e73.g) (t : Tr) (i : Int) (hi : isB t i = true) (hu : (nodeAt t i).up = -1) : CallAt (ctx T) 89 [aTree t, .int .i64 i] ⟨0, []⟩ (.int .i64 (-1)) ⟨0, []⟩ := by
  have ks := fun i H => k73 hS t i H
  have hk : 0 ≤ i ∧ i < (t.length : Int) := by simpa [isB] using hi
  have hm : isB t (-1) = false := by simp [isB]
  simp only [aTree] at ks
  refine callAt_body (fn := Tryz.f89) (s0 := ⟨[0, 1, 2, 4], [aTree t, .int .i64 i, .undef, .undef], [], 33, ⟨0, [[]]⟩⟩) Tryz.func89 rfl rfl rfl ?_
  repeat refine wps_seq ?_
  repeat refine wps_seq ?_
  refine wps_region callOK ?_
  simp [zS, aTree]
  repeat refine wps_seq ?_
  refine wps_drawn mixed callOK (by decide +kernel) fun B_ hB_ => ?_
  have d_0_2 : ahead B_ 0 2 = true := by rw [hB_]; decide +kernel
  have d_0_12 : ahead B_ 0 12 = true := by rw [hB_]; decide +kernel
  have d_2_0 : ahead B_ 2 0 = false := by rw [hB_]; decide +kernel
  have d_2_5 : ahead B_ 2 5 = true := by rw [hB_]; decide +kernel
  have d_2_7 : ahead B_ 2 7 = true := by rw [hB_]; decide +kernel
  have d_2_11 : ahead B_ 2 11 = true := by rw [hB_]; decide +kernel
  have d_5_2 : ahead B_ 5 2 = false := by rw [hB_]; decide +kernel
  have d_5_12 : ahead B_ 5 12 = true := by rw [hB_]; decide +kernel
  have d_7_2 : ahead B_ 7 2 = false := by rw [hB_]; decide +kernel
  have d_7_12 : ahead B_ 7 12 = true := by rw [hB_]; decide +kernel
  have d_11_2 : ahead B_ 11 2 = false := by rw [hB_]; decide +kernel
  have d_11_12 : ahead B_ 11 12 = true := by rw [hB_]; decide +kernel
  have d_12_0 : ahead B_ 12 0 = false := by rw [hB_]; decide +kernel
  have d_12_5 : ahead B_ 12 5 = false := by rw [hB_]; decide +kernel
  have d_12_7 : ahead B_ 12 7 = false := by rw [hB_]; decide +kernel
  have d_12_11 : ahead B_ 12 11 = false := by rw [hB_]; decide +kernel
  apply drawE B_
  simp [zS, mkBlk, guardA, clsOf, reserve, freshenAll, wantedBy, unwantedBy, Heap.lay, ontoF, evE_c, evE_n, putE_s, putX_s, valE_s, redE_s, actE_s, layE_s, gateE_t, clsE_l, clsE_a, clsE_p, clsE_r, d_0_2, d_0_12, d_2_0, d_2_5, d_2_7, d_2_11, d_5_2, d_5_12, d_7_2, d_7_12, d_11_2, d_11_12, d_12_0, d_12_5, d_12_7, d_12_11, ks, hi, hm, atX hk.1 hk.2, Nd.cs, aInt, hu]
  exact rfl
  refine ⟨_, rfl, ?_, ?_⟩
  simp [zS, reserve, freshenAll, sameRecs, sameAll, sameAt, d_0_2, d_0_12, d_2_0, d_2_5, d_2_7, d_2_11, d_5_2, d_5_12, d_7_2, d_7_12, d_11_2, d_11_12, d_12_0, d_12_5, d_12_7, d_12_11, ks, hi, hm, atX hk.1 hk.2, Nd.cs, aInt, hu]
  simp [allPend, Heap.lay, ontoF, thenQ]
  repeat refine wps_seq ?_
  refine wps_cond (t := true) rfl (fun _ => ?_) fun h => by cases h
  repeat refine wps_seq ?_
  refine wps_region callOK ?_
  simp [zS]
  repeat refine wps_seq ?_
  refine wps_ret ?_
  simp [retVal, Tryz.f89, oneOr, thenQ, blockQ]
  exact ends_pure rfl (by rfl)
noncomputable def e89 : Entry Tryz.prog := mkE 89 [[7], []] (fun x : Tr × Int => [aTree x.1, .int .i64 x.2]) (fun x => isB x.1 x.2 = true ∧ (nodeAt x.1 x.2).up = -1) (fun _ => .int .i64 (-1)) fun x h => c89 (T := [e73]) rfl x.1 x.2 h.1 h.2
theorem q89 {T : List (Entry Tryz.prog)} (hT : findE 89 T = some e89.g) {a : AV} {H : Heap} {t : Tr} (ha : thawA H [7] a = some (aTree t)) {i : Int} (hi : isB t i = true) (hu : (nodeAt t i).up = -1) : callL (ctx T) (.fn 89) [a, .int .i64 i] H = some (.int .i64 (-1), H) :=
  mkE_scalar hT injTI (t, i) ⟨hi, hu⟩ rfl (by simp [ha])
noncomputable def e74 : Entry Tryz.prog := mkE 74 [[7], [], []] (fun x : Tr × Int × Int => [aTree x.1, .int .i64 x.2.1, .int .i64 x.2.2]) (fun x => x.1.length ≤ 1000000) (fun x => .bool (holdsB x.1 x.2.1 x.2.2)) fun x h => c74 (T := [e73]) rfl x.1 h x.2.1 x.2.2
theorem q74 {T : List (Entry Tryz.prog)} (hT : findE 74 T = some e74.g) {a : AV} {H : Heap} {t : Tr} (ha : thawA H [7] a = some (aTree t)) (ht : t.length ≤ 1000000) (up kid : Int) : callL (ctx T) (.fn 74) [a, .int .i64 up, .int .i64 kid] H = some (.bool (holdsB t up kid), H) :=
  mkE_scalar hT injTII (t, up, kid) ht rfl (by simp [ha])
def setUp (t : Tr) (i : Nat) (u : Int) : Tr := t.take i ++ { nodeAt t i with up := u } :: t.drop (i + 1)
theorem tree_split {t : Tr} {i : Nat} (h : i < t.length) : t = t.take i ++ nodeAt t i :: t.drop (i + 1) := by
  have : nodeAt t i = t[i] := by simp [nodeAt, h]
  rw [this, List.getElem_cons_drop, List.take_append_drop]
theorem lay_up {t : Tr} {i : Nat} (h : i < t.length) (u : Int) : layL [.int .i64 u] (i * 7 + 5) (flatAV (t.map aNode)) = some (flatAV ((setUp t i u).map aNode)) := by
  have hl : (flatAV ((t.take i).map aNode)).length = i * 7 := by rw [(el_node _).len]; simp; omega
  have e1 : flatAV (t.map aNode) = (flatAV ((t.take i).map aNode) ++ [aInt (nodeAt t i).kind, aInt (nodeAt t i).space, .str (nodeAt t i).name, aAttrs (nodeAt t i).attrs, .str (nodeAt t i).data]) ++ [aInt (nodeAt t i).up] ++ (aInts (nodeAt t i).kids :: flatAV ((t.drop (i + 1)).map aNode)) := by
    conv => lhs; rw [tree_split h]
    simp [flat_append, flatAV, Nd.cs]
  have e2 : flatAV ((setUp t i u).map aNode) = (flatAV ((t.take i).map aNode) ++ [aInt (nodeAt t i).kind, aInt (nodeAt t i).space, .str (nodeAt t i).name, aAttrs (nodeAt t i).attrs, .str (nodeAt t i).data]) ++ [.int .i64 u] ++ (aInts (nodeAt t i).kids :: flatAV ((t.drop (i + 1)).map aNode)) := by
    simp [setUp, flat_append, flatAV, Nd.cs, aInt]
  rw [e1, e2]
  have := layL_app (a := flatAV ((t.take i).map aNode) ++ [aInt (nodeAt t i).kind, aInt (nodeAt t i).space, .str (nodeAt t i).name, aAttrs (nodeAt t i).attrs, .str (nodeAt t i).data]) (b := [aInt (nodeAt t i).up]) (b' := [.int .i64 u]) (c := aInts (nodeAt t i).kids :: flatAV ((t.drop (i + 1)).map aNode)) rfl
  rw [List.length_append, hl] at this
  exact this
theorem sF_none {b : Nat} {k : Blk} : ∀ {f : List (Nat × Blk)}, getF b f = none → setF b k f = none
  | [], _ => rfl
  | x :: r, h => by
    unfold getF at h
    unfold setF
    cases hx : Nat.beq x.1 b with
    | true => rw [hx] at h; cases h
    | false =>
      rw [hx] at h
      simp only at h ⊢
      rw [sF_none h]
      rfl
theorem setUp_len {t : Tr} {i : Nat} (h : i < t.length) (u : Int) : (setUp t i u).length = t.length := by
  simp [setUp]; omega
theorem write_up {m n pb k : Nat} {pre post : List AV} {g f : List (Nat × Blk)} {t : Tr} (h : Eok m pb pre k 7 (t.map aNode) post g) {i : Nat} (hi : i < t.length) (u : Int) (hf : ∀ j, j < m → getF j f = none) :
    writeVar Tryz.prog ⟨n, [f, VE pb pre k 7 (t.map aNode) post g]⟩ 3 (.ptr k (i * 7 + 5)) (.int .i64 u) = some ⟨n, [f, VE pb pre k 7 ((setUp t i u).map aNode) post g]⟩ := by
  have hne : t.map aNode ≠ [] := by
    intro e
    have := congrArg List.length e
    simp at this
    subst this
    simp at hi
  have hne' : (setUp t i u).map aNode ≠ [] := by simp [setUp]
  have hk : getF k f = none := hf k h.lk.1
  have hg : Heap.get ⟨n, [f, VE pb pre k 7 (t.map aNode) post g]⟩ k = some (.cells (flatAV (t.map aNode))) := by
    simp only [Heap.get, getFs]
    rw [hk, VE_k h hne]
  have hs : Heap.set ⟨n, [f, VE pb pre k 7 (t.map aNode) post g]⟩ k (.cells (flatAV ((setUp t i u).map aNode))) = some ⟨n, [f, VE pb pre k 7 ((setUp t i u).map aNode) post g]⟩ := by
    simp only [Heap.set, setFs]
    rw [sF_none hk]
    unfold VE
    rw [ownF_ne hne, ownF_ne hne', ownV_ne hne, ownV_ne hne']
    simp [setF, h.k_p, setUp_len hi]
  unfold writeVar
  simp [AV.cells, allSingle, AV.single, writeCells, hg, Blk.wt, lay_up hi u, Heap.ready, refs, hs, Blk.re]
theorem rd_tree {m n pb k : Nat} {pre post es : List AV} {g f : List (Nat × Blk)} (h : Eok m pb pre k 7 es post g) (hf : ∀ j, j < m → getF j f = none) :
    readVar Tryz.prog ⟨n, [f, VE pb pre k 7 es post g]⟩ 32 (.ptr pb pre.length) = some (.agg [ownV k 7 es]) ∧ readVar Tryz.prog ⟨n, [f, VE pb pre k 7 es post g]⟩ 30 (.ptr pb pre.length) = some (ownV k 7 es) := by
  have hgv : Heap.get ⟨n, [f, VE pb pre k 7 es post g]⟩ pb = some (.cells (pre ++ ownV k 7 es :: post)) := by
    simp only [Heap.get, getFs]
    rw [hf pb h.lp, VE_p]
  have gx : getL (pre ++ ownV k 7 es :: post) pre.length = some (ownV k 7 es) := by
    rw [getL_get (by simp), List.getElem_append_right (by omega)]
    simp
  have sx : subL pre.length 1 (pre ++ ownV k 7 es :: post) = some [ownV k 7 es] := by
    simp [subL, takeL]
  constructor
  · simp [readVar, hgv, gx, sx, readCells, Blk.rd]
  · simp [hgv, gx]
theorem c75 {T : List (Entry Tryz.prog)} (hP : findE 89 T = some e89.g) (hS : findE 73 T = some e73.g) {m pb k : Nat} {pre post : List AV} {g : List (Nat × Blk)} {t : Tr} (h : Eok m pb pre k 7 (t.map aNode) post g) {i : Nat} (hi : i < t.length) (h0 : i ≠ 0) (hu : (nodeAt t (i : Int)).up = -1) :
    CallAt (ctx T) 75 [.ptr pb pre.length, .int .i64 (i : Int)] ⟨m, [VE pb pre k 7 (t.map aNode) post g]⟩ (.tup []) ⟨m, [VE pb pre k 7 (t.map aNode) post g]⟩ := by
  have hne : t ≠ [] := by intro e; subst e; simp at hi
  have hne' : t.map aNode ≠ [] := by simpa using hne
  have hb : isB t (i : Int) = true := by simp [isB, hi]
  have nf : ∀ j, j < m → getF j ([] : List (Nat × Blk)) = none := fun _ _ => rfl
  have rdT := fun n => (rd_tree (n := n) h nf).1
  have rdN := fun n => (rd_tree (n := n) h nf).2
  have hk : ∀ n, Heap.get ⟨n, [[], VE pb pre k 7 (t.map aNode) post g]⟩ k = some (.cells (flatAV (t.map aNode))) := fun n => by
    simp only [Heap.get, getFs]
    rw [nf k h.lk.1, VE_k h hne']
  have kp := fun n => q89 hP (thaw_tree hne (hk n)) hb hu
  have ks := fun n => q73 hS (thaw_tree hne (hk n)) (i : Int)
  rw [hb] at ks
  have sU : setUp t i (-1) = t := by
    have e : ({ nodeAt t i with up := -1 } : Nd) = nodeAt t i := by rw [← hu]
    unfold setUp
    rw [e, ← tree_split hi]
  have hw := fun n => write_up (n := n) h hi (-1) nf
  rw [sU] at hw
  have ix : indexAddrA Tryz.prog 30 (ownV k 7 (t.map aNode)) (.int .i64 (i : Int)) = some (.ptr k (i * 7)) := by
    rw [ownV_ne hne']
    simp [indexAddrA, idx_nat hi]
  have hfit := fit_W (H := ⟨m, [[], VE pb pre k 7 (t.map aNode) post g]⟩) h (Nat.le_refl m) hne' (el_node t) (by
    simp only [Heap.get, getFs]
    rw [nf pb h.lp, VE_p]) (hk m) (fun e he => by
      have nd := h.nd
      rw [List.nodup_cons] at nd
      have e1 : pb ≠ e.1 := fun x => nd.1 (List.mem_map.2 ⟨e, he, x.symm⟩)
      have e2 : k ≠ e.1 := fun x => h.lk.2 (by rw [x]; exact List.mem_cons_of_mem _ (List.mem_map.2 ⟨e, he, rfl⟩))
      simp [Heap.get, getFs, VE, ownF_ne hne', getF, beqN_ne e1, beqN_ne e2, gF_of nd.2 he])
  refine callAt_body (fn := Tryz.f75) (s0 := ⟨[0, 1, 4, 5], [.ptr pb pre.length, .int .i64 (i : Int), .undef, .undef], [], 54, ⟨m, [] :: [VE pb pre k 7 (t.map aNode) post g]⟩⟩) Tryz.func75 rfl rfl rfl ?_
  repeat refine wps_seq ?_
  repeat refine wps_seq ?_
  refine wps_region callOK ?_
  simp [zS, rdT, kp]
  repeat refine wps_seq ?_
  refine wps_region callOK ?_
  simp [zS]
  repeat refine wps_seq ?_
  refine wps_cond (t := false) rfl (fun h => by cases h) fun _ => ?_
  repeat refine wps_seq ?_
  refine wps_skip ?_
  simp
  repeat refine wps_seq ?_
  refine wps_region callOK ?_
  simp [zS, rdT, ks, h0]
  repeat refine wps_seq ?_
  refine wps_cond (t := true) rfl (fun _ => ?_) fun h => by cases h
  repeat refine wps_seq ?_
  refine wps_region callOK ?_
  simp [zS, rdN, ix, hw]
  refine ⟨_, rfl, _, _, ?_, hfit⟩
  simp [oneOr, fitV, fitL]
theorem el_kid (L : List Int) : Elems 1 (L.map aInt) := .map (sz := 1) (f := aInt) (by decide) (fun x => ⟨rfl, by simp [aInt, AV.cells, pureL, pureV], fun _ => rfl, fun h => absurd rfl h⟩) L
theorem single_kid : ∀ (L : List Int), allSingle (flatAV (L.map aInt)) = true
  | [] => rfl
  | a :: r => by simp only [List.map_cons, flatAV, allSingle_append, single_kid r]; rfl
theorem c77 {T : List (Entry Tryz.prog)} (L : List Int) (hl : L.length ≤ 1000000) : CallAt (ctx T) 77 [aInts L] ⟨0, []⟩ (ownV 0 1 (L.map aInt)) ⟨1, [ownF 0 (L.map aInt)]⟩ := by
  have happ := app_lits (P := Tryz.prog) (elem := 3) (b := 0) (m := 1) (es := L.map aInt) (g := []) (fs := []) szT3 byT3 zeT3 rfl (by omega) (by omega) (el_kid _) (single_kid _) (by simp; omega)
  cases L with
  | nil =>
    refine callAt_body (fn := Tryz.f77) (s0 := ⟨[0, 2], [.fslc 1 [], .undef], [], 8, ⟨0, [[]]⟩⟩) Tryz.func77 rfl rfl rfl ?_
    repeat refine wps_seq ?_
    refine wps_region callOK ?_
    simp [zS]
    refine wps_empty (pre := []) ?_ ?_
    · repeat refine wps_seq ?_
      refine wps_region callOK ?_
      simp [zS]
      repeat refine wps_seq ?_
      refine wps_cond (t := true) rfl (fun _ => ?_) fun h => by cases h
      repeat refine wps_seq ?_
      refine wps_region callOK ?_
      simp [zS]
      repeat refine wps_seq ?_
      refine wps_ret ?_
      simp [retVal, Tryz.f77, oneOr]
      exact ends_none (.inl rfl)
    · repeat refine wps_seq ?_
      refine wps_region callOK ?_
      simp [zS]
      repeat refine wps_seq ?_
      refine wps_cond (t := false) rfl (fun h => by cases h) fun _ => ?_
      repeat refine wps_seq ?_
      refine wps_skip ?_
      simp
      have happ : appendA Tryz.prog ⟨1, [[(0, .cells [])]]⟩ 3 (.slc 0 0 0 (.ex 0)) .eslc = some (.slc 0 0 0 (.ex 0), ⟨1, [[(0, .cells [])]]⟩) := rfl
      repeat refine wps_seq ?_
      refine wps_region callOK ?_
      simp [zS, happ]
      repeat refine wps_seq ?_
      refine wps_ret ?_
      simp [retVal, Tryz.f77, oneOr]
      exact ends_none (.inr (.inr ⟨_, rfl⟩))
  | cons x r =>
    have e1 : litV 0 1 1 ((x :: r).map aInt) = .slc 1 0 (r.length + 1) (.rest 1) := by simp [litV]
    have e2 : ownH ⟨1, [[(0, .cells [])]]⟩ ((x :: r).map aInt) = ⟨2, [[(1, .cells (flatAV ((x :: r).map aInt))), (0, .cells [])]]⟩ := rfl
    rw [e1, e2] at happ
    refine callAt_body (fn := Tryz.f77) (s0 := ⟨[0, 2], [aInts (x :: r), .undef], [], 8, ⟨0, [[]]⟩⟩) Tryz.func77 rfl rfl rfl ?_
    repeat refine wps_seq ?_
    refine wps_region callOK ?_
    simp [zS, aInts]
    repeat refine wps_seq ?_
    refine wps_region callOK ?_
    simp [zS, aInts]
    repeat refine wps_seq ?_
    refine wps_cond (t := false) rfl (fun h => by cases h) fun _ => ?_
    repeat refine wps_seq ?_
    refine wps_skip ?_
    simp
    simp only [List.map_cons] at happ
    repeat refine wps_seq ?_
    refine wps_region callOK ?_
    simp [zS, happ]
    repeat refine wps_seq ?_
    refine wps_ret ?_
    simp [retVal, Tryz.f77, oneOr]
    exact ends_own (b := 1) (es := (x :: r).map aInt) (el_kid _) (by simp) (by simp) (by simp [Heap.get, getFs, getF])
noncomputable def e77 : Entry Tryz.prog := mkOwn 77 [[1]] (fun L : List Int => [aInts L]) (fun L => L.length ≤ 1000000) 1 (fun L => L.map aInt) el_kid fun L hl => c77 (T := []) L hl
theorem k77 {T : List (Entry Tryz.prog)} (hT : findE 77 T = some e77.g) {L : List Int} (hl : L.length ≤ 1000000) (H : Heap) : callL (ctx T) (.fn 77) [aInts L] H = some (ownV H.n 1 (L.map aInt), ownH H (L.map aInt)) :=
  mkOwn_eq hT (fun x y h => by simp only [List.cons.injEq] at h; exact inj_aInts h.1) L hl (by simp [pureL]) (by simp [thawA_ok]) H
theorem fit_ins {row row' : List AV} {x : AV} (hp : pureL row' = true) (hx : pureV x = true) (he : row = row') : FitH 2 (idn 3) [] ⟨3, [[(2, .cells row)], [(1, .cells [x])]]⟩ ⟨3, [[(2, .cells row'), (1, .cells [x])]]⟩ := by
  subst he
  refine ⟨by simpa using idn_nd 3, idn_nd2 3, by simp [Heap.ents], ?_, ?_, by show 2 ≤ 3; omega, ?_, fun x h => by cases h⟩
  · intro y hy
    obtain ⟨i, hi, rfl⟩ := List.mem_map.1 hy
    simpa using hi
  · intro y hy hlt
    obtain ⟨i, hi, rfl⟩ := List.mem_map.1 hy
    rfl
  · intro e he
    simp only [Heap.ents, List.flatten_cons, List.flatten_nil, List.append_nil, List.mem_cons, List.not_mem_nil, or_false] at he
    rcases he with rfl | rfl
    · exact ⟨2, .cells row, idn_mem (by omega), by simp [Heap.get, getFs, getF], by show fitL _ _ _ _; exact fitL_pure hp⟩
    · exact ⟨1, .cells [x], idn_mem (by omega), by simp [Heap.get, getFs, getF], by show fitL _ _ _ _; exact fitL_pure (by simp [pureL, hx])⟩
theorem c76 {T : List (Entry Tryz.prog)} (L : List Int) (x : Int) (hl : L.length ≤ 1000000) :
    CallAt (ctx T) 76 [ownV 0 1 (L.map aInt), .int .i64 (L.length : Int), .slc 1 0 1 (.ex 1)] ⟨2, [ownF 0 (L.map aInt) ++ [(1, .cells [.int .i64 x])]]⟩ (.slc 2 0 (L.length + 1) (.rest 1)) ⟨3, [[(2, .cells (flatAV ((L ++ [x]).map aInt))), (1, .cells [.int .i64 x])]]⟩ := by
  have happ := own_append (P := Tryz.prog) (H := ⟨2, [[], ownF 0 (L.map aInt) ++ [(1, .cells [.int .i64 x])]]⟩) (elem := 3) (b := 0) (n := 0) (es := L.map aInt) (x := .slc 1 0 1 (.ex 1)) (cs := [.int .i64 x]) szT3 byT3 zeT3 rfl (by omega) (by omega) rfl
    (by cases L <;> simp [srcCells, readCells, Heap.get, getFs, getF, ownF, subL, takeL, Blk.rd]) rfl rfl (el_kid L) (by simp; omega)
    (fun h => by cases L with
      | nil => exact absurd rfl h
      | cons y r => simp [Heap.get, getFs, getF, ownF])
    (fun h => by cases L with
      | nil => rfl
      | cons y r => cases h) (fun _ => rfl)
  have er : flatAV ((L ++ [x]).map aInt) = flatAV (L.map aInt) ++ [.int .i64 x] := by
    rw [List.map_append, flat_append]; simp [flatAV, aInt, AV.cells]
  have hp : pureL (flatAV ((L ++ [x]).map aInt)) = true := (el_kid _).pure
  rw [er] at hp ⊢
  have hfit := fit_ins (x := .int .i64 x) hp rfl rfl
  generalize hR : flatAV (L.map aInt) ++ [AV.int .i64 x] = R at *
  cases L with
  | nil =>
    replace happ : appendA Tryz.prog ⟨2, [[], [(1, .cells [.int .i64 x])]]⟩ 3 .zslc (.slc 1 0 1 (.ex 1)) = some (.slc 2 0 1 (.rest 1), ⟨3, [[(2, .cells R)], [(1, .cells [.int .i64 x])]]⟩) := happ
    refine callAt_body (fn := Tryz.f76) (s0 := ⟨[0, 1, 2, 6, 7, 8, 9], [.zslc, .int .i64 0, .slc 1 0 1 (.ex 1), .undef, .undef, .undef, .undef], [], 95, ⟨2, [] :: [[(1, .cells [.int .i64 x])]]⟩⟩) Tryz.func76 rfl rfl rfl ?_
    have s0 : ∀ H, sliceA Tryz.prog H 46 .zslc (some (.int .i64 0)) none none = some .zslc := fun _ => rfl
    have l0 : ∀ H, lenA Tryz.prog H 46 .zslc = some 0 := fun _ => rfl
    have l1 : ∀ H, lenA Tryz.prog H 46 (.slc 1 0 1 (.ex 1)) = some 1 := fun _ => rfl
    repeat refine wps_seq ?_
    refine wps_region callOK ?_
    simp [zS]
    repeat refine wps_seq ?_
    refine wps_region callOK ?_
    simp [zS, s0]
    repeat refine wps_seq ?_
    refine wps_region callOK ?_
    simp [zS, l1]
    repeat refine wps_seq ?_
    refine wps_region callOK ?_
    simp [zS]
    repeat refine wps_seq ?_
    refine wps_cond (t := false) rfl (fun h => by cases h) fun _ => ?_
    repeat refine wps_seq ?_
    refine wps_skip ?_
    simp
    repeat refine wps_seq ?_
    refine wps_region callOK ?_
    simp [zS, l0]
    repeat refine wps_seq ?_
    refine wps_region callOK ?_
    simp [zS]
    repeat refine wps_seq ?_
    refine wps_cond (t := true) rfl (fun _ => ?_) fun h => by cases h
    repeat refine wps_seq ?_
    refine wps_region callOK ?_
    simp [zS, happ]
    repeat refine wps_seq ?_
    refine wps_ret ?_
    simp [retVal, Tryz.f76, oneOr]
    refine ⟨_, _, ?_, hfit⟩
    simp [fitV, lookN_idn (show 2 < 3 by omega)]
  | cons y r =>
    have hlen : (flatAV ((y :: r).map aInt)).length = r.length + 1 := by rw [(el_kid _).len]; simp
    have hlen' : (flatAV (aInt y :: r.map aInt)).length = r.length + 1 := hlen
    have happ' : appendA Tryz.prog ⟨2, [[], [(0, .cells (flatAV (aInt y :: r.map aInt))), (1, .cells [.int .i64 x])]]⟩ 3 (.slc 0 0 (r.length + 1) (.rest 1)) (.slc 1 0 1 (.ex 1)) = some (.slc 2 0 (r.length + 1 + 1) (.rest 1), ⟨3, [[(2, .cells R)], [(1, .cells [.int .i64 x])]]⟩) := by
      have e : ownV 0 1 ((y :: r).map aInt) = .slc 0 0 (r.length + 1) (.rest 1) := by simp [ownV]
      rw [e] at happ
      simpa [ownF, Heap.drop, killFs, killF, getF, Heap.new, pushF] using happ
    obtain ⟨v, hv⟩ : ∃ v, sliceA Tryz.prog ⟨2, [[], [(0, .cells (flatAV (aInt y :: r.map aInt))), (1, .cells [.int .i64 x])]]⟩ 46 (.slc 0 0 (r.length + 1) (.rest 1)) (some (.int .i64 ((r.length : Int) + 1))) none none = some v := by
      have ix := idx_nat (show r.length + 1 < Nat.succ (r.length + 1) by omega)
      rw [Int.natCast_add] at ix
      simp only [Int.natCast_one] at ix
      have bl : Nat.ble (r.length + 1) (r.length + 1) = true := by rw [Nat.ble_eq]; exact Nat.le_refl _
      simp [sliceA, hiOK, sliceBlk, knownCells, Heap.get, getFs, getF, Blk.rd, hlen', bound, ix, bl]
    have l0 : ∀ H, lenA Tryz.prog H 46 (.slc 0 0 (r.length + 1) (.rest 1)) = some (r.length + 1) := fun _ => rfl
    have l1 : ∀ H, lenA Tryz.prog H 46 (.slc 1 0 1 (.ex 1)) = some 1 := fun _ => rfl
    have eV : ownV 0 1 ((y :: r).map aInt) = .slc 0 0 (r.length + 1) (.rest 1) := by simp [ownV]
    have eL : ((y :: r).length : Int) = (r.length : Int) + 1 := by simp
    rw [eV, eL]
    refine callAt_body (fn := Tryz.f76) (s0 := ⟨[0, 1, 2, 6, 7, 8, 9], [.slc 0 0 (r.length + 1) (.rest 1), .int .i64 ((r.length : Int) + 1), .slc 1 0 1 (.ex 1), .undef, .undef, .undef, .undef], [], 95, ⟨2, [] :: [[(0, .cells (flatAV (aInt y :: r.map aInt))), (1, .cells [.int .i64 x])]]⟩⟩) Tryz.func76 rfl rfl rfl ?_
    repeat refine wps_seq ?_
    refine wps_region callOK ?_
    simp [zS]
    repeat refine wps_seq ?_
    refine wps_region callOK ?_
    simp [zS, hv]
    repeat refine wps_seq ?_
    refine wps_region callOK ?_
    simp [zS, l1]
    repeat refine wps_seq ?_
    refine wps_region callOK ?_
    simp [zS]
    repeat refine wps_seq ?_
    refine wps_cond (t := false) rfl (fun h => by cases h) fun _ => ?_
    repeat refine wps_seq ?_
    refine wps_skip ?_
    simp
    repeat refine wps_seq ?_
    refine wps_region callOK ?_
    simp [zS, l0]
    repeat refine wps_seq ?_
    refine wps_region callOK ?_
    simp [zS]
    repeat refine wps_seq ?_
    refine wps_cond (t := true) rfl (fun _ => ?_) fun h => by cases h
    repeat refine wps_seq ?_
    refine wps_region callOK ?_
    simp [zS, happ']
    repeat refine wps_seq ?_
    refine wps_ret ?_
    simp [retVal, Tryz.f76, oneOr]
    refine ⟨_, _, ?_, hfit⟩
    simp [fitV, lookN_idn (show 2 < 3 by omega)]
mutual
theorem fitV_more {σ : List (Nat × Nat)} {Φ : List (Nat × List AV)} : ∀ (a b : AV), fitV σ [] a b → fitV σ Φ a b
  | .undef, b, h => by cases b <;> simp_all [fitV, lookC]
  | .bool _, b, h => by cases b <;> simp_all [fitV, lookC]
  | .int _ _, b, h => by cases b <;> simp_all [fitV, lookC]
  | .float _ _, b, h => by cases b <;> simp_all [fitV, lookC]
  | .cplx _ _ _, b, h => by cases b <;> simp_all [fitV, lookC]
  | .str _, b, h => by cases b <;> simp_all [fitV, lookC]
  | .nilP, b, h => by cases b <;> simp_all [fitV, lookC]
  | .ptr _ _, b, h => by cases b <;> simp_all [fitV, lookC]
  | .fptr _ _, b, h => by cases b <;> simp_all [fitV, lookC]
  | .nilS, b, h => by cases b <;> simp_all [fitV, lookC]
  | .eslc, b, h => by cases b <;> simp_all [fitV, lookC]
  | .zslc, b, h => by cases b <;> simp_all [fitV, lookC]
  | .slc _ _ _ _, b, h => by cases b <;> simp_all [fitV, lookC]
  | .fslc _ _, b, h => by cases b <;> simp_all [fitV, lookC]
  | .nilM, b, h => by cases b <;> simp_all [fitV, lookC]
  | .map _, b, h => by cases b <;> simp_all [fitV, lookC]
  | .nilF, b, h => by cases b <;> simp_all [fitV, lookC]
  | .nilI, b, h => by cases b <;> simp_all [fitV, lookC]
  | .iface _ _, b, h => by cases b <;> simp_all [fitV, lookC]
  | .yld _, b, h => by cases b <;> simp_all [fitV, lookC]
  | .zptr _ _, b, h => by cases b <;> simp_all [fitV, lookC]
  | .val _, b, h => by cases b <;> simp_all [fitV, lookC]
  | .agg xs, b, h => by
    cases b with
    | agg ys =>
      simp only [fitV] at h ⊢
      exact h.imp (fitL_more xs ys) id
    | undef => simp [fitV]
    | _ => simp [fitV] at h
  | .tup xs, b, h => by
    cases b with
    | tup ys =>
      simp only [fitV] at h ⊢
      exact h.imp (fitL_more xs ys) id
    | undef => simp [fitV]
    | _ => simp [fitV] at h
  | .func f x y, b, h => by
    cases b with
    | func f' x' y' =>
      simp only [fitV] at h ⊢
      exact h.imp (fun ⟨h1, h2, h3⟩ => ⟨h1, fitL_more x x' h2, fitL_more y y' h3⟩) id
    | undef => simp [fitV]
    | _ => simp [fitV] at h
theorem fitL_more {σ : List (Nat × Nat)} {Φ : List (Nat × List AV)} : ∀ (a b : List AV), fitL σ [] a b → fitL σ Φ a b
  | [], b, h => by simpa [fitL] using h
  | x :: r, [], h => by simp [fitL] at h
  | x :: r, y :: s, h => by
    simp only [fitL] at h ⊢
    exact ⟨fitV_more x y h.1, fitL_more r s h.2⟩
end
theorem fitB_more {σ : List (Nat × Nat)} {Φ : List (Nat × List AV)} {k k' : Blk} (h : fitB σ [] k k') : fitB σ Φ k k' := by
  cases k <;> cases k' <;> simp only [fitB] at h ⊢
  · exact fitL_more _ _ h
  · exact ⟨fitL_more _ _ h.1, fitL_more _ _ h.2⟩
  · exact ⟨h.1, fitL_more _ _ h.2⟩
  · exact ⟨h.1, h.2.1, h.2.2.1, fitL_more _ _ h.2.2.2⟩
  · exact h
  · obtain ⟨h1, h2, h3, h4, h5⟩ := h
    exact ⟨h1, h2, h3, fitL_more _ _ h4, h5⟩
theorem fit_K {m m' pb k sz c : Nat} {pre post es es' cs0 K : List AV} {g : List (Nat × Blk)} {H : Heap} (h : Eok m pb pre k sz es post g) (hm : m ≤ m') (hc : m ≤ c) (hne : es' ≠ []) (hp : H.get pb = some (.cells (pre ++ ownV k sz es' :: post)))
    (hcs : ∀ σ, fitL σ [(c, K)] cs0 (flatAV es')) (hk : H.get k = some (.cells cs0)) (hK : H.get c = some (.cells K)) (pK : pureL K = true)
    (hg : ∀ e, e ∈ g → H.get e.1 = some e.2) : FitH m (idn m) [(c, K)] H ⟨m', [[], VE pb pre k sz es' post g]⟩ := by
  have idl := idl_idn m
  have nd := h.nd
  have hkk := h.lk.2
  simp only [List.mem_cons, not_or] at hkk
  rw [List.nodup_cons] at nd
  refine ⟨?_, idn_nd2 m, ?_, ?_, ?_, hm, ?_, ?_⟩
  · have e1 : (idn m).map (·.1) = List.range m := by simp [idn, Function.comp_def]
    rw [e1, List.nodup_append]
    refine ⟨List.nodup_range, by simp, fun a ha b hb => ?_⟩
    simp only [List.map_cons, List.map_nil, List.mem_singleton] at hb
    have : a < m := by simpa using ha
    omega
  · simp only [Heap.ents, List.flatten_cons, List.flatten_nil, List.append_nil, List.nil_append, VE, ownF_ne hne, List.map_cons, List.map_append, List.map_nil, List.cons_append, List.nodup_cons, List.mem_cons, not_or]
    exact ⟨⟨fun e => hkk.1 e.symm, nd.1⟩, hkk.2, nd.2⟩
  · intro x hx
    obtain ⟨i, hi, rfl⟩ := List.mem_map.1 hx
    have : i < m := by simpa using hi
    show i < m'; omega
  · intro x hx hlt
    obtain ⟨i, hi, rfl⟩ := List.mem_map.1 hx
    rfl
  · intro e he
    simp only [Heap.ents, List.flatten_cons, List.flatten_nil, List.append_nil, List.nil_append, VE, ownF_ne hne, List.cons_append, List.mem_cons] at he
    rcases he with rfl | rfl | he
    · refine ⟨pb, _, idn_mem h.lp, hp, ?_⟩
      show fitL _ _ _ _
      rw [ownV_ne hne]
      refine fitL_app (fitL_more _ _ (h.sp _ idl)) ?_
      simp only [fitL]
      exact ⟨by simp [fitV, lookN_idn h.lk.1], fitL_more _ _ (h.sq _ idl)⟩
    · exact ⟨k, .cells cs0, idn_mem h.lk.1, hk, hcs _⟩
    · exact ⟨e.1, e.2, idn_mem (h.lg e he), hg e he, fitB_more (h.sg e he _ idl)⟩
  · intro x hx
    simp only [List.mem_singleton] at hx
    subst hx
    exact ⟨K, hK, fitL_pure pK, pK⟩
def setKids (t : Tr) (i : Nat) (K : List Int) : Tr := t.take i ++ { nodeAt t i with kids := K } :: t.drop (i + 1)
theorem setKids_len {t : Tr} {i : Nat} (h : i < t.length) (K : List Int) : (setKids t i K).length = t.length := by
  simp [setKids]; omega
def kidRow (t : Tr) (i : Nat) (v : AV) : List AV := (flatAV ((t.take i).map aNode) ++ [aInt (nodeAt t i).kind, aInt (nodeAt t i).space, .str (nodeAt t i).name, aAttrs (nodeAt t i).attrs, .str (nodeAt t i).data, aInt (nodeAt t i).up]) ++ [v] ++ flatAV ((t.drop (i + 1)).map aNode)
theorem lay_kids {t : Tr} {i : Nat} (h : i < t.length) (v : AV) : layL [v] (i * 7 + 6) (flatAV (t.map aNode)) = some (kidRow t i v) := by
  have hl : (flatAV ((t.take i).map aNode)).length = i * 7 := by rw [(el_node _).len]; simp; omega
  have e1 : flatAV (t.map aNode) = kidRow t i (aInts (nodeAt t i).kids) := by
    conv => lhs; rw [tree_split h]
    simp [flat_append, flatAV, Nd.cs, kidRow]
  rw [e1]
  have := layL_app (a := flatAV ((t.take i).map aNode) ++ [aInt (nodeAt t i).kind, aInt (nodeAt t i).space, .str (nodeAt t i).name, aAttrs (nodeAt t i).attrs, .str (nodeAt t i).data, aInt (nodeAt t i).up]) (b := [aInts (nodeAt t i).kids]) (b' := [v]) (c := flatAV ((t.drop (i + 1)).map aNode)) rfl
  rw [List.length_append, hl] at this
  exact this
theorem flat_kid : ∀ (K : List Int), flatAV (K.map aInt) = K.map aInt
  | [] => rfl
  | x :: r => by simp only [List.map_cons, flatAV, flat_kid r, cells_aInt, List.cons_append, List.nil_append]
theorem fit_kids {t : Tr} {i c : Nat} {K : List Int} (σ : List (Nat × Nat)) : fitL σ [(c, K.map aInt)] (kidRow t i (.slc c 0 K.length (.rest 1))) (flatAV ((setKids t i K).map aNode)) := by
  have e2 : flatAV ((setKids t i K).map aNode) = kidRow t i (aInts K) := by
    simp [setKids, flat_append, flatAV, Nd.cs, aInt, kidRow]
  have ef : flatAV (K.map aInt) = K.map aInt := flat_kid K
  rw [e2]
  unfold kidRow
  refine fitL_app (fitL_app ?_ ?_) (fitL_pure (el_node _).pure)
  · exact fitL_app (fitL_pure (el_node _).pure) (fitL_pure (by simp [pureL, pureV, aInt]))
  · have hs : subL 0 (K.length * 1) (K.map aInt) = some (flatAV (K.map aInt)) := by
      have := sub_pre (el_kid K) (Nat.le_refl _)
      rw [List.take_of_length_le (Nat.le_refl _), List.length_map] at this
      rwa [ef] at this ⊢
    simp only [fitL, and_true]
    simp only [fitV]
    exact .inl ⟨K.map aInt, by simp [lookC], hs, by simp, (el_kid K).size⟩
theorem ins_at {T : List (Entry Tryz.prog)} (L : List Int) (x : Int) (hl : L.length ≤ 1000000) {b vb n : Nat} {g : List (Nat × Blk)} {fs : List (List (Nat × Blk))} (hbv : vb ≠ b) (hg : ∀ e, e ∈ g ++ fs.flatten → e.1 ≠ b ∧ e.1 ≠ vb) :
    CallAt (ctx T) 76 [ownV b 1 (L.map aInt), .int .i64 (L.length : Int), .slc vb 0 1 (.ex 1)] ⟨n, ((vb, .cells [.int .i64 x]) :: (ownF b (L.map aInt) ++ g)) :: fs⟩ (.slc n 0 (L.length + 1) (.rest 1)) ⟨n + 1, ((n, .cells (flatAV ((L ++ [x]).map aInt))) :: (vb, .cells [.int .i64 x]) :: g) :: fs⟩ := by
  have hp : pureL (flatAV ((L ++ [x]).map aInt)) = true := (el_kid _).pure
  have hp0 : pureL (flatAV (L.map aInt)) = true := (el_kid _).pure
  have px : pureL [AV.int .i64 x] = true := by simp [pureL, pureV]
  have fh : FitH 0 [(b, 0), (vb, 1)] [] ⟨n, ((vb, .cells [.int .i64 x]) :: (ownF b (L.map aInt) ++ g)) :: fs⟩ ⟨2, [ownF 0 (L.map aInt) ++ [(1, .cells [.int .i64 x])]]⟩ := by
    refine ⟨by simp [Ne.symm hbv], by simp, ?_, ?_, fun x hx h => absurd h (Nat.not_lt_zero _), Nat.zero_le _, ?_, fun x h => by cases h⟩
    · cases L <;> simp [Heap.ents, ownF]
    · intro y hy
      simp at hy
      rcases hy with rfl | rfl <;> simp
    · intro e he
      have h1 : ∃ b' k, (b', 1) ∈ [(b, 0), (vb, 1)] ∧ Heap.get ⟨n, ((vb, .cells [.int .i64 x]) :: (ownF b (L.map aInt) ++ g)) :: fs⟩ b' = some k ∧ fitB [(b, 0), (vb, 1)] [] k (.cells [.int .i64 x]) := ⟨vb, .cells [.int .i64 x], by simp, by simp [Heap.get, getFs, getF], by show fitL _ _ _ _; exact fitL_pure px⟩
      cases L with
      | nil =>
        simp only [Heap.ents, List.map_nil, ownF, List.nil_append, List.flatten_cons, List.flatten_nil, List.append_nil, List.mem_singleton] at he
        subst he
        exact h1
      | cons y r =>
        simp only [Heap.ents, List.map_cons, ownF, List.cons_append, List.nil_append, List.flatten_cons, List.flatten_nil, List.append_nil, List.mem_cons, List.not_mem_nil, or_false] at he
        rcases he with rfl | rfl
        · exact ⟨b, .cells (flatAV ((y :: r).map aInt)), by simp, by simp [Heap.get, getFs, getF, ownF, beqN_ne hbv], by show fitL _ _ _ _; exact fitL_pure hp0⟩
        · exact h1
  have hf : fitL [(b, 0), (vb, 1)] [] [ownV b 1 (L.map aInt), .int .i64 (L.length : Int), .slc vb 0 1 (.ex 1)] [ownV 0 1 (L.map aInt), .int .i64 (L.length : Int), .slc 1 0 1 (.ex 1)] := by
    cases L <;> simp [fitL, fitV, lookN, ownV, pureV, Ne.symm hbv]
  have out : OutH [(b, 0), (vb, 1)] ⟨n, ((vb, .cells [.int .i64 x]) :: (ownF b (L.map aInt) ++ g)) :: fs⟩ ⟨2, [ownF 0 (L.map aInt) ++ [(1, .cells [.int .i64 x])]]⟩ ⟨3, [[(2, .cells (flatAV ((L ++ [x]).map aInt))), (1, .cells [.int .i64 x])]]⟩ ⟨n + 1, ((n, .cells (flatAV ((L ++ [x]).map aInt))) :: (vb, .cells [.int .i64 x]) :: g) :: fs⟩ := by
    refine ⟨rfl, fun nd lt => ?_, fun e he => ?_⟩
    · simp only [Heap.ents, List.flatten_cons, List.cons_append, List.map_cons, List.nodup_cons, List.mem_cons, not_or] at nd ⊢
      have hsub : ((g ++ fs.flatten).map (·.1)).Sublist ((ownF b (L.map aInt) ++ g ++ fs.flatten).map (·.1)) := by
        rw [List.append_assoc]
        exact (List.sublist_append_right _ _).map _
      refine ⟨⟨?_, fun hx => ?_⟩, fun hx => nd.1 (hsub.subset hx), nd.2.sublist hsub⟩
      · have := lt (vb, .cells [.int .i64 x]) (by simp [Heap.ents])
        simp only at this; omega
      · obtain ⟨e, he, hx⟩ := List.mem_map.1 hx
        have := lt e (by
          simp only [Heap.ents, List.flatten_cons, List.cons_append, List.mem_cons, List.mem_append] at he ⊢
          rcases he with he | he
          · exact .inr (.inl (.inr he))
          · exact .inr (.inr he))
        simp only at this
        omega
    · simp only [Heap.ents, List.flatten_cons, List.cons_append, List.mem_cons] at he
      rcases he with rfl | rfl | he
      · refine .inl ⟨(2, .cells (flatAV ((L ++ [x]).map aInt))), by simp [Heap.ents], ?_⟩
        simp only [renB, renL_pure _ hp, outN, lookR]
        simp
      · refine .inl ⟨(1, .cells [.int .i64 x]), by simp [Heap.ents], ?_⟩
        simp only [renB, renL_pure _ px, outN, lookR]
        simp
      · refine .inr ⟨?_, fun y hy => ?_⟩
        · simp only [Heap.ents, List.flatten_cons, List.cons_append, List.mem_cons, List.mem_append] at he ⊢
          rcases he with he | he
          · exact .inr (.inl (.inr he))
          · exact .inr (.inr he)
        · obtain ⟨h1, h2⟩ := hg e he
          simp only [List.mem_cons, List.not_mem_nil, or_false] at hy
          rcases hy with rfl | rfl
          · exact h1.symm
          · exact h2.symm
  have := (c76 (T := T) L x hl).framed fh hf out (by show 2 ≤ 3; omega)
  simpa [renV, outN, lookR] using this
theorem get_kids {t : Tr} {i : Nat} (h : i < t.length) : getL (flatAV (t.map aNode)) (i * 7 + 6) = some (aInts (nodeAt t i).kids) := by
  have hl : (flatAV ((t.take i).map aNode)).length = i * 7 := by rw [(el_node _).len]; simp; omega
  have e1 : flatAV (t.map aNode) = (flatAV ((t.take i).map aNode) ++ [aInt (nodeAt t i).kind, aInt (nodeAt t i).space, .str (nodeAt t i).name, aAttrs (nodeAt t i).attrs, .str (nodeAt t i).data, aInt (nodeAt t i).up]) ++ (aInts (nodeAt t i).kids :: flatAV ((t.drop (i + 1)).map aNode)) := by
    conv => lhs; rw [tree_split h]
    simp [flat_append, flatAV, Nd.cs]
  have l6 : (flatAV ((t.take i).map aNode) ++ [aInt (nodeAt t i).kind, aInt (nodeAt t i).space, .str (nodeAt t i).name, aAttrs (nodeAt t i).attrs, .str (nodeAt t i).data, aInt (nodeAt t i).up]).length = i * 7 + 6 := by rw [List.length_append, hl]; rfl
  rw [e1, getL_get (by rw [List.length_append, l6]; simp), List.getElem_append_right (by omega)]
  simp only [l6, Nat.sub_self, List.getElem_cons_zero]
theorem own_heap {n : Nat} {f : List (Nat × Blk)} {fs : List (List (Nat × Blk))} (es : List AV) : ownH ⟨n, f :: fs⟩ es = ⟨n + (if es = [] then 0 else 1), (ownF n es ++ f) :: fs⟩ := by
  cases es <;> simp [ownH, ownF, Heap.new, pushF]
theorem prom_any {b c : Nat} {row : List AV} {f F : List (Nat × Blk)} {k0 : Blk} (hcb : c ≠ b) (hf : getF b f = none) (hF : getF b F = some k0) (hr : pureL row = true) :
    promote b [c] [] [(c, .cells row) :: f, F] = [f, (c, .cells row) :: F] := by
  have hcp : Nat.beq c b = false := beqN_ne hcb
  have r1 : reach 100000 [c] ((c, .cells row) :: f) [] = ([(c, .cells row)], f) := by
    have hk : refsB (.cells row) = [] := refsL_pure 4 _ hr
    show reach (Nat.succ (Nat.succ 99998)) [c] ((c, .cells row) :: f) [] = _
    unfold reach
    simp only [getF, Nat.beq_refl, hk, List.nil_append, killF]
    unfold reach
    rfl
  have e1 : refsF [((c, .cells row) : Nat × Blk)] ++ [c] = [c] := by
    have hk : refsB (.cells row) = [] := refsL_pure 4 _ hr
    simp [refsF, hk]
  have n1 : getF b ((c, Blk.cells row) :: f) = none := by simp [getF, hcp, hf]
  unfold promote
  rw [n1]
  simp only [r1, e1]
  unfold promote
  simp [hF]
theorem write_kids {m N n pb k c u : Nat} {pre post R : List AV} {g f : List (Nat × Blk)} {t : Tr} (h : Eok m pb pre k 7 (t.map aNode) post g) (hu : u < t.length) (hc : m ≤ c) (hf : ∀ j, j < m → getF j f = none) (hR : pureL R = true) :
    writeVar Tryz.prog ⟨N, [(c, .cells R) :: f, VE pb pre k 7 (t.map aNode) post g]⟩ 46 (.ptr k (u * 7 + 6)) (.slc c 0 n (.rest 1)) =
      some ⟨N, [f, (c, .cells R) :: (pb, .cells (pre ++ ownV k 7 (t.map aNode) :: post)) :: (k, .cells (kidRow t u (.slc c 0 n (.rest 1)))) :: g]⟩ := by
  have hne : t.map aNode ≠ [] := by
    intro e
    have := congrArg List.length e
    simp at this
    subst this
    simp at hu
  have hck : c ≠ k := by have := h.lk.1; omega
  have hk : getF k f = none := hf k h.lk.1
  have hk1 : getF k ((c, Blk.cells R) :: f) = none := by simp [getF, beqN_ne hck, hk]
  have hg : Heap.get ⟨N, [(c, .cells R) :: f, VE pb pre k 7 (t.map aNode) post g]⟩ k = some (.cells (flatAV (t.map aNode))) := by
    simp only [Heap.get, getFs]
    rw [hk1, VE_k h hne]
  have pr := prom_any (f := f) hck hk (VE_k h hne) hR
  have hs : Heap.set ⟨N, [f, (c, .cells R) :: VE pb pre k 7 (t.map aNode) post g]⟩ k (.cells (kidRow t u (.slc c 0 n (.rest 1)))) = some ⟨N, [f, (c, .cells R) :: (pb, .cells (pre ++ ownV k 7 (t.map aNode) :: post)) :: (k, .cells (kidRow t u (.slc c 0 n (.rest 1)))) :: g]⟩ := by
    simp only [Heap.set, setFs]
    rw [sF_none hk]
    unfold VE
    rw [ownF_ne hne]
    simp [setF, h.k_p, beqN_ne hck]
  have hr : Heap.ready ⟨N, [(c, .cells R) :: f, VE pb pre k 7 (t.map aNode) post g]⟩ k [.slc c 0 n (.rest 1)] = ⟨N, [f, (c, .cells R) :: VE pb pre k 7 (t.map aNode) post g]⟩ := by
    unfold Heap.ready
    simp [refs, pr]
  unfold writeVar
  simp [AV.cells, allSingle, AV.single, writeCells, hg, Blk.wt, lay_kids hu, hr, hs, Blk.re]
theorem c53 {T : List (Entry Tryz.prog)} (hP : findE 89 T = some e89.g) (hS : findE 73 T = some e73.g) (hH : findE 74 T = some e74.g) (hC : findE 77 T = some e77.g)
    {m pb k : Nat} {pre post : List AV} {g : List (Nat × Blk)} {t : Tr} (h : Eok m pb pre k 7 (t.map aNode) post g) (ht : t.length ≤ 1000000) {u i a : Nat} (hu : u < t.length) (hi : i < t.length) (h0 : i ≠ 0) (hh : holdsB t (i : Int) (u : Int) = false) (hup : (nodeAt t (i : Int)).up = -1) (hk : (nodeAt t (u : Int)).kids.length ≤ a) (ha : a ≤ 1000000) :
    CallAt (ctx T) 53 [.ptr pb pre.length, .int .i64 (u : Int), .int .i64 (a : Int), .int .i64 (i : Int)] ⟨m, [VE pb pre k 7 (t.map aNode) post g]⟩ (.tup []) ⟨m, [VE pb pre k 7 ((setUp (setKids t u ((nodeAt t (u : Int)).kids ++ [(i : Int)])) i (u : Int)).map aNode) post g]⟩ := by
  have hne : t ≠ [] := by intro e; subst e; simp at hi
  have hne' : t.map aNode ≠ [] := by simpa using hne
  have hbi : isB t (i : Int) = true := by simp [isB, hi]
  have hbu : isB t (u : Int) = true := by simp [isB, hu]
  have nf : ∀ j, j < m → getF j ([] : List (Nat × Blk)) = none := fun _ _ => rfl
  have rdT := fun n => (rd_tree (n := n) h nf).1
  have rdN := fun n => (rd_tree (n := n) h nf).2
  have hkg : ∀ n, Heap.get ⟨n, [[], VE pb pre k 7 (t.map aNode) post g]⟩ k = some (.cells (flatAV (t.map aNode))) := fun n => by
    simp only [Heap.get, getFs]
    rw [nf k h.lk.1, VE_k h hne']
  have ksi := fun n => q73 hS (thaw_tree hne (hkg n)) (i : Int)
  have ksu := fun n => q73 hS (thaw_tree hne (hkg n)) (u : Int)
  have kh := fun n => q74 hH (thaw_tree hne (hkg n)) ht (i : Int) (u : Int)
  rw [hbi] at ksi
  rw [hbu] at ksu
  rw [hh] at kh
  have hcut := c75 hP hS h hi h0 hup
  have ix : indexAddrA Tryz.prog 30 (ownV k 7 (t.map aNode)) (.int .i64 (u : Int)) = some (.ptr k (u * 7)) := by
    rw [ownV_ne hne']
    simp [indexAddrA, idx_nat hu]
  have hcut' : CallAt (ctx T) 75 [.ptr pb pre.length, .int .i64 (i : Int)] ⟨m, [[], VE pb pre k 7 (t.map aNode) post g]⟩ (.tup []) ⟨m, [[], VE pb pre k 7 (t.map aNode) post g]⟩ := hcut.perm rfl rfl (by simp [Heap.ents]) (by simp [Heap.ents])
  obtain ⟨K, hK⟩ : ∃ K, K = (nodeAt t (u : Int)).kids := ⟨_, rfl⟩
  rw [← hK] at hk
  have rdK : ∀ (n : Nat) (f : List (Nat × Blk)), (∀ j, j < m → getF j f = none) → readVar Tryz.prog ⟨n, [f, VE pb pre k 7 (t.map aNode) post g]⟩ 46 (.ptr k (u * 7 + 6)) = some (aInts K) := fun n f hf => by
    have hg : Heap.get ⟨n, [f, VE pb pre k 7 (t.map aNode) post g]⟩ k = some (.cells (flatAV (t.map aNode))) := by
      simp only [Heap.get, getFs]
      rw [hf k h.lk.1, VE_k h hne']
    simp [hg, get_kids hu, hK]
  have rdK0 := fun n => rdK n [] nf
  have rdK1 := fun n => rdK n (ownF (m + 20) (K.map aInt)) fun j hj => by
    cases K with
    | nil => rfl
    | cons y r => simp [ownF, getF, beqN_ne (show m + 20 ≠ j by omega)]
  have kcl := k77 hC (L := K) (by omega) ⟨m + 20, [[], VE pb pre k 7 (t.map aNode) post g]⟩
  rw [own_heap] at kcl
  simp only [List.append_nil] at kcl
  have lK : ∀ H, lenA Tryz.prog H 46 (aInts K) = some K.length := fun H => by simp [lenA, aInts]
  refine callAt_body (fn := Tryz.f53) (s0 := ⟨[0, 1, 2, 3, 8], [.ptr pb pre.length, .int .i64 (u : Int), .int .i64 (a : Int), .int .i64 (i : Int), .undef], [], 71, ⟨m, [] :: [VE pb pre k 7 (t.map aNode) post g]⟩⟩) Tryz.func53 rfl rfl rfl ?_
  repeat refine wps_seq ?_
  repeat refine wps_seq ?_
  refine wps_region callOK ?_
  simp [zS, rdT, ksi, ksu, kh, h0]
  repeat refine wps_seq ?_
  refine wps_cond (t := false) rfl (fun h => by cases h) fun _ => ?_
  repeat refine wps_seq ?_
  refine wps_skip ?_
  simp
  repeat refine wps_seq ?_
  refine wps_region (callOKF [⟨75, _, _, _, _, hcut'⟩]) ?_
  simp [zS, callF]
  repeat refine wps_seq ?_
  refine wps_region callOK ?_
  simp [zS, rdN, ix]
  have mx : maxA false (.int .i64 (a : Int)) [.int .i64 0] = some (.int .i64 (a : Int)) := by
    simp [maxA]
  have mn : maxA true (.int .i64 (a : Int)) [.int .i64 (K.length : Int)] = some (.int .i64 (K.length : Int)) := by
    simp [maxA]
    omega
  have hins := ins_at (T := T) K (i : Int) (by omega) (b := m + 20) (vb := m + 15) (n := m + 20 + (if K.map aInt = [] then 0 else 1)) (g := []) (fs := [VE pb pre k 7 (t.map aNode) post g]) (by omega) (fun e he => by
    have hne2 : ownF k (t.map aNode) = [(k, .cells (flatAV (t.map aNode)))] := ownF_ne hne'
    simp only [List.nil_append, List.flatten_cons, List.flatten_nil, List.append_nil, VE, hne2, List.cons_append, List.mem_cons] at he
    have l1 := h.lp
    have l2 := h.lk.1
    rcases he with rfl | rfl | he
    · simp only; omega
    · simp only; omega
    · have := h.lg e he; omega)
  simp only [List.append_nil] at hins
  generalize hd : (if K.map aInt = [] then 0 else 1) = d at kcl hins
  have pR : pureL (flatAV (K.map aInt ++ [aInt (i : Int)])) = true := by
    have := (el_kid (K ++ [(i : Int)])).pure
    rwa [List.map_append] at this
  have hw := write_kids (N := m + 20 + d + 1) (n := K.length + 1) (c := m + 20 + d) (f := [(m + 15, .cells [.int .i64 (i : Int)])]) h hu (by omega) (fun j hj => by simp [getF, beqN_ne (show m + 15 ≠ j by omega)]) pR
  repeat refine wps_seq ?_
  refine wps_drawn mixed (callOKF [⟨76, _, _, _, _, hins⟩]) (by decide +kernel) fun B_ hB_ => ?_
  have d_4_5 : ahead B_ 4 5 = true := by rw [hB_]; decide +kernel
  have d_4_16 : ahead B_ 4 16 = true := by rw [hB_]; decide +kernel
  have d_4_19 : ahead B_ 4 19 = true := by rw [hB_]; decide +kernel
  have d_5_4 : ahead B_ 5 4 = false := by rw [hB_]; decide +kernel
  have d_5_11 : ahead B_ 5 11 = false := by rw [hB_]; decide +kernel
  have d_5_12 : ahead B_ 5 12 = false := by rw [hB_]; decide +kernel
  have d_11_5 : ahead B_ 11 5 = false := by rw [hB_]; decide +kernel
  have d_11_16 : ahead B_ 11 16 = true := by rw [hB_]; decide +kernel
  have d_11_19 : ahead B_ 11 19 = true := by rw [hB_]; decide +kernel
  have d_12_5 : ahead B_ 12 5 = false := by rw [hB_]; decide +kernel
  have d_12_16 : ahead B_ 12 16 = true := by rw [hB_]; decide +kernel
  have d_12_19 : ahead B_ 12 19 = true := by rw [hB_]; decide +kernel
  have d_15_5 : ahead B_ 15 5 = false := by rw [hB_]; decide +kernel
  have d_15_16 : ahead B_ 15 16 = true := by rw [hB_]; decide +kernel
  have d_15_19 : ahead B_ 15 19 = true := by rw [hB_]; decide +kernel
  have d_16_4 : ahead B_ 16 4 = false := by rw [hB_]; decide +kernel
  have d_16_11 : ahead B_ 16 11 = false := by rw [hB_]; decide +kernel
  have d_16_12 : ahead B_ 16 12 = false := by rw [hB_]; decide +kernel
  have d_19_4 : ahead B_ 19 4 = false := by rw [hB_]; decide +kernel
  have d_19_11 : ahead B_ 19 11 = false := by rw [hB_]; decide +kernel
  have d_19_12 : ahead B_ 19 12 = false := by rw [hB_]; decide +kernel
  apply drawE B_
  simp [zS, mkBlk, guardA, clsOf, reserve, freshenAll, wantedBy, unwantedBy, Heap.lay, ontoF, evE_c, evE_n, putE_s, putX_s, valE_s, redE_s, actE_s, layE_s, gateE_t, clsE_l, clsE_a, clsE_p, clsE_r, d_4_5, d_4_16, d_4_19, d_5_4, d_5_11, d_5_12, d_11_5, d_11_16, d_11_19, d_12_5, d_12_16, d_12_19, d_15_5, d_15_16, d_15_19, d_16_4, d_16_11, d_16_12, d_19_4, d_19_11, d_19_12, hw, callF, rdK0, rdK1, kcl, lK, mx, mn]
  exact rfl
  refine ⟨_, rfl, ?_, ?_⟩
  simp [zS, reserve, freshenAll, sameRecs, sameAll, sameAt, d_4_5, d_4_16, d_4_19, d_5_4, d_5_11, d_5_12, d_11_5, d_11_16, d_11_19, d_12_5, d_12_16, d_12_19, d_15_5, d_15_16, d_15_19, d_16_4, d_16_11, d_16_12, d_19_4, d_19_11, d_19_12, hw, callF, rdK0, rdK1, kcl, lK, mx, mn]
  simp [allPend, Heap.lay, ontoF, thenQ]
  have eR : flatAV (K.map aInt ++ [aInt (i : Int)]) = (K ++ [(i : Int)]).map aInt := by
    have := flat_kid (K ++ [(i : Int)])
    rwa [List.map_append] at this ⊢
  have len1 : (K ++ [(i : Int)]).length = K.length + 1 := by simp
  have hl1 := h.lk.1
  have hl0 := h.lp
  have hkp := h.k_p
  have hes' : (setKids t u (K ++ [(i : Int)])).map aNode ≠ [] := by simp [setKids]
  have lenS : ((setKids t u (K ++ [(i : Int)])).map aNode).length = (t.map aNode).length := by simp [setKids_len hu]
  have b1 : Nat.beq (m + 15) pb = false := beqN_ne (by omega)
  have b2 : Nat.beq (m + 20 + d) pb = false := beqN_ne (by omega)
  have b3 : Nat.beq (m + 15) k = false := beqN_ne (by omega)
  have b4 : Nat.beq (m + 20 + d) k = false := beqN_ne (by omega)
  have b5 : Nat.beq (m + 15) (m + 20 + d) = false := beqN_ne (by omega)
  have fk := fit_K (m' := m) (c := m + 20 + d) (es' := (setKids t u (K ++ [(i : Int)])).map aNode) (cs0 := kidRow t u (.slc (m + 20 + d) 0 (K.length + 1) (.rest 1))) (K := (K ++ [(i : Int)]).map aInt)
    (H := ⟨m + 20 + d + 1, [[(m + 15, .cells [.int .i64 (i : Int)])], (m + 20 + d, .cells (flatAV (K.map aInt ++ [aInt (i : Int)]))) :: (pb, .cells (pre ++ ownV k 7 (t.map aNode) :: post)) :: (k, .cells (kidRow t u (.slc (m + 20 + d) 0 (K.length + 1) (.rest 1)))) :: g]⟩)
    h (Nat.le_refl m) (by omega) hes' (by
      rw [ownV_ne hes', lenS, ← ownV_ne hne']
      simp [Heap.get, getFs, getF, b1, b2]) (fun σ => by
      have := fit_kids (t := t) (i := u) (c := m + 20 + d) (K := K ++ [(i : Int)]) σ
      rwa [len1] at this) (by simp [Heap.get, getFs, getF, b3, b4, hkp]) (by simp [Heap.get, getFs, getF, b5, ← eR]) (by
      have := (el_kid (K ++ [(i : Int)])).pure
      rwa [flat_kid] at this) (fun e he => by
      have := h.lg e he
      have nd := h.nd
      rw [List.nodup_cons] at nd
      have e1 : pb ≠ e.1 := fun x => nd.1 (List.mem_map.2 ⟨e, he, x.symm⟩)
      have e2 : k ≠ e.1 := fun x => h.lk.2 (by rw [x]; exact List.mem_cons_of_mem _ (List.mem_map.2 ⟨e, he, rfl⟩))
      simp [Heap.get, getFs, getF, beqN_ne (show m + 15 ≠ e.1 by omega), beqN_ne (show m + 20 + d ≠ e.1 by omega), beqN_ne e1, beqN_ne e2, gF_of nd.2 he])
  repeat refine wps_seq ?_
  refine .fit (idn m) [(m + 20 + d, (K ++ [(i : Int)]).map aInt)] (s' := (⟨[0, 1, 2, 3, 8], [.ptr pb pre.length, .int .i64 (u : Int), .int .i64 (a : Int), .int .i64 (i : Int), .undef], [], 71, ⟨m, [[], VE pb pre k 7 ((setKids t u (K ++ [(i : Int)])).map aNode) post g]⟩⟩ : St)) ⟨rfl, rfl, rfl, by simp [fitL, fitV, lookN_idn h.lp, pureV], fk⟩ ?_
  have h' := h.mono (Nat.le_refl m) (el_node (setKids t u (K ++ [(i : Int)])))
  have hi' : i < (setKids t u (K ++ [(i : Int)])).length := by rw [setKids_len hu]; exact hi
  have rdN' := fun n => (rd_tree (n := n) h' nf).2
  have ix' : indexAddrA Tryz.prog 30 (ownV k 7 ((setKids t u (K ++ [(i : Int)])).map aNode)) (.int .i64 (i : Int)) = some (.ptr k (i * 7)) := by
    rw [ownV_ne hes']
    simp [indexAddrA, idx_nat hi']
  have hw' := fun n => write_up (n := n) h' hi' (u : Int) nf
  have hes2 : (setUp (setKids t u (K ++ [(i : Int)])) i (u : Int)).map aNode ≠ [] := by simp [setUp]
  have h2 := h'.mono (Nat.le_refl m) (el_node (setUp (setKids t u (K ++ [(i : Int)])) i (u : Int)))
  have hfit := fit_W (H := ⟨m, [[], VE pb pre k 7 ((setUp (setKids t u (K ++ [(i : Int)])) i (u : Int)).map aNode) post g]⟩) h2 (Nat.le_refl m) hes2 (el_node _) (by
    simp only [Heap.get, getFs]
    rw [nf pb h.lp, VE_p]) (by
    simp only [Heap.get, getFs]
    rw [nf k h.lk.1, VE_k h2 hes2]) (fun e he => by
      have nd := h.nd
      rw [List.nodup_cons] at nd
      have e1 : pb ≠ e.1 := fun x => nd.1 (List.mem_map.2 ⟨e, he, x.symm⟩)
      have e2 : k ≠ e.1 := fun x => h.lk.2 (by rw [x]; exact List.mem_cons_of_mem _ (List.mem_map.2 ⟨e, he, rfl⟩))
      simp [Heap.get, getFs, VE, ownF_ne hes2, getF, beqN_ne e1, beqN_ne e2, gF_of nd.2 he])
  repeat refine wps_seq ?_
  refine wps_region callOK ?_
  simp [zS, rdN', ix', hw']
  rw [← hK]
  refine ⟨_, rfl, _, _, ?_, hfit⟩
  simp [oneOr, fitV, fitL]
theorem holdsF_last {t : Tr} {x : Int} (hup : ∀ i : Int, isB t i = true → i < x → (nodeAt t i).up < x) : ∀ (n : Nat) (kid : Int), kid < x → holdsF t x n kid = false
  | 0, kid, _ => rfl
  | n + 1, kid, h => by
    unfold holdsF
    cases hb : isB t kid with
    | false => simp
    | true =>
      have h1 : ¬ kid = x := by omega
      simp only [if_true, if_neg h1]
      exact holdsF_last hup n _ (hup kid hb h)
theorem holdsB_last {t : Tr} {x kid : Int} (hup : ∀ i : Int, isB t i = true → i < x → (nodeAt t i).up < x) (h : kid < x) : holdsB t x kid = false := by
  unfold holdsB
  rw [holdsF_last hup _ _ h, Bool.and_false]
@[simp] theorem szT53 : sizeT Tryz.prog 53 = some 1 := rfl
@[simp] theorem agT53 : aggT Tryz.prog 53 = some false := rfl
@[simp] theorem byT53 : bytesT Tryz.prog 53 = some 8 := rfl
@[simp] theorem alT53 (H : Heap) : alV Tryz.prog H 53 = some (.ptr H.n 0, H.new (.cells [.nilP])) := rfl
@[simp] theorem zeT53 : zeroOf Tryz.prog 53 = some (.nilP) := rfl
attribute [simp] Tryz.underlying53
@[simp 500] theorem rvF53 (H : Heap) (cs : List AV) (o : Nat) : readVar Tryz.prog H 53 (.fptr cs o) = getL cs o := rfl
@[simp 500] theorem rvP53 (H : Heap) (b o : Nat) : readVar Tryz.prog H 53 (.ptr b o) = (H.get b).bind fun k => k.rd.bind fun cs => getL cs o := rfl
@[simp] theorem szT56 : sizeT Tryz.prog 56 = some 1 := rfl
@[simp] theorem agT56 : aggT Tryz.prog 56 = some true := rfl
@[simp] theorem byT56 : bytesT Tryz.prog 56 = some 24 := rfl
@[simp] theorem alT56 (H : Heap) : alV Tryz.prog H 56 = some (.ptr H.n 0, H.new (.cells [.nilS])) := rfl
@[simp] theorem zeT56 : zeroOf Tryz.prog 56 = some (.agg [.nilS]) := rfl
attribute [simp] Tryz.underlying56
@[simp 500] theorem rvF56 (H : Heap) (cs : List AV) (o : Nat) : readVar Tryz.prog H 56 (.fptr cs o) = (subL o 1 cs).bind fun cs => some (.agg cs) := rfl
@[simp 500] theorem rvP56 (H : Heap) (b o : Nat) : readVar Tryz.prog H 56 (.ptr b o) = (readCells H b o 1).bind fun cs => some (.agg cs) := rfl
@[simp] theorem fa56_0 (x : AV) : fieldAddrA Tryz.prog 56 x 0 = (match x with | .ptr b o => some (.ptr b (o + 0)) | .fptr cs o => some (.fptr cs (o + 0)) | _ => none) := rfl
@[simp] theorem fd56_0 (cs : List AV) : fieldA Tryz.prog 56 (.agg cs) 0 = (subL 0 1 cs).bind fun r => some (.agg r) := rfl
section
variable {m n pb k sz : Nat} {pre post es : List AV} {g f : List (Nat × Blk)}
theorem Eok.extra (h : Eok m pb pre k sz es post g) {m' q : Nat} {b : Blk} (hq : m ≤ q) (hm : q < m') (hb : SelfB m' b) : Eok m' pb pre k sz es post (g ++ [(q, b)]) where
  lp := by have := h.lp; omega
  lk := ⟨by have := h.lk.1; omega, fun hx => by
    simp only [List.map_append, List.map_cons, List.map_nil] at hx
    rw [← List.cons_append, List.mem_append] at hx
    rcases hx with hx | hx
    · exact h.lk.2 hx
    · simp only [List.mem_singleton] at hx
      have := h.lk.1; omega⟩
  lg := fun e he => by
    rcases List.mem_append.1 he with he | he
    · have := h.lg e he; omega
    · simp only [List.mem_singleton] at he
      subst he; exact hm
  nd := by
    simp only [List.map_append, List.map_cons, List.map_nil]
    rw [← List.cons_append, List.nodup_append]
    refine ⟨h.nd, by simp, fun a ha b hb => ?_⟩
    simp only [List.mem_singleton] at hb
    subst hb
    rcases List.mem_cons.1 ha with rfl | ha
    · have := h.lp; omega
    · obtain ⟨e, he, rfl⟩ := List.mem_map.1 ha
      have := h.lg e he; omega
  sg := fun e he => by
    rcases List.mem_append.1 he with he | he
    · exact (h.sg e he).mono (by omega)
    · simp only [List.mem_singleton] at he
      subst he; exact hb
  sp := fun σ hσ => h.sp σ fun i hi => hσ i (by omega)
  sq := fun σ hσ => h.sq σ fun i hi => hσ i (by omega)
  el := h.el
theorem rd_nodes (hf : getF pb f = none) :
    readVar Tryz.prog ⟨n, [f, VE pb pre k 7 es post g]⟩ 32 (.ptr pb pre.length) = some (.agg [ownV k 7 es]) ∧ readVar Tryz.prog ⟨n, [f, VE pb pre k 7 es post g]⟩ 30 (.ptr pb pre.length) = some (ownV k 7 es) := by
  have hgv : Heap.get ⟨n, [f, VE pb pre k 7 es post g]⟩ pb = some (.cells (pre ++ ownV k 7 es :: post)) := by
    simp only [Heap.get, getFs]
    rw [hf, VE_p]
  have gx : getL (pre ++ ownV k 7 es :: post) pre.length = some (ownV k 7 es) := by
    rw [getL_get (by simp), List.getElem_append_right (by omega)]
    simp
  have sx : subL pre.length 1 (pre ++ ownV k 7 es :: post) = some [ownV k 7 es] := by
    simp [subL, takeL]
  constructor
  · simp [readVar, hgv, gx, sx, readCells, Blk.rd]
  · simp [hgv, gx]
theorem VE_perm {e : Nat × Blk} : (⟨n, [[e], VE pb pre k sz es post g]⟩ : Heap).ents.Perm (⟨n, [VE pb pre k sz es post (g ++ [e])]⟩ : Heap).ents := by
  simp only [Heap.ents, List.flatten_cons, List.flatten_nil, List.append_nil, VE]
  have : ∀ l : List (Nat × Blk), ([e] ++ l).Perm (l ++ [e]) := fun l => List.perm_append_comm
  refine (this _).trans ?_
  simp
end
def putN (t : Tr) (u : Nat) (nd : Nd) : Tr := setUp (setKids (t ++ [fresh nd]) u ((nodeAt t (u : Int)).kids ++ [(t.length : Int)])) t.length (u : Int)
structure UpOk (t : Tr) : Prop where
  up : ∀ n, n ∈ t → n.up < (t.length : Int)
  kids : ∀ n, n ∈ t → n.kids.length ≤ t.length
theorem nodeAt_old {t : Tr} {nd : Nd} {u : Nat} (hu : u < t.length) : nodeAt (t ++ [nd]) (u : Int) = nodeAt t (u : Int) := by
  rw [nodeAt_get (by simp; omega), nodeAt_get hu, List.getElem_append_left hu]
theorem nodeAt_new {t : Tr} {nd : Nd} : nodeAt (t ++ [nd]) (t.length : Int) = nd := by
  rw [nodeAt_get (by simp)]; simp
theorem c25 {T : List (Entry Tryz.prog)} (hA : findE 72 T = some e72.g) (hP : findE 89 T = some e89.g) (hS : findE 73 T = some e73.g) (hH : findE 74 T = some e74.g) (hC : findE 77 T = some e77.g)
    {m pb k : Nat} {g : List (Nat × Blk)} {t : Tr} (h : Eok m pb [] k 7 (t.map aNode) [] g) (ht : t.length + 1 ≤ 1000000) {u : Nat} (hu : u < t.length) (ok : UpOk t) (nd : Nd) (ha : nd.attrs.length ≤ 1000000) :
    CallAt (ctx T) 25 [.ptr pb 0, .int .i64 (u : Int), aNode nd] ⟨m, [VE pb [] k 7 (t.map aNode) [] g]⟩ (.int .i64 (t.length : Int)) ⟨m + 1, [VE pb [] m 7 ((putN t u nd).map aNode) [] g]⟩ := by
  have pn : pureL nd.cs = true := by simp [Nd.cs, aInt, aAttrs, pureL, pureV]
  have h1 := h.extra (m' := m + 1 + 6) (q := m) (b := .cells nd.cs) (Nat.le_refl m) (by omega) (self_pure pn)
  have hadd := (c52 (T := T) hA h1 ht nd ha).perm (H2 := ⟨m + 1 + 6, [[(m, .cells nd.cs)], VE pb [] k 7 (t.map aNode) [] g]⟩) (H2' := ⟨m + 1 + 6 + 1, [[(m, .cells nd.cs)], VE pb [] (m + 1 + 6) 7 ((t ++ [fresh nd]).map aNode) [] g]⟩) rfl rfl VE_perm VE_perm
  obtain ⟨t1, ht1⟩ : ∃ t1, t1 = t ++ [fresh nd] := ⟨_, rfl⟩
  have l1 : t1.length = t.length + 1 := by rw [ht1]; simp
  have nu : nodeAt t1 (u : Int) = nodeAt t (u : Int) := by rw [ht1]; exact nodeAt_old hu
  have nl : nodeAt t1 (t.length : Int) = fresh nd := by rw [ht1]; exact nodeAt_new
  have h2 : Eok (m + 1 + 6 + 1 + 12) pb [] (m + 1 + 6) 7 (t1.map aNode) [] (g ++ [(m, .cells nd.cs)]) := (h1.next (el_node t1)).mono (by omega) (el_node t1)
  have mu : nodeAt t (u : Int) ∈ t := nodeAt_mem (by omega) (by omega)
  have hh : holdsB t1 (t.length : Int) (u : Int) = false := holdsB_last (fun i hi hlt => by
    simp only [isB, Bool.and_eq_true, decide_eq_true_eq] at hi
    obtain ⟨j, rfl⟩ : ∃ j : Nat, i = j := ⟨i.toNat, by omega⟩
    rw [ht1, nodeAt_old (by omega)]
    exact ok.up _ (nodeAt_mem (by omega) (by omega))) (by omega)
  have hput := (c53 (T := T) hP hS hH hC h2 (by omega) (u := u) (i := t.length) (a := t1.length) (by omega) (by omega) (by omega) hh (by rw [nl]; rfl) (by rw [nu]; have := ok.kids _ mu; omega) (by omega)).perm (H2 := ⟨m + 1 + 6 + 1 + 12, [[(m, .cells nd.cs)], VE pb [] (m + 1 + 6) 7 (t1.map aNode) [] g]⟩) (H2' := ⟨m + 1 + 6 + 1 + 12, [[(m, .cells nd.cs)], VE pb [] (m + 1 + 6) 7 ((putN t u nd).map aNode) [] g]⟩) rfl rfl VE_perm (by
    rw [nu, ht1]
    exact VE_perm)
  rw [← ht1] at hadd
  have rd : ∀ n, readVar Tryz.prog ⟨n, [[(m, .cells nd.cs)], VE pb [] (m + 1 + 6) 7 (t1.map aNode) [] g]⟩ 30 (.ptr pb 0) = some (ownV (m + 1 + 6) 7 (t1.map aNode)) := fun n => (rd_nodes (n := n) (f := [(m, .cells nd.cs)]) (pb := pb) (pre := []) (k := m + 1 + 6) (post := []) (g := g) (es := t1.map aNode) (by
    have := h.lp
    simp [getF, beqN_ne (show m ≠ pb by omega)])).2
  have hne : t1.map aNode ≠ [] := by simp [ht1]
  have ln : ∀ H, lenA Tryz.prog H 30 (ownV (m + 1 + 6) 7 (t1.map aNode)) = some t1.length := fun H => by
    rw [ownV_ne hne]
    simp [lenA]
  refine callAt_body (fn := Tryz.f25) (s0 := ⟨[0, 1, 2, 5, 6, 7], [.ptr pb 0, .int .i64 (u : Int), aNode nd, .undef, .undef, .undef], [], 26, ⟨m, [] :: [VE pb [] k 7 (t.map aNode) [] g]⟩⟩) Tryz.func25 rfl rfl rfl ?_
  repeat refine wps_seq ?_
  repeat refine wps_seq ?_
  refine wps_region callOK ?_
  simp [zS, aNode]
  repeat refine wps_seq ?_
  refine wps_drawn mixed (callOKF [⟨52, _, _, _, _, hadd⟩]) (by decide +kernel) fun B_ hB_ => ?_
  have d_3_4 : ahead B_ 3 4 = true := by rw [hB_]; decide +kernel
  have d_4_3 : ahead B_ 4 3 = false := by rw [hB_]; decide +kernel
  apply drawE B_
  simp [zS, mkBlk, guardA, clsOf, reserve, freshenAll, wantedBy, unwantedBy, Heap.lay, ontoF, evE_c, evE_n, putE_s, putX_s, valE_s, redE_s, actE_s, layE_s, gateE_t, clsE_l, clsE_a, clsE_p, clsE_r, d_3_4, d_4_3, callF, aNode]
  exact rfl
  refine ⟨_, rfl, ?_, ?_⟩
  simp [zS, reserve, freshenAll, sameRecs, sameAll, sameAt, d_3_4, d_4_3, callF, aNode]
  simp [allPend, Heap.lay, ontoF, thenQ]
  repeat refine wps_seq ?_
  refine wps_drawn mixed (callOKF [⟨53, _, _, _, _, hput⟩]) (by decide +kernel) fun B_ hB_ => ?_
  have d_8_11 : ahead B_ 8 11 = true := by rw [hB_]; decide +kernel
  have d_9_11 : ahead B_ 9 11 = true := by rw [hB_]; decide +kernel
  have d_11_8 : ahead B_ 11 8 = false := by rw [hB_]; decide +kernel
  have d_11_9 : ahead B_ 11 9 = false := by rw [hB_]; decide +kernel
  apply drawE B_
  simp [zS, mkBlk, guardA, clsOf, reserve, freshenAll, wantedBy, unwantedBy, Heap.lay, ontoF, evE_c, evE_n, putE_s, putX_s, valE_s, redE_s, actE_s, layE_s, gateE_t, clsE_l, clsE_a, clsE_p, clsE_r, d_8_11, d_9_11, d_11_8, d_11_9, callF, rd, ln]
  exact rfl
  refine ⟨_, rfl, ?_, ?_⟩
  simp [zS, reserve, freshenAll, sameRecs, sameAll, sameAt, d_8_11, d_9_11, d_11_8, d_11_9, callF, rd, ln]
  simp [allPend, Heap.lay, ontoF, thenQ]
  repeat refine wps_seq ?_
  refine wps_region callOK ?_
  simp [zS]
  repeat refine wps_seq ?_
  refine wps_ret ?_
  have hes' : (putN t u nd).map aNode ≠ [] := by simp [putN, setUp]
  have hk' : (putN t u nd).length = t.length + 1 := by
    unfold putN
    rw [setUp_len (by rw [setKids_len (by simp; omega)]; simp), setKids_len (by simp; omega)]
    simp
  have nP : pb < m := h.lp
  have q1 : Nat.beq m pb = false := beqN_ne (by omega)
  have q2 : Nat.beq m (m + 1 + 6) = false := beqN_ne (by omega)
  have q3 : Nat.beq pb (m + 1 + 6) = false := beqN_ne (by omega)
  have nd0 := h.nd
  rw [List.nodup_cons] at nd0
  have hfit := fit_E (es' := (putN t u nd).map aNode) (c := m + 1 + 6) (cs0 := flatAV ((putN t u nd).map aNode)) (H := ⟨m + 1 + 6 + 1 + 12, [[(m, .cells nd.cs)], VE pb [] (m + 1 + 6) 7 ((putN t u nd).map aNode) [] g]⟩) h (by omega) hes' (fun σ => fitL_pure (el_node _).pure)
    (by simp [Heap.get, getFs, getF, VE, q1, ownV_ne hes'])
    (by simp [Heap.get, getFs, getF, VE, q2, q3, ownF_ne hes'])
    (fun e he => by
      have := h.lg e he
      have e1 : pb ≠ e.1 := fun x => nd0.1 (List.mem_map.2 ⟨e, he, x.symm⟩)
      simp [Heap.get, getFs, VE, ownF_ne hes', getF, beqN_ne e1, beqN_ne (show m ≠ e.1 by omega), beqN_ne (show m + 1 + 6 ≠ e.1 by omega), gF_of nd0.2 he])
  simp [retVal, Tryz.f25, oneOr]
  refine ⟨_, _, ?_, hfit⟩
  simp [fitV, pureV]
section
variable {α : Type}
theorem idx_casesG {p : α → Bool} : ∀ (L : List α) (k : Nat), (idxFrom p L k = -1 ∧ ∀ a, a ∈ L → p a = false) ∨ ∃ i, ∃ h : i < L.length, idxFrom p L k = (k + i : Nat) ∧ p L[i] = true ∧ ∀ a, a ∈ L.take i → p a = false
  | [], k => .inl ⟨rfl, fun a ha => by cases ha⟩
  | x :: r, k => by
    by_cases hx : p x = true
    · exact .inr ⟨0, by simp, by simp [idxFrom, hx], by simpa using hx, fun a ha => by simp at ha⟩
    · simp only [Bool.not_eq_true] at hx
      rcases idx_casesG r (k + 1) with ⟨h1, h2⟩ | ⟨i, h, h1, h2, h3⟩
      · refine .inl ⟨by rw [idxFrom, if_neg (by simp [hx]), h1], fun a ha => ?_⟩
        rcases List.mem_cons.1 ha with rfl | ha
        · exact hx
        · exact h2 a ha
      · refine .inr ⟨i + 1, by simpa using h, by simp [idxFrom, hx, h1]; omega, by simpa using h2, fun a ha => ?_⟩
        rw [List.take_succ_cons] at ha
        rcases List.mem_cons.1 ha with rfl | ha
        · exact hx
        · exact h3 a ha
structure DelG (L : List α) (p : α → Bool) (i j : Nat) (R : List α) : Prop where
  ij : i < j
  jn : j ≤ L.length
  len : R.length = L.length
  fr : R.take i = (L.take j).filter fun a => !p a
  bk : R.drop j = L.drop j
theorem DelG.at {L R : List α} {p : α → Bool} {i j : Nat} (h : DelG L p i j R) (hj : j < L.length) : R[j]'(by rw [h.len]; exact hj) = L[j] := by
  have hR : j < R.length := by rw [h.len]; exact hj
  have := h.bk
  rw [List.drop_eq_getElem_cons hR, List.drop_eq_getElem_cons hj] at this
  exact (List.cons.inj this).1
theorem DelG.keep {L R : List α} {p : α → Bool} {i j : Nat} (h : DelG L p i j R) (hj : j < L.length) (hp : p L[j] = false) : DelG L p (i + 1) (j + 1) (R.set i L[j]) := by
  have hR : j < R.length := by rw [h.len]; exact hj
  have hij := h.ij
  refine ⟨by omega, by omega, by simp [h.len], ?_, ?_⟩
  · rw [List.take_succ_eq_append_getElem hj, List.filter_append, ← h.fr, List.take_succ_eq_append_getElem (by simp; omega)]
    simp [hp, List.take_set_of_le]
  · rw [List.drop_set_of_lt (by omega)]
    have := h.bk
    rw [List.drop_eq_getElem_cons hR, List.drop_eq_getElem_cons hj] at this
    exact (List.cons.inj this).2
theorem DelG.pass {L R : List α} {p : α → Bool} {i j : Nat} (h : DelG L p i j R) (hj : j < L.length) (hp : p L[j] = true) : DelG L p i (j + 1) R := by
  have hR : j < R.length := by rw [h.len]; exact hj
  have hij := h.ij
  refine ⟨by omega, by omega, h.len, ?_, ?_⟩
  · rw [List.take_succ_eq_append_getElem hj, List.filter_append, ← h.fr]
    simp [hp]
  · have := h.bk
    rw [List.drop_eq_getElem_cons hR, List.drop_eq_getElem_cons hj] at this
    exact (List.cons.inj this).2
theorem DelG.start {L : List α} {p : α → Bool} {i : Nat} (hi : i < L.length) (hp : p L[i] = true) (hb : ∀ a, a ∈ L.take i → p a = false) : DelG L p i (i + 1) L := by
  refine ⟨by omega, by omega, rfl, ?_, rfl⟩
  rw [List.take_succ_eq_append_getElem hi, List.filter_append]
  have : (L.take i).filter (fun a => !p a) = L.take i := List.filter_eq_self.2 fun a ha => by simp [hb a ha]
  simp [this, hp]
end
section
variable {P : Program} {H : Heap} {t elem : TypeId} {b sz c len i : Nat} {cs : List AV}
theorem slice_fromX (hu : P.underlying t = some (.slice elem)) (hs : sizeT P elem = some sz) (hb : H.get b = some (.cells cs)) (hi : i ≤ len) (hc : i < c) :
    sliceA P H t (.slc b 0 len (.ex c)) (some (.int .i64 (i : Int))) none none = some (.slc b (i * sz) (len - i) (.ex (c - i))) := by
  have hk : knownCells H b = some cs.length := by unfold knownCells; simp only [hb, Option.bind_some, rd_cells]
  unfold sliceA
  simp only [hiOK, hu, Option.bind_some, hs, sliceBlk, hk, bound]
  have h2 : idx (i : Int) (Nat.succ len) = some i := idx_nat (by omega)
  have h3 : Nat.beq c i = false := beqN_ne (by omega)
  simp only [h2, Option.bind_some, h3, Nat.zero_add]
theorem slice_toX (hu : P.underlying t = some (.slice elem)) (hs : sizeT P elem = some sz) (hb : H.get b = some (.cells cs)) (hi : i ≤ c) (hc : 0 < c) :
    sliceA P H t (.slc b 0 len (.ex c)) none (some (.int .i64 (i : Int))) none = some (.slc b 0 i (.ex c)) := by
  have hk : knownCells H b = some cs.length := by unfold knownCells; simp only [hb, Option.bind_some, rd_cells]
  unfold sliceA
  simp only [hiOK, hu, Option.bind_some, hs, sliceBlk, hk, bound]
  have h2 : idx (i : Int) (Nat.succ c) = some i := idx_nat (by omega)
  have h3 : Nat.beq c 0 = false := beqN_ne (by omega)
  simp only [h2, Option.bind_some, h3, Nat.zero_add, Nat.zero_mul, Nat.sub_zero]
end
def atz : At1 := ([], [])
abbrev rwA (L : List At1) : List AV := flatAV (L.map aAttr)
theorem repl_atz : ∀ (n : Nat), replL [.str [], .str []] n = rwA (List.replicate n atz)
  | 0 => rfl
  | n + 1 => by
    simp only [replL, repl_atz n, List.replicate_succ, rwA, List.map_cons, flatAV]
    rfl
theorem pure_rwA (L : List At1) : pureL (rwA L) = true := (el_attr L).pure
theorem len_rwA (L : List At1) : (rwA L).length = L.length * 2 := by rw [(el_attr L).len]; simp
theorem thawAt {H : Heap} {b : Nat} {r : List Nat} {cap : Cap} {L : List At1} (h : H.get b = some (.cells (rwA L))) : thawA H (2 :: r) (.slc b 0 L.length cap) = some (aAttrs L) := by
  have := thawA_slc (r := r) (cap := cap) (el_attr L) h
  rw [List.length_map] at this
  exact this
theorem ixA {b n i : Nat} {cap : Cap} (h : i < n) : indexAddrA Tryz.prog 48 (.slc b 0 n cap) (.int .i64 (i : Int)) = some (.ptr b (i * 2)) := by simp [indexAddrA, idx_nat h]
theorem get_rwA {L : List At1} {i : Nat} (h : i < L.length) : subL (i * 2) 2 (rwA L) = some [.str L[i].1, .str L[i].2] := by
  have := sub_at (el_attr L) (i := i) (by simpa using h)
  simpa [aAttr, AV.cells] using this
theorem lay_rwA {L : List At1} {i : Nat} {a : At1} (h : i < L.length) : layL [.str a.1, .str a.2] (i * 2) (rwA L) = some (rwA (L.set i a)) := by
  have := lay_at (el_attr L) (i := i) (e := aAttr a) (by simpa using h) rfl
  rw [← List.map_set] at this
  exact this
theorem clr_rwA {m i n : Nat} {f : List (Nat × Blk)} {R : List At1} (hf : getF 0 f = none) (hs : setF 0 (.cells (rwA (R.take i ++ List.replicate (n - i) atz))) f = none) (hR : R.length = n) (hi : i < n) {cap : Cap} :
    clearA Tryz.prog ⟨m, [f, [(0, .cells (rwA R))]]⟩ 48 (.slc 0 (i * 2) (n - i) cap) = some ⟨m, [f, [(0, .cells (rwA (R.take i ++ List.replicate (n - i) atz)))]]⟩ := by
  have hl := lay_end (el_attr R) (i := i) (l := rwA (List.replicate (n - i) atz)) (by simp; omega) (by rw [len_rwA]; simp [hR])
  have e : flatAV ((R.map aAttr).take i) ++ rwA (List.replicate (n - i) atz) = rwA (R.take i ++ List.replicate (n - i) atz) := by
    simp only [rwA, List.map_append, flat_append, List.map_take]
  rw [e] at hl
  have hsng : allSingle (rwA (List.replicate (n - i) atz)) = true := single_attr _
  have hz : zeroOf Tryz.prog 98 = some (.agg [.str [], .str []]) := zeT98
  have hsz : sizeT Tryz.prog 98 = some 2 := szT98
  have hrf : (rwA (List.replicate (n - i) atz)).flatMap (refs 6) = [] := refsL_pure _ _ (pure_rwA _)
  simp only [clearA, Tryz.underlying48, Option.bind_some, hz, hsz]
  have e1 : rwA (List.replicate (n - i) atz) = flatAV ((List.replicate (n - i) atz).map aAttr) := rfl
  simp [AV.cells, allSingle, AV.single, repl_atz, writeCells, Heap.get, getFs, hf, getF, Blk.wt, hl, Heap.ready, hrf, Heap.set, setFs, hs, setF, Blk.re]
theorem fitDA {n m : Nat} {f : List (Nat × Blk)} {K : List At1} (hf : getF 0 f = none) (hn : n ≤ 1) : FitH n [(0, 0)] [] ⟨m, [f, [(0, .cells (rwA K))]]⟩ ⟨1, [[], [(0, .cells (rwA K))]]⟩ := by
  refine .same (by simp) (by simp) (by simp) hn (by simp [Heap.ents]) ?_
  intro e he
  simp [Heap.ents] at he
  subst he
  exact ⟨by simp, by simp [Heap.get, getFs, hf, getF], fitL_pure (pure_rwA _)⟩
theorem c540 {T : List (Entry Tryz.prog)} (clo : FuncId) (cap : List AV) (hc : pureL cap = true) (p : At1 → Bool) (hp : ∀ a, CallAt (ctx T) clo (aAttr a :: cap) ⟨0, []⟩ (.bool (p a)) ⟨0, []⟩) :
    CallAt (ctx T) 54 [.fslc 2 [], .func (.func clo) [] cap] ⟨0, []⟩ (.fslc 2 []) ⟨0, []⟩ := by
  have hi := c78 (T := T) [] (by simp) clo cap hc p hp
  have hk := hi.lift (by simp [pureL, pureV, aAttrs, hc]) ⟨0, [[]]⟩
  simp only [aAttrs, List.map_nil, idxFrom] at hk
  refine callAt_body (fn := Tryz.f54) (s0 := ⟨[0, 1, 4, 5, 6, 7], [.fslc 2 [], .func (.func clo) [] cap, .undef, .undef, .undef, .undef], [], 42, ⟨0, [[]]⟩⟩) Tryz.func54 rfl rfl rfl ?_
  repeat refine wps_seq ?_
  refine wps_region callOK ?_
  simp [zS]
  repeat refine wps_seq ?_
  refine wps_region (callOKF [⟨78, _, _, _, _, hk⟩]) ?_
  simp [zS, callF]
  repeat refine wps_seq ?_
  refine wps_region callOK ?_
  simp [zS]
  repeat refine wps_seq ?_
  refine wps_cond (t := true) rfl (fun _ => ?_) fun h => by cases h
  repeat refine wps_seq ?_
  refine wps_region callOK ?_
  simp [zS]
  repeat refine wps_seq ?_
  refine wps_ret ?_
  simp [retVal, Tryz.f54, oneOr]
  exact ⟨[], [], by simp [fitV, pureV], FitH.empty⟩
theorem c54 {T : List (Entry Tryz.prog)} (L : List At1) (hl : L.length ≤ 1000) (hne : L ≠ []) (clo : FuncId) (cap : List AV) (hc : pureL cap = true) (p : At1 → Bool) (hp : ∀ a, CallAt (ctx T) clo (aAttr a :: cap) ⟨0, []⟩ (.bool (p a)) ⟨0, []⟩) :
    CallAt (ctx T) 54 [.slc 0 0 L.length (.ex L.length), .func (.func clo) [] cap] ⟨1, [[(0, .cells (rwA L))]]⟩ (aAttrs (L.filter fun a => !p a)) ⟨1, [[]]⟩ := by
  have hk := CallAt.thaw (c78 (T := T) L hl clo cap hc p hp) rfl [[2], []] (H := ⟨1, [[], [(0, .cells (rwA L))]]⟩) (args := [.slc 0 0 L.length (.ex L.length), .func (.func clo) [] cap])
    (by simp [thawL, thawAt (H := ⟨1, [[], [(0, .cells (rwA L))]]⟩) (b := 0) (r := []) (cap := .ex L.length) (L := L) rfl, thawA_ok, okV, pureV, pureL, hc])
  have ends : ∀ (m i : Nat) (R : List At1), i ≤ R.length → ∃ σ Φ, fitV σ Φ (.slc 0 0 i (.ex L.length)) (aAttrs (R.take i)) ∧ FitH 1 σ Φ ⟨m, [[], [(0, .cells (rwA R))]]⟩ ⟨1, [[]]⟩ := fun m i R hi => by
    refine ⟨[], [(0, rwA R)], ?_, ?_⟩
    · simp only [fitV, aAttrs]
      refine .inl ⟨rwA R, by simp [lookC], ?_, by simp; omega, ?_⟩
      · have := sub_pre (el_attr R) (k := i) (by simpa using hi)
        rw [← List.map_take] at this
        exact this
      · exact (el_attr (R.take i)).size
    · refine ⟨by simp, by simp, by simp [Heap.ents], by simp, fun x hx => (by cases hx), by simp, fun e he => by simp [Heap.ents] at he, fun x hx => ?_⟩
      simp only [List.mem_singleton] at hx
      subst hx
      exact ⟨rwA R, by simp [Heap.get, getFs, getF], fitL_pure (pure_rwA _), pure_rwA _⟩
  refine callAt_body (fn := Tryz.f54) (s0 := ⟨[0, 1, 4, 5, 6, 7], [.slc 0 0 L.length (.ex L.length), .func (.func clo) [] cap, .undef, .undef, .undef, .undef], [], 42, ⟨1, [] :: [[(0, .cells (rwA L))]]⟩⟩) Tryz.func54 rfl rfl rfl ?_
  repeat refine wps_seq ?_
  refine wps_region callOK ?_
  simp [zS]
  repeat refine wps_seq ?_
  refine wps_region (callOKF [⟨78, _, _, _, _, hk⟩]) ?_
  simp [zS, callF]
  rcases idx_casesG (p := p) L 0 with ⟨h1, h2⟩ | ⟨i0, hi0, h1, h2, h3⟩
  · have hK : (L.filter fun a => !p a) = L := List.filter_eq_self.2 fun a ha => by simp [h2 a ha]
    repeat refine wps_seq ?_
    refine wps_region callOK ?_
    simp [zS, h1]
    repeat refine wps_seq ?_
    refine wps_cond (t := true) rfl (fun _ => ?_) fun h => by cases h
    repeat refine wps_seq ?_
    refine wps_region callOK ?_
    simp [zS]
    repeat refine wps_seq ?_
    refine wps_ret ?_
    simp [retVal, Tryz.f54, oneOr]
    rw [hK]
    have := ends 1 L.length L (Nat.le_refl _)
    rwa [List.take_length] at this
  · rw [Nat.zero_add] at h1
    have hno : ¬ ((i0 : Int) = -1) := by omega
    repeat refine wps_seq ?_
    refine wps_region callOK ?_
    simp [zS, h1, hno]
    repeat refine wps_seq ?_
    refine wps_cond (t := false) rfl (fun h => by cases h) fun _ => ?_
    repeat refine wps_seq ?_
    refine wps_skip ?_
    simp
    repeat refine wps_seq ?_
    refine wps_region callOK ?_
    simp [zS, add_one (show i0 ≤ 1000000000 by omega)]
    repeat refine wps_seq ?_
    refine wps_block (wps_loop' (fun x : Nat × Nat × List At1 => (⟨[0, 1, 4, 5, 6, 7], [.slc 0 0 L.length (.ex L.length), .func (.func clo) [] cap, .undef, .int .i64 x.1, .int .i64 x.2.1, .undef], [], 42, ⟨1, [[], [(0, .cells (rwA x.2.2))]]⟩⟩ : St))
      (fun x => DelG L p x.1 x.2.1 x.2.2) (fun x => L.length - x.2.1) [(0, 0)] [] (i0, i0 + 1, L) (.start hi0 h2 h3) ⟨rfl, rfl, rfl, by simp [fitL, fitV, lookN, pureV, pureL, hc], fitDA rfl (by omega)⟩ ?_)
    rintro ⟨i, j, R⟩ hx B hB
    simp only at hx
    have hij := hx.ij
    have hjn := hx.jn
    have hRl := hx.len
    repeat refine wps_seq ?_
    refine wps_region callOK ?_
    simp [zS, lenA]
    repeat refine wps_seq ?_
    refine wps_cond rfl (fun h => ?_) fun h => ?_
    · simp at h
      repeat refine wps_seq ?_
      refine wps_skip ?_
      simp
      repeat refine wps_seq ?_
      refine wps_block ?_
      have hR : j < R.length := by omega
      repeat refine wps_seq ?_
      refine wps_region callOK ?_
      simp [zS, ixA h, get_rwA hR, hx.at h]
      have hcall := (hp L[j]).lift (by simp [pureL, pureV, hc, aAttr]) ⟨2, [[(1, .cells [.str L[j].1, .str L[j].2])], [(0, .cells (rwA R))]]⟩
      simp only [aAttr] at hcall
      repeat refine wps_seq ?_
      refine wps_region (callOKF [⟨clo, _, _, _, _, hcall⟩]) ?_
      rcases Bool.eq_false_or_eq_true (p L[j]) with hv | hv
      case inr =>
        simp [zS, callF, hv]
        repeat refine wps_seq ?_
        refine wps_cond (t := true) rfl (fun _ => ?_) fun h => by cases h
        repeat refine wps_seq ?_
        refine wps_region callOK ?_
        simp [zS, ixA (show i < L.length by omega), lay_rwA (L := R) (a := L[j]) (show i < R.length by omega), add_one (show i ≤ 1000000000 by omega)]
        repeat refine wps_seq ?_
        refine wps_region callOK ?_
        simp [zS, add_one (show i ≤ 1000000000 by omega)]
        repeat refine wps_seq ?_
        refine wps_region callOK ?_
        simp [zS, add_one (show j ≤ 1000000000 by omega)]
        exact hB _ (i + 1, j + 1, R.set i L[j]) (by simp; omega) (hx.keep h hv) ⟨[(0, 0)], [], rfl, rfl, rfl, by simp [fitL, fitV, lookN, pureV, pureL, hc], fitDA rfl (by omega)⟩
      case inl =>
        simp [zS, callF, hv]
        repeat refine wps_seq ?_
        refine wps_cond (t := false) rfl (fun h => by cases h) fun _ => ?_
        repeat refine wps_seq ?_
        refine wps_skip ?_
        simp
        repeat refine wps_seq ?_
        refine wps_region callOK ?_
        simp [zS, add_one (show j ≤ 1000000000 by omega)]
        exact hB _ (i, j + 1, R) (by simp; omega) (hx.pass h hv) ⟨[(0, 0)], [], rfl, rfl, rfl, by simp [fitL, fitV, lookN, pureV, pureL, hc], fitDA rfl (by omega)⟩
    · simp at h
      have hje : j = L.length := by omega
      subst hje
      have hfr : R.take i = L.filter fun a => !p a := by have := hx.fr; rwa [List.take_length] at this
      repeat refine wps_seq ?_
      refine wps_exit ?_
      simp
      have hs1 := slice_fromX (P := Tryz.prog) (H := ⟨1, [[], [(0, .cells (rwA R))]]⟩) (t := 48) (elem := 98) (sz := 2) (b := 0) (cs := rwA R) (len := L.length) (c := L.length) (i := i) Tryz.underlying48 szT98 rfl (by omega) (by omega)
      have hcl := clr_rwA (m := 1) (i := i) (n := L.length) (f := []) (R := R) (cap := .ex (L.length - i)) rfl rfl hRl (by omega)
      have hs2 := slice_toX (P := Tryz.prog) (H := ⟨1, [[], [(0, .cells (rwA (R.take i ++ List.replicate (L.length - i) atz)))]]⟩) (t := 48) (elem := 98) (sz := 2) (b := 0) (cs := rwA (R.take i ++ List.replicate (L.length - i) atz)) (len := L.length) (c := L.length) (i := i) Tryz.underlying48 szT98 rfl (by omega) (by omega)
      repeat refine wps_seq ?_
      refine wps_region callOK ?_
      simp [zS, hs1, hcl, opndO]
      repeat refine wps_seq ?_
      refine wps_region callOK ?_
      simp [zS, hs2, opndO]
      repeat refine wps_seq ?_
      refine wps_ret ?_
      simp [retVal, Tryz.f54, oneOr]
      rw [← hfr]
      have := ends 1 i (R.take i ++ List.replicate (L.length - i) atz) (by simp; omega)
      rwa [List.take_append_of_le_length (by simp; omega), List.take_take, Nat.min_self] at this
section
variable {m n pb k sz : Nat} {pre post es : List AV} {g f : List (Nat × Blk)}
theorem VE_nd (h : Eok m pb pre k sz es post g) : ((VE pb pre k sz es post g).map (·.1)).Nodup := by
  have nd := h.nd
  rw [List.nodup_cons] at nd
  have hk := h.lk.2
  simp only [List.mem_cons, not_or] at hk
  unfold VE
  cases es with
  | nil => simpa [ownF] using nd
  | cons x r =>
    simp only [ownF, List.map_cons, List.cons_append, List.nil_append, List.nodup_cons, List.mem_cons, not_or]
    exact ⟨⟨fun e => hk.1 e.symm, nd.1⟩, hk.2, nd.2⟩
theorem VE_all (h : Eok m pb pre k sz es post g) : ∀ e, e ∈ VE pb pre k sz es post g → e.1 < m ∧ SelfB m e.2 := by
  intro e he
  unfold VE at he
  rw [List.mem_cons, List.mem_append] at he
  rcases he with rfl | he | he
  · refine ⟨h.lp, fun σ hσ => ?_⟩
    show fitL _ _ _ _
    refine fitL_app (h.sp σ hσ) ?_
    simp only [fitL]
    refine ⟨?_, h.sq σ hσ⟩
    cases es with
    | nil => simp [ownV, fitV]
    | cons x r =>
      rw [ownV_ne (by simp)]
      simp [fitV, hσ k h.lk.1]
  · cases es with
    | nil => cases he
    | cons x r =>
      simp only [ownF, List.mem_singleton] at he
      subst he
      exact ⟨h.lk.1, self_pure h.el.pure⟩
  · exact ⟨h.lg e he, h.sg e he⟩
theorem fit_any {N : Nat} {H H' : Heap} (hN : N ≤ m) (nd : (H'.ents.map (·.1)).Nodup) (ha : ∀ e, e ∈ H'.ents → e.1 < m ∧ SelfB m e.2 ∧ H.get e.1 = some e.2) (hn : m ≤ H'.n) : FitH N (idn m) [] H H' where
  nd1 := by simpa using idn_nd m
  nd2 := idn_nd2 m
  nd3 := nd
  lt := fun x hx => by
    obtain ⟨i, hi, rfl⟩ := List.mem_map.1 hx
    have : i < m := by simpa using hi
    show i < H'.n; omega
  idn := fun x hx hlt => by
    obtain ⟨i, hi, rfl⟩ := List.mem_map.1 hx
    rfl
  num := Nat.le_trans hN hn
  src := fun e he => by
    obtain ⟨h1, h2, h3⟩ := ha e he
    exact ⟨e.1, e.2, idn_mem h1, h3, h2 _ (idl_idn m)⟩
  frz := fun x h => by cases h
theorem fit_VE {N m' : Nat} (h : Eok m pb pre k sz es post g) (hN : N ≤ m) (hm : m ≤ m') (hf : ∀ i, i < m → getF i f = none) : FitH N (idn m) [] ⟨n, [f, VE pb pre k sz es post g]⟩ ⟨m', [[], VE pb pre k sz es post g]⟩ := by
  refine fit_any hN (by simpa [Heap.ents] using VE_nd h) (fun e he => ?_) hm
  simp only [Heap.ents, List.flatten_cons, List.flatten_nil, List.append_nil, List.nil_append] at he
  obtain ⟨h1, h2⟩ := VE_all h e he
  refine ⟨h1, h2, ?_⟩
  simp only [Heap.get, getFs]
  rw [hf _ h1, gF_of (VE_nd h) he]
theorem fit_VE1 {N m' : Nat} (h : Eok m pb pre k sz es post g) (hN : N ≤ m) (hm : m ≤ m') (hf : ∀ i, i < m → getF i f = none) : FitH N (idn m) [] ⟨n, [f, VE pb pre k sz es post g]⟩ ⟨m', [VE pb pre k sz es post g]⟩ := by
  refine fit_any hN (by simpa [Heap.ents] using VE_nd h) (fun e he => ?_) hm
  simp only [Heap.ents, List.flatten_cons, List.flatten_nil, List.append_nil, List.nil_append] at he
  obtain ⟨h1, h2⟩ := VE_all h e he
  refine ⟨h1, h2, ?_⟩
  simp only [Heap.get, getFs]
  rw [hf _ h1, gF_of (VE_nd h) he]
end
theorem CallAt.nilD {C : Ctx} {f : FuncId} {args args' : List AV} {m pb k sz : Nat} {pre post es : List AV} {g : List (Nat × Blk)} {v : AV} {H' : Heap} (h : Eok m pb pre k sz es post g)
    (hc : CallAt C f args' ⟨m, [[], VE pb pre k sz es post g]⟩ v H') (hf : fitL (idn m) [] args args') : CallAt C f args ⟨m, [[], VE pb pre k sz es post g]⟩ v H' :=
  hc.drop (σ := idn m) (Φ := []) (fun nd => fit_VE h (Nat.le_refl m) (Nat.le_refl m) fun _ _ => rfl) hf
def full (a : At1) : Bool := !decide (a.2 = [])
theorem c55 {T : List (Entry Tryz.prog)} (a : At1) : CallAt (ctx T) 55 [aAttr a] ⟨0, []⟩ (.bool (decide (a.2 = []))) ⟨0, []⟩ := by
  refine callAt_body (fn := Tryz.f55) (s0 := ⟨[0, 1, 2], [.agg [.str a.1, .str a.2], .undef, .undef], [], 6, ⟨0, [[]]⟩⟩) Tryz.func55 rfl rfl rfl ?_
  repeat refine wps_seq ?_
  refine wps_region callOK ?_
  simp [zS]
  repeat refine wps_seq ?_
  refine wps_region callOK ?_
  simp [zS]
  repeat refine wps_seq ?_
  refine wps_ret ?_
  simp [retVal, Tryz.f55, oneOr]
  exact ⟨[], [], by simp [fitV, pureV], FitH.empty⟩
def el0 (name : Str) (L : List At1) : Nd := ⟨1, 0, name, L, [], 0, []⟩
theorem c260 {T : List (Entry Tryz.prog)} (hA : findE 72 T = some e72.g) (hP : findE 89 T = some e89.g) (hS : findE 73 T = some e73.g) (hH : findE 74 T = some e74.g) (hC : findE 77 T = some e77.g)
    {m pb k : Nat} {g : List (Nat × Blk)} {t : Tr} (h : Eok m pb [] k 7 (t.map aNode) [] g) (ht : t.length + 1 ≤ 1000000) {u : Nat} (hu : u < t.length) (ok : UpOk t) (name : Str) :
    CallAt (ctx T) 26 [.ptr pb 0, .int .i64 (u : Int), .str name, .fslc 2 []] ⟨m, [VE pb [] k 7 (t.map aNode) [] g]⟩ (.int .i64 (t.length : Int)) ⟨m + 1, [VE pb [] m 7 ((putN t u (el0 name [])).map aNode) [] g]⟩ := by
  have hd := (c540 (T := T) 55 [] rfl (fun a => decide (a.2 = [])) c55).lift (by simp [pureL, pureV]) ⟨m, [[], VE pb [] k 7 (t.map aNode) [] g]⟩
  have hput := (c25 (T := T) hA hP hS hH hC h ht hu ok (el0 name []) (by simp [el0])).perm (H2 := ⟨m, [[], VE pb [] k 7 (t.map aNode) [] g]⟩) (H2' := ⟨m + 1, [[], VE pb [] m 7 ((putN t u (el0 name [])).map aNode) [] g]⟩) rfl rfl (by simp [Heap.ents]) (by simp [Heap.ents])
  have hput' : CallAt (ctx T) 25 [.ptr pb 0, .int .i64 (u : Int), .agg [.int .i64 1, .int .i64 0, .str name, .fslc 2 [], .str [], .int .i64 0, .nilS]] ⟨m, [[], VE pb [] k 7 (t.map aNode) [] g]⟩ (.int .i64 (t.length : Int)) ⟨m + 1, [[], VE pb [] m 7 ((putN t u (el0 name [])).map aNode) [] g]⟩ :=
    hput.nilD h (by
      simp [fitL, fitV, lookN_idn h.lp, pureV, aNode, Nd.cs, el0, aInt, aAttrs])
  have bld : buildA Tryz.prog 50 [(0, .int .i64 1), (2, .str name), (3, .fslc 2 [])] = some (.agg [.int .i64 1, .int .i64 0, .str name, .fslc 2 [], .str [], .int .i64 0, .nilS]) := rfl
  refine callAt_body (fn := Tryz.f26) (s0 := ⟨[0, 1, 2, 3, 8], [.ptr pb 0, .int .i64 (u : Int), .str name, .fslc 2 [], .undef], [], 17, ⟨m, [] :: [VE pb [] k 7 (t.map aNode) [] g]⟩⟩) Tryz.func26 rfl rfl rfl ?_
  repeat refine wps_seq ?_
  refine wps_region callOK ?_
  simp [zS]
  repeat refine wps_seq ?_
  refine wps_region (callOKF [⟨54, _, _, _, _, hd⟩]) ?_
  simp [zS, callF]
  repeat refine wps_seq ?_
  refine wps_region (callOKF [⟨25, _, _, _, _, hput'⟩]) ?_
  simp [zS, callF, bld]
  repeat refine wps_seq ?_
  refine wps_ret ?_
  simp [retVal, Tryz.f26, oneOr]
  have h2 := h.next (el_node (putN t u (el0 name [])))
  refine ⟨_, _, ?_, fit_VE1 h2 (by omega) (Nat.le_refl _) fun _ _ => rfl⟩
  simp [fitV, pureV]
theorem del_at {T : List (Entry Tryz.prog)} {m pb k b : Nat} {g : List (Nat × Blk)} {es : List AV} (L : List At1) (h : Eok m pb [] k 7 es [] (g ++ [(b, .cells (rwA L))])) (hl : L.length ≤ 1000) (hne : L ≠ []) :
    CallAt (ctx T) 54 [.slc b 0 L.length (.ex L.length), .func (.func 55) [] []] ⟨m, [[], VE pb [] k 7 es [] (g ++ [(b, .cells (rwA L))])]⟩ (aAttrs (L.filter full)) ⟨m, [[], VE pb [] k 7 es [] g]⟩ := by
  have nd := VE_nd h
  have mem : (b, Blk.cells (rwA L)) ∈ VE pb [] k 7 es [] (g ++ [(b, .cells (rwA L))]) := by simp [VE]
  have hget : Heap.get ⟨m, [[], VE pb [] k 7 es [] (g ++ [(b, .cells (rwA L))])]⟩ b = some (.cells (rwA L)) := by
    simp only [Heap.get, getFs]
    rw [gF_of nd mem]
    rfl
  have fh : FitH 0 [(b, 0)] [] ⟨m, [[], VE pb [] k 7 es [] (g ++ [(b, .cells (rwA L))])]⟩ ⟨1, [[(0, .cells (rwA L))]]⟩ := by
    refine ⟨by simp, by simp, by simp [Heap.ents], by simp, fun x hx h => absurd h (Nat.not_lt_zero _), Nat.zero_le _, ?_, fun x h => by cases h⟩
    intro e he
    simp only [Heap.ents, List.flatten_cons, List.flatten_nil, List.append_nil, List.mem_singleton] at he
    subst he
    exact ⟨b, _, by simp, hget, fitL_pure (pure_rwA L)⟩
  have e1 : VE pb [] k 7 es [] (g ++ [(b, .cells (rwA L))]) = VE pb [] k 7 es [] g ++ [(b, .cells (rwA L))] := by simp [VE]
  have := (c54 (T := T) L hl hne 55 [] rfl (fun a => decide (a.2 = [])) c55).framed (args := [.slc b 0 L.length (.ex L.length), .func (.func 55) [] []]) (H' := ⟨m, [[], VE pb [] k 7 es [] g]⟩) fh (by simp [fitL, fitV, lookN]) ⟨by simp, fun nd' _ => ?_, fun e he => ?_⟩ (by simp)
  · rw [renV_pure _ (by simp [aAttrs, pureV])] at this
    exact this
  · rw [e1] at nd
    simp only [Heap.ents, List.flatten_cons, List.flatten_nil, List.append_nil, List.nil_append]
    rw [List.map_append] at nd
    exact (List.nodup_append.1 nd).1
  · simp only [Heap.ents, List.flatten_cons, List.flatten_nil, List.append_nil, List.nil_append] at he ⊢
    refine .inr ⟨by rw [e1]; simp [he], fun x hx => ?_⟩
    simp only [List.mem_singleton] at hx
    subst hx
    rw [e1, List.map_append] at nd
    exact fun e2 => (List.nodup_append.1 nd).2.2 _ (List.mem_map.2 ⟨e, he, rfl⟩) b (by simp) e2.symm
theorem Eok.less {m pb k sz : Nat} {pre post es : List AV} {g : List (Nat × Blk)} {e : Nat × Blk} (h : Eok m pb pre k sz es post (g ++ [e])) : Eok m pb pre k sz es post g where
  lp := h.lp
  lk := ⟨h.lk.1, fun hx => h.lk.2 (by
    rcases List.mem_cons.1 hx with hx | hx
    · simp [hx]
    · rw [List.map_append]; exact List.mem_cons_of_mem _ (List.mem_append_left _ hx))⟩
  lg := fun e he => h.lg e (by simp [he])
  nd := by
    have := h.nd
    rw [List.map_append, ← List.cons_append] at this
    exact (List.nodup_append.1 this).1
  sg := fun e he => h.sg e (by simp [he])
  sp := h.sp
  sq := h.sq
  el := h.el
theorem c26 {T : List (Entry Tryz.prog)} (hA : findE 72 T = some e72.g) (hP : findE 89 T = some e89.g) (hS : findE 73 T = some e73.g) (hH : findE 74 T = some e74.g) (hC : findE 77 T = some e77.g)
    {m pb k b : Nat} {g : List (Nat × Blk)} {t : Tr} (L : List At1) (hl : L.length ≤ 1000) (hne : L ≠ []) (h : Eok m pb [] k 7 (t.map aNode) [] (g ++ [(b, .cells (rwA L))])) (ht : t.length + 1 ≤ 1000000) {u : Nat} (hu : u < t.length) (ok : UpOk t) (name : Str) :
    CallAt (ctx T) 26 [.ptr pb 0, .int .i64 (u : Int), .str name, .slc b 0 L.length (.ex L.length)] ⟨m, [VE pb [] k 7 (t.map aNode) [] (g ++ [(b, .cells (rwA L))])]⟩ (.int .i64 (t.length : Int)) ⟨m + 1, [VE pb [] m 7 ((putN t u (el0 name (L.filter full))).map aNode) [] g]⟩ := by
  have h' := h.less
  have hd := del_at (T := T) L h hl hne
  have lf : (L.filter full).length ≤ 1000000 := Nat.le_trans (List.length_filter_le _ _) (by omega)
  have hput := (c25 (T := T) hA hP hS hH hC h' ht hu ok (el0 name (L.filter full)) (by simpa [el0] using lf)).perm (H2 := ⟨m, [[], VE pb [] k 7 (t.map aNode) [] g]⟩) (H2' := ⟨m + 1, [[], VE pb [] m 7 ((putN t u (el0 name (L.filter full))).map aNode) [] g]⟩) rfl rfl (by simp [Heap.ents]) (by simp [Heap.ents])
  obtain ⟨A, hA⟩ : ∃ A, A = aAttrs (L.filter full) := ⟨_, rfl⟩
  have sA : A.single = true := by rw [hA]; rfl
  have pA : pureV A = true := by rw [hA]; simp [aAttrs, pureV]
  have hput' : CallAt (ctx T) 25 [.ptr pb 0, .int .i64 (u : Int), .agg [.int .i64 1, .int .i64 0, .str name, A, .str [], .int .i64 0, .nilS]] ⟨m, [[], VE pb [] k 7 (t.map aNode) [] g]⟩ (.int .i64 (t.length : Int)) ⟨m + 1, [[], VE pb [] m 7 ((putN t u (el0 name (L.filter full))).map aNode) [] g]⟩ :=
    hput.nilD h' (by
      subst hA
      simp [fitL, fitV, lookN_idn h'.lp, pureV, aNode, Nd.cs, el0, aInt, aAttrs])
  rw [← hA] at hd
  have bld : buildA Tryz.prog 50 [(0, .int .i64 1), (2, .str name), (3, A)] = some (.agg [.int .i64 1, .int .i64 0, .str name, A, .str [], .int .i64 0, .nilS]) := by
    subst hA; rfl
  refine callAt_body (fn := Tryz.f26) (s0 := ⟨[0, 1, 2, 3, 8], [.ptr pb 0, .int .i64 (u : Int), .str name, .slc b 0 L.length (.ex L.length), .undef], [], 17, ⟨m, [] :: [VE pb [] k 7 (t.map aNode) [] (g ++ [(b, .cells (rwA L))])]⟩⟩) Tryz.func26 rfl rfl rfl ?_
  repeat refine wps_seq ?_
  refine wps_region callOK ?_
  simp [zS]
  repeat refine wps_seq ?_
  refine wps_region (callOKF [⟨54, _, _, _, _, hd⟩]) ?_
  simp [zS, callF]
  repeat refine wps_seq ?_
  refine wps_region (callOKF [⟨25, _, _, _, _, hput'⟩]) ?_
  simp [zS, callF, bld]
  repeat refine wps_seq ?_
  refine wps_ret ?_
  simp [retVal, Tryz.f26, oneOr]
  have h2 := h'.next (el_node (putN t u (el0 name (L.filter full))))
  refine ⟨_, _, ?_, fit_VE1 h2 (by omega) (Nat.le_refl _) fun _ _ => rfl⟩
  simp [fitV, pureV]
def charsN (t : Tr) (u : Nat) (s : Str) : Tr := if s = [] then t else putN t u ⟨2, 0, [], [], s, 0, []⟩
theorem c270 {T : List (Entry Tryz.prog)} {m pb k : Nat} {g : List (Nat × Blk)} {t : Tr} (h : Eok m pb [] k 7 (t.map aNode) [] g) {u : Nat} :
    CallAt (ctx T) 27 [.ptr pb 0, .int .i64 (u : Int), .str []] ⟨m, [VE pb [] k 7 (t.map aNode) [] g]⟩ (.tup []) ⟨m, [VE pb [] k 7 (t.map aNode) [] g]⟩ := by
  refine callAt_body (fn := Tryz.f27) (s0 := ⟨[0, 1, 2], [.ptr pb 0, .int .i64 (u : Int), .str []], [], 13, ⟨m, [] :: [VE pb [] k 7 (t.map aNode) [] g]⟩⟩) Tryz.func27 rfl rfl rfl ?_
  repeat refine wps_seq ?_
  refine wps_region callOK ?_
  simp [zS]
  repeat refine wps_seq ?_
  refine wps_cond (t := false) rfl (fun h => by cases h) fun _ => ?_
  repeat refine wps_seq ?_
  refine wps_skip ?_
  simp [retVal, Tryz.f27, oneOr]
  refine ⟨_, _, ?_, fit_VE1 h (by omega) (Nat.le_refl _) fun _ _ => rfl⟩
  simp [fitV, fitL]
theorem c271 {T : List (Entry Tryz.prog)} (hA : findE 72 T = some e72.g) (hP : findE 89 T = some e89.g) (hS : findE 73 T = some e73.g) (hH : findE 74 T = some e74.g) (hC : findE 77 T = some e77.g)
    {m pb k : Nat} {g : List (Nat × Blk)} {t : Tr} (h : Eok m pb [] k 7 (t.map aNode) [] g) (ht : t.length + 1 ≤ 1000000) {u : Nat} (hu : u < t.length) (ok : UpOk t) (s : Str) (hs : s ≠ []) :
    CallAt (ctx T) 27 [.ptr pb 0, .int .i64 (u : Int), .str s] ⟨m, [VE pb [] k 7 (t.map aNode) [] g]⟩ (.tup []) ⟨m + 1, [VE pb [] m 7 ((putN t u ⟨2, 0, [], [], s, 0, []⟩).map aNode) [] g]⟩ := by
  have hput := (c25 (T := T) hA hP hS hH hC h ht hu ok ⟨2, 0, [], [], s, 0, []⟩ (by simp)).perm (H2 := ⟨m, [[], VE pb [] k 7 (t.map aNode) [] g]⟩) (H2' := ⟨m + 1, [[], VE pb [] m 7 ((putN t u ⟨2, 0, [], [], s, 0, []⟩).map aNode) [] g]⟩) rfl rfl (by simp [Heap.ents]) (by simp [Heap.ents])
  have hput' : CallAt (ctx T) 25 [.ptr pb 0, .int .i64 (u : Int), .agg [.int .i64 2, .int .i64 0, .str [], .nilS, .str s, .int .i64 0, .nilS]] ⟨m, [[], VE pb [] k 7 (t.map aNode) [] g]⟩ (.int .i64 (t.length : Int)) ⟨m + 1, [[], VE pb [] m 7 ((putN t u ⟨2, 0, [], [], s, 0, []⟩).map aNode) [] g]⟩ :=
    hput.nilD h (by
      simp [fitL, fitV, lookN_idn h.lp, pureV, aNode, Nd.cs, el0, aInt, aAttrs])
  have bld : buildA Tryz.prog 50 [(0, .int .i64 2), (4, .str s)] = some (.agg [.int .i64 2, .int .i64 0, .str [], .nilS, .str s, .int .i64 0, .nilS]) := rfl
  refine callAt_body (fn := Tryz.f27) (s0 := ⟨[0, 1, 2], [.ptr pb 0, .int .i64 (u : Int), .str s], [], 13, ⟨m, [] :: [VE pb [] k 7 (t.map aNode) [] g]⟩⟩) Tryz.func27 rfl rfl rfl ?_
  repeat refine wps_seq ?_
  refine wps_region callOK ?_
  simp [zS, hs]
  repeat refine wps_seq ?_
  refine wps_cond (t := true) rfl (fun _ => ?_) fun h => by cases h
  repeat refine wps_seq ?_
  refine wps_region (callOKF [⟨25, _, _, _, _, hput'⟩]) ?_
  simp [zS, callF, bld]
  simp [retVal, Tryz.f27, oneOr]
  have h2 := h.next (el_node (putN t u ⟨2, 0, [], [], s, 0, []⟩))
  refine ⟨_, _, ?_, fit_VE1 h2 (by omega) (Nat.le_refl _) fun _ _ => rfl⟩
  simp [fitV, fitL]
theorem putN_eq {t : Tr} {u : Nat} (hu : u < t.length) (nd : Nd) : putN t u nd = setKids t u ((nodeAt t (u : Int)).kids ++ [(t.length : Int)]) ++ [{ fresh nd with up := (u : Int) }] := by
  have e1 : ∀ K, setKids (t ++ [fresh nd]) u K = setKids t u K ++ [fresh nd] := fun K => by
    unfold setKids
    rw [nodeAt_old hu, List.take_append_of_le_length (by omega), List.drop_append_of_le_length (by omega)]
    simp
  unfold putN
  rw [e1]
  have l : (setKids t u ((nodeAt t (u : Int)).kids ++ [(t.length : Int)])).length = t.length := setKids_len hu _
  generalize setKids t u ((nodeAt t (u : Int)).kids ++ [(t.length : Int)]) = A at l
  rw [← l]
  unfold setUp
  rw [nodeAt_new, List.take_append_of_le_length (Nat.le_refl _), List.take_length, List.drop_of_length_le (by simp)]
theorem putN_len {t : Tr} {u : Nat} (hu : u < t.length) (nd : Nd) : (putN t u nd).length = t.length + 1 := by
  rw [putN_eq hu, List.length_append, setKids_len hu]; rfl
theorem mem_setKids {t : Tr} {i : Nat} {K : List Int} {n : Nd} (h : n ∈ setKids t i K) : n ∈ t ∨ n = { nodeAt t (i : Int) with kids := K } := by
  unfold setKids at h
  rw [List.mem_append, List.mem_cons] at h
  rcases h with h | h | h
  · exact .inl (List.mem_of_mem_take h)
  · exact .inr h
  · exact .inl (List.mem_of_mem_drop h)
theorem mem_putN {t : Tr} {u : Nat} (hu : u < t.length) {nd n : Nd} (h : n ∈ putN t u nd) : n ∈ t ∨ (∃ o, o ∈ t ∧ n = { o with kids := o.kids ++ [(t.length : Int)] }) ∨ n = { fresh nd with up := (u : Int) } := by
  have mu : nodeAt t (u : Int) ∈ t := nodeAt_mem (by omega) (by omega)
  rw [putN_eq hu, List.mem_append, List.mem_singleton] at h
  rcases h with h | h
  · rcases mem_setKids h with h | h
    · exact .inl h
    · exact .inr (.inl ⟨_, mu, h⟩)
  · exact .inr (.inr h)
theorem UpOk.put {t : Tr} (ok : UpOk t) {u : Nat} (hu : u < t.length) (nd : Nd) : UpOk (putN t u nd) := by
  have l := putN_len hu nd
  refine ⟨fun n hn => ?_, fun n hn => ?_⟩
  · rw [l]
    rcases mem_putN hu hn with h | ⟨o, h, rfl⟩ | rfl
    · have := ok.up n h; omega
    · have := ok.up o h
      show o.up < _
      omega
    · show (u : Int) < _
      omega
  · rw [l]
    rcases mem_putN hu hn with h | ⟨o, h, rfl⟩ | rfl
    · have := ok.kids n h; omega
    · have := ok.kids o h
      simp only [List.length_append, List.length_singleton]
      omega
    · simp [fresh]
structure Ct where
  name : Str
  id : Str
  label : Str
structure Pt where
  name : Str
  id : Str
  label : Str
  form : Str
  text : Str
  ctls : List Ct
def aCt (c : Ct) : AV := .agg [.str c.name, .str c.id, .str c.label]
abbrev aCts (L : List Ct) : AV := .fslc 3 (L.map aCt)
def Pt.cs (p : Pt) : List AV := [.str p.name, .str p.id, .str p.label, .str p.form, .str p.text, aCts p.ctls]
def aPt (p : Pt) : AV := .agg p.cs
abbrev aPts (L : List Pt) : AV := .fslc 6 (L.map aPt)
@[simp] theorem pure_aCt (c : Ct) : pureV (aCt c) = true := by simp [aCt, pureV, pureL]
@[simp] theorem pure_aCts (L : List Ct) : pureV (aCts L) = true := by simp [aCts, pureV]
@[simp] theorem pure_aPt (p : Pt) : pureV (aPt p) = true := by simp [aPt, Pt.cs, pureV, pureL]
@[simp] theorem pure_aPts (L : List Pt) : pureV (aPts L) = true := by simp [aPts, pureV]
@[simp] theorem pure_Ptcs (p : Pt) : pureL p.cs = true := by simp [Pt.cs, pureV, pureL]
def ptL (p : Pt) : List At1 := [(wId, p.id), (wName, p.label), (wForm, p.form)]
def ctL (c : Ct) : List At1 := [(wId, c.id), (wName, c.label)]
def ctlN (t : Tr) (u : Nat) (c : Ct) : Tr := putN t u (el0 c.name ((ctL c).filter full))
def ctlsN (t : Tr) (u : Nat) (L : List Ct) : Tr := L.foldl (fun t c => ctlN t u c) t
def headN (t : Tr) (u : Nat) (p : Pt) : Tr := putN t u (el0 p.name ((ptL p).filter full))
def textN (t : Tr) (u : Nat) (p : Pt) : Tr := if voidW 0 p.name = true then t else charsN t u p.text
def partN (t : Tr) (u : Nat) (p : Pt) : Tr := ctlsN (textN (headN t u p) t.length p) t.length p.ctls
def partsN (t : Tr) (u : Nat) (L : List Pt) : Tr := L.foldl (fun t p => partN t u p) t
def Grow (P : Nd → Prop) (t t' : Tr) : Prop := t.length ≤ t'.length ∧ (UpOk t → UpOk t') ∧ ∀ n, n ∈ t' → (∃ o, o ∈ t ∧ n.attrs = o.attrs) ∨ ∃ nd, P nd ∧ n.attrs = nd.attrs
theorem Grow.refl (P : Nd → Prop) (t : Tr) : Grow P t t := ⟨Nat.le_refl _, id, fun n hn => .inl ⟨n, hn, rfl⟩⟩
theorem Grow.trans {P : Nd → Prop} {a b c : Tr} (h : Grow P a b) (k : Grow P b c) : Grow P a c := by
  refine ⟨Nat.le_trans h.1 k.1, fun x => k.2.1 (h.2.1 x), fun n hn => ?_⟩
  rcases k.2.2 n hn with ⟨o, ho, e⟩ | h2
  · rcases h.2.2 o ho with ⟨o2, h3, e2⟩ | ⟨nd, h3, e2⟩
    · exact .inl ⟨o2, h3, e.trans e2⟩
    · exact .inr ⟨nd, h3, e.trans e2⟩
  · exact .inr h2
theorem Grow.put {P : Nd → Prop} {t : Tr} {u : Nat} (hu : u < t.length) {nd : Nd} (hP : P nd) : Grow P t (putN t u nd) := by
  refine ⟨by rw [putN_len hu]; omega, fun ok => ok.put hu nd, fun n hn => ?_⟩
  rcases mem_putN hu hn with h | ⟨o, h, rfl⟩ | rfl
  · exact .inl ⟨n, h, rfl⟩
  · exact .inl ⟨o, h, rfl⟩
  · exact .inr ⟨nd, hP, rfl⟩
theorem charsN_len {t : Tr} {u : Nat} (hu : u < t.length) (s : Str) : t.length ≤ (charsN t u s).length ∧ (charsN t u s).length ≤ t.length + 1 := by
  unfold charsN
  split
  · omega
  · rw [putN_len hu]; omega
theorem ctlsN_len {u : Nat} : ∀ (L : List Ct) {t : Tr}, u < t.length → (ctlsN t u L).length = t.length + L.length
  | [], t, _ => rfl
  | c :: r, t, h => by
    have l : (ctlN t u c).length = t.length + 1 := putN_len h _
    show (ctlsN (ctlN t u c) u r).length = _
    rw [ctlsN_len r (by omega), l, List.length_cons]
    omega
theorem textN_len {t : Tr} {u : Nat} (hu : u < t.length) (p : Pt) : t.length ≤ (textN t u p).length ∧ (textN t u p).length ≤ t.length + 1 := by
  unfold textN
  split
  · omega
  · exact charsN_len hu _
def costP (p : Pt) : Nat := 2 + p.ctls.length
def costs : List Pt → Nat
  | [] => 0
  | p :: r => costP p + costs r
theorem partN_len {t : Tr} {u : Nat} (hu : u < t.length) (p : Pt) : t.length ≤ (partN t u p).length ∧ (partN t u p).length ≤ t.length + costP p := by
  have l1 : (headN t u p).length = t.length + 1 := putN_len hu _
  have l2 := textN_len (t := headN t u p) (u := t.length) (by omega) p
  have l3 := ctlsN_len (u := t.length) p.ctls (t := textN (headN t u p) t.length p) (by omega)
  unfold partN costP
  omega
theorem partsN_len {u : Nat} : ∀ (L : List Pt) {t : Tr}, u < t.length → t.length ≤ (partsN t u L).length ∧ (partsN t u L).length ≤ t.length + costs L
  | [], t, _ => ⟨Nat.le_refl _, Nat.le_refl _⟩
  | p :: r, t, h => by
    have l := partN_len h p
    have := partsN_len (u := u) r (t := partN t u p) (by omega)
    show t.length ≤ (partsN (partN t u p) u r).length ∧ (partsN (partN t u p) u r).length ≤ t.length + (costP p + costs r)
    omega
theorem Grow.ctls {P : Nd → Prop} {u : Nat} : ∀ (L : List Ct) {t : Tr}, u < t.length → (∀ c, c ∈ L → P (el0 c.name ((ctL c).filter full))) → Grow P t (ctlsN t u L)
  | [], t, _, _ => .refl _ _
  | c :: r, t, h, hP => by
    have l : (ctlN t u c).length = t.length + 1 := putN_len h _
    exact (Grow.put h (hP c (by simp))).trans (Grow.ctls r (t := ctlN t u c) (by omega) fun c hc => hP c (by simp [hc]))
theorem Grow.chars {P : Nd → Prop} {t : Tr} {u : Nat} (hu : u < t.length) (s : Str) (hP : P ⟨2, 0, [], [], s, 0, []⟩) : Grow P t (charsN t u s) := by
  unfold charsN
  split
  · exact .refl _ _
  · exact .put hu hP
structure PartP (P : Nd → Prop) (p : Pt) : Prop where
  el : P (el0 p.name ((ptL p).filter full))
  tx : P ⟨2, 0, [], [], p.text, 0, []⟩
  ct : ∀ c, c ∈ p.ctls → P (el0 c.name ((ctL c).filter full))
theorem Grow.part {P : Nd → Prop} {t : Tr} {u : Nat} (hu : u < t.length) {p : Pt} (hp : PartP P p) : Grow P t (partN t u p) := by
  have l1 : (headN t u p).length = t.length + 1 := putN_len hu _
  have l2 := textN_len (t := headN t u p) (u := t.length) (by omega) p
  refine (Grow.put hu hp.el).trans (.trans (b := textN (headN t u p) t.length p) ?_ (.ctls p.ctls (by omega) hp.ct))
  unfold textN
  split
  · exact .refl _ _
  · exact .chars (by show _ < (headN t u p).length; omega) _ hp.tx
theorem Grow.parts {P : Nd → Prop} {u : Nat} : ∀ (L : List Pt) {t : Tr}, u < t.length → (∀ p, p ∈ L → PartP P p) → Grow P t (partsN t u L)
  | [], t, _, _ => .refl _ _
  | p :: r, t, h, hP => by
    have l := partN_len h p
    exact (Grow.part h (hP p (by simp))).trans (Grow.parts r (t := partN t u p) (by omega) fun c hc => hP c (by simp [hc]))
end Go.Proofs.YtlgdgolobnbefaaGreatDoor
