/- tree.Cut in general. No condition. -/
import Derived.Test.YtfgdcciaecajpaaGreatDoorMH
import Derived.Test.YtfgdcciaecajpaaGreatDoorMG
import Derived.Test.YtfgdcciaecajpaaGreatDoorMF
import Derived.Shelf.Spec.SlicesInsertGrow
namespace Go.Proofs.YtfgdcciaecajpaaGreatDoor
set_option linter.unusedSimpArgs false
set_option linter.unusedVariables false
open Go Go.RowKit
set_option maxRecDepth 100000
mutual
theorem refs_pure : ∀ (n : Nat) (v : AV), pureV v = true → refs n v = []
 | 0, _, _ => rfl
 | n + 1, v, h => by
  cases v with
  | func fn a c =>
   simp only [pureV, Bool.and_eq_true] at h
   simp only [refs, refsL_pure n a h.1, refsL_pure n c h.2, List.append_nil]
  | iface t v =>
   simp only [pureV] at h
   simp only [refs, refs_pure n v h]
  | agg cs =>
   simp only [pureV] at h
   simp only [refs, refsL_pure n cs h]
  | tup cs =>
   simp only [pureV] at h
   simp only [refs, refsL_pure n cs h]
  | _ => first | rfl | (simp [pureV] at h)
theorem refsL_pure : ∀ (n : Nat) (l : List AV), pureL l = true → l.flatMap (refs n) = []
 | _, [], _ => rfl
 | n, v :: r, h => by
  simp only [pureL, Bool.and_eq_true] at h
  rw [List.flatMap_cons, refs_pure n v h.1, refsL_pure n r h.2]
  rfl
end
def VE (pb : Nat) (pre : List AV) (k sz : Nat) (es : List AV) (post : List AV) (g : List (Nat × Blk)) : List (Nat × Blk) := (pb, .cells (pre ++ ownV k sz es :: post)) :: (ownF k es ++ g)
structure Eok (m pb : Nat) (pre : List AV) (k sz : Nat) (es : List AV) (post : List AV) (g : List (Nat × Blk)) : Prop where
 lp : pb < m
 lk : k < m ∧ k ∉ pb :: g.map (·.1)
 lg : ∀ e, e ∈ g → e.1 < m
 nd : (pb :: g.map (·.1)).Nodup
 sg : ∀ e, e ∈ g → SelfB m e.2
 sp : ∀ σ, Idl m σ → fitL σ [] pre pre
 sq : ∀ σ, Idl m σ → fitL σ [] post post
 el : Elems sz es
section
variable {m n pb k sz : Nat} {pre post es : List AV} {g f : List (Nat × Blk)}
theorem VE_p : getF pb (VE pb pre k sz es post g) = some (.cells (pre ++ ownV k sz es :: post)) := by simp [VE, getF]
theorem gF_none {b : Nat} : ∀ {l : List (Nat × Blk)}, b ∉ l.map (·.1) → getF b l = none
 | [], _ => rfl
 | e :: r, h => by
  simp only [List.map_cons, List.mem_cons, not_or] at h
  unfold getF
  rw [beqN_ne fun x => h.1 x.symm]
  exact gF_none h.2
theorem Eok.k_p (h : Eok m pb pre k sz es post g) : Nat.beq pb k = false := beqN_ne fun e => h.lk.2 (by simp [e])
theorem VE_k (h : Eok m pb pre k sz es post g) (hne : es ≠ []) : getF k (VE pb pre k sz es post g) = some (.cells (flatAV es)) := by
 unfold VE getF
 rw [h.k_p, ownF_ne hne]
 simp [getF]
theorem gF_of {l : List (Nat × Blk)} (nd : (l.map (·.1)).Nodup) {e : Nat × Blk} (he : e ∈ l) : getF e.1 l = some e.2 := by
 have := get_of_mem (fs := [l]) (b := e.1) (k := e.2) (by simpa using nd) (by simpa using he)
 simp only [getFs] at this
 revert this
 cases getF e.1 l with
 | none => intro h; cases h
 | some x => intro h; exact h
theorem drop_E (h : Eok m pb pre k sz es post g) (hf : ∀ i, i < m → getF i f = none) : Heap.drop ⟨n, [f, VE pb pre k sz es post g]⟩ k = ⟨n, [f, (pb, .cells (pre ++ ownV k sz es :: post)) :: g]⟩ := by
 have h1 : getF k f = none := hf k h.lk.1
 have h2 := h.lk.2
 simp only [List.mem_cons, not_or] at h2
 unfold Heap.drop
 simp only
 unfold killFs
 rw [h1]
 simp only
 unfold killFs
 unfold VE getF
 rw [h.k_p]
 cases es with
 | nil =>
  simp only [ownF, List.nil_append]
  rw [gF_none h2.2]
  simp [killFs]
 | cons y r =>
  rw [ownF_ne (by simp)]
  simp [getF, killF, h.k_p]
theorem app_E {P : Program} {elem : TypeId} {by_ : Nat} {z : AV} (hsz : sizeT P elem = some sz) (hby : bytesT P elem = some by_) (hz : zeroOf P elem = some z) (hzl : z.cells.length = sz) (hb0 : by_ ≠ 0) (h : Eok m pb pre k sz es post g) {t : Nat} {e : AV} (hel : e.cells.length = sz) (hsg : allSingle e.cells = true)
  (hf : ∀ i, i < m → getF i f = none) (ht : getF t f = some (.cells e.cells)) (hl : (es.length + 1) * by_ ≤ 17592186044416) (hrow : ∀ cs, rowA P elem cs = .cells cs) :
  appendA P ⟨n, [f, VE pb pre k sz es post g]⟩ elem (ownV k sz es) (.slc t 0 1 (.ex 1)) =
   some (.slc n 0 (es.length + 1) (.rest sz), ⟨n + 1, [(n, .cells (flatAV (es ++ [e]))) :: f, (pb, .cells (pre ++ ownV k sz es :: post)) :: g]⟩) := by
 have hd := drop_E (n := n) h hf
 have hsub : subL 0 (1 * sz) e.cells = some e.cells := by
  have := takeL_all e.cells
  rw [hel] at this
  rw [Nat.one_mul]
  unfold subL; rw [List.drop_zero]; exact this
 have := own_append (P := P) (H := ⟨n, [f, VE pb pre k sz es post g]⟩) (elem := elem) (b := k) (n := 0) (es := es) (x := .slc t 0 1 (.ex 1)) (cs := e.cells) hsz hby hz hzl h.el.sz0 hb0 rfl
  (by simp [srcCells, readCells, Heap.get, getFs, ht, hsub]; simpa using hsub) (by simpa using hel) hsg h.el (by simpa using hl)
  (fun hne => by
   simp only [Heap.get, getFs]
   rw [hf k h.lk.1, VE_k h hne])
  (fun he => by
   subst he
   rw [hd]
   rfl) hrow
 rw [hd] at this
 have e1 : flatAV (es ++ [e]) = flatAV es ++ e.cells := by rw [flat_append]; simp [flatAV]
 rw [e1]
 simpa [Heap.new, pushF] using this
theorem prom_E (hp : pb < m) {c : Nat} {row vrow : List AV} (hc : m ≤ c) (hf : ∀ i, i < m → getF i f = none) (hr : pureL row = true) :
  promote pb [c] [] [(c, .cells row) :: f, (pb, .cells vrow) :: g] = [f, (c, .cells row) :: (pb, .cells vrow) :: g] := by
 have hcp : Nat.beq c pb = false := beqN_ne (by omega)
 have g1 : getF pb f = none := hf pb hp
 have r1 : reach 100000 [c] ((c, .cells row) :: f) [] = ([(c, .cells row)], f) := by
  have hk : refsB (.cells row) = [] := refsL_pure 4 _ hr
  show reach (Nat.succ (Nat.succ 99998)) [c] ((c, .cells row) :: f) [] = _
  unfold reach
  simp only [getF, Nat.beq_refl, hk, List.nil_append, killF]
  unfold reach
  rfl
 have e1 : refsF [((c, .cells row) : Nat × Blk)] ++ [c] = [c] := by
  have hk : refsB (.cells row) = [] := refsL_pure 4 _ hr
  simp [refsF, hk]
 have n1 : getF pb ((c, Blk.cells row) :: f) = none := by simp [getF, hcp, g1]
 unfold promote
 rw [n1]
 simp only [r1, e1]
 unfold promote
 simp [getF]
theorem fit_E {c : Nat} {H : Heap} {es' cs0 : List AV} (h : Eok m pb pre k sz es post g) (hc : m ≤ c) (hne : es' ≠ []) (hcs : ∀ σ, fitL σ [] cs0 (flatAV es')) (hp : H.get pb = some (.cells (pre ++ .slc c 0 es'.length (.rest sz) :: post))) (hk : H.get c = some (.cells cs0))
  (hg : ∀ e, e ∈ g → H.get e.1 = some e.2) : FitH m ((c, m) :: idn m) [] H ⟨m + 1, [VE pb pre m sz es' post g]⟩ := by
 have idl := idl_cons (m := m) (k := c) (k' := m) hc
 have nd := h.nd
 rw [List.nodup_cons] at nd
 refine ⟨?_, ?_, ?_, ?_, ?_, by show m ≤ m + 1; omega, ?_, fun x h => by cases h⟩
 ·simp only [List.map_nil, List.append_nil, List.map_cons, List.nodup_cons]
  refine ⟨?_, idn_nd m⟩
  simp [idn]; omega
 ·simp only [List.map_cons, List.nodup_cons]
  refine ⟨?_, idn_nd2 m⟩
  simp [idn]
 ·simp only [Heap.ents, List.flatten_cons, List.flatten_nil, List.append_nil, VE, ownF_ne hne, List.map_cons, List.map_append, List.map_nil, List.cons_append, List.nil_append, List.nodup_cons, List.mem_cons, not_or]
  refine ⟨⟨by have := h.lp; omega, nd.1⟩, ?_, nd.2⟩
  intro hx
  obtain ⟨e, he, hx⟩ := List.mem_map.1 hx
  have := h.lg e he; omega
 ·intro x hx
  rcases List.mem_cons.1 hx with rfl | hx
  ·exact Nat.lt_succ_self m
  ·obtain ⟨i, hi, rfl⟩ := List.mem_map.1 hx
   have : i < m := by simpa using hi
   show i < m + 1; omega
 ·intro x hx hlt
  rcases List.mem_cons.1 hx with rfl | hx
  ·simp at hlt
  ·obtain ⟨i, hi, rfl⟩ := List.mem_map.1 hx
   rfl
 ·intro e he
  simp only [Heap.ents, List.flatten_cons, List.flatten_nil, List.append_nil, VE, ownF_ne hne, List.cons_append, List.nil_append, List.mem_cons] at he
  rcases he with rfl | rfl | he
  ·refine ⟨pb, _, List.mem_cons_of_mem _ (idn_mem h.lp), hp, ?_⟩
   show fitL _ _ _ _
   rw [ownV_ne hne]
   refine fitL_app (h.sp _ idl) ?_
   simp only [fitL]
   exact ⟨by simp [fitV, lookN], h.sq _ idl⟩
  ·exact ⟨c, _, List.mem_cons_self, hk, hcs _⟩
  ·exact ⟨e.1, e.2, List.mem_cons_of_mem _ (idn_mem (h.lg e he)), hg e he, h.sg e he _ idl⟩
theorem Eok.next (h : Eok m pb pre k sz es post g) {es' : List AV} (he : Elems sz es') : Eok (m + 1) pb pre m sz es' post g where
 lp := by have := h.lp; omega
 lk := ⟨Nat.lt_succ_self m, fun hx => by
  rcases List.mem_cons.1 hx with hx | hx
  ·have := h.lp; omega
  ·obtain ⟨e, he, hx⟩ := List.mem_map.1 hx
   have := h.lg e he; omega⟩
 lg := fun e he => by have := h.lg e he; omega
 nd := h.nd
 sg := fun e he => (h.sg e he).mono (Nat.le_succ m)
 sp := fun σ hσ => h.sp σ fun i hi => hσ i (by omega)
 sq := fun σ hσ => h.sq σ fun i hi => hσ i (by omega)
 el := he
theorem Eok.mono (h : Eok m pb pre k sz es post g) {m' : Nat} (hm : m ≤ m') {es' : List AV} (he : Elems sz es') : Eok m' pb pre k sz es' post g where
 lp := Nat.lt_of_lt_of_le h.lp hm
 lk := ⟨Nat.lt_of_lt_of_le h.lk.1 hm, h.lk.2⟩
 lg := fun e he => Nat.lt_of_lt_of_le (h.lg e he) hm
 nd := h.nd
 sg := fun e he => (h.sg e he).mono hm
 sp := fun σ hσ => h.sp σ fun i hi => hσ i (by omega)
 sq := fun σ hσ => h.sq σ fun i hi => hσ i (by omega)
 el := he
end
@[simp] theorem szT41 : sizeT Tryz.prog 41 = some 1 := rfl
@[simp] theorem agT41 : aggT Tryz.prog 41 = some false := rfl
@[simp] theorem byT41 : bytesT Tryz.prog 41 = some 8 := rfl
@[simp] theorem alT41 (H : Heap) : alV Tryz.prog H 41 = some (.ptr H.n 0, H.new (.cells [.nilP])) := rfl
@[simp] theorem zeT41 : zeroOf Tryz.prog 41 = some (.nilP) := rfl
attribute [simp] Tryz.underlying41
@[simp 500] theorem rvF41 (H : Heap) (cs : List AV) (o : Nat) : readVar Tryz.prog H 41 (.fptr cs o) = getL cs o := rfl
@[simp 500] theorem rvP41 (H : Heap) (b o : Nat) : readVar Tryz.prog H 41 (.ptr b o) = (H.get b).bind fun k => k.rd.bind fun cs => getL cs o := rfl
@[simp] theorem szT57 : sizeT Tryz.prog 57 = some 1 := rfl
@[simp] theorem agT57 : aggT Tryz.prog 57 = some false := rfl
@[simp] theorem byT57 : bytesT Tryz.prog 57 = some 8 := rfl
@[simp] theorem alT57 (H : Heap) : alV Tryz.prog H 57 = some (.ptr H.n 0, H.new (.cells [.nilP])) := rfl
@[simp] theorem zeT57 : zeroOf Tryz.prog 57 = some (.nilP) := rfl
attribute [simp] Tryz.underlying57
@[simp 500] theorem rvF57 (H : Heap) (cs : List AV) (o : Nat) : readVar Tryz.prog H 57 (.fptr cs o) = getL cs o := rfl
@[simp 500] theorem rvP57 (H : Heap) (b o : Nat) : readVar Tryz.prog H 57 (.ptr b o) = (H.get b).bind fun k => k.rd.bind fun cs => getL cs o := rfl
theorem el_attr (L : List At1) : Elems 2 (L.map aAttr) := .map (sz := 2) (f := aAttr) (by decide) (fun x => ⟨rfl, by simp [aAttr, AV.cells, pureL, pureV], fun h => absurd h (by decide), fun _ => ⟨_, rfl⟩⟩) L
theorem el_node (L : List Nd) : Elems 7 (L.map aNode) := .map (sz := 7) (f := aNode) (by decide) (fun x => ⟨rfl, by simp [aNode, Nd.cs, AV.cells, pureL, pureV, aInt, aAttrs], fun h => absurd h (by decide), fun _ => ⟨_, rfl⟩⟩) L
theorem single_attr : ∀ (L : List At1), allSingle (flatAV (L.map aAttr)) = true
 | [] => rfl
 | a :: r => by simp only [List.map_cons, flatAV, allSingle_append, single_attr r]; rfl
theorem c22 {T : List (Entry Tryz.prog)} (L : List At1) (hl : L.length ≤ 1000000) : CallAt (ctx T) 22 [aAttrs L] ⟨0, []⟩ (aAttrs L) ⟨0, []⟩ := by
 have happ := app_lits (P := Tryz.prog) (elem := 53) (b := 0) (m := 1) (es := L.map aAttr) (g := []) (fs := []) szT53 byT53 zeT53 rfl (by omega) (by omega) (el_attr _) (single_attr _) (by simp; omega)
 cases L with
 | nil =>
  refine callAt_body (fn := Tryz.f22) (s0 := ⟨[0, 2], [.fslc 2 [], .undef], [], 8, ⟨0, [[]]⟩⟩) Tryz.func22 rfl rfl rfl ?_
  repeat apply wq
  refine wps_region callOK ?_
  simp [zS]
  refine wps_empty (pre := []) ?_ ?_
  ·repeat apply wq
   refine wps_region callOK ?_
   simp [zS]
   repeat apply wq
   refine wps_ct rfl ?_
   repeat apply wq
   refine wps_region callOK ?_
   simp [zS]
   repeat apply wq
   refine wps_ret ?_
   simp [retVal, Tryz.f22, oneOr]
   exact ⟨[], [], by simp [fitV, aAttrs], FitH.empty⟩
  ·repeat apply wq
   refine wps_region callOK ?_
   simp [zS]
   repeat apply wq
   refine wps_cf rfl ?_
   repeat apply wq
   refine wps_skip ?_
   simp
   have happ : appendA Tryz.prog ⟨1, [[(0, .cells [])]]⟩ 53 (.slc 0 0 0 (.ex 0)) .eslc = some (.slc 0 0 0 (.ex 0), ⟨1, [[(0, .cells [])]]⟩) := rfl
   repeat apply wq
   refine wps_region callOK ?_
   simp [zS, happ]
   repeat apply wq
   refine wps_ret ?_
   simp [retVal, Tryz.f22, oneOr]
   exact ends_front (es := []) (len := 0) (el_attr []) (by simp [Heap.get, getFs, getF, flatAV]) (by simp) (by simp)
 | cons x r =>
  have e1 : litV 0 1 2 ((x :: r).map aAttr) = .slc 1 0 (r.length + 1) (.rest 2) := by simp [litV]
  have e2 : ownH ⟨1, [[(0, .cells [])]]⟩ ((x :: r).map aAttr) = ⟨2, [[(1, .cells (flatAV ((x :: r).map aAttr))), (0, .cells [])]]⟩ := rfl
  rw [e1, e2] at happ
  refine callAt_body (fn := Tryz.f22) (s0 := ⟨[0, 2], [aAttrs (x :: r), .undef], [], 8, ⟨0, [[]]⟩⟩) Tryz.func22 rfl rfl rfl ?_
  repeat apply wq
  refine wps_region callOK ?_
  simp [zS, aAttrs]
  repeat apply wq
  refine wps_region callOK ?_
  simp [zS, aAttrs]
  repeat apply wq
  refine wps_cf rfl ?_
  repeat apply wq
  refine wps_skip ?_
  simp
  simp only [List.map_cons] at happ
  repeat apply wq
  refine wps_region callOK ?_
  simp [zS, happ]
  repeat apply wq
  refine wps_ret ?_
  simp [retVal, Tryz.f22, oneOr]
  exact ends_front (es := (x :: r).map aAttr) (len := r.length + 1) (el_attr _) (by simp [Heap.get, getFs, getF]) (by simp) (by rw [List.take_of_length_le (by simp)]; rfl)
noncomputable def e22 : Entry Tryz.prog := mkE 22 [[2]] (fun L : List At1 => [aAttrs L]) (fun L => L.length ≤ 1000000) (fun L => aAttrs L) fun L hl => c22 (T := []) L hl
theorem k22 {T : List (Entry Tryz.prog)} (hT : findE 22 T = some e22.g) {L : List At1} (hl : L.length ≤ 1000000) (H : Heap) : callL (ctx T) (.fn 22) [aAttrs L] H = some (aAttrs L, H) :=
 mkE_pure hT (fun x y h => by simp only [List.cons.injEq] at h; exact inj_aAttrs h.1) L hl (by simp [pureL]) (by simp [thawA_ok]) H
def fresh (nd : Nd) : Nd := { nd with up := -1, kids := [] }
def nodeZ (nd : Nd) : AV := .agg [aInt nd.kind, aInt nd.space, .str nd.name, aAttrs nd.attrs, .str nd.data, aInt (-1), .nilS]
theorem c9 {T : List (Entry Tryz.prog)} (hC : findE 22 T = some e22.g) {m pb k : Nat} {pre post : List AV} {L : List Nd} {g : List (Nat × Blk)} (h : Eok m pb pre k 7 (L.map aNode) post g) (hl : L.length + 1 ≤ 1000000) (nd : Nd) (ha : nd.attrs.length ≤ 1000000) :
  CallAt (ctx T) 9 [.ptr pb pre.length, aNode nd] ⟨m, [VE pb pre k 7 (L.map aNode) post g]⟩ (.int .i64 (L.length : Int)) ⟨m + 1, [VE pb pre m 7 ((L ++ [fresh nd]).map aNode) post g]⟩ := by
 have kc := fun H => k22 hC ha H
 have lp := h.lp
 have hgv : ∀ n f, (∀ i, i < m → getF i f = none) → Heap.get ⟨n, [f, VE pb pre k 7 (L.map aNode) post g]⟩ pb = some (.cells (pre ++ ownV k 7 (L.map aNode) :: post)) := fun n f hf => by
  simp only [Heap.get, getFs]
  rw [hf pb lp, VE_p]
 have fl1 : ∀ cs : List AV, ∀ i, i < m → getF i [(m, .cells cs)] = none := fun cs i hi => by
  unfold getF
  rw [beqN_ne (show m ≠ i by omega)]
  rfl
 have fl2 : ∀ (j : Nat) (ds cs : List AV), ∀ i, i < m → getF i [(m + j, .cells ds), (m, .cells cs)] = none := fun j ds cs i hi => by
  unfold getF
  rw [beqN_ne (show m + j ≠ i by omega)]
  exact fl1 cs i hi
 have gx : getL (pre ++ ownV k 7 (L.map aNode) :: post) pre.length = some (ownV k 7 (L.map aNode)) := by
  rw [getL_get (by simp), List.getElem_append_right (by omega)]
  simp
 have hes : Elems 7 (L.map aNode ++ [nodeZ nd]) := by
  exact (el_node L).append ⟨by omega, fun v hv => by
   simp only [List.mem_singleton] at hv
   subst hv
   exact ⟨rfl, by simp [nodeZ, AV.cells, aInt, aAttrs, pureL, pureV], fun h => by omega, fun _ => ⟨_, rfl⟩⟩⟩
 have rd2 : ∀ n, readVar Tryz.prog ⟨n, [[(m, .cells nd.cs)], VE pb pre k 7 (L.map aNode) post g]⟩ 29 (.ptr pb pre.length) = some (ownV k 7 (L.map aNode)) := fun n => by
  simp [hgv n _ (fl1 _), gx]
 have hf2 := fl2 (1 + 17) (nodeZ nd).cells nd.cs
 rw [← Nat.add_assoc] at hf2
 obtain ⟨f, hfd⟩ : ∃ f, f = [(m + 1 + 17, Blk.cells (nodeZ nd).cells), (m, .cells nd.cs)] := ⟨_, rfl⟩
 rw [← hfd] at hf2
 have happ := app_E (P := Tryz.prog) (elem := 43) (n := m + 1 + 22) (f := f) szT43 byT43 zeT43 rfl (by omega) h (t := m + 1 + 17) (e := nodeZ nd) rfl rfl hf2 (by rw [hfd]; simp [getF]) (by simp; omega) (fun _ => rfl)
 have pr := prom_E (f := f) (g := g) (c := m + 1 + 22) (row := flatAV (L.map aNode ++ [nodeZ nd])) (vrow := pre ++ ownV k 7 (L.map aNode) :: post) lp (by omega) hf2 hes.pure
 have hly : layL [.slc (m + 1 + 22) 0 (L.length + 1) (.rest 7)] pre.length (pre ++ ownV k 7 (L.map aNode) :: post) = some (pre ++ .slc (m + 1 + 22) 0 (L.length + 1) (.rest 7) :: post) := by
  have := layL_app (a := pre) (b := [ownV k 7 (L.map aNode)]) (b' := [.slc (m + 1 + 22) 0 (L.length + 1) (.rest 7)]) (c := post) rfl
  simpa using this
 obtain ⟨R, hR⟩ : ∃ R, R = flatAV (L.map aNode ++ [nodeZ nd]) := ⟨_, rfl⟩
 rw [← hR] at happ pr
 simp only [List.length_map] at happ
 have q1 : Nat.beq (m + 1 + 22) pb = false := beqN_ne (by omega)
 have q2 : Nat.beq (m + 1 + 17) pb = false := beqN_ne (by omega)
 have q3 : Nat.beq m pb = false := beqN_ne (by omega)
 have c0 : getL nd.cs 0 = some (.int .i64 nd.kind) := rfl
 have c1 : getL nd.cs 1 = some (.int .i64 nd.space) := rfl
 have c2 : getL nd.cs 2 = some (.str nd.name) := rfl
 have c3 : getL nd.cs 3 = some (aAttrs nd.attrs) := rfl
 have c4 : getL nd.cs 4 = some (.str nd.data) := rfl
 have bld : buildA Tryz.prog 43 [(0, .int .i64 nd.kind), (1, .int .i64 nd.space), (2, .str nd.name), (3, aAttrs nd.attrs), (4, .str nd.data), (5, .int .i64 (-1))] = some (.agg [.int .i64 nd.kind, .int .i64 nd.space, .str nd.name, aAttrs nd.attrs, .str nd.data, .int .i64 (-1), .nilS]) := rfl
 refine callAt_body (fn := Tryz.f9) (s0 := ⟨[0, 1, 3, 4], [.ptr pb pre.length, aNode nd, .undef, .undef], [], 32, ⟨m, [] :: [VE pb pre k 7 (L.map aNode) post g]⟩⟩) Tryz.func9 rfl rfl rfl ?_
 repeat apply wq
 repeat apply wq
 refine wps_region callOK ?_
 simp [zS]
 rw [hfd] at happ pr
 simp only [nodeZ, AV.cells, aInt] at happ pr
 have sg : (aAttrs nd.attrs).single = true := rfl
 repeat apply wq
 refine wps_drawn mixed callOK (by decide +kernel) fun B_ hB_ => ?_
 have d_4_13 : ahead B_ 4 13 = false := by rw [hB_]; decide +kernel
 have d_4_18 : ahead B_ 4 18 = true := by rw [hB_]; decide +kernel
 have d_4_21 : ahead B_ 4 21 = true := by rw [hB_]; decide +kernel
 have d_6_13 : ahead B_ 6 13 = false := by rw [hB_]; decide +kernel
 have d_6_18 : ahead B_ 6 18 = true := by rw [hB_]; decide +kernel
 have d_6_21 : ahead B_ 6 21 = true := by rw [hB_]; decide +kernel
 have d_8_13 : ahead B_ 8 13 = false := by rw [hB_]; decide +kernel
 have d_8_18 : ahead B_ 8 18 = true := by rw [hB_]; decide +kernel
 have d_8_21 : ahead B_ 8 21 = true := by rw [hB_]; decide +kernel
 have d_10_13 : ahead B_ 10 13 = false := by rw [hB_]; decide +kernel
 have d_10_18 : ahead B_ 10 18 = true := by rw [hB_]; decide +kernel
 have d_10_21 : ahead B_ 10 21 = true := by rw [hB_]; decide +kernel
 have d_12_13 : ahead B_ 12 13 = true := by rw [hB_]; decide +kernel
 have d_12_18 : ahead B_ 12 18 = true := by rw [hB_]; decide +kernel
 have d_12_21 : ahead B_ 12 21 = true := by rw [hB_]; decide +kernel
 have d_13_4 : ahead B_ 13 4 = false := by rw [hB_]; decide +kernel
 have d_13_6 : ahead B_ 13 6 = false := by rw [hB_]; decide +kernel
 have d_13_8 : ahead B_ 13 8 = false := by rw [hB_]; decide +kernel
 have d_13_10 : ahead B_ 13 10 = false := by rw [hB_]; decide +kernel
 have d_13_12 : ahead B_ 13 12 = false := by rw [hB_]; decide +kernel
 have d_13_15 : ahead B_ 13 15 = false := by rw [hB_]; decide +kernel
 have d_15_13 : ahead B_ 15 13 = false := by rw [hB_]; decide +kernel
 have d_15_18 : ahead B_ 15 18 = true := by rw [hB_]; decide +kernel
 have d_15_21 : ahead B_ 15 21 = true := by rw [hB_]; decide +kernel
 have d_17_13 : ahead B_ 17 13 = false := by rw [hB_]; decide +kernel
 have d_17_18 : ahead B_ 17 18 = true := by rw [hB_]; decide +kernel
 have d_17_21 : ahead B_ 17 21 = true := by rw [hB_]; decide +kernel
 have d_18_4 : ahead B_ 18 4 = false := by rw [hB_]; decide +kernel
 have d_18_6 : ahead B_ 18 6 = false := by rw [hB_]; decide +kernel
 have d_18_8 : ahead B_ 18 8 = false := by rw [hB_]; decide +kernel
 have d_18_10 : ahead B_ 18 10 = false := by rw [hB_]; decide +kernel
 have d_18_12 : ahead B_ 18 12 = false := by rw [hB_]; decide +kernel
 have d_18_15 : ahead B_ 18 15 = false := by rw [hB_]; decide +kernel
 have d_21_4 : ahead B_ 21 4 = false := by rw [hB_]; decide +kernel
 have d_21_6 : ahead B_ 21 6 = false := by rw [hB_]; decide +kernel
 have d_21_8 : ahead B_ 21 8 = false := by rw [hB_]; decide +kernel
 have d_21_10 : ahead B_ 21 10 = false := by rw [hB_]; decide +kernel
 have d_21_12 : ahead B_ 21 12 = false := by rw [hB_]; decide +kernel
 have d_21_15 : ahead B_ 21 15 = false := by rw [hB_]; decide +kernel
 apply drawE B_
 simp [zS, mkBlk, guardA, clsOf, reserve, freshenAll, wantedBy, unwantedBy, Heap.lay, ontoF, evE_c, evE_n, putE_s, putX_s, valE_s, redE_s, actE_s, layE_s, gateE_t, gateE_f, clsF_a, clsF_l, clsF_r, clsF_p, clsE_l, clsE_a, clsE_p, clsE_r, d_4_13, d_4_18, d_4_21, d_6_13, d_6_18, d_6_21, d_8_13, d_8_18, d_8_21, d_10_13, d_10_18, d_10_21, d_12_13, d_12_18, d_12_21, d_13_4, d_13_6, d_13_8, d_13_10, d_13_12, d_13_15, d_15_13, d_15_18, d_15_21, d_17_13, d_17_18, d_17_21, d_18_4, d_18_6, d_18_8, d_18_10, d_18_12, d_18_15, d_21_4, d_21_6, d_21_8, d_21_10, d_21_12, d_21_15, rd2, bld, sg, kc, happ, q1, q2, q3, pr, hly, c0, c1, c2, c3, c4]
 exact rfl
 refine ⟨_, rfl, ?_, ?_⟩
 simp [zS, reserve, freshenAll, sameRecs, sameAll, sameAt, d_4_13, d_4_18, d_4_21, d_6_13, d_6_18, d_6_21, d_8_13, d_8_18, d_8_21, d_10_13, d_10_18, d_10_21, d_12_13, d_12_18, d_12_21, d_13_4, d_13_6, d_13_8, d_13_10, d_13_12, d_13_15, d_15_13, d_15_18, d_15_21, d_17_13, d_17_18, d_17_21, d_18_4, d_18_6, d_18_8, d_18_10, d_18_12, d_18_15, d_21_4, d_21_6, d_21_8, d_21_10, d_21_12, d_21_15, rd2, bld, sg, kc, happ, q1, q2, q3, pr, hly, c0, c1, c2, c3, c4]
 simp [allPend, Heap.lay, ontoF, thenQ]
 have g3 : Heap.get ⟨m + 1 + 22 + 1, [[(m + 1 + 17, .cells [.int .i64 nd.kind, .int .i64 nd.space, .str nd.name, aAttrs nd.attrs, .str nd.data, .int .i64 (-1), .nilS]), (m, .cells nd.cs)], (m + 1 + 22, .cells R) :: (pb, .cells (pre ++ .slc (m + 1 + 22) 0 (L.length + 1) (.rest 7) :: post)) :: g]⟩ pb = some (.cells (pre ++ .slc (m + 1 + 22) 0 (L.length + 1) (.rest 7) :: post)) := by
  simp [Heap.get, getFs, getF, q1, q2, q3]
 have gx3 : getL (pre ++ .slc (m + 1 + 22) 0 (L.length + 1) (.rest 7) :: post) pre.length = some (.slc (m + 1 + 22) 0 (L.length + 1) (.rest 7)) := by
  rw [getL_get (by simp), List.getElem_append_right (by omega)]
  simp
 have hfit := fit_E (es' := (L ++ [fresh nd]).map aNode) (c := m + 1 + 22) (cs0 := R) (H := ⟨m + 1 + 22 + 1, [[(m + 1 + 17, .cells [.int .i64 nd.kind, .int .i64 nd.space, .str nd.name, aAttrs nd.attrs, .str nd.data, .int .i64 (-1), .nilS]), (m, .cells nd.cs)], (m + 1 + 22, .cells R) :: (pb, .cells (pre ++ .slc (m + 1 + 22) 0 (L.length + 1) (.rest 7) :: post)) :: g]⟩) h (by omega) (by simp)
  (fun σ => by
   subst hR
   rw [List.map_append, flat_append, flat_append]
   refine fitL_app (fitL_pure (el_node L).pure) ?_
   simp [flatAV, nodeZ, aNode, fresh, Nd.cs, AV.cells, fitL, fitV, aInt, pureV])
  (by
   rw [g3]
   simp)
  (by simp [Heap.get, getFs, getF, show Nat.beq (m + 1 + 17) (m + 1 + 22) = false from beqN_ne (by omega), show Nat.beq m (m + 1 + 22) = false from beqN_ne (by omega)])
  (fun e he => by
   have := h.lg e he
   have nd := h.nd
   rw [List.nodup_cons] at nd
   have e1 : pb ≠ e.1 := fun x => nd.1 (List.mem_map.2 ⟨e, he, x.symm⟩)
   simp [Heap.get, getFs, getF, beqN_ne (show m + 1 + 22 ≠ e.1 by omega), beqN_ne (show m + 1 + 17 ≠ e.1 by omega), beqN_ne (show m ≠ e.1 by omega), beqN_ne e1, gF_of nd.2 he])
 have rd3 : readVar Tryz.prog ⟨m + 1 + 22 + 1, [[(m + 1 + 17, .cells [.int .i64 nd.kind, .int .i64 nd.space, .str nd.name, aAttrs nd.attrs, .str nd.data, .int .i64 (-1), .nilS]), (m, .cells nd.cs)], (m + 1 + 22, .cells R) :: (pb, .cells (pre ++ .slc (m + 1 + 22) 0 (L.length + 1) (.rest 7) :: post)) :: g]⟩ 29 (.ptr pb pre.length) = some (.slc (m + 1 + 22) 0 (L.length + 1) (.rest 7)) := by
  simp [g3, gx3]
 have hsub : wr .i64 (L.length : Int) = some (L.length : Int) := by
  have := sub_one (q := L.length) (by omega)
  simpa using this
 have hlen : ∀ H, lenA Tryz.prog H 29 (.slc (m + 1 + 22) 0 (L.length + 1) (.rest 7)) = some (L.length + 1) := fun H => rfl
 repeat apply wq
 refine wps_region callOK ?_
 simp [zS, rd3, hsub, hlen]
 repeat apply wq
 refine wps_ret ?_
 simp [retVal, Tryz.f9, oneOr]
 rw [List.map_append] at hfit
 refine ⟨_, _, ?_, hfit⟩
 simp [fitV, pureV]
theorem thaw_tree {H : Heap} {k : Nat} {t : Tr} (hne : t ≠ []) (hk : H.get k = some (.cells (flatAV (t.map aNode)))) : thawA H [7] (.agg [ownV k 7 (t.map aNode)]) = some (aTree t) := by
 have el := el_node t
 have e1 := sub_pre el (Nat.le_refl _)
 rw [List.take_of_length_le (Nat.le_refl _)] at e1
 have e2 := el.chunk
 rw [List.length_map] at e1 e2
 rw [ownV_ne (by simp [hne])]
 simp [thawA, okV, pureL, pureV, thawC, thaw1, hk, el.pure, e1, e2, el.size, aTree]
noncomputable def e24 : Entry Tryz.prog := mkE 24 [[7], [], []] (fun x : Tr × Int × Int => [aTree x.1, .int .i64 x.2.1, .int .i64 x.2.2]) (fun x => x.1.length ≤ 1000000) (fun x => .bool (holdsB x.1 x.2.1 x.2.2)) fun x h => c24 (T := [e23]) rfl x.1 h x.2.1 x.2.2
theorem q24 {T : List (Entry Tryz.prog)} (hT : findE 24 T = some e24.g) {a : AV} {H : Heap} {t : Tr} (ha : thawA H [7] a = some (aTree t)) (ht : t.length ≤ 1000000) (up kid : Int) : callL (ctx T) (.fn 24) [a, .int .i64 up, .int .i64 kid] H = some (.bool (holdsB t up kid), H) :=
 mkE_scalar hT injTII (t, up, kid) ht rfl (by simp [ha])
def setUp (t : Tr) (i : Nat) (u : Int) : Tr := t.take i ++ { nodeAt t i with up := u } :: t.drop (i + 1)
theorem tree_split {t : Tr} {i : Nat} (h : i < t.length) : t = t.take i ++ nodeAt t i :: t.drop (i + 1) := by
 have : nodeAt t i = t[i] := by simp [nodeAt, h]
 rw [this, List.getElem_cons_drop, List.take_append_drop]
theorem lay_up {t : Tr} {i : Nat} (h : i < t.length) (u : Int) : layL [.int .i64 u] (i * 7 + 5) (flatAV (t.map aNode)) = some (flatAV ((setUp t i u).map aNode)) := by
 have hl : (flatAV ((t.take i).map aNode)).length = i * 7 := by rw [(el_node _).len]; simp; omega
 have e1 : flatAV (t.map aNode) = (flatAV ((t.take i).map aNode) ++ [aInt (nodeAt t i).kind, aInt (nodeAt t i).space, .str (nodeAt t i).name, aAttrs (nodeAt t i).attrs, .str (nodeAt t i).data]) ++ [aInt (nodeAt t i).up] ++ (aInts (nodeAt t i).kids :: flatAV ((t.drop (i + 1)).map aNode)) := by
  conv => lhs; rw [tree_split h]
  simp [flat_append, flatAV, Nd.cs]
 have e2 : flatAV ((setUp t i u).map aNode) = (flatAV ((t.take i).map aNode) ++ [aInt (nodeAt t i).kind, aInt (nodeAt t i).space, .str (nodeAt t i).name, aAttrs (nodeAt t i).attrs, .str (nodeAt t i).data]) ++ [.int .i64 u] ++ (aInts (nodeAt t i).kids :: flatAV ((t.drop (i + 1)).map aNode)) := by
  simp [setUp, flat_append, flatAV, Nd.cs, aInt]
 rw [e1, e2]
 have := layL_app (a := flatAV ((t.take i).map aNode) ++ [aInt (nodeAt t i).kind, aInt (nodeAt t i).space, .str (nodeAt t i).name, aAttrs (nodeAt t i).attrs, .str (nodeAt t i).data]) (b := [aInt (nodeAt t i).up]) (b' := [.int .i64 u]) (c := aInts (nodeAt t i).kids :: flatAV ((t.drop (i + 1)).map aNode)) rfl
 rw [List.length_append, hl] at this
 exact this
theorem sF_none {b : Nat} {k : Blk} : ∀ {f : List (Nat × Blk)}, getF b f = none → setF b k f = none
 | [], _ => rfl
 | x :: r, h => by
  unfold getF at h
  unfold setF
  cases hx : Nat.beq x.1 b with
  | true => rw [hx] at h; cases h
  | false =>
   rw [hx] at h
   simp only at h ⊢
   rw [sF_none h]
   rfl
theorem setUp_len {t : Tr} {i : Nat} (h : i < t.length) (u : Int) : (setUp t i u).length = t.length := by
 simp [setUp]; omega
theorem write_up {m n pb k : Nat} {pre post : List AV} {g f : List (Nat × Blk)} {t : Tr} (h : Eok m pb pre k 7 (t.map aNode) post g) {i : Nat} (hi : i < t.length) (u : Int) (hf : ∀ j, j < m → getF j f = none) :
  writeVar Tryz.prog ⟨n, [f, VE pb pre k 7 (t.map aNode) post g]⟩ 3 (.ptr k (i * 7 + 5)) (.int .i64 u) = some ⟨n, [f, VE pb pre k 7 ((setUp t i u).map aNode) post g]⟩ := by
 have hne : t.map aNode ≠ [] := by
  intro e
  have := congrArg List.length e
  simp at this
  subst this
  simp at hi
 have hne' : (setUp t i u).map aNode ≠ [] := by simp [setUp]
 have hk : getF k f = none := hf k h.lk.1
 have hg : Heap.get ⟨n, [f, VE pb pre k 7 (t.map aNode) post g]⟩ k = some (.cells (flatAV (t.map aNode))) := by
  simp only [Heap.get, getFs]
  rw [hk, VE_k h hne]
 have hs : Heap.set ⟨n, [f, VE pb pre k 7 (t.map aNode) post g]⟩ k (.cells (flatAV ((setUp t i u).map aNode))) = some ⟨n, [f, VE pb pre k 7 ((setUp t i u).map aNode) post g]⟩ := by
  simp only [Heap.set, setFs]
  rw [sF_none hk]
  unfold VE
  rw [ownF_ne hne, ownF_ne hne', ownV_ne hne, ownV_ne hne']
  simp [setF, h.k_p, setUp_len hi]
 unfold writeVar
 simp [AV.cells, allSingle, AV.single, writeCells, hg, Blk.wt, lay_up hi u, Heap.ready, refs, hs, Blk.re]
theorem rd_tree {m n pb k : Nat} {pre post es : List AV} {g f : List (Nat × Blk)} (h : Eok m pb pre k 7 es post g) (hf : ∀ j, j < m → getF j f = none) :
  readVar Tryz.prog ⟨n, [f, VE pb pre k 7 es post g]⟩ 31 (.ptr pb pre.length) = some (.agg [ownV k 7 es]) ∧ readVar Tryz.prog ⟨n, [f, VE pb pre k 7 es post g]⟩ 29 (.ptr pb pre.length) = some (ownV k 7 es) := by
 have hgv : Heap.get ⟨n, [f, VE pb pre k 7 es post g]⟩ pb = some (.cells (pre ++ ownV k 7 es :: post)) := by
  simp only [Heap.get, getFs]
  rw [hf pb h.lp, VE_p]
 have gx : getL (pre ++ ownV k 7 es :: post) pre.length = some (ownV k 7 es) := by
  rw [getL_get (by simp), List.getElem_append_right (by omega)]
  simp
 have sx : subL pre.length 1 (pre ++ ownV k 7 es :: post) = some [ownV k 7 es] := by
  simp [subL, takeL]
 constructor
 ·simp [readVar, hgv, gx, sx, readCells, Blk.rd]
 ·simp [hgv, gx]
theorem el_kid (L : List Int) : Elems 1 (L.map aInt) := .map (sz := 1) (f := aInt) (by decide) (fun x => ⟨rfl, by simp [aInt, AV.cells, pureL, pureV], fun _ => rfl, fun h => absurd rfl h⟩) L
theorem single_kid : ∀ (L : List Int), allSingle (flatAV (L.map aInt)) = true
 | [] => rfl
 | a :: r => by simp only [List.map_cons, flatAV, allSingle_append, single_kid r]; rfl
theorem c27 {T : List (Entry Tryz.prog)} (L : List Int) (hl : L.length ≤ 1000000) : CallAt (ctx T) 27 [aInts L] ⟨0, []⟩ (ownV 0 1 (L.map aInt)) ⟨1, [ownF 0 (L.map aInt)]⟩ := by
 have happ := app_lits (P := Tryz.prog) (elem := 3) (b := 0) (m := 1) (es := L.map aInt) (g := []) (fs := []) szT3 byT3 zeT3 rfl (by omega) (by omega) (el_kid _) (single_kid _) (by simp; omega)
 cases L with
 | nil =>
  refine callAt_body (fn := Tryz.f27) (s0 := ⟨[0, 2], [.fslc 1 [], .undef], [], 8, ⟨0, [[]]⟩⟩) Tryz.func27 rfl rfl rfl ?_
  repeat apply wq
  refine wps_region callOK ?_
  simp [zS]
  refine wps_empty (pre := []) ?_ ?_
  ·repeat apply wq
   refine wps_region callOK ?_
   simp [zS]
   repeat apply wq
   refine wps_ct rfl ?_
   repeat apply wq
   refine wps_region callOK ?_
   simp [zS]
   repeat apply wq
   refine wps_ret ?_
   simp [retVal, Tryz.f27, oneOr]
   exact ends_none (.inl rfl)
  ·repeat apply wq
   refine wps_region callOK ?_
   simp [zS]
   repeat apply wq
   refine wps_cf rfl ?_
   repeat apply wq
   refine wps_skip ?_
   simp
   have happ : appendA Tryz.prog ⟨1, [[(0, .cells [])]]⟩ 3 (.slc 0 0 0 (.ex 0)) .eslc = some (.slc 0 0 0 (.ex 0), ⟨1, [[(0, .cells [])]]⟩) := rfl
   repeat apply wq
   refine wps_region callOK ?_
   simp [zS, happ]
   repeat apply wq
   refine wps_ret ?_
   simp [retVal, Tryz.f27, oneOr]
   exact ends_none (.inr (.inr ⟨_, rfl⟩))
 | cons x r =>
  have e1 : litV 0 1 1 ((x :: r).map aInt) = .slc 1 0 (r.length + 1) (.rest 1) := by simp [litV]
  have e2 : ownH ⟨1, [[(0, .cells [])]]⟩ ((x :: r).map aInt) = ⟨2, [[(1, .cells (flatAV ((x :: r).map aInt))), (0, .cells [])]]⟩ := rfl
  rw [e1, e2] at happ
  refine callAt_body (fn := Tryz.f27) (s0 := ⟨[0, 2], [aInts (x :: r), .undef], [], 8, ⟨0, [[]]⟩⟩) Tryz.func27 rfl rfl rfl ?_
  repeat apply wq
  refine wps_region callOK ?_
  simp [zS, aInts]
  repeat apply wq
  refine wps_region callOK ?_
  simp [zS, aInts]
  repeat apply wq
  refine wps_cf rfl ?_
  repeat apply wq
  refine wps_skip ?_
  simp
  simp only [List.map_cons] at happ
  repeat apply wq
  refine wps_region callOK ?_
  simp [zS, happ]
  repeat apply wq
  refine wps_ret ?_
  simp [retVal, Tryz.f27, oneOr]
  exact ends_own (b := 1) (es := (x :: r).map aInt) (el_kid _) (by simp) (by simp) (by simp [Heap.get, getFs, getF])
noncomputable def e27 : Entry Tryz.prog := mkOwn 27 [[1]] (fun L : List Int => [aInts L]) (fun L => L.length ≤ 1000000) 1 (fun L => L.map aInt) el_kid fun L hl => c27 (T := []) L hl
theorem k27 {T : List (Entry Tryz.prog)} (hT : findE 27 T = some e27.g) {L : List Int} (hl : L.length ≤ 1000000) (H : Heap) : callL (ctx T) (.fn 27) [aInts L] H = some (ownV H.n 1 (L.map aInt), ownH H (L.map aInt)) :=
 mkOwn_eq hT (fun x y h => by simp only [List.cons.injEq] at h; exact inj_aInts h.1) L hl (by simp [pureL]) (by simp [thawA_ok]) H
@[simp] theorem szT49 : sizeT Tryz.prog 49 = some 1 := rfl
@[simp] theorem agT49 : aggT Tryz.prog 49 = some false := rfl
@[simp] theorem byT49 : bytesT Tryz.prog 49 = some 8 := rfl
@[simp] theorem alT49 (H : Heap) : alV Tryz.prog H 49 = some (.ptr H.n 0, H.new (.cells [.nilF])) := rfl
@[simp] theorem zeT49 : zeroOf Tryz.prog 49 = some (.nilF) := rfl
attribute [simp] Tryz.underlying49
@[simp 500] theorem rvF49 (H : Heap) (cs : List AV) (o : Nat) : readVar Tryz.prog H 49 (.fptr cs o) = getL cs o := rfl
@[simp 500] theorem rvP49 (H : Heap) (b o : Nat) : readVar Tryz.prog H 49 (.ptr b o) = (H.get b).bind fun k => k.rd.bind fun cs => getL cs o := rfl
theorem inj_LI (x y : List Int × Int) (h : [aInts x.1, AV.int .i64 x.2] = [aInts y.1, AV.int .i64 y.2]) : x = y := by
 simp only [List.cons.injEq] at h
 obtain ⟨h1, h2, _⟩ := h
 simp only [AV.int.injEq, true_and] at h2
 exact Prod.ext (inj_aInts h1) h2
theorem del_own {T : List (Entry Tryz.prog)} (L : List Int) (hl : L.length ≤ 1000) (hne : L ≠ []) (clo : FuncId) (i : Int) (p : Int → Bool) (hp : ∀ a, CallAt (ctx T) clo [.int .i64 a, .fptr [.int .i64 i] 0] ⟨0, []⟩ (.bool (p a)) ⟨0, []⟩) :
  CallAt (ctx T) 56 [.slc 1 0 L.length (.rest 1), .func (.func clo) [] [.ptr 0 0]] ⟨2, [[(1, .cells (ints L)), (0, .cells [.int .i64 i])]]⟩ (aInts (L.filter fun a => !p a)) ⟨2, [[]]⟩ := by
 have h0 := c56 (T := T) L hl hne clo [.fptr [.int .i64 i] 0] rfl p fun a _ => hp a
 have h1 : CallAt (ctx T) 56 [.slc 0 0 L.length (.rest 1), .func (.func clo) [] [.fptr [.int .i64 i] 0]] ⟨1, [[(0, .cells (ints L))]]⟩ (aInts (L.filter fun a => !p a)) ⟨1, [[]]⟩ := by
  generalize L.filter (fun a => !p a) = K at h0
  cases K with
  | nil => exact h0.post (σ := []) (Φ := []) (by simp [owX, fitV, pureV]) ⟨by simp, by simp, by simp [Heap.ents], by simp, fun x hx => (by cases hx), by simp, fun e he => by simp [Heap.ents] at he, fun x hx => by cases hx⟩
  | cons y s =>
   refine h0.post (σ := []) (Φ := [(0, ints (y :: s))]) ?_ ⟨by simp, by simp, by simp [Heap.ents], by simp, fun x hx => (by cases hx), by simp, fun e he => by simp [Heap.ents] at he, fun x hx => ?_⟩
   ·rw [owX_ne (by simp)]
    simp only [fitV]
    refine .inl ⟨ints (y :: s), by simp [lookC], ?_, by simp, (el_int _).size⟩
    have := sub_pre (el_int (y :: s)) (k := (y :: s).length) (by simp [ints])
    rw [List.take_of_length_le (by simp [ints]), flat_ints] at this
    show _ = some (flatAV (ints (y :: s)))
    rw [flat_ints]
    exact this
   ·simp only [List.mem_singleton] at hx
    subst hx
    exact ⟨ints (y :: s), by rw [owB_ne (by simp)]; simp [Heap.get, getFs, getF], fitL_pure (pure_ints _), pure_ints _⟩
 have h2 : CallAt (ctx T) 56 [.slc 1 0 L.length (.rest 1), .func (.func clo) [] [.fptr [.int .i64 i] 0]] ⟨2, [[(1, .cells (ints L))]]⟩ (aInts (L.filter fun a => !p a)) ⟨2, [[]]⟩ := by
  have := h1.framed (args := [.slc 1 0 L.length (.rest 1), .func (.func clo) [] [.fptr [.int .i64 i] 0]]) (H := ⟨2, [[(1, .cells (ints L))]]⟩) (H' := ⟨2, [[]]⟩) (σ := [(1, 0)]) ⟨by simp, by simp, by simp [Heap.ents], by simp, fun x hx h => absurd h (Nat.not_lt_zero _), by simp, fun e he => ?_, fun x h => by cases h⟩ (by simp [fitL, fitV, lookN, pureV, pureL]) ⟨by simp, fun _ _ => by simp [Heap.ents], fun e he => by simp [Heap.ents] at he⟩ (by simp)
  ·rwa [renV_pure _ (by simp)] at this
  ·simp only [Heap.ents, List.flatten_cons, List.flatten_nil, List.append_nil, List.mem_singleton] at he
   subst he
   exact ⟨1, _, by simp, rfl, fitL_pure (pure_ints _)⟩
 refine h2.drop (σ := [(1, 1)]) (Φ := [(0, [.int .i64 i])]) (fun nd => ⟨by simp, by simp, by simp [Heap.ents], by simp, fun x hx h => ?_, by simp, fun e he => ?_, fun x hx => ?_⟩) ?_
 ·simp at hx
  subst hx; rfl
 ·simp only [Heap.ents, List.flatten_cons, List.flatten_nil, List.append_nil, List.mem_singleton] at he
  subst he
  exact ⟨1, _, by simp, rfl, fitL_pure (pure_ints _)⟩
 ·simp only [List.mem_singleton] at hx
  subst hx
  exact ⟨_, rfl, by simp [fitL, fitV, pureV], by simp [pureL, pureV]⟩
 ·simp [fitL, fitV, lookN, lookC]
theorem del_none {T : List (Entry Tryz.prog)} (clo : FuncId) (i : Int) (p : Int → Bool) (hp : ∀ a, CallAt (ctx T) clo [.int .i64 a, .fptr [.int .i64 i] 0] ⟨0, []⟩ (.bool (p a)) ⟨0, []⟩) :
  CallAt (ctx T) 56 [.zslc, .func (.func clo) [] [.ptr 0 0]] ⟨1, [[(0, .cells [.int .i64 i])]]⟩ (.fslc 1 []) ⟨1, [[]]⟩ := by
 have h0 := (c560 (T := T) clo [.fptr [.int .i64 i] 0] rfl).lift (by simp [pureL, pureV]) ⟨1, [[]]⟩
 refine h0.drop (σ := []) (Φ := [(0, [.int .i64 i])]) (fun nd => ⟨by simp, by simp, by simp [Heap.ents], by simp, fun x hx h => (by cases hx), by simp, fun e he => by simp [Heap.ents] at he, fun x hx => ?_⟩) ?_
 ·simp only [List.mem_singleton] at hx
  subst hx
  exact ⟨_, rfl, by simp [fitL, fitV, pureV], by simp [pureL, pureV]⟩
 ·simp [fitL, fitV, lookN, lookC]
def dropL (L : List Int) (i : Int) : List Int := L.filter fun k => !decide (k = i)
theorem c57 {T : List (Entry Tryz.prog)} (k i : Int) : CallAt (ctx T) 57 [.int .i64 k, .fptr [.int .i64 i] 0] ⟨0, []⟩ (.bool (decide (k = i))) ⟨0, []⟩ := by
 by_cases h : k = i
 ·subst h
  refine callAt_body (fn := Tryz.f57) (s0 := ⟨[0, 1, 3], [.int .i64 k, .fptr [.int .i64 k] 0, .undef], [], 7, ⟨0, [[]]⟩⟩) Tryz.func57 rfl rfl rfl ?_
  repeat apply wq
  refine wps_region callOK ?_
  simp [zS]
  repeat apply wq
  refine wps_region callOK ?_
  simp [zS]
  repeat apply wq
  refine wps_ret ?_
  simp [retVal, Tryz.f57, oneOr, thenQ, blockQ]
  exact ends_pure rfl (by simp)
 ·refine callAt_body (fn := Tryz.f57) (s0 := ⟨[0, 1, 3], [.int .i64 k, .fptr [.int .i64 i] 0, .undef], [], 7, ⟨0, [[]]⟩⟩) Tryz.func57 rfl rfl rfl ?_
  repeat apply wq
  refine wps_region callOK ?_
  simp [zS]
  repeat apply wq
  refine wps_region callOK ?_
  simp [zS, h]
  repeat apply wq
  refine wps_ret ?_
  simp [retVal, Tryz.f57, oneOr, thenQ, blockQ]
  exact ends_pure rfl (by simp [h])
theorem c39 {T : List (Entry Tryz.prog)} (hC : findE 27 T = some e27.g) (L : List Int) (hl : L.length ≤ 1000) (i : Int) : CallAt (ctx T) 39 [aInts L, .int .i64 i] ⟨0, []⟩ (aInts (dropL L i)) ⟨0, []⟩ := by
 have kc := fun H => k27 hC (L := L) (by omega) H
 cases L with
 | nil =>
  have kc1 := kc ⟨1, [[(0, .cells [.int .i64 i])]]⟩
  simp only [aInts, List.map_nil, ownH, ownV] at kc1
  have hd := del_none (T := T) 57 i (fun k => decide (k = i)) fun k => c57 k i
  refine callAt_body (fn := Tryz.f39) (s0 := ⟨[0, 1, 3, 4], [.fslc 1 [], .int .i64 i, .undef, .undef], [], 9, ⟨0, [[]]⟩⟩) Tryz.func39 rfl rfl rfl ?_
  repeat apply wq
  refine wps_region callOK ?_
  simp [zS]
  refine wps_seq ?_
  repeat apply wq
  refine wps_region (callOKF [⟨56, _, _, _, _, hd⟩]) ?_
  simp [zS, callF, kc1]
  repeat apply wq
  refine wps_ret ?_
  simp [retVal, Tryz.f39, oneOr]
  exact ⟨[], [], by simp [fitV, dropL, pureV], FitH.empty⟩
 | cons x r =>
  have kc1 := kc ⟨1, [[(0, .cells [.int .i64 i])]]⟩
  have e1 : ownH ⟨1, [[(0, .cells [.int .i64 i])]]⟩ ((x :: r).map aInt) = ⟨2, [[(1, .cells (ints (x :: r))), (0, .cells [.int .i64 i])]]⟩ := by
   have hf : flatAV ((x :: r).map aInt) = ints (x :: r) := flat_ints _
   rw [← hf]
   rfl
  have e2 : ∀ n, ownV n 1 ((x :: r).map aInt) = .slc n 0 (x :: r).length (.rest 1) := fun n => by rw [ownV_ne (by simp), List.length_map]
  rw [e1, e2] at kc1
  have hd := del_own (T := T) (x :: r) hl (by simp) 57 i (fun k => decide (k = i)) fun k => c57 k i
  change CallAt _ _ _ _ (aInts (dropL (x :: r) i)) _ at hd
  simp only [List.length_cons] at kc1 hd
  generalize dropL (x :: r) i = K at *
  refine callAt_body (fn := Tryz.f39) (s0 := ⟨[0, 1, 3, 4], [aInts (x :: r), .int .i64 i, .undef, .undef], [], 9, ⟨0, [[]]⟩⟩) Tryz.func39 rfl rfl rfl ?_
  repeat apply wq
  refine wps_region callOK ?_
  simp [zS]
  refine wps_seq ?_
  repeat apply wq
  refine wps_region (callOKF [⟨56, _, _, _, _, hd⟩]) ?_
  simp [zS, callF, kc1]
  repeat apply wq
  refine wps_ret ?_
  simp [retVal, Tryz.f39, oneOr]
  exact ⟨[], [], FitH.empty⟩
noncomputable def e39 : Entry Tryz.prog := mkE 39 [[1], []] (fun x : List Int × Int => [aInts x.1, .int .i64 x.2]) (fun x => x.1.length ≤ 1000) (fun x => aInts (dropL x.1 x.2)) fun x h => c39 (T := [e27]) rfl x.1 h x.2
theorem k39 {T : List (Entry Tryz.prog)} (hT : findE 39 T = some e39.g) {L : List Int} (hl : L.length ≤ 1000) (i : Int) (H : Heap) : callL (ctx T) (.fn 39) [aInts L, .int .i64 i] H = some (aInts (dropL L i), H) :=
 mkE_pure hT inj_LI (L, i) hl (by simp [pureL, pureV]) (by simp [thawL, thawA_ok, okV, pureV]) H
def topI (L : List Int) : Int := (L.getLast?).getD (-1)
theorem topI_ne {L : List Int} (h : 0 < L.length) : topI L = L[L.length - 1] := by
 unfold topI
 rw [List.getLast?_eq_getElem?, List.getElem?_eq_getElem (by omega)]
 rfl
theorem sub_last {n : Nat} (h : 0 < n) (hn : n ≤ 1000000000) : wr .i64 ((n : Int) - 1) = some ((n - 1 : Nat) : Int) := by
 obtain ⟨q, rfl⟩ : ∃ q, n = q + 1 := ⟨n - 1, by omega⟩
 have := sub_one (q := q) (by omega)
 simpa using this
theorem c52 {T : List (Entry Tryz.prog)} (L : List Int) (hl : L.length ≤ 1000000) : CallAt (ctx T) 52 [aInts L] ⟨0, []⟩ (.int .i64 (topI L)) ⟨0, []⟩ := by
 by_cases h : 0 < L.length
 ·have hi : (0 : Int) < (L.length : Int) := by omega
  have hs := sub_last h (by omega)
  have ha := atIx (L := L) (i := L.length - 1) (by omega)
  refine callAt_body (fn := Tryz.f52) (s0 := ⟨[0, 2, 3], [aInts L, .undef, .undef], [], 13, ⟨0, [[]]⟩⟩) Tryz.func52 rfl rfl rfl ?_
  repeat apply wq
  refine wps_region callOK ?_
  simp [zS]
  repeat apply wq
  refine wps_region callOK ?_
  simp [zS, lenI]
  repeat apply wq
  refine wps_region callOK ?_
  simp [zS, h, hi]
  repeat apply wq
  refine wps_ct (by simp [opnd, St.get, h]) ?_
  repeat apply wq
  refine wps_region callOK ?_
  simp [zS, hs, ha]
  repeat apply wq
  refine wps_ret ?_
  simp [retVal, Tryz.f52, oneOr, thenQ, blockQ]
  exact ends_pure rfl (by simp [topI_ne h])
 ·have e : L = [] := List.eq_nil_of_length_eq_zero (by omega)
  subst e
  have l0 : ∀ H, lenA Tryz.prog H 32 (.fslc 1 []) = some 0 := fun H => rfl
  refine callAt_body (fn := Tryz.f52) (s0 := ⟨[0, 2, 3], [.fslc 1 [], .undef, .undef], [], 13, ⟨0, [[]]⟩⟩) Tryz.func52 rfl rfl rfl ?_
  repeat apply wq
  refine wps_region callOK ?_
  simp [zS]
  repeat apply wq
  refine wps_region callOK ?_
  simp [zS, l0]
  repeat apply wq
  refine wps_region callOK ?_
  simp [zS]
  repeat apply wq
  refine wps_cf rfl ?_
  repeat apply wq
  refine wps_skip ?_
  simp
  repeat apply wq
  refine wps_region callOK ?_
  simp [zS]
  repeat apply wq
  refine wps_ret ?_
  simp [retVal, Tryz.f52, oneOr, thenQ, blockQ]
  exact ends_pure rfl (by rfl)
theorem inj_LI1 (x y : List Int) (h : [aInts x] = [aInts y]) : x = y := by
 simp only [List.cons.injEq] at h
 exact inj_aInts h.1
noncomputable def e52 : Entry Tryz.prog := mkE 52 [[1]] (fun x : List Int => [aInts x]) (fun x => x.length ≤ 1000000) (fun x => .int .i64 (topI x)) fun x h => c52 (T := []) x h
theorem k52 {T : List (Entry Tryz.prog)} (hT : findE 52 T = some e52.g) {L : List Int} (hl : L.length ≤ 1000000) (H : Heap) : callL (ctx T) (.fn 52) [aInts L] H = some (.int .i64 (topI L), H) :=
 mkE_scalar hT inj_LI1 L hl rfl (by simp [thawL, thawA_ok, okV, pureV])
def atP (L : List Int) (i : Int) : Int := idxFrom (fun k => decide (k = i)) L 0
theorem c62 {T : List (Entry Tryz.prog)} (L : List Int) (x : Int) (hl : L.length ≤ 1000000) : CallAt (ctx T) 62 [aInts L, .int .i64 x] ⟨0, []⟩ (.int .i64 (idxFrom (fun y => decide (x = y)) L 0)) ⟨0, []⟩ := by
 refine callAt_body (fn := Tryz.f62) (s0 := ⟨[0, 1, 4, 5, 7, 8], [aInts L, .int .i64 x, .undef, .undef, .undef, .undef], [], 19, ⟨0, [[]]⟩⟩) Tryz.func62 rfl rfl rfl ?_
 repeat apply wq
 refine wps_region callOK ?_
 simp [zS]
 repeat apply wq
 refine wps_region callOK ?_
 simp [zS, lenI]
 repeat apply wq
 refine wps_block (wps_loop' (fun i : Nat => (⟨[0, 1, 4, 5, 7, 8], [aInts L, .int .i64 x, .undef, .undef, .int .i64 (L.length : Nat), .int .i64 i], [], 19, ⟨0, [[]]⟩⟩ : St))
  (fun i => i ≤ L.length ∧ idxFrom (fun y => decide (x = y)) L 0 = idxFrom (fun y => decide (x = y)) (L.drop i) i) (fun i => L.length - i) [] [] 0 ⟨Nat.zero_le _, rfl⟩ ⟨rfl, rfl, rfl, by simp [fitL, fitV, pureV, pureL, aInts], FitH.nothing⟩ ?_)
 rintro i ⟨hi, hx⟩ B hB
 repeat apply wq
 refine wps_region callOK ?_
 simp [zS]
 repeat apply wq
 refine wps_cond rfl (fun h => ?_) fun h => ?_
 ·simp at h
  rw [idxFrom_at h] at hx
  repeat apply wq
  refine wps_skip ?_
  simp
  repeat apply wq
  refine wps_block ?_
  repeat apply wq
  refine wps_region callOK ?_
  simp [zS]
  by_cases h2 : L[i] = x
  ·repeat apply wq
   refine wps_region callOK ?_
   simp [zS, atI h, h2]
   repeat apply wq
   refine wps_ct rfl ?_
   repeat apply wq
   refine wps_region callOK ?_
   simp [zS]
   repeat apply wq
   refine wps_ret ?_
   simp [retVal, Tryz.f62, oneOr, thenQ, blockQ]
   exact ends_pure rfl (by rw [hx, if_pos (by simp [h2])])
  ·have h2' : ¬ x = L[i] := fun e => h2 e.symm
   repeat apply wq
   refine wps_region callOK ?_
   simp [zS, atI h, h2']
   repeat apply wq
   refine wps_cf rfl ?_
   repeat apply wq
   refine wps_skip ?_
   simp
   repeat apply wq
   refine wps_region callOK ?_
   simp [zS, add_one (show i ≤ 1000000000 by omega)]
   exact hB _ (i + 1) (by omega) ⟨by omega, by rw [hx, if_neg (by simp [h2'])]⟩ ⟨[], [], ⟨rfl, rfl, rfl, by simp [fitL, fitV, pureV, pureL, aInts], FitH.nothing⟩⟩
 ·simp at h
  repeat apply wq
  refine wps_exit ?_
  simp
  repeat apply wq
  refine wps_region callOK ?_
  simp [zS]
  repeat apply wq
  refine wps_ret ?_
  simp [retVal, Tryz.f62, oneOr, thenQ, blockQ]
  exact ends_pure rfl (by rw [hx, List.drop_eq_nil_of_le h]; rfl)
noncomputable def e62 : Entry Tryz.prog := mkE 62 [[1], []] (fun x : List Int × Int => [aInts x.1, .int .i64 x.2]) (fun x => x.1.length ≤ 1000000) (fun x => .int .i64 (idxFrom (fun y => decide (x.2 = y)) x.1 0)) fun x hx => c62 (T := []) x.1 x.2 hx
theorem k62 {T : List (Entry Tryz.prog)} (hT : findE 62 T = some e62.g) {L : List Int} (x : Int) (hl : L.length ≤ 1000000) (H : Heap) : callL (ctx T) (.fn 62) [aInts L, .int .i64 x] H = some (.int .i64 (idxFrom (fun y => decide (x = y)) L 0), H) :=
 mkE_scalar hT inj_LI (L, x) hl rfl (by simp [aInts])
theorem atP_eq (L : List Int) (x : Int) : idxFrom (fun y => decide (x = y)) L 0 = atP L x := by
 have : (fun y => decide (x = y)) = fun y : Int => decide (y = x) := by
  funext y
  by_cases h : x = y
  ·simp [h]
  ·have h' : ¬ y = x := fun e => h e.symm
   simp [h, h']
 rw [this]; rfl
def placeT (t : Tr) (i : Int) : Int := if isB t i = true ∧ isB t (nodeAt t i).up = true then atP (nodeAt t (nodeAt t i).up).kids i else -1
theorem isB_iff {t : Tr} {i : Int} : isB t i = true ↔ 0 ≤ i ∧ i < (t.length : Int) := by simp [isB]
theorem c42g {T : List (Entry Tryz.prog)} (hS : findE 23 T = some e23.g) (hI : findE 62 T = some e62.g) (t : Tr) (hk : ∀ n, n ∈ t → n.kids.length ≤ 1000000) (i : Int) : CallAt (ctx T) 42 [aTree t, .int .i64 i] ⟨0, []⟩ (.int .i64 (placeT t i)) ⟨0, []⟩ := by
 have ks := fun i H => k23 hS t i H
 simp only [aTree] at ks
 by_cases h1 : isB t i = true
 ·obtain ⟨i0, i1⟩ := isB_iff.1 h1
  have a1 := atX i0 i1
  have c5 : getL (nodeAt t i).cs 5 = some (.int .i64 (nodeAt t i).up) := rfl
  by_cases h2 : isB t (nodeAt t i).up = true
  ·obtain ⟨u0, u1⟩ := isB_iff.1 h2
   have a2 := atX u0 u1
   have c6 : getL (nodeAt t (nodeAt t i).up).cs 6 = some (aInts (nodeAt t (nodeAt t i).up).kids) := rfl
   have kI := fun H => k62 hI (L := (nodeAt t (nodeAt t i).up).kids) i (hk _ (nodeAt_mem u0 u1)) H
   have e : placeT t i = idxFrom (fun y => decide (i = y)) (nodeAt t (nodeAt t i).up).kids 0 := by unfold placeT; rw [if_pos ⟨h1, h2⟩, atP_eq]
   rw [e]
   generalize idxFrom (fun y => decide (i = y)) (nodeAt t (nodeAt t i).up).kids 0 = v at *
   refine callAt_body (fn := Tryz.f42) (s0 := ⟨[0, 1, 2, 4], [aTree t, .int .i64 i, .undef, .undef], [], 33, ⟨0, [[]]⟩⟩) Tryz.func42 rfl rfl rfl ?_
   repeat apply wq
   repeat apply wq
   refine wps_region callOK ?_
   simp [zS, aTree]
   repeat apply wq
   refine wps_drawn mixed callOK (by decide +kernel) fun B_ hB_ => ?_
   have d_0_2 : ahead B_ 0 2 = true := by rw [hB_]; decide +kernel
   have d_0_12 : ahead B_ 0 12 = true := by rw [hB_]; decide +kernel
   have d_2_0 : ahead B_ 2 0 = false := by rw [hB_]; decide +kernel
   have d_2_5 : ahead B_ 2 5 = true := by rw [hB_]; decide +kernel
   have d_2_7 : ahead B_ 2 7 = true := by rw [hB_]; decide +kernel
   have d_2_11 : ahead B_ 2 11 = true := by rw [hB_]; decide +kernel
   have d_5_2 : ahead B_ 5 2 = false := by rw [hB_]; decide +kernel
   have d_5_12 : ahead B_ 5 12 = true := by rw [hB_]; decide +kernel
   have d_7_2 : ahead B_ 7 2 = false := by rw [hB_]; decide +kernel
   have d_7_12 : ahead B_ 7 12 = true := by rw [hB_]; decide +kernel
   have d_11_2 : ahead B_ 11 2 = false := by rw [hB_]; decide +kernel
   have d_11_12 : ahead B_ 11 12 = true := by rw [hB_]; decide +kernel
   have d_12_0 : ahead B_ 12 0 = false := by rw [hB_]; decide +kernel
   have d_12_5 : ahead B_ 12 5 = false := by rw [hB_]; decide +kernel
   have d_12_7 : ahead B_ 12 7 = false := by rw [hB_]; decide +kernel
   have d_12_11 : ahead B_ 12 11 = false := by rw [hB_]; decide +kernel
   apply drawE B_
   simp [zS, mkBlk, guardA, clsOf, reserve, freshenAll, wantedBy, unwantedBy, Heap.lay, ontoF, evE_c, evE_n, putE_s, putX_s, valE_s, redE_s, actE_s, layE_s, gateE_t, gateE_f, clsF_a, clsF_l, clsF_r, clsF_p, clsE_l, clsE_a, clsE_p, clsE_r, d_0_2, d_0_12, d_2_0, d_2_5, d_2_7, d_2_11, d_5_2, d_5_12, d_7_2, d_7_12, d_11_2, d_11_12, d_12_0, d_12_5, d_12_7, d_12_11, ks, h1, h2, a1, c5]
   exact rfl
   refine ⟨_, rfl, ?_, ?_⟩
   simp [zS, reserve, freshenAll, sameRecs, sameAll, sameAt, d_0_2, d_0_12, d_2_0, d_2_5, d_2_7, d_2_11, d_5_2, d_5_12, d_7_2, d_7_12, d_11_2, d_11_12, d_12_0, d_12_5, d_12_7, d_12_11, ks, h1, h2, a1, c5]
   simp [allPend, Heap.lay, ontoF, thenQ]
   repeat apply wq
   refine wps_cf rfl ?_
   repeat apply wq
   refine wps_skip ?_
   simp
   refine wps_seq ?_
   repeat apply wq
   refine wps_drawn mixed callOK (by decide +kernel) fun B_ hB_ => ?_
   have d_1_12 : ahead B_ 1 12 = true := by rw [hB_]; decide +kernel
   have d_3_12 : ahead B_ 3 12 = true := by rw [hB_]; decide +kernel
   have d_7_12 : ahead B_ 7 12 = true := by rw [hB_]; decide +kernel
   have d_10_12 : ahead B_ 10 12 = true := by rw [hB_]; decide +kernel
   have d_12_1 : ahead B_ 12 1 = false := by rw [hB_]; decide +kernel
   have d_12_3 : ahead B_ 12 3 = false := by rw [hB_]; decide +kernel
   have d_12_7 : ahead B_ 12 7 = false := by rw [hB_]; decide +kernel
   have d_12_10 : ahead B_ 12 10 = false := by rw [hB_]; decide +kernel
   apply drawE B_
   simp [zS, mkBlk, guardA, clsOf, reserve, freshenAll, wantedBy, unwantedBy, Heap.lay, ontoF, evE_c, evE_n, putE_s, putX_s, valE_s, redE_s, actE_s, layE_s, gateE_t, gateE_f, clsF_a, clsF_l, clsF_r, clsF_p, clsE_l, clsE_a, clsE_p, clsE_r, d_1_12, d_3_12, d_7_12, d_10_12, d_12_1, d_12_3, d_12_7, d_12_10, a1, a2, c5, c6, kI]
   exact rfl
   refine ⟨_, rfl, ?_, ?_⟩
   simp [zS, reserve, freshenAll, sameRecs, sameAll, sameAt, d_1_12, d_3_12, d_7_12, d_10_12, d_12_1, d_12_3, d_12_7, d_12_10, a1, a2, c5, c6, kI]
   simp [allPend, Heap.lay, ontoF, thenQ]
   repeat apply wq
   refine wps_ret ?_
   simp [retVal, Tryz.f42, oneOr, thenQ, blockQ]
   exact ends_pure rfl (by rfl)
  ·have h2 : isB t (nodeAt t i).up = false := by simpa using h2
   refine callAt_body (fn := Tryz.f42) (s0 := ⟨[0, 1, 2, 4], [aTree t, .int .i64 i, .undef, .undef], [], 33, ⟨0, [[]]⟩⟩) Tryz.func42 rfl rfl rfl ?_
   repeat apply wq
   repeat apply wq
   refine wps_region callOK ?_
   simp [zS, aTree]
   repeat apply wq
   refine wps_drawn mixed callOK (by decide +kernel) fun B_ hB_ => ?_
   have d_0_2 : ahead B_ 0 2 = true := by rw [hB_]; decide +kernel
   have d_0_12 : ahead B_ 0 12 = true := by rw [hB_]; decide +kernel
   have d_2_0 : ahead B_ 2 0 = false := by rw [hB_]; decide +kernel
   have d_2_5 : ahead B_ 2 5 = true := by rw [hB_]; decide +kernel
   have d_2_7 : ahead B_ 2 7 = true := by rw [hB_]; decide +kernel
   have d_2_11 : ahead B_ 2 11 = true := by rw [hB_]; decide +kernel
   have d_5_2 : ahead B_ 5 2 = false := by rw [hB_]; decide +kernel
   have d_5_12 : ahead B_ 5 12 = true := by rw [hB_]; decide +kernel
   have d_7_2 : ahead B_ 7 2 = false := by rw [hB_]; decide +kernel
   have d_7_12 : ahead B_ 7 12 = true := by rw [hB_]; decide +kernel
   have d_11_2 : ahead B_ 11 2 = false := by rw [hB_]; decide +kernel
   have d_11_12 : ahead B_ 11 12 = true := by rw [hB_]; decide +kernel
   have d_12_0 : ahead B_ 12 0 = false := by rw [hB_]; decide +kernel
   have d_12_5 : ahead B_ 12 5 = false := by rw [hB_]; decide +kernel
   have d_12_7 : ahead B_ 12 7 = false := by rw [hB_]; decide +kernel
   have d_12_11 : ahead B_ 12 11 = false := by rw [hB_]; decide +kernel
   apply drawE B_
   simp [zS, mkBlk, guardA, clsOf, reserve, freshenAll, wantedBy, unwantedBy, Heap.lay, ontoF, evE_c, evE_n, putE_s, putX_s, valE_s, redE_s, actE_s, layE_s, gateE_t, gateE_f, clsF_a, clsF_l, clsF_r, clsF_p, clsE_l, clsE_a, clsE_p, clsE_r, d_0_2, d_0_12, d_2_0, d_2_5, d_2_7, d_2_11, d_5_2, d_5_12, d_7_2, d_7_12, d_11_2, d_11_12, d_12_0, d_12_5, d_12_7, d_12_11, ks, h1, h2, a1, c5]
   exact rfl
   refine ⟨_, rfl, ?_, ?_⟩
   simp [zS, reserve, freshenAll, sameRecs, sameAll, sameAt, d_0_2, d_0_12, d_2_0, d_2_5, d_2_7, d_2_11, d_5_2, d_5_12, d_7_2, d_7_12, d_11_2, d_11_12, d_12_0, d_12_5, d_12_7, d_12_11, ks, h1, h2, a1, c5]
   simp [allPend, Heap.lay, ontoF, thenQ]
   repeat apply wq
   refine wps_ct rfl ?_
   repeat apply wq
   refine wps_region callOK ?_
   simp [zS]
   repeat apply wq
   refine wps_ret ?_
   simp [retVal, Tryz.f42, oneOr, thenQ, blockQ]
   exact ends_pure rfl (by simp [placeT, h2])
 ·have h1 : isB t i = false := by simpa using h1
  refine callAt_body (fn := Tryz.f42) (s0 := ⟨[0, 1, 2, 4], [aTree t, .int .i64 i, .undef, .undef], [], 33, ⟨0, [[]]⟩⟩) Tryz.func42 rfl rfl rfl ?_
  repeat apply wq
  repeat apply wq
  refine wps_region callOK ?_
  simp [zS, aTree]
  repeat apply wq
  refine wps_drawn mixed callOK (by decide +kernel) fun B_ hB_ => ?_
  have d_0_2 : ahead B_ 0 2 = true := by rw [hB_]; decide +kernel
  have d_0_12 : ahead B_ 0 12 = true := by rw [hB_]; decide +kernel
  have d_2_0 : ahead B_ 2 0 = false := by rw [hB_]; decide +kernel
  have d_2_5 : ahead B_ 2 5 = true := by rw [hB_]; decide +kernel
  have d_2_7 : ahead B_ 2 7 = true := by rw [hB_]; decide +kernel
  have d_2_11 : ahead B_ 2 11 = true := by rw [hB_]; decide +kernel
  have d_5_2 : ahead B_ 5 2 = false := by rw [hB_]; decide +kernel
  have d_5_12 : ahead B_ 5 12 = true := by rw [hB_]; decide +kernel
  have d_7_2 : ahead B_ 7 2 = false := by rw [hB_]; decide +kernel
  have d_7_12 : ahead B_ 7 12 = true := by rw [hB_]; decide +kernel
  have d_11_2 : ahead B_ 11 2 = false := by rw [hB_]; decide +kernel
  have d_11_12 : ahead B_ 11 12 = true := by rw [hB_]; decide +kernel
  have d_12_0 : ahead B_ 12 0 = false := by rw [hB_]; decide +kernel
  have d_12_5 : ahead B_ 12 5 = false := by rw [hB_]; decide +kernel
  have d_12_7 : ahead B_ 12 7 = false := by rw [hB_]; decide +kernel
  have d_12_11 : ahead B_ 12 11 = false := by rw [hB_]; decide +kernel
  apply drawE B_
  simp [zS, mkBlk, guardA, clsOf, reserve, freshenAll, wantedBy, unwantedBy, Heap.lay, ontoF, evE_c, evE_n, putE_s, putX_s, valE_s, redE_s, actE_s, layE_s, gateE_t, gateE_f, clsF_a, clsF_l, clsF_r, clsF_p, clsE_l, clsE_a, clsE_p, clsE_r, d_0_2, d_0_12, d_2_0, d_2_5, d_2_7, d_2_11, d_5_2, d_5_12, d_7_2, d_7_12, d_11_2, d_11_12, d_12_0, d_12_5, d_12_7, d_12_11, ks, h1]
  exact rfl
  refine ⟨_, rfl, ?_, ?_⟩
  simp [zS, reserve, freshenAll, sameRecs, sameAll, sameAt, d_0_2, d_0_12, d_2_0, d_2_5, d_2_7, d_2_11, d_5_2, d_5_12, d_7_2, d_7_12, d_11_2, d_11_12, d_12_0, d_12_5, d_12_7, d_12_11, ks, h1]
  simp [allPend, Heap.lay, ontoF, thenQ]
  repeat apply wq
  refine wps_ct rfl ?_
  repeat apply wq
  refine wps_region callOK ?_
  simp [zS]
  repeat apply wq
  refine wps_ret ?_
  simp [retVal, Tryz.f42, oneOr, thenQ, blockQ]
  exact ends_pure rfl (by simp [placeT, h1])
section
variable {P : Program} {H : Heap} {t elem : TypeId} {b n : Nat} {cs : List AV}
theorem slice_end1 (hu : P.underlying t = some (.slice elem)) (hs : sizeT P elem = some 1) (hb : H.get b = some (.cells cs)) (hc : cs.length = n) (h0 : 0 < n) : sliceA P H t (.slc b 0 n (.rest 1)) (some (.int .i64 (n : Int))) none none = some .eslc := by
 have hk : knownCells H b = some n := by unfold knownCells; simp only [hb, Option.bind_some, rd_cells, hc]
 have h2 : idx (n : Int) (Nat.succ n) = some n := idx_nat (by omega)
 have h1 : Nat.ble n (n * 1) = true := by rw [Nat.ble_eq]; omega
 obtain ⟨q, rfl⟩ : ∃ q, n = q + 1 := ⟨n - 1, by omega⟩
 unfold sliceA
 simp only [hiOK, hu, Option.bind_some, hs, sliceBlk, hk, Nat.beq_refl, bound, Nat.sub_zero, h2, h1]
theorem slice_three (hu : P.underlying t = some (.slice elem)) (hs : sizeT P elem = some 1) (hb : H.get b = some (.cells cs)) (hc : cs.length = n) {i j : Nat} (hi : i ≤ j) (hj : j ≤ n) (hn : i < n) :
  sliceA P H t (.slc b 0 n (.rest 1)) (some (.int .i64 (i : Int))) (some (.int .i64 (j : Int))) (some (.int .i64 (n : Int))) = some (.slc b i (j - i) (.ex (n - i))) := by
 have hk : knownCells H b = some n := by unfold knownCells; simp only [hb, Option.bind_some, rd_cells, hc]
 have h2 : idx (n : Int) (Nat.succ n) = some n := idx_nat (by omega)
 have h3 : idx (j : Int) (Nat.succ n) = some j := idx_nat (by omega)
 have h4 : idx (i : Int) (Nat.succ j) = some i := idx_nat (by omega)
 have h5 : Nat.beq n i = false := beqN_ne (by omega)
 unfold sliceA
 simp only [hiOK, hu, Option.bind_some, hs, sliceBlk, hk, Nat.beq_refl, bound, Nat.sub_zero, Nat.div_one, h2, h3, h4, h5, Nat.zero_add, Nat.mul_one]
theorem slice_tail {N : Nat} (hu : P.underlying t = some (.slice elem)) (hs : sizeT P elem = some 1) (hb : H.get b = some (.cells cs)) (hc : cs.length = N) (hN : N = n + 1) :
  sliceA P H t (.slc b 0 n (.rest 1)) (some (.int .i64 (n : Int))) (some (.int .i64 (N : Int))) none = some (.slc b n 1 (.rest 1)) := by
 subst hN
 have hk : knownCells H b = some (n + 1) := by unfold knownCells; simp only [hb, Option.bind_some, rd_cells, hc]
 have h3 : idx ((n + 1 : Nat) : Int) (Nat.succ (n + 1)) = some (n + 1) := idx_nat (by omega)
 have h4 : idx (n : Int) (Nat.succ (n + 1)) = some n := idx_nat (by omega)
 have h1 : Nat.ble (n + 1) n = false := by rw [← Bool.not_eq_true, Nat.ble_eq]; omega
 unfold sliceA
 simp only [hiOK, hu, Option.bind_some, hs, sliceBlk, hk, Nat.beq_refl, bound, Nat.sub_zero, Nat.div_one, h3, h4, h1, Nat.zero_add, Nat.mul_one, Nat.add_sub_cancel_left]
end
theorem erase_eq (L : List Int) (i : Nat) : L.eraseIdx i = L.take i ++ L.drop (i + 1) := List.eraseIdx_eq_take_drop_succ L i
theorem ends_frontN {H : Heap} {n b sz len : Nat} {cap : Cap} {es fr : List AV} (he : Elems sz es) (hb : H.get b = some (.cells (flatAV es))) (hl : len ≤ es.length) (hf : fr = es.take len) : ∃ σ Φ, fitV σ Φ (.slc b 0 len cap) (.fslc sz fr) ∧ FitH n σ Φ H ⟨n, [[]]⟩ := by
 subst hf
 refine ⟨[], [(b, flatAV es)], ?_, { nd1 := by simp, nd2 := List.nodup_nil, nd3 := by simp [Heap.ents], lt := fun x h => (by cases h), idn := fun x h => (by cases h), num := Nat.le_refl _, src := fun e h => (by simp [Heap.ents] at h), frz := fun x hx => ?_ }⟩
 ·simp only [fitV]
  exact .inl ⟨flatAV es, by simp [lookC], sub_pre he hl, by simp; omega, (he.take len).size⟩
 ·simp only [List.mem_singleton] at hx
  subst hx
  exact ⟨flatAV es, hb, fitL_pure he.pure, he.pure⟩
theorem single_ints : ∀ (l : List Int), allSingle (ints l) = true
 | [] => rfl
 | x :: r => by have ih := single_ints r; simp only [ints, List.map_cons, allSingle, aInt, AV.single] at ih ⊢; exact ih
theorem refs_ints : ∀ (l : List Int), (ints l).flatMap (refs 6) = []
 | [] => rfl
 | x :: r => by have ih := refs_ints r; simp only [ints, List.map_cons, List.flatMap_cons, aInt, refs] at ih ⊢; exact ih
theorem append_in {P : Program} {H H' : Heap} {elem : TypeId} {b by_ : Nat} {x z : AV} {A D Y Y2 : List Int} (hsz : sizeT P elem = some 1) (hby : bytesT P elem = some by_) (hz : zeroOf P elem = some z) (hzl : z.cells.length = 1) (hb0 : by_ ≠ 0)
  (hn : srcLen x = some D.length) (hsrc : srcCells H 1 D.length x = some (ints D)) (hr : roomOK (A.length + D.length) by_ = true) (hb : H.get b = some (.cells (ints (A ++ (Y ++ Y2))))) (hY : Y.length = D.length)
  (hset : (H.ready b (ints D)).set b (.cells (ints (A ++ (D ++ Y2)))) = some H') : appendA P H elem (.slc b 0 A.length (.rest 1)) x = some (.slc b 0 (A.length + D.length) (.rest 1), H') := by
 have hp : allSingle (ints D) = true := single_ints D
 have hk : knownCells H b = some (A.length + (Y.length + Y2.length)) := by unfold knownCells; simp only [hb, Option.bind_some, rd_cells, len_ints, List.length_append]
 have h1 : (Nat.beq 1 0 || !(true && Nat.blt 0 by_)) = false := by
  have : Nat.blt 0 by_ = true := by rw [Nat.blt, Nat.ble_eq]; omega
  rw [this]; rfl
 have h2 : Nat.ble (0 + (A.length + D.length) * 1) (A.length + (Y.length + Y2.length)) = true := by rw [Nat.ble_eq]; omega
 have hl : layL (ints D) (0 + A.length * 1) (ints (A ++ (Y ++ Y2))) = some (ints (A ++ (D ++ Y2))) := by
  have := layL_app (a := ints A) (b := ints Y) (b' := ints D) (c := ints Y2) (by rw [len_ints, len_ints, hY])
  rw [len_ints] at this
  simpa [ints, List.map_append] using this
 have hw : writeCells H b (0 + A.length * 1) (ints D) = some H' := by
  unfold writeCells
  simp only [hb, Option.bind_some, Blk.wt, hl, Blk.re, hset]
 unfold appendA
 simp only [hsz, hby, hz, hn, hzl, Option.bind_some, h1, hsrc, hr, hp, Nat.beq_refl, hk, h2, hw]
theorem c43 {T : List (Entry Tryz.prog)} (A D : List Int) (c : Int) (hl : A.length + D.length ≤ 1000000) {i j N : Nat} (hi : i = A.length) (hj : j = i + 1) (hN : N = A.length + D.length + 1) :
  CallAt (ctx T) 43 [.slc 0 0 N (.rest 1), .int .i64 (i : Int), .int .i64 (j : Int)] ⟨1, [[(0, .cells (ints (A ++ c :: D)))]]⟩ (aInts (A ++ D)) ⟨1, [[]]⟩ := by
 obtain ⟨n, hn⟩ : ∃ n, n = A.length + D.length := ⟨_, rfl⟩
 obtain ⟨L, hL⟩ : ∃ L, L = A ++ c :: D := ⟨_, rfl⟩
 have lenR : (ints L).length = N := by rw [len_ints, hL, hN]; simp; omega
 obtain ⟨Y, y, hY, hYl⟩ : ∃ Y y, c :: D = Y ++ [y] ∧ Y.length = D.length := ⟨(c :: D).dropLast, (c :: D).getLast (by simp), (List.dropLast_concat_getLast (by simp)).symm, by simp⟩
 have hs1 := slice_three (P := Tryz.prog) (H := ⟨1, [[], [(0, .cells (ints L))]]⟩) (t := 32) (elem := 3) (b := 0) (n := N) (cs := ints L) Tryz.underlying32 szT3 rfl lenR (i := i) (j := j) (by omega) (by omega) (by omega)
 have hs2 := fun (m : Nat) (R : List AV) (hR : R.length = N) => slice_to (P := Tryz.prog) (H := ⟨m, [[], [(0, .cells R)]]⟩) (t := 32) (elem := 3) (sz := 1) (b := 0) (cs := R) (len := N) (i := i) Tryz.underlying32 szT3 (by omega) rfl (by omega) (by omega) (by omega)
 obtain ⟨x, hs3, hx1, hx2⟩ : ∃ x, (∀ (m : Nat) (R : List AV), R.length = N → sliceA Tryz.prog ⟨m, [[], [(0, .cells R)]]⟩ 32 (.slc 0 0 N (.rest 1)) (some (.int .i64 (j : Int))) none none = some x) ∧ srcLen x = some D.length ∧ srcCells ⟨9, [[], [(0, .cells (ints L))]]⟩ 1 D.length x = some (ints D) := by
  by_cases h : j < N
  ·refine ⟨_, fun m R hR => slice_from (P := Tryz.prog) (H := ⟨m, [[], [(0, .cells R)]]⟩) (t := 32) (elem := 3) (sz := 1) (b := 0) (cs := R) (len := N) (i := j) Tryz.underlying32 szT3 (by omega) rfl (by omega) h, ?_, ?_⟩
   ·simp [srcLen]; omega
   ·have hb := subL_app (a := ints (A ++ [c])) (b := ints D) (c := []) (o := j) (n := D.length) (by rw [len_ints]; simp; omega) (by rw [len_ints])
    have hL2 : ints L = ints (A ++ [c]) ++ ints D ++ [] := by rw [hL]; simp [ints]
    simp [srcCells, readCells, Heap.get, getFs, getF, Blk.rd]
    rw [hL2]; exact hb
  ·have hjN : j = N := by omega
   have hD : D = [] := by cases D <;> simp at * <;> omega
   refine ⟨.eslc, fun m R hR => ?_, ?_, ?_⟩
   ·have := slice_end1 (P := Tryz.prog) (H := ⟨m, [[], [(0, .cells R)]]⟩) (t := 32) (elem := 3) (b := 0) (n := N) (cs := R) Tryz.underlying32 szT3 rfl hR (by omega)
    rw [hjN]; exact this
   ·simp [hD, srcLen]
   ·simp [hD, srcCells, ints]
 have lR : (A ++ (D ++ [y])).length = N := by simp; omega
 have lR2 : (ints (A ++ (D ++ [y]))).length = N := by rw [len_ints, lR]
 have happ := append_in (P := Tryz.prog) (H := ⟨9, [[], [(0, .cells (ints L))]]⟩) (H' := ⟨9, [[], [(0, .cells (ints (A ++ (D ++ [y]))))]]⟩) (elem := 3) (b := 0) (x := x) (A := A) (D := D) (Y := Y) (Y2 := [y]) szT3 byT3 zeT3 rfl (by omega) hx1 hx2 (by unfold roomOK; rw [Nat.ble_eq]; omega) (by rw [hL, hY]; rfl) hYl (by simp [Heap.ready, refs_ints, Heap.set, setFs, setF])
 rw [← hn, ← hi] at happ
 have hne : ¬ (i : Int) = (j : Int) := by omega
 have hne2 : ¬ i = j := by omega
 rw [← hL]
 refine callAt_body (fn := Tryz.f43) (s0 := ⟨[0, 1, 2, 6, 7], [.slc 0 0 N (.rest 1), .int .i64 (i : Int), .int .i64 (j : Int), .undef, .undef], [], 33, ⟨1, [] :: [[(0, .cells (ints L))]]⟩⟩) Tryz.func43 rfl rfl rfl ?_
 repeat apply wq
 refine wps_region callOK ?_
 simp [zS]
 repeat apply wq
 refine wps_region callOK ?_
 simp [zS, hs1, lenA, opndO]
 repeat apply wq
 refine wps_region callOK ?_
 simp [zS, hne, hne2]
 repeat apply wq
 refine wps_cf (by simp [opnd, St.get, hne, hne2]) ?_
 repeat apply wq
 refine wps_skip ?_
 simp
 repeat apply wq
 refine wps_region callOK ?_
 simp [zS, lenA]
 repeat apply wq
 refine wps_drawn mixed callOK (by decide +kernel) fun B_ hB_ => ?_
 have d_2_6 : ahead B_ 2 6 = true := by rw [hB_]; decide +kernel
 have d_5_6 : ahead B_ 5 6 = true := by rw [hB_]; decide +kernel
 have d_6_2 : ahead B_ 6 2 = false := by rw [hB_]; decide +kernel
 have d_6_5 : ahead B_ 6 5 = false := by rw [hB_]; decide +kernel
 apply drawE B_
 simp [zS, mkBlk, guardA, clsOf, reserve, freshenAll, wantedBy, unwantedBy, Heap.lay, ontoF, evE_c, evE_n, putE_s, putX_s, valE_s, redE_s, actE_s, layE_s, gateE_t, gateE_f, clsF_a, clsF_l, clsF_r, clsF_p, clsE_l, clsE_a, clsE_p, clsE_r, d_2_6, d_5_6, d_6_2, d_6_5, hs2 _ _ lenR, hs3 _ _ lenR, hs2 _ _ lR2, hs3 _ _ lR2, happ, opndO]
 exact rfl
 refine ⟨_, rfl, ?_, ?_⟩
 simp [zS, reserve, freshenAll, sameRecs, sameAll, sameAt, d_2_6, d_5_6, d_6_2, d_6_5, hs2 _ _ lenR, hs3 _ _ lenR, hs2 _ _ lR2, hs3 _ _ lR2, happ, opndO]
 simp [allPend, Heap.lay, ontoF, thenQ]
 have hs4 := slice_tail (P := Tryz.prog) (H := ⟨9, [[], [(0, .cells (ints (A ++ (D ++ [y]))))]]⟩) (t := 32) (elem := 3) (b := 0) (n := n) (N := N) (cs := ints (A ++ (D ++ [y]))) Tryz.underlying32 szT3 rfl (by rw [len_ints, lR]) (by omega)
 have hcl := clr_ints (m := 9) (i := n) (n := N) (f := []) (R := A ++ (D ++ [y])) rfl rfl lR (by omega)
 have e1 : N - n = 1 := by omega
 have e2 : (A ++ (D ++ [y])).take n ++ zrs (N - n) = A ++ D ++ [0] := by
  rw [← List.append_assoc, List.take_left' (by simp; omega), e1]; rfl
 rw [e2, e1] at hcl
 repeat apply wq
 refine wps_region callOK ?_
 simp [zS, lenA, hs4, hcl]
 repeat apply wq
 refine wps_region callOK ?_
 simp [zS]
 repeat apply wq
 refine wps_ret ?_
 simp [retVal, Tryz.f43, oneOr]
 obtain ⟨σ, Φ, f1, f2⟩ := ends_frontN (n := 1) (H := ⟨9, [[], [(0, .cells (ints (A ++ D ++ [0])))]]⟩) (b := 0) (len := n) (cap := .rest 1) (fr := ints (A ++ D)) (el_int (A ++ D ++ [0])) (by rw [flat_ints]; rfl) (by rw [len_ints]; simp; omega) (by rw [show ints (A ++ D ++ [0]) = ints (A ++ D) ++ ints [0] by simp [ints], List.take_left' (by rw [len_ints]; simp; omega)])
 rw [List.append_assoc] at f2
 exact ⟨σ, Φ, f1, f2⟩
def lays2_21_ren : Go.Shelf.Ren := ⟨fun | 21 => 26 | 27 => 44 | 28 => 45 | 35 => 63 | 39 => 90 | n => n, fun | 0 => 0 | 3 => 3 | 4 => 4 | 22 => 32 | n => n, fun | n => n⟩
theorem lays2_21 : Go.Proofs.Lays2.n21 Tryz.prog lays2_21_ren where
 mixed := by kernel_rfl
 f21 := Tryz.func26.trans (congrArg some (by kernel_rfl))
 f27 := Tryz.func44.trans (congrArg some (by kernel_rfl))
 f28 := Tryz.func45.trans (congrArg some (by kernel_rfl))
 f35 := Tryz.func63.trans (congrArg some (by kernel_rfl))
 f39 := Tryz.func90.trans (congrArg some (by kernel_rfl))
 t0 := Tryz.underlying0
 a0 := Tryz.isAgg0
 z0 := Tryz.sizeOf0
 v0 := Tryz.zeroValue0
 t3 := Tryz.underlying3
 a3 := Tryz.isAgg3
 z3 := Tryz.sizeOf3
 v3 := Tryz.zeroValue3
 t4 := Tryz.underlying4
 a4 := Tryz.isAgg4
 z4 := Tryz.sizeOf4
 v4 := Tryz.zeroValue4
 t22 := Tryz.underlying32
 a22 := Tryz.isAgg32
 z22 := Tryz.sizeOf32
 v22 := Tryz.zeroValue32
 i3 := by kernel_rfl
structure Wrote (cb : Nat) (v v' : World) : Prop where
 size : v'.heap.size = v.heap.size
 keep : ∀ j, j ≠ cb → v'.heap[j]? = v.heap[j]?
 os : v'.os = v.os
 tape : v'.tape = v.tape
 output : v'.output = v.output
 some : ∀ k, (v.cell? ⟨cb, k, none⟩).isSome = true → (v'.cell? ⟨cb, k, none⟩).isSome = true
 fz : ∀ k, v'.frozen? ⟨cb, k, none⟩ = v.frozen? ⟨cb, k, none⟩
theorem Wrote.trans {cb : Nat} {u v w : World} (h : Wrote cb u v) (k : Wrote cb v w) : Wrote cb u w :=
 ⟨k.size.trans h.size, fun j hj => (k.keep j hj).trans (h.keep j hj), k.os.trans h.os, k.tape.trans h.tape, k.output.trans h.output, fun j hj => k.some j (h.some j hj), fun j => (k.fz j).trans (h.fz j)⟩
theorem Wrote.drew {cb : Nat} {v : World} : Wrote cb v v.drew := ⟨rfl, fun _ _ => rfl, rfl, rfl, rfl, fun _ h => h, fun _ => rfl⟩
theorem Wrote.set {cb o : Nat} {v : World} {xs : List Value} (h : ∀ j, j < xs.length → (v.cell? ⟨cb, o + j, none⟩).isSome = true) : Wrote cb v (v.setCells cb o xs) :=
 ⟨setCells_size _ _ _ _, fun j hj => setCells_heap _ _ _ _ j hj, (setCells_rest _ _ _ _).1, (setCells_rest _ _ _ _).2.1, (setCells_rest _ _ _ _).2.2, fun k hk => isSome_setCells cb xs o v h k hk, fun k => World.frozen?_setCells _ _ _ _ _⟩
theorem set_in {cb o : Nat} {v : World} {xs : List Value} (h : ∀ j, j < xs.length → (v.cell? ⟨cb, o + j, none⟩).isSome = true) {k : Nat} (h1 : o ≤ k) (h2 : k < o + xs.length) : (v.setCells cb o xs).cell? ⟨cb, k, none⟩ = xs[k - o]? := by
 have := World.cell?_setCells_in cb xs o v h (k - o) (by omega)
 rw [show o + (k - o) = k by omega] at this
 rw [this, List.getElem?_eq_getElem (by omega)]
theorem set_out {cb o : Nat} {v : World} {xs : List Value} {k : Nat} (h : k < o ∨ o + xs.length ≤ k) : (v.setCells cb o xs).cell? ⟨cb, k, none⟩ = v.cell? ⟨cb, k, none⟩ :=
 World.cell?_setCells_out cb xs o v ⟨cb, k, none⟩ (fun _ _ => h)
theorem two_sets {cb off i n : Nat} {xs ys : List Value} {v v' : World} (hn : xs.length = n) (hi : i ≤ n)
  (hs : ∀ j, j < n + ys.length → (v.cell? ⟨cb, off + j, none⟩).isSome = true)
  (hc : ∀ j, j < i → v.cell? ⟨cb, off + j, none⟩ = xs[j]?)
  (hv : v' = (v.setCells cb (off + (i + ys.length)) (xs.drop i)).setCells cb (off + i) ys ∨ v' = ((v.setCells cb (off + i) ys).drew).setCells cb (off + (i + ys.length)) (xs.drop i)) :
  Wrote cb v v' ∧ ∀ j, j < n + ys.length → v'.cell? ⟨cb, off + j, none⟩ = (xs.take i ++ ys ++ xs.drop i)[j]? := by
 have e1 : (xs.take i).length = i := by rw [List.length_take]; omega
 have e2 : (xs.drop i).length = n - i := by rw [List.length_drop]; omega
 have get : ∀ j, (xs.take i ++ ys ++ xs.drop i)[j]? = if j < i then xs[j]? else if j < i + ys.length then ys[j - i]? else (xs.drop i)[j - (i + ys.length)]? := fun j => by
  by_cases h1 : j < i
  ·rw [if_pos h1, List.append_assoc, List.getElem?_append_left (by omega), List.getElem?_take, if_pos h1]
  ·rw [if_neg h1]
   by_cases h2 : j < i + ys.length
   ·rw [if_pos h2, List.getElem?_append_left (by simp; omega), List.getElem?_append_right (by omega), e1]
   ·rw [if_neg h2, List.getElem?_append_right (by simp; omega)]
    simp only [List.length_append, e1]
 rcases hv with rfl | rfl
 ·have a1 : ∀ j, j < (xs.drop i).length → (v.cell? ⟨cb, off + (i + ys.length) + j, none⟩).isSome = true := fun j hj => by
   rw [show off + (i + ys.length) + j = off + (i + ys.length + j) by omega]; exact hs _ (by omega)
  have w1 : Wrote cb v (v.setCells cb (off + (i + ys.length)) (xs.drop i)) := .set a1
  have a2 : ∀ j, j < ys.length → ((v.setCells cb (off + (i + ys.length)) (xs.drop i)).cell? ⟨cb, off + i + j, none⟩).isSome = true := fun j hj => w1.some _ (by
   rw [show off + i + j = off + (i + j) by omega]; exact hs _ (by omega))
  refine ⟨w1.trans (.set a2), fun j hj => ?_⟩
  rw [get j]
  split
  ·rename_i h1
   rw [set_out (by omega), set_out (by omega), hc j h1]
  ·split
   ·rw [set_in a2 (by omega) (by omega)]; congr 1; omega
   ·rw [set_out (by omega), set_in a1 (by omega) (by omega)]; congr 1; omega
 ·have a1 : ∀ j, j < ys.length → (v.cell? ⟨cb, off + i + j, none⟩).isSome = true := fun j hj => by
   rw [show off + i + j = off + (i + j) by omega]; exact hs _ (by omega)
  have w1 : Wrote cb v (v.setCells cb (off + i) ys) := .set a1
  have a2 : ∀ j, j < (xs.drop i).length → ((v.setCells cb (off + i) ys).drew.cell? ⟨cb, off + (i + ys.length) + j, none⟩).isSome = true := fun j hj => w1.some _ (by
   rw [show off + (i + ys.length) + j = off + (i + ys.length + j) by omega]; exact hs _ (by omega))
  refine ⟨(w1.trans .drew).trans (.set a2), fun j hj => ?_⟩
  rw [get j]
  split
  ·rename_i h1
   rw [set_out (by omega)]
   show (v.setCells cb (off + i) ys).cell? _ = _
   rw [set_out (by omega), hc j h1]
  ·split
   ·rw [set_out (by omega)]
    show (v.setCells cb (off + i) ys).cell? _ = _
    rw [set_in a1 (by omega) (by omega)]; congr 1; omega
   ·rw [set_in a2 (by omega) (by omega)]; congr 1; omega
theorem vrs_ins {ρ : Place} {cs vs : List AV} {xs ys : List Value} (i : Nat) (h : VRs ρ cs xs) (k : VRs ρ vs ys) : VRs ρ (cs.take i ++ vs ++ cs.drop i) (xs.take i ++ ys ++ xs.drop i) := by
 refine (VRs.append ⟨by simp [h.1], fun j a b => ?_⟩ k).append ⟨by simp [h.1], fun j a b => ?_⟩
 ·rw [List.getElem_take, List.getElem_take]; exact h.2 _ _ _
 ·rw [List.getElem_drop, List.getElem_drop]; exact h.2 _ _ _
theorem insert_at {T : List (Entry Tryz.prog)} {H : Heap} {b vb n m i : Nat} {cs vs : List AV} {t : TypeId} (hb : H.get b = some (.cells cs)) (hvb : H.get vb = some (.buf t 0 vs)) (hbv : b ≠ vb)
  (hn : cs.length = n) (hm : vs.length = m) (hi : i < n) (h0 : 0 < m) (hc1 : allSingle cs = true) (hv1 : allSingle vs = true) (hbig : n + m ≤ 1000000000) :
  CallAt (ctx T) 26 [.slc b 0 n (.rest 1), .int .i64 i, .slc vb 0 m (.ex m)] H (.slc H.n 0 (n + m) (.rest 1)) ((H.drop b).new (.cells (cs.take i ++ vs ++ cs.drop i))) := by
 intro ρ w xs sm hx
 match xs, hx with
 | [x, y, z], hx =>
  have g0 := hx.2 0 (by simp) (by simp)
  have g1 := hx.2 1 (by simp) (by simp)
  have g2 := hx.2 2 (by simp) (by simp)
  simp only [List.getElem_cons_zero, List.getElem_cons_succ] at g0 g1 g2
  cases g1
  cases g2 with
  | slcE _ _ _ _ l2 hl2 _ =>
  cases g0 with
  | slcR _ _ _ _ c l hl hnc hf =>
  have hrun : (callFunc 26 #[.slice (some ⟨l.cb, l.off + 0, none⟩) n c, .int .i64 i, .slice (some ⟨l2.cb, l2.off + 0, none⟩) m m]).run (ctx T).P w = .ok (.enter 26 #[.slice (some ⟨l.cb, l.off + 0, none⟩) n c, .int .i64 i, .slice (some ⟨l2.cb, l2.off + 0, none⟩) m m]) w := by
   have hf : (ctx T).P.funcs[26]? = some Tryz.f26 := Tryz.func26
   have hn : ¬ Tryz.f26.name = "runtime.NumGoroutine" := by decide +kernel
   simp [callFunc, hf, hn, Tryz.f26]
  refine .inr ⟨26, _, hrun, callsIn_wide.2 ?_⟩
  obtain ⟨l', hl', hB, hlt, hr⟩ := sm.block hb
  rw [hl] at hl'; cases hl'
  obtain ⟨l', hl', hB2, hlt2, hr2⟩ := sm.block hvb
  rw [hl2] at hl'; cases hl'
  have hcb : l2.cb ≠ l.cb := fun e => hbv (sm.inj (b, _) (vb, _) (Heap.get_mem hb) (Heap.get_mem hvb) l l2 hl hl2 e.symm)
  obtain ⟨X, hX, _, hXc⟩ := read_cells (o := 0) (n := n) (r := cs) sm (by unfold readCells; rw [hb]; subst hn; exact takeL_all cs) hl
  obtain ⟨Y, hY, _, hYc⟩ := read_cells (o := 0) (n := m) (r := vs) sm (by unfold readCells; rw [hvb]; subst hm; exact takeL_all vs) hl2
  have hXl : X.length = n := hX.1.trans hn
  have hYl : Y.length = m := hY.1.trans hm
  obtain ⟨⟨q1, q2, q3⟩, q4, q5, C2, lo, hh, hheap2, hz2⟩ := hr2
  obtain ⟨r1, r2, r3⟩ := hr
  have hfz2 : ∀ k, w.frozen? ⟨l2.cb, k, none⟩ = false := fun k => by
   simp only [World.frozen?, hheap2]
   rcases hz2 with rfl | hz
   ·by_cases h1 : lo ≤ k <;> simp <;> omega
   ·simp; omega
  have hshape : ∃ tB kB, w.shape? l.cb = some (tB, kB) ∧ kB ≠ 0 := by
   have := (r2 l.off (by omega)).1
   simp only [World.cell?] at this
   split at this
   ·rename_i c0 e0 fr0 hh0
    refine ⟨e0, c0.size, by simp only [World.shape?, hh0], fun hz => ?_⟩
    simp only [Option.isSome_none, Bool.false_eq_true, if_false] at this
    rw [Array.getElem?_eq_none (by omega)] at this
    cases this
   ·cases this
  obtain ⟨tB, kB, hsB, hkB⟩ := hshape
  have hXc' : ∀ j v, X[j]? = some v → w.cell? ⟨l.cb, l.off + j, none⟩ = some v := fun j v h => hXc j v h
  have hYc' : ∀ j v, Y[j]? = some v → w.cell? ⟨l2.cb, l2.off + j, none⟩ = some v := fun j v h => hYc j v h
  have o1 := hX.oneCell hc1
  have o2 := hY.oneCell hv1
  have hgetX : ∀ j, j < n → w.cell? ⟨l.cb, l.off + j, none⟩ = X[j]? := fun j hj => by
   rw [List.getElem?_eq_getElem (by omega)]; exact hXc' j _ (List.getElem?_eq_getElem (by omega))
  have hres : (cs.take i ++ vs ++ cs.drop i).length = n + m := by simp [hn, hm]; omega
  by_cases hroom : n + m ≤ c
  ·have hs : ∀ j, j < n + m → (w.cell? ⟨l.cb, l.off + j, none⟩).isSome = true := fun j hj => (r2 _ (by omega)).1
   refine (Any2.slices_Insert_int_shift lays2_21 l.cb l.off n c i l2.cb l2.off m m X Y w hi h0 hroom hf.2 hcb hXl hYl hXc' hs (fun j hj => (r2 _ (by omega)).2) hYc' o1 o2 t tB C2.size kB (by simp only [World.shape?, hheap2]) hsB hkB (hfz2 _) (hfz2 _)).mono ?_
   rintro e w' ⟨rfl, hw⟩
   obtain ⟨W1, W2⟩ := two_sets (cb := l.cb) (off := l.off) (i := i) (n := n) (xs := X) (ys := Y) (v := w.drew) (v' := w') hXl (by omega) (by rw [hYl]; exact hs) (fun j hj => hgetX j (by omega)) (.inl (by rw [hYl]; exact hw))
   have hle : ρ.le (ρ.upd H.n ⟨l.cb, l.off, l.fin⟩) := Place.le_upd (sm.dom _ (Nat.le_refl _))
   have hV := (vrs_ins i hX hY).mono hle
   obtain ⟨k1, k2⟩ := sm.drew.regrow (k := .cells (cs.take i ++ vs ++ cs.drop i)) (l' := ⟨l.cb, l.off, l.fin⟩) hb hl rfl W1.size W1.keep W1.os W1.tape W1.output (by
    refine ⟨by rw [hres]; show l.off + _ ≤ l.fin; omega, fun k hk => ⟨W1.some k (r2 k hk).1, (W1.fz k).trans (r2 k hk).2⟩, fun j hj => ?_⟩
    have hj2 : j < (X.take i ++ Y ++ X.drop i).length := by rw [hV.1]; exact hj
    refine ⟨(X.take i ++ Y ++ X.drop i)[j], ?_, hV.2 j hj hj2⟩
    rw [← List.getElem?_eq_getElem hj2]
    exact W2 j (by rw [hYl]; omega))
   refine ⟨_, _, rfl, ?_, k1, (Step.drew _ _ _).trans k2⟩
   exact .slcR H.n 0 (n + m) 1 c ⟨l.cb, l.off, l.fin⟩ Place.upd_same hroom hf
  ·refine (Any2.slices_Insert_int_grow lays2_21 l.cb l.off n c i l2.cb l2.off m m X Y w hi h0 hnc (by omega) (by omega) hXl hYl hXc' hYc' o1 o2).mono ?_
   rintro e w' ⟨rfl, hw⟩
   have hcap : n + m ≤ grownCap w (n + m) c (lays2_21_ren.t 3) := by simp [grownCap, Question.cut]
   have h63 : grownCap w (n + m) c (lays2_21_ren.t 3) ≤ 9223372036854775807 := cut_63 (by omega)
   generalize grownCap w (n + m) c (lays2_21_ren.t 3) = G at hw hcap h63 ⊢
   obtain ⟨ROW, hROW⟩ : ∃ ROW : Array Value, ROW = (X.take i).toArray ++ Builtin.zeroCells (Value.int .i64 0).cells (n + m - i) ++ Builtin.zeroCells (Value.int .i64 0).cells (G - (n + m)) := ⟨_, rfl⟩
   rw [← hROW] at hw
   have hsz : ROW.size = G := by
    rw [hROW]
    simp [Builtin.zeroCells, Value.cells, hXl]
    omega
   obtain ⟨sd, st⟩ := sm.dropped b
   obtain ⟨s1, t1⟩ := sd.new (.cells ROW (lays2_21_ren.t 3)) ROW.size (.cells (List.replicate (n + m) .undef)) (blk_new (by simp; omega) (fun j a b => by rw [List.getElem_replicate]; exact .undef _) (fun j _ => by simp))
   have hh1 : (w.alloc (.cells ROW (lays2_21_ren.t 3))).heap[w.heap.size]? = some (.cells ROW (lays2_21_ren.t 3) (0, 0)) := by
    show (w.heap.push _)[w.heap.size]? = _
    simp
   have hcell : ∀ j, (w.alloc (.cells ROW (lays2_21_ren.t 3))).cell? ⟨w.heap.size, 0 + j, none⟩ = ROW[j]? := fun j => by simp only [World.cell?, hh1, Nat.zero_add]; rfl
   have hs : ∀ j, j < n + m → ((w.alloc (.cells ROW (lays2_21_ren.t 3))).drew.cell? ⟨w.heap.size, 0 + j, none⟩).isSome = true := fun j hj => by
    show ((w.alloc (.cells ROW (lays2_21_ren.t 3))).cell? ⟨w.heap.size, 0 + j, none⟩).isSome = true
    rw [hcell, Array.getElem?_eq_getElem (by omega)]; rfl
   obtain ⟨W1, W2⟩ := two_sets (cb := w.heap.size) (off := 0) (i := i) (n := n) (xs := X) (ys := Y) (v := (w.alloc (.cells ROW (lays2_21_ren.t 3))).drew) (v' := w') hXl (by omega) (by rw [hYl]; exact hs)
    (fun j hj => by
     show (w.alloc (.cells ROW (lays2_21_ren.t 3))).cell? ⟨w.heap.size, 0 + j, none⟩ = _
     rw [hcell, hROW, Array.append_assoc, Array.getElem?_append_left (by simp; omega)]
     simp [hj]) (.inr (by rw [hYl, Nat.zero_add, Nat.zero_add]; exact hw))
   have hle : ρ.le (ρ.upd H.n ⟨w.heap.size, 0, ROW.size⟩) := Place.le_upd (sm.dom _ (Nat.le_refl _))
   have hV := (vrs_ins i hX hY).mono hle
   have hents : ∀ k : Blk, ((H.drop b).new k).ents = (H.n, k) :: (H.drop b).ents := fun k => Heap.new_ents _ _
   obtain ⟨k1, k2⟩ := s1.drew.turned (H' := (H.drop b).new (.cells (cs.take i ++ vs ++ cs.drop i))) (b := H.n) (k0 := .cells (List.replicate (n + m) .undef)) (k := .cells (cs.take i ++ vs ++ cs.drop i)) (l := ⟨w.heap.size, 0, ROW.size⟩) (w' := w')
    (by rw [hents]; exact List.mem_cons_self) Place.upd_same rfl (by have := s1.nodup; rw [hents] at this ⊢; exact this) (by rw [hents]; exact List.mem_cons_self)
    (fun e he => by rw [hents] at he ⊢; rcases List.mem_cons.1 he with h | h; exact .inl h; exact .inr (List.mem_cons_of_mem _ h))
    W1.size W1.keep W1.os W1.tape W1.output (by
     have hold := (s1.drew.live (H.n, .cells (List.replicate (n + m) .undef)) (by rw [hents]; exact List.mem_cons_self))
     obtain ⟨l3, hl3, _, _, hr3⟩ := hold
     have hl4 : (ρ.upd H.n ⟨w.heap.size, 0, ROW.size⟩) H.n = some l3 := hl3
     rw [Place.upd_same] at hl4; cases hl4
     refine ⟨by rw [hres]; show 0 + _ ≤ ROW.size; omega, fun k hk => ⟨W1.some k (hr3.2.1 k hk).1, (W1.fz k).trans (hr3.2.1 k hk).2⟩, fun j hj => ?_⟩
     have hj2 : j < (X.take i ++ Y ++ X.drop i).length := by rw [hV.1]; exact hj
     refine ⟨(X.take i ++ Y ++ X.drop i)[j], ?_, hV.2 j hj hj2⟩
     rw [← List.getElem?_eq_getElem hj2]
     exact W2 j (by rw [hYl]; omega))
   refine ⟨_, _, rfl, ?_, k1, st.trans (t1.trans ((Step.drew _ _ _).trans k2))⟩
   exact .slcR H.n 0 (n + m) 1 G ⟨w.heap.size, 0, ROW.size⟩ Place.upd_same hcap ⟨by simp [hsz], h63⟩
def insAt (L : List Int) (i : Nat) (x : Int) : List Int := L.take i ++ x :: L.drop i
theorem fz_ints {H : Heap} {n b m : Nat} {cap : Cap} {L : List Int} (hb : H.get b = some (.cells (ints L))) (hm : m = L.length) : ∃ σ Φ, fitV σ Φ (.slc b 0 m cap) (aInts L) ∧ FitH n σ Φ H ⟨n, [[]]⟩ :=
 ends_frontN (n := n) (H := H) (b := b) (len := m) (cap := cap) (fr := ints L) (el_int L) (by rw [flat_ints]; exact hb) (by rw [len_ints]; omega) (by rw [List.take_of_length_le (by rw [len_ints]; omega)])
theorem insert_end {T : List (Entry Tryz.prog)} (L : List Int) (x : Int) (hl : L.length ≤ 1000000) :
  CallAt (ctx T) 26 [ownV 0 1 (L.map aInt), .int .i64 (L.length : Int), .slc 1 0 1 (.ex 1)] ⟨2, [ownF 0 (L.map aInt) ++ [(1, .buf 3 0 [.int .i64 x])]]⟩ (aInts (L ++ [x])) ⟨2, [[]]⟩ := by
 have happ := own_append (P := Tryz.prog) (H := ⟨2, [[], ownF 0 (L.map aInt) ++ [(1, .buf 3 0 [.int .i64 x])]]⟩) (elem := 3) (b := 0) (n := 0) (es := L.map aInt) (x := .slc 1 0 1 (.ex 1)) (cs := [.int .i64 x]) szT3 byT3 zeT3 rfl (by omega) (by omega) rfl
  (by cases L <;> simp [srcCells, readCells, Heap.get, getFs, getF, ownF, subL, takeL, Blk.rd]) rfl rfl (el_kid L) (by simp; omega)
  (fun h => by cases L with
   | nil => exact absurd rfl h
   | cons y r => simp [Heap.get, getFs, getF, ownF])
  (fun h => by cases L with
   | nil => rfl
   | cons y r => cases h) (fun _ => rfl)
 have er : flatAV (L.map aInt) ++ [.int .i64 x] = ints (L ++ [x]) := by
  rw [show L.map aInt = ints L from rfl, flat_ints]; simp [ints, aInt]
 rw [er] at happ
 cases L with
 | nil =>
  replace happ : appendA Tryz.prog ⟨2, [[], [(1, .buf 3 0 [.int .i64 x])]]⟩ 3 .zslc (.slc 1 0 1 (.ex 1)) = some (.slc 2 0 1 (.rest 1), ⟨3, [[(2, .cells (ints [x]))], [(1, .buf 3 0 [.int .i64 x])]]⟩) := happ
  refine callAt_body (fn := Tryz.f26) (s0 := ⟨[0, 1, 2, 6, 7, 8, 9], [.zslc, .int .i64 0, .slc 1 0 1 (.ex 1), .undef, .undef, .undef, .undef], [], 95, ⟨2, [] :: [[(1, .buf 3 0 [.int .i64 x])]]⟩⟩) Tryz.func26 rfl rfl rfl ?_
  have s0 : ∀ H, sliceA Tryz.prog H 32 .zslc (some (.int .i64 0)) none none = some .zslc := fun _ => rfl
  have l0 : ∀ H, lenA Tryz.prog H 32 .zslc = some 0 := fun _ => rfl
  have l1 : ∀ H, lenA Tryz.prog H 32 (.slc 1 0 1 (.ex 1)) = some 1 := fun _ => rfl
  repeat apply wq
  refine wps_region callOK ?_
  simp [zS]
  repeat apply wq
  refine wps_region callOK ?_
  simp [zS, s0]
  repeat apply wq
  refine wps_region callOK ?_
  simp [zS, l1]
  repeat apply wq
  refine wps_region callOK ?_
  simp [zS]
  repeat apply wq
  refine wps_cf rfl ?_
  repeat apply wq
  refine wps_skip ?_
  simp
  repeat apply wq
  refine wps_region callOK ?_
  simp [zS, l0]
  repeat apply wq
  refine wps_region callOK ?_
  simp [zS]
  repeat apply wq
  refine wps_ct rfl ?_
  repeat apply wq
  refine wps_region callOK ?_
  simp [zS, happ]
  repeat apply wq
  refine wps_ret ?_
  simp [retVal, Tryz.f26, oneOr]
  exact fz_ints (L := [x]) (by simp [Heap.get, getFs, getF]) rfl
 | cons y r =>
  have hlen : (ints (y :: r)).length = r.length + 1 := by rw [len_ints]; simp
  have e : ownV 0 1 ((y :: r).map aInt) = .slc 0 0 (r.length + 1) (.rest 1) := by simp [ownV]
  have eF : ownF 0 ((y :: r).map aInt) = [(0, .cells (ints (y :: r)))] := by
   show [(0, Blk.cells (flatAV ((y :: r).map aInt)))] = _
   rw [show (y :: r).map aInt = ints (y :: r) from rfl, flat_ints]
  rw [e, eF] at happ ⊢
  have happ' : appendA Tryz.prog ⟨2, [[], [(0, .cells (ints (y :: r))), (1, .buf 3 0 [.int .i64 x])]]⟩ 3 (.slc 0 0 (r.length + 1) (.rest 1)) (.slc 1 0 1 (.ex 1)) = some (.slc 2 0 (r.length + 1 + 1) (.rest 1), ⟨3, [[(2, .cells (ints (y :: r ++ [x])))], [(1, .buf 3 0 [.int .i64 x])]]⟩) := by
   simpa [Heap.drop, killFs, killF, getF, Heap.new, pushF] using happ
  obtain ⟨v, hv⟩ : ∃ v, sliceA Tryz.prog ⟨2, [[], [(0, .cells (ints (y :: r))), (1, .buf 3 0 [.int .i64 x])]]⟩ 32 (.slc 0 0 (r.length + 1) (.rest 1)) (some (.int .i64 ((r.length : Int) + 1))) none none = some v := by
   have ix := idx_nat (show r.length + 1 < Nat.succ (r.length + 1) by omega)
   rw [Int.natCast_add] at ix
   simp only [Int.natCast_one] at ix
   have bl : Nat.ble (r.length + 1) (r.length + 1) = true := by rw [Nat.ble_eq]; exact Nat.le_refl _
   simp [sliceA, hiOK, sliceBlk, knownCells, Heap.get, getFs, getF, Blk.rd, hlen, bound, ix, bl]
  have l0 : ∀ H, lenA Tryz.prog H 32 (.slc 0 0 (r.length + 1) (.rest 1)) = some (r.length + 1) := fun _ => rfl
  have l1 : ∀ H, lenA Tryz.prog H 32 (.slc 1 0 1 (.ex 1)) = some 1 := fun _ => rfl
  have eL : ((y :: r).length : Int) = (r.length : Int) + 1 := by simp
  rw [eL]
  refine callAt_body (fn := Tryz.f26) (s0 := ⟨[0, 1, 2, 6, 7, 8, 9], [.slc 0 0 (r.length + 1) (.rest 1), .int .i64 ((r.length : Int) + 1), .slc 1 0 1 (.ex 1), .undef, .undef, .undef, .undef], [], 95, ⟨2, [] :: [[(0, .cells (ints (y :: r))), (1, .buf 3 0 [.int .i64 x])]]⟩⟩) Tryz.func26 rfl rfl rfl ?_
  repeat apply wq
  refine wps_region callOK ?_
  simp [zS]
  repeat apply wq
  refine wps_region callOK ?_
  simp [zS, hv]
  repeat apply wq
  refine wps_region callOK ?_
  simp [zS, l1]
  repeat apply wq
  refine wps_region callOK ?_
  simp [zS]
  repeat apply wq
  refine wps_cf rfl ?_
  repeat apply wq
  refine wps_skip ?_
  simp
  repeat apply wq
  refine wps_region callOK ?_
  simp [zS, l0]
  repeat apply wq
  refine wps_region callOK ?_
  simp [zS]
  repeat apply wq
  refine wps_ct rfl ?_
  repeat apply wq
  refine wps_region callOK ?_
  simp [zS, happ']
  repeat apply wq
  refine wps_ret ?_
  simp [retVal, Tryz.f26, oneOr]
  exact fz_ints (L := y :: (r ++ [x])) (by simp [Heap.get, getFs, getF]) (by simp)
theorem insert_any {T : List (Entry Tryz.prog)} (L : List Int) (x : Int) (i : Nat) (hi : i ≤ L.length) (hl : L.length ≤ 1000000) :
  CallAt (ctx T) 26 [ownV 0 1 (L.map aInt), .int .i64 (i : Int), .slc 1 0 1 (.ex 1)] ⟨2, [ownF 0 (L.map aInt) ++ [(1, .buf 3 0 [.int .i64 x])]]⟩ (aInts (insAt L i x)) ⟨2, [[]]⟩ := by
 by_cases h : i = L.length
 ·subst h
  have := insert_end (T := T) L x hl
  rwa [show insAt L L.length x = L ++ [x] by simp [insAt]]
 ·have hL : L ≠ [] := fun e => by subst e; simp at hi h; omega
  obtain ⟨y, r, rfl⟩ : ∃ y r, L = y :: r := by cases L; exact absurd rfl hL; exact ⟨_, _, rfl⟩
  have e : ownV 0 1 ((y :: r).map aInt) = .slc 0 0 (r.length + 1) (.rest 1) := by simp [ownV]
  have eF : ownF 0 ((y :: r).map aInt) = [(0, .cells (ints (y :: r)))] := by
   show [(0, Blk.cells (flatAV ((y :: r).map aInt)))] = _
   rw [show (y :: r).map aInt = ints (y :: r) from rfl, flat_ints]
  rw [e, eF]
  have hlt : i < r.length + 1 := by simp at hi h; omega
  have hc := insert_at (T := T) (H := ⟨2, [[(0, .cells (ints (y :: r))), (1, .buf 3 0 [.int .i64 x])]]⟩) (b := 0) (vb := 1) (n := r.length + 1) (m := 1) (i := i) (cs := ints (y :: r)) (vs := [.int .i64 x]) (t := 3) (by simp [Heap.get, getFs, getF]) (by simp [Heap.get, getFs, getF]) (by omega) (by rw [len_ints]; rfl) rfl hlt (by omega) (single_ints _) rfl (by simp at hl; omega)
  have er : (ints (y :: r)).take i ++ [.int .i64 x] ++ (ints (y :: r)).drop i = ints (insAt (y :: r) i x) := by simp [insAt, ints, aInt]
  rw [er] at hc
  obtain ⟨σ, Φ, f1, f2⟩ := fz_ints (n := 2) (H := Heap.new (Heap.drop ⟨2, [[(0, .cells (ints (y :: r))), (1, .buf 3 0 [.int .i64 x])]]⟩ 0) (.cells (ints (insAt (y :: r) i x)))) (b := 2) (m := r.length + 1 + 1) (cap := .rest 1) (L := insAt (y :: r) i x) (by simp [Heap.drop, killFs, killF, getF, Heap.new, pushF, Heap.get, getFs]) (by simp [insAt]; omega)
  exact hc.post f1 f2
theorem gone {T : List (Entry Tryz.prog)} {f : FuncId} {args args' : List AV} {v : AV} {σ : List (Nat × Nat)} {H H' : Heap} {q : Nat} {F : List (List (Nat × Blk))} (hc : CallAt (ctx T) f args' ⟨q, F⟩ v ⟨q, [[]]⟩) (hv : pureV v = true) (fh : FitH 0 σ [] H ⟨q, F⟩) (hf : fitL σ [] args args') (hn : H'.n = H.n) (sub : H'.ents.Sublist H.ents)
  (out : ∀ e, e ∈ H'.ents → ∀ x, x ∈ σ → x.1 ≠ e.1) : CallAt (ctx T) f args H v H' := by
 have := hc.framed (H' := H') fh hf ⟨by simp [hn], fun nd _ => nd.sublist (sub.map _), fun e he => .inr ⟨sub.subset he, out e he⟩⟩ (Nat.le_refl _)
 rwa [renV_pure _ hv] at this
theorem ints_pure (L : List Int) : pureL (ints L) = true := (el_kid L).pure ▸ (by rw [show L.map aInt = ints L from rfl, flat_ints])
theorem del_row {T : List (Entry Tryz.prog)} (A D : List Int) (c : Int) (hl : A.length + D.length ≤ 1000000) {i j N b n : Nat} {g : List (Nat × Blk)} {fs : List (List (Nat × Blk))} (hi : i = A.length) (hj : j = i + 1) (hN : N = A.length + D.length + 1) (hg : ∀ e, e ∈ g ++ fs.flatten → e.1 ≠ b) :
  CallAt (ctx T) 43 [.slc b 0 N (.rest 1), .int .i64 (i : Int), .int .i64 (j : Int)] ⟨n, ((b, .cells (ints (A ++ c :: D))) :: g) :: fs⟩ (aInts (A ++ D)) ⟨n, g :: fs⟩ := by
 refine gone (σ := [(b, 0)]) (c43 (T := T) A D c hl hi hj hN) (pure_aInts _) ?_ (by simp [fitL, fitV, lookN, pureV]) rfl (by simp [Heap.ents]) ?_
 ·refine ⟨by simp, by simp, by simp [Heap.ents], by simp, fun x hx h => absurd h (Nat.not_lt_zero _), Nat.zero_le _, ?_, fun x h => by cases h⟩
  intro e he
  simp only [Heap.ents, List.flatten_cons, List.flatten_nil, List.append_nil, List.mem_singleton] at he
  subst he
  exact ⟨b, .cells (ints (A ++ c :: D)), by simp, by simp [Heap.get, getFs, getF], fitL_pure (ints_pure _)⟩
 ·intro e he x hx
  simp only [List.mem_singleton] at hx
  subst hx
  exact (hg e (by simpa [Heap.ents] using he)).symm
theorem ins_row {T : List (Entry Tryz.prog)} (L : List Int) (x : Int) (i : Nat) (hi : i ≤ L.length) (hl : L.length ≤ 1000000) {b vb n : Nat} {g : List (Nat × Blk)} {fs : List (List (Nat × Blk))} (hbv : vb ≠ b) (hg : ∀ e, e ∈ g ++ fs.flatten → e.1 ≠ b ∧ e.1 ≠ vb) :
  CallAt (ctx T) 26 [ownV b 1 (L.map aInt), .int .i64 (i : Int), .slc vb 0 1 (.ex 1)] ⟨n, ((vb, .buf 3 0 [.int .i64 x]) :: (ownF b (L.map aInt) ++ g)) :: fs⟩ (aInts (insAt L i x)) ⟨n, g :: fs⟩ := by
 refine gone (σ := [(b, 0), (vb, 1)]) (insert_any (T := T) L x i hi hl) (pure_aInts _) ?_ ?_ rfl ?_ ?_
 ·refine ⟨by simp [Ne.symm hbv], by simp, ?_, ?_, fun x hx h => absurd h (Nat.not_lt_zero _), Nat.zero_le _, ?_, fun x h => by cases h⟩
  ·cases L <;> simp [Heap.ents, ownF]
  ·intro y hy
   simp at hy
   rcases hy with rfl | rfl <;> simp
  ·intro e he
   have h1 : ∃ b' k, (b', 1) ∈ [(b, 0), (vb, 1)] ∧ Heap.get ⟨n, ((vb, .buf 3 0 [.int .i64 x]) :: (ownF b (L.map aInt) ++ g)) :: fs⟩ b' = some k ∧ fitB [(b, 0), (vb, 1)] [] k (.buf 3 0 [.int .i64 x]) := ⟨vb, .buf 3 0 [.int .i64 x], by simp, by simp [Heap.get, getFs, getF], rfl, Nat.le_refl _, Nat.zero_le _, fitL_pure (by simp [pureL, pureV])⟩
   cases L with
   | nil =>
    simp only [Heap.ents, List.map_nil, ownF, List.nil_append, List.flatten_cons, List.flatten_nil, List.append_nil, List.mem_singleton] at he
    subst he
    exact h1
   | cons y r =>
    simp only [Heap.ents, List.map_cons, ownF, List.cons_append, List.nil_append, List.flatten_cons, List.flatten_nil, List.append_nil, List.mem_cons, List.not_mem_nil, or_false] at he
    rcases he with rfl | rfl
    ·exact ⟨b, .cells (flatAV ((y :: r).map aInt)), by simp, by simp [Heap.get, getFs, getF, ownF, beqN_ne hbv], by show fitL _ _ _ _; exact fitL_pure (el_kid (y :: r)).pure⟩
    ·exact h1
 ·cases L <;> simp [fitL, fitV, lookN, ownV, pureV, Ne.symm hbv]
 ·simp only [Heap.ents, List.flatten_cons, List.cons_append, List.append_assoc]
  exact ((List.sublist_append_right _ _)).cons _
 ·intro e he y hy
  obtain ⟨h1, h2⟩ := hg e (by simpa [Heap.ents] using he)
  simp only [List.mem_cons, List.not_mem_nil, or_false] at hy
  rcases hy with rfl | rfl
  ·exact h1.symm
  ·exact h2.symm
noncomputable def e42G : Entry Tryz.prog := mkE 42 [[7], []] (fun x : Tr × Int => [aTree x.1, .int .i64 x.2]) (fun x => ∀ n, n ∈ x.1 → n.kids.length ≤ 1000000) (fun x => .int .i64 (placeT x.1 x.2)) fun x h => c42g (T := [e23, e62]) rfl rfl x.1 h x.2
theorem q42G {T : List (Entry Tryz.prog)} (hT : findE 42 T = some e42G.g) {a : AV} {H : Heap} {t : Tr} (ha : thawA H [7] a = some (aTree t)) (hk : ∀ n, n ∈ t → n.kids.length ≤ 1000000) (i : Int) : callL (ctx T) (.fn 42) [a, .int .i64 i] H = some (.int .i64 (placeT t i), H) :=
 mkE_scalar hT injTI (t, i) hk rfl (by simp [ha])
end Go.Proofs.YtfgdcciaecajpaaGreatDoor