/- Void elements; lists of words; what the library's NoEscape answers. No condition. -/
import Derived.Test.YthclkpplpdnffaaGreatDoorRJ
import Derived.Test.YthclkpplpdnffaaGreatDoorRG
import Derived.Shelf.Strings.Search3
import Derived.Lib.IndexMore
import Derived.Test.YthclkpplpdnffaaGreatDoorProg
import Derived.Test.YthclkpplpdnffaaGreatDoorRH
import Derived.Lib.Builder
namespace Go.Proofs.YthclkpplpdnffaaGreatDoor
set_option linter.unusedSimpArgs false
set_option linter.unusedVariables false
open Go Go.RowKit
set_option maxRecDepth 100000
@[simp] theorem szT102 : sizeT Tryz.prog 102 = some 1 := rfl
@[simp] theorem agT102 : aggT Tryz.prog 102 = some false := rfl
@[simp] theorem byT102 : bytesT Tryz.prog 102 = some 24 := rfl
@[simp] theorem alT102 (H : Heap) : alV Tryz.prog H 102 = some (.ptr H.n 0, H.new (.cells [.nilS])) := rfl
@[simp] theorem zeT102 : zeroOf Tryz.prog 102 = some (.nilS) := rfl
attribute [simp] Tryz.underlying102
@[simp 500] theorem rvF102 (H : Heap) (cs : List AV) (o : Nat) : readVar Tryz.prog H 102 (.fptr cs o) = getL cs o := rfl
@[simp 500] theorem rvP102 (H : Heap) (b o : Nat) : readVar Tryz.prog H 102 (.ptr b o) = (H.get b).bind fun k => k.rd.bind fun cs => getL cs o := rfl
@[simp] theorem slz102 (sz : Nat) (e : AV) (r : List AV) : binA Tryz.prog .eql 102 (.fslc sz (e :: r)) .nilS = some (.bool false) := rfl
@[simp] theorem sln102 (sz : Nat) (e : AV) (r : List AV) : binA Tryz.prog .neq 102 (.fslc sz (e :: r)) .nilS = some (.bool true) := rfl
@[simp] theorem slze102 : binA Tryz.prog .eql 102 .eslc .nilS = some (.bool false) := rfl
@[simp] theorem slzz102 : binA Tryz.prog .eql 102 .nilS .nilS = some (.bool true) := rfl
@[simp] theorem szT105 : sizeT Tryz.prog 105 = some 1 := rfl
@[simp] theorem agT105 : aggT Tryz.prog 105 = some false := rfl
@[simp] theorem byT105 : bytesT Tryz.prog 105 = some 16 := rfl
attribute [simp] Tryz.underlying105
@[simp 500] theorem rvF105 (H : Heap) (cs : List AV) (o : Nat) : readVar Tryz.prog H 105 (.fptr cs o) = getL cs o := rfl
@[simp 500] theorem rvP105 (H : Heap) (b o : Nat) : readVar Tryz.prog H 105 (.ptr b o) = (H.get b).bind fun k => k.rd.bind fun cs => getL cs o := rfl
def cxz : AV := .cplx .f64 0 0
def ngs : AV := .cplx .f64 13830554455654793216 13830554455654793216
def cxs (w : Wk) : List AV := (w.inn.zip w.out).map cx
theorem repl_cx : ∀ (n : Nat), replL [cxz] n = List.replicate n cxz
  | 0 => rfl
  | n + 1 => by simp only [replL, repl_cx n, List.replicate_succ]; rfl
theorem mkCx {H : Heap} {n : Nat} (h : n ≤ 1000000) : makeSliceA Tryz.prog H 102 (.int .i64 (n : Int)) (.int .i64 (n : Int)) = some (.slc H.n 0 n (.ex n), H.new (.cells (List.replicate n cxz))) := by
  have h1 : idx (n : Int) 17592186044416 = some n := idx_nat (by omega)
  have h2 : idx (n : Int) (Nat.succ n) = some n := idx_nat (by omega)
  have hz : zeroOf Tryz.prog 105 = some cxz := by kernel_rfl
  have hs : sizeT Tryz.prog 105 = some 1 := by kernel_rfl
  have hb : bytesT Tryz.prog 105 = some 16 := by kernel_rfl
  have h3 : roomOK n 16 = true := by simp [roomOK]; omega
  simp only [makeSliceA, msB, Tryz.underlying102, Option.bind_some, hs, hb, h1, h2, h3, hz]
  simp [AV.cells, cxz]
  have := repl_cx n
  simp only [cxz] at this
  rw [this]
theorem ixC {b n i : Nat} {cap : Cap} (h : i < n) : indexAddrA Tryz.prog 102 (.slc b 0 n cap) (.int .i64 (i : Int)) = some (.ptr b i) := by
  have hs : sizeT Tryz.prog 105 = some 1 := by kernel_rfl
  simp [indexAddrA, idx_nat h, Tryz.underlying102, hs]
theorem lay_set : ∀ {l : List AV} {i : Nat} {v : AV}, i < l.length → layL [v] i l = some (l.set i v)
  | [], i, v, h => absurd h (Nat.not_lt_zero i)
  | x :: r, 0, v, h => rfl
  | x :: r, i + 1, v, h => by
    show ((layL _ i r).bind fun r' => some (_ :: r')) = _
    rw [lay_set (l := r) (by simpa using h)]; rfl
def row0 (n i : Nat) : List AV := List.replicate i ngs ++ List.replicate (n - i) cxz
theorem lay0 {n i : Nat} (h : i < n) : layL [ngs] i (row0 n i) = some (row0 n (i + 1)) := by
  rw [lay_set (by simp [row0]; omega)]
  congr 1
  apply List.ext_getElem
  · simp [row0]; omega
  · intro k h1 h2
    simp only [row0, List.getElem_set, List.getElem_append, List.length_replicate, List.getElem_replicate]
    by_cases hk : i = k
    · subst hk; simp
    · by_cases hk2 : k < i
      · simp [hk, hk2, show k < i + 1 by omega]
      · simp [hk, hk2, show ¬ k < i + 1 by omega]
theorem row0_end (n : Nat) : row0 n n = cxs (w0 n) := by
  have : cx (-1, -1) = ngs := rfl
  simp [row0, cxs, w0, List.zip_replicate', this]
theorem pure_row0 (n i : Nat) : pureL (row0 n i) = true := by
  have h : ∀ (l : List AV), (∀ x, x ∈ l → pureV x = true) → pureL l = true := by
    intro l
    induction l with
    | nil => intro _; rfl
    | cons x r ih => intro hx; simp only [pureL, hx x (by simp), ih fun y hy => hx y (by simp [hy])]; rfl
  refine h _ fun x hx => ?_
  simp only [row0, List.mem_append, List.mem_replicate] at hx
  rcases hx with ⟨_, rfl⟩ | ⟨_, rfl⟩ <;> rfl
theorem pure_cxs (w : Wk) : pureL (cxs w) = true := by
  unfold cxs
  induction w.inn.zip w.out with
  | nil => rfl
  | cons x r ih => simp only [List.map_cons, pureL, cx, pureV, ih]; rfl
theorem len_cxs {w : Wk} {n : Nat} (h1 : w.inn.length = n) (h2 : w.out.length = n) : (cxs w).length = n := by simp [cxs, h1, h2]
theorem zip_set1 {a b : List Int} {i : Nat} {x : Int} (h : i < b.length) (hab : a.length = b.length) : (a.set i x).zip b = (a.zip b).set i (x, b[i]) := by
  apply List.ext_getElem
  · simp
  · intro k h1 h2
    simp only [List.getElem_zip, List.getElem_set]
    by_cases hk : i = k
    · subst hk; simp
    · simp [hk]
theorem zip_set2 {a b : List Int} {i : Nat} {x : Int} (h : i < a.length) (hab : a.length = b.length) : a.zip (b.set i x) = (a.zip b).set i (a[i], x) := by
  apply List.ext_getElem
  · simp
  · intro k h1 h2
    simp only [List.getElem_zip, List.getElem_set]
    by_cases hk : i = k
    · subst hk; simp
    · simp [hk]
theorem cxs_into {w : Wk} {n i : Nat} (h1 : w.inn.length = n) (h2 : w.out.length = n) (hi : i < n) (ho : w.out.getD i 0 = -1) : layL [cx (w.c, -1)] i (cxs w) = some (cxs (into i w)) := by
  rw [lay_set (by rw [len_cxs h1 h2]; exact hi)]
  have e : w.out[i]'(by omega) = -1 := by rwa [List.getD_eq_getElem?_getD, List.getElem?_eq_getElem (by omega), Option.getD_some] at ho
  show _ = some (((w.inn.set i w.c).zip w.out).map cx)
  rw [zip_set1 (by omega) (by omega), List.map_set, e]
  rfl
theorem cxs_outof {w : Wk} {n i : Nat} (h1 : w.inn.length = n) (h2 : w.out.length = n) (hi : i < n) : layL [cx (w.inn[i]'(by omega), w.c)] i (cxs w) = some (cxs (outof i w)) := by
  rw [lay_set (by rw [len_cxs h1 h2]; exact hi)]
  show _ = some ((w.inn.zip (w.out.set i w.c)).map cx)
  rw [zip_set2 (by omega) (by omega), List.map_set]
  rfl
theorem get_cxs {w : Wk} {n i : Nat} (h1 : w.inn.length = n) (h2 : w.out.length = n) (hi : i < n) : getL (cxs w) i = some (.cplx .f64 (fl (w.inn[i]'(by omega))) (fl (w.out[i]'(by omega)))) := by
  rw [getL_get (by rw [len_cxs h1 h2]; exact hi)]
  simp [cxs, cx]
noncomputable def asM : Code := match Tryz.f79.body with
  | some c => match rgOf c with
    | some x => x.1
    | none => .skip
  | none => .skip
noncomputable def bdM : Code := match Tryz.f79.body with
  | some c => match rgOf c with
    | some x => x.2
    | none => .skip
  | none => .skip
noncomputable def LBm (st : LoopState) (t : Tr) : Blk := .loop st none [0, 1, 2, 3, 4, 5, 11, 12, 20, 21] [aTree t, .ptr 0 0, .nilS, .ptr 2 0, .undef, .undef, .undef, .undef, fW t, .undef] [] 45 [21] asM bdM
noncomputable def hcR (t : Tr) (R : List AV) : List (Nat × Blk) := [(3, LBm .ready t), (2, .cells [.slc 1 0 t.length (.ex t.length)]), (1, .cells R), (0, .cells [aNodes t])]
noncomputable def hcM (t : Tr) (w : Wk) : List (Nat × Blk) := hcR t (cxs w)
theorem hcR_fit {t : Tr} {R : List AV} (hR : pureL R = true) (σ : List (Nat × Nat)) (h0 : lookN 0 σ = some 0) (h1 : lookN 1 σ = some 1) (h2 : lookN 2 σ = some 2) (h3 : lookN 3 σ = some 3) : ∀ e, e ∈ hcR t R → fitB σ [] e.2 e.2 := by
  intro e he
  simp only [hcR, List.mem_cons, List.not_mem_nil, or_false] at he
  rcases he with rfl | rfl | rfl | rfl
  · simp [LBm, fitB, fitL, fitV, h0, h1, h2, h3, fitV_pure, pure_fW]
  · simp [fitB, fitL, fitV, h1]
  · exact fitL_pure hR
  · exact fitL_pure (by simp [pureL])
theorem fitY {n k m : Nat} {t : Tr} {R : List AV} (hR : pureL R = true) {top : List (Nat × Blk)} {P : List (Nat × Nat)} {s : List Bool} (ht : ∀ b, b < 7 → getF b top = none) (hn : n ≤ k) (hk : 7 ≤ k) :
    FitH n [(6, 6), (5, 5), (3, 3), (2, 2), (1, 1), (0, 0)] [] ⟨m, [top, [(6, .cells (frs P)), (5, .cells (bls s))], hcR t R]⟩ ⟨k, [fR P s, hcR t R]⟩ := by
  refine .same (by simp) (by simp) (by simp; omega) hn (by simp [fR, hcR, Heap.ents]) ?_
  intro e he
  have hf := hcR_fit (t := t) hR [(6, 6), (5, 5), (3, 3), (2, 2), (1, 1), (0, 0)] (by simp [lookN]) (by simp [lookN]) (by simp [lookN]) (by simp [lookN])
  simp only [fR, hcR, Heap.ents, List.flatten_cons, List.flatten_nil, List.append_nil, List.cons_append, List.nil_append, List.mem_cons, List.not_mem_nil, or_false] at he
  rcases he with rfl | rfl | rfl | rfl | rfl | rfl
  · exact ⟨by simp, by simp [Heap.get, getFs, ht, getF], fitL_pure (pure_frs _)⟩
  · exact ⟨by simp, by simp [Heap.get, getFs, ht, getF], fitL_pure (pure_bls _)⟩
  · exact ⟨by simp, by simp [Heap.get, getFs, ht, getF, hcR], hf _ (by simp [hcR])⟩
  · exact ⟨by simp, by simp [Heap.get, getFs, ht, getF, hcR], hf _ (by simp [hcR])⟩
  · exact ⟨by simp, by simp [Heap.get, getFs, ht, getF, hcR], hf _ (by simp [hcR])⟩
  · exact ⟨by simp, by simp [Heap.get, getFs, ht, getF, hcR], hf _ (by simp [hcR])⟩
theorem fitY0 {k m : Nat} {t : Tr} {R : List AV} (hR : pureL R = true) {top : List (Nat × Blk)} (ht : ∀ b, b < 4 → getF b top = none) (hk : 4 ≤ k) :
    FitH 4 [(3, 3), (2, 2), (1, 1), (0, 0)] [] ⟨m, [top, [], hcR t R]⟩ ⟨k, [[], hcR t R]⟩ := by
  refine .same (by simp) (by simp) (by simp; omega) hk (by simp [hcR, Heap.ents]) ?_
  intro e he
  have hf := hcR_fit (t := t) hR [(3, 3), (2, 2), (1, 1), (0, 0)] (by simp [lookN]) (by simp [lookN]) (by simp [lookN]) (by simp [lookN])
  simp only [hcR, Heap.ents, List.flatten_cons, List.flatten_nil, List.append_nil, List.nil_append, List.mem_cons, List.not_mem_nil, or_false] at he
  rcases he with rfl | rfl | rfl | rfl
  · exact ⟨by simp, by simp [Heap.get, getFs, ht, getF, hcR], hf _ (by simp [hcR])⟩
  · exact ⟨by simp, by simp [Heap.get, getFs, ht, getF, hcR], hf _ (by simp [hcR])⟩
  · exact ⟨by simp, by simp [Heap.get, getFs, ht, getF, hcR], hf _ (by simp [hcR])⟩
  · exact ⟨by simp, by simp [Heap.get, getFs, ht, getF, hcR], hf _ (by simp [hcR])⟩
theorem m_first {T : List (Entry Tryz.prog)} (t : Tr) (hpos : 0 < t.length) : YieldAt (ctx T) 3 [stepV 0 (-1) 0 false] ⟨4, [[], hcM t (w0 t.length)]⟩ (.bool true) ⟨5, [[], hcM t (into 0 (w0 t.length))]⟩ := by
  generalize hH' : (⟨5, [[], hcM t (into 0 (w0 t.length))]⟩ : Heap) = H'
  have hly : layL [.cplx .f64 0 13830554455654793216] 0 (cxs (w0 t.length)) = some (cxs (into 0 (w0 t.length))) := cxs_into (w := w0 t.length) (n := t.length) (by simp [w0]) (by simp [w0]) hpos (by simp [w0, List.getD_eq_getElem?_getD, hpos])
  have hix : ∀ b cap, indexAddrA Tryz.prog 102 (.slc b 0 t.length cap) (.int .i64 0) = some (.ptr b 0) := fun b cap => by simpa using ixC (b := b) (cap := cap) hpos
  refine yieldAt_body (b := 3) (pend := none) (ks := [0, 1, 2, 3, 4, 5, 11, 12, 20, 21]) (vs := [aTree t, .ptr 0 0, .nilS, .ptr 2 0, .undef, .undef, .undef, .undef, fW t, .undef]) (ts := []) (sz := 45) (ps := [21]) (assign := asM) (body := bdM)
    (s1 := ⟨[0, 1, 2, 3, 4, 5, 11, 12, 20, 21], [aTree t, .ptr 0 0, .nilS, .ptr 2 0, .undef, .undef, .undef, .undef, fW t, stepV 0 (-1) 0 false], [], 45, ⟨4, [[], [], hcM t (w0 t.length)]⟩⟩) rfl rfl fun l => ?_
  simp only [asM, rgOf, Tryz.f79, hcM, hcR, stepV]
  repeat refine wps_seq ?_
  refine wps_region callOK ?_
  simp [zS, LBm]
  refine ⟨_, _, _, _, _, _, _, _, ⟨rfl, rfl, rfl, rfl, rfl, rfl, rfl, rfl⟩, ?_⟩
  obtain ⟨LBb, hLBb⟩ : ∃ LBb, LBb = LBm .busy t := ⟨_, rfl⟩
  have hLBb' := hLBb
  unfold LBm at hLBb'
  rw [← hLBb']
  simp only [bdM, rgOf, Tryz.f79]
  repeat refine wps_seq ?_
  refine wps_block ?_
  repeat refine wps_seq ?_
  refine wps_region callOK ?_
  simp [zS]
  repeat refine wps_seq ?_
  refine wps_cond (t := false) rfl (fun h => by cases h) fun _ => ?_
  repeat refine wps_seq ?_
  refine wps_region callOK ?_
  simp [zS, hix, hly]
  subst hH'
  exact ⟨_, _, _, _, _, _, _, _, _, hLBb', rfl, _, [], fitY0 (t := t) (pure_cxs _) (fun b hb => getF_one (by omega)) (by omega)⟩
theorem m_enter {T : List (Entry Tryz.prog)} (t : Tr) (P : List (Nat × Nat)) (s : List Bool) (w : Wk) (c i u : Nat) (hc : w.c = ((c + 1 : Nat) : Int)) (hb : c < 110) (hi : i < t.length) (hl1 : w.inn.length = t.length) (hl2 : w.out.length = t.length) (ho : w.out.getD i 0 = -1) :
    YieldAt (ctx T) 3 [stepV i u (cnt c) false] ⟨30, [fR P s, hcM t w]⟩ (.bool true) ⟨31, [fR P s, hcM t (into i w)]⟩ := by
  generalize hH' : (⟨31, [fR P s, hcM t (into i w)]⟩ : Heap) = H'
  have hly : layL [.cplx .f64 (cnt c) 13830554455654793216] i (cxs w) = some (cxs (into i w)) := by
    have := cxs_into hl1 hl2 hi ho
    rwa [hc, cx, ← fl_cnt (by omega)] at this
  refine yieldAt_body (b := 3) (pend := none) (ks := [0, 1, 2, 3, 4, 5, 11, 12, 20, 21]) (vs := [aTree t, .ptr 0 0, .nilS, .ptr 2 0, .undef, .undef, .undef, .undef, fW t, .undef]) (ts := []) (sz := 45) (ps := [21]) (assign := asM) (body := bdM)
    (s1 := ⟨[0, 1, 2, 3, 4, 5, 11, 12, 20, 21], [aTree t, .ptr 0 0, .nilS, .ptr 2 0, .undef, .undef, .undef, .undef, fW t, stepV i u (cnt c) false], [], 45, ⟨30, [[], fR P s, hcM t w]⟩⟩) rfl rfl fun l => ?_
  simp only [asM, rgOf, Tryz.f79, hcM, hcR, fR, stepV]
  repeat refine wps_seq ?_
  refine wps_region callOK ?_
  simp [zS, LBm]
  refine ⟨_, _, _, _, _, _, _, _, ⟨rfl, rfl, rfl, rfl, rfl, rfl, rfl, rfl⟩, ?_⟩
  obtain ⟨LBb, hLBb⟩ : ∃ LBb, LBb = LBm .busy t := ⟨_, rfl⟩
  have hLBb' := hLBb
  unfold LBm at hLBb'
  rw [← hLBb']
  simp only [bdM, rgOf, Tryz.f79]
  repeat refine wps_seq ?_
  refine wps_block ?_
  repeat refine wps_seq ?_
  refine wps_region callOK ?_
  simp [zS]
  repeat refine wps_seq ?_
  refine wps_cond (t := false) rfl (fun h => by cases h) fun _ => ?_
  repeat refine wps_seq ?_
  refine wps_region callOK ?_
  simp [zS, ixC hi, hly]
  subst hH'
  exact ⟨_, _, _, _, _, _, _, _, _, hLBb', rfl, _, [], fitY (t := t) (pure_cxs _) (fun b hb => getF_one (by omega)) (by omega) (by omega)⟩
theorem m_leave {T : List (Entry Tryz.prog)} (t : Tr) (P : List (Nat × Nat)) (s : List Bool) (w : Wk) (c i : Nat) (hc : w.c = ((c + 1 : Nat) : Int)) (hb : c < 110) (hi : i < t.length) (hl1 : w.inn.length = t.length) (hl2 : w.out.length = t.length) :
    YieldAt (ctx T) 3 [stepV i 0 (cnt c) true] ⟨17, [fR P s, hcM t w]⟩ (.bool true) ⟨17, [fR P s, hcM t (outof i w)]⟩ := by
  generalize hH' : (⟨17, [fR P s, hcM t (outof i w)]⟩ : Heap) = H'
  have hly : layL [.cplx .f64 (fl (w.inn[i]'(by omega))) (cnt c)] i (cxs w) = some (cxs (outof i w)) := by
    have := cxs_outof hl1 hl2 hi
    rwa [hc, cx, ← fl_cnt (by omega)] at this
  have hgt := get_cxs hl1 hl2 hi
  refine yieldAt_body (b := 3) (pend := none) (ks := [0, 1, 2, 3, 4, 5, 11, 12, 20, 21]) (vs := [aTree t, .ptr 0 0, .nilS, .ptr 2 0, .undef, .undef, .undef, .undef, fW t, .undef]) (ts := []) (sz := 45) (ps := [21]) (assign := asM) (body := bdM)
    (s1 := ⟨[0, 1, 2, 3, 4, 5, 11, 12, 20, 21], [aTree t, .ptr 0 0, .nilS, .ptr 2 0, .undef, .undef, .undef, .undef, fW t, stepV i 0 (cnt c) true], [], 45, ⟨17, [[], fR P s, hcM t w]⟩⟩) rfl rfl fun l => ?_
  simp only [asM, rgOf, Tryz.f79, hcM, hcR, fR, stepV]
  repeat refine wps_seq ?_
  refine wps_region callOK ?_
  simp [zS, LBm]
  refine ⟨_, _, _, _, _, _, _, _, ⟨rfl, rfl, rfl, rfl, rfl, rfl, rfl, rfl⟩, ?_⟩
  obtain ⟨LBb, hLBb⟩ : ∃ LBb, LBb = LBm .busy t := ⟨_, rfl⟩
  have hLBb' := hLBb
  unfold LBm at hLBb'
  rw [← hLBb']
  simp only [bdM, rgOf, Tryz.f79]
  repeat refine wps_seq ?_
  refine wps_block ?_
  repeat refine wps_seq ?_
  refine wps_region callOK ?_
  simp [zS]
  repeat refine wps_seq ?_
  refine wps_cond (t := true) rfl (fun _ => ?_) fun h => by cases h
  repeat refine wps_seq ?_
  refine wps_drawn mixed callOK (by decide +kernel) fun B_ hB_ => ?_
  have d_0_8 : ahead B_ 0 8 = false := by rw [hB_]; decide +kernel
  have d_0_11 : ahead B_ 0 11 = false := by rw [hB_]; decide +kernel
  have d_0_13 : ahead B_ 0 13 = true := by rw [hB_]; decide +kernel
  have d_2_8 : ahead B_ 2 8 = false := by rw [hB_]; decide +kernel
  have d_2_11 : ahead B_ 2 11 = false := by rw [hB_]; decide +kernel
  have d_2_13 : ahead B_ 2 13 = true := by rw [hB_]; decide +kernel
  have d_3_8 : ahead B_ 3 8 = true := by rw [hB_]; decide +kernel
  have d_3_11 : ahead B_ 3 11 = true := by rw [hB_]; decide +kernel
  have d_3_13 : ahead B_ 3 13 = true := by rw [hB_]; decide +kernel
  have d_5_8 : ahead B_ 5 8 = true := by rw [hB_]; decide +kernel
  have d_5_11 : ahead B_ 5 11 = true := by rw [hB_]; decide +kernel
  have d_5_13 : ahead B_ 5 13 = true := by rw [hB_]; decide +kernel
  have d_7_8 : ahead B_ 7 8 = true := by rw [hB_]; decide +kernel
  have d_7_11 : ahead B_ 7 11 = true := by rw [hB_]; decide +kernel
  have d_7_13 : ahead B_ 7 13 = true := by rw [hB_]; decide +kernel
  have d_8_0 : ahead B_ 8 0 = false := by rw [hB_]; decide +kernel
  have d_8_2 : ahead B_ 8 2 = false := by rw [hB_]; decide +kernel
  have d_8_3 : ahead B_ 8 3 = false := by rw [hB_]; decide +kernel
  have d_8_5 : ahead B_ 8 5 = false := by rw [hB_]; decide +kernel
  have d_8_7 : ahead B_ 8 7 = false := by rw [hB_]; decide +kernel
  have d_8_10 : ahead B_ 8 10 = false := by rw [hB_]; decide +kernel
  have d_10_8 : ahead B_ 10 8 = false := by rw [hB_]; decide +kernel
  have d_10_11 : ahead B_ 10 11 = true := by rw [hB_]; decide +kernel
  have d_10_13 : ahead B_ 10 13 = true := by rw [hB_]; decide +kernel
  have d_11_0 : ahead B_ 11 0 = false := by rw [hB_]; decide +kernel
  have d_11_2 : ahead B_ 11 2 = false := by rw [hB_]; decide +kernel
  have d_11_3 : ahead B_ 11 3 = false := by rw [hB_]; decide +kernel
  have d_11_5 : ahead B_ 11 5 = false := by rw [hB_]; decide +kernel
  have d_11_7 : ahead B_ 11 7 = false := by rw [hB_]; decide +kernel
  have d_11_10 : ahead B_ 11 10 = false := by rw [hB_]; decide +kernel
  have d_13_0 : ahead B_ 13 0 = false := by rw [hB_]; decide +kernel
  have d_13_2 : ahead B_ 13 2 = false := by rw [hB_]; decide +kernel
  have d_13_3 : ahead B_ 13 3 = false := by rw [hB_]; decide +kernel
  have d_13_5 : ahead B_ 13 5 = false := by rw [hB_]; decide +kernel
  have d_13_7 : ahead B_ 13 7 = false := by rw [hB_]; decide +kernel
  have d_13_10 : ahead B_ 13 10 = false := by rw [hB_]; decide +kernel
  simp [zS, mkBlk, guardA, evalD, stepD, clsOf, reserve, freshenAll, sameRecs, sameAll, sameAt, allPend, Heap.lay, ontoF, wantedBy, unwantedBy, d_0_8, d_0_11, d_0_13, d_2_8, d_2_11, d_2_13, d_3_8, d_3_11, d_3_13, d_5_8, d_5_11, d_5_13, d_7_8, d_7_11, d_7_13, d_8_0, d_8_2, d_8_3, d_8_5, d_8_7, d_8_10, d_10_8, d_10_11, d_10_13, d_11_0, d_11_2, d_11_3, d_11_5, d_11_7, d_11_10, d_13_0, d_13_2, d_13_3, d_13_5, d_13_7, d_13_10, ixC hi, hly, hgt]
  subst hH'
  exact ⟨_, _, _, _, _, _, _, _, _, hLBb', rfl, _, [], fitY (t := t) (pure_cxs _) (fun b hb => getF_one (by omega)) (by omega) (by omega)⟩
theorem roundsM {T : List (Entry Tryz.prog)} (t : Tr) (hpos : 0 < t.length) : RoundsW T t (hcM t) where
  ids := fun w => rfl
  fit := fun w σ h0 h1 h2 h3 e he => hcR_fit (pure_cxs w) σ h0 h1 h2 h3 e he
  first := m_first t hpos
  leave := fun P s w c i a b d e f => m_leave t P s w c i a b d e f
  enter := fun P s w c i u a b d e f g => m_enter t P s w c i u a b d e f g
def hM (m : Nat) (t : Tr) (R : List AV) : Heap := ⟨m, [[(2, .cells [.slc 1 0 t.length (.ex t.length)]), (1, .cells R), (0, .cells [aNodes t])]]⟩
theorem fit_M {t : Tr} {R : List AV} (hR : pureL R = true) {m : Nat} : FitH 0 [(2, 2), (1, 1), (0, 0)] [] (hM m t R) (hM 3 t R) := by
  refine .same (by simp) (by simp) (by simp [hM]) (by simp) (by simp [hM, Heap.ents]) ?_
  intro e he
  simp [hM, Heap.ents] at he
  rcases he with rfl | rfl | rfl
  · exact ⟨by simp, by simp [hM, Heap.get, getFs, getF], by simp [fitB, fitL, fitV, lookN]⟩
  · exact ⟨by simp, by simp [hM, Heap.get, getFs, getF], fitL_pure hR⟩
  · exact ⟨by simp, by simp [hM, Heap.get, getFs, getF], fitL_pure (by simp [pureL])⟩
def sM (t : Tr) (H : Heap) : St := ⟨[0, 1, 2, 3, 4, 5, 11, 12, 20, 21], [aTree t, .ptr 0 0, .nilS, .ptr 2 0, .undef, .undef, .undef, .undef, fW t, .undef], [], 45, H⟩
theorem range_M {T : List (Entry Tryz.prog)} (t : Tr) {call : CallE} (hc : call (.fn 115) [.yld 3, .fptr [aNodes t] 0] ⟨4, [hcM t (w0 t.length)]⟩ = some (.tup [], ⟨4, [hcM t (wkOf t.length (kidsOf t))]⟩)) :
    evalRange (ctx T) call (.tmp 20) #[21] asM bdM (sM t (hM 3 t (cxs (w0 t.length)))) = some (.normal, sM t (hM 4 t (cxs (wkOf t.length (kidsOf t))))) := by
  have hent : entersF (ctx T) 115 = true := by kernel_rfl
  have ho : opnd (sM t (hM 3 t (cxs (w0 t.length)))) (.tmp 20) = some (.func (.func 115) [] [.fptr [aNodes t] 0]) := rfl
  unfold evalRange
  rw [ho]
  simp only [Option.bind_some, hent]
  have e : call (.fn 115) ([] ++ [.yld (sM t (hM 3 t (cxs (w0 t.length)))).H.n] ++ [.fptr [aNodes t] 0]) ((sM t (hM 3 t (cxs (w0 t.length)))).H.new (.loop .ready none (sM t (hM 3 t (cxs (w0 t.length)))).ks (sM t (hM 3 t (cxs (w0 t.length)))).vs (sM t (hM 3 t (cxs (w0 t.length)))).ts (sM t (hM 3 t (cxs (w0 t.length)))).sz (#[21] : Array Nat).toList asM bdM)) = _ := hc
  rw [e]
  rfl
theorem flat_cx : ∀ (l : List (Int × Int)), flatAV (l.map cx) = l.map cx
  | [] => rfl
  | x :: r => by rw [List.map_cons, flatAV, flat_cx r]; rfl
theorem el_cx (l : List (Int × Int)) : Elems 1 (l.map cx) := Elems.map (sz := 1) (f := cx) (by decide) (fun x => ⟨rfl, rfl, fun _ => rfl, fun h => absurd rfl h⟩) l
theorem wk_ok {n : Nat} {ks : Nat → List Int} (hn : 0 < n) : WOK n n (wkOf n ks) := by
  rw [wkOf, if_neg (by omega)]
  exact (vis_ok (ks := ks) n 0 0 (w0 n) (Int.le_refl 0) (w0_ok n) hn (by simp [w0, List.getD_eq_getElem?_getD, hn]) (by simp [w0, negs_rep])).1.1
theorem c79 {T : List (Entry Tryz.prog)} (hW : findE 82 T = some e82.g) (t : Tr) (ht : smallTr t) (hpos : 0 < t.length) : CallAt (ctx T) 79 [aTree t] ⟨0, []⟩ (.fslc 1 (cxs (wkOf t.length (kidsOf t)))) ⟨0, []⟩ := by
  have hn := ht.1
  have hk := fun H => k82 hW t H
  have hcall := walkW (T := T) t hn hpos (fun x hx => (ht.2.2 x hx).1) (hcM t) (roundsM t hpos)
  simp only [aTree] at hk
  refine callAt_body (fn := Tryz.f79) (s0 := ⟨[0, 1, 2, 3, 4, 5, 11, 12, 20, 21], [aTree t, .undef, .undef, .undef, .undef, .undef, .undef, .undef, .undef, .undef], [], 45, ⟨0, [[]]⟩⟩) Tryz.func79 rfl rfl rfl ?_
  repeat refine wps_seq ?_
  refine wps_region callOK ?_
  simp [zS, aTree]
  repeat refine wps_seq ?_
  refine wps_region callOK ?_
  simp [zS, lenN, mkCx (show t.length ≤ 1000000 by omega), promote, getF]
  repeat refine wps_seq ?_
  refine wps_region callOK ?_
  simp [zS, lenA]
  repeat refine wps_seq ?_
  refine wps_block (wps_loop' (fun i : Nat => (⟨[0, 1, 2, 3, 4, 5, 11, 12, 20, 21], [aTree t, .ptr 0 0, .nilS, .ptr 2 0, .undef, .undef, .int .i64 (t.length : Nat), .int .i64 i, .undef, .undef], [], 45, hM 3 t (row0 t.length i)⟩ : St))
    (fun i => i ≤ t.length) (fun i => t.length - i) [(2, 2), (1, 1), (0, 0)] [] 0 (Nat.zero_le _) ⟨rfl, rfl, rfl, by simp [fitL, fitV, lookN, pureV, pureL, aTree], FitH.eqL (by simp [hM, row0]) (fit_M (m := 3) (pure_row0 _ _))⟩ ?_)
  · rintro i hi B hB
    repeat refine wps_seq ?_
    refine wps_region callOK ?_
    simp [zS]
    repeat refine wps_seq ?_
    refine wps_cond rfl (fun h => ?_) fun h => ?_
    · simp at h
      repeat refine wps_seq ?_
      refine wps_skip ?_
      simp
      repeat refine wps_seq ?_
      refine wps_block ?_
      repeat refine wps_seq ?_
      refine wps_region callOK ?_
      simp [zS]
      have hly := lay0 h
      simp only [ngs] at hly
      repeat refine wps_seq ?_
      refine wps_region callOK ?_
      simp [zS, hM, ixC h, hly]
      repeat refine wps_seq ?_
      refine wps_region callOK ?_
      simp [zS, add_one (show i ≤ 1000000000 by omega)]
      exact hB _ (i + 1) (by omega) (by omega) ⟨[(2, 2), (1, 1), (0, 0)], [], rfl, rfl, rfl, by simp [fitL, fitV, lookN, pureV, pureL, aTree], fit_M (m := 3) (pure_row0 _ _)⟩
    · simp at h
      have hi' : i = t.length := by omega
      subst hi'
      repeat refine wps_seq ?_
      refine wps_exit ?_
      simp
      repeat refine wps_seq ?_
      refine wps_region callOK ?_
      simp [zS, hM, hk]
      repeat refine wps_seq ?_
      refine wps_block (.fit [(2, 2), (1, 1), (0, 0)] [] (s' := sM t (hM 3 t (cxs (w0 t.length)))) ⟨rfl, rfl, rfl, by simp [sM, fitL, fitV, lookN, pureV, pureL, aTree, fW], by rw [← row0_end]; exact fit_M (m := 3) (pure_row0 _ _)⟩ ?_)
      refine wps_range (callOKF [⟨115, _, _, _, _, hcall⟩]) ⟨.normal, _, range_M (T := T) t (by simp [callF]), ?_⟩
      simp [sM, hM]
      repeat refine wps_seq ?_
      refine wps_region callOK ?_
      simp [zS]
      repeat refine wps_seq ?_
      refine wps_ret ?_
      simp [retVal, Tryz.f79, oneOr]
      have hw := wk_ok (n := t.length) (ks := kidsOf t) hpos
      have hl : (cxs (wkOf t.length (kidsOf t))).length = t.length := len_cxs hw.li hw.lo
      have he := el_cx ((wkOf t.length (kidsOf t)).inn.zip (wkOf t.length (kidsOf t)).out)
      exact ends_front (sz := 1) (es := cxs (wkOf t.length (kidsOf t))) he (by rw [cxs, flat_cx]; simp [Heap.get, getFs, getF, cxs]) (by omega) (List.take_of_length_le (by omega)).symm
noncomputable def e79 : Entry Tryz.prog := mkE 79 [[]] (fun t : Tr => [aTree t]) (fun t => smallTr t ∧ 0 < t.length) (fun t => .fslc 1 (cxs (wkOf t.length (kidsOf t)))) fun t ht => c79 (T := [e82]) rfl t ht.1 ht.2
theorem k79 {T : List (Entry Tryz.prog)} (hT : findE 79 T = some e79.g) {t : Tr} (ht : smallTr t) (hpos : 0 < t.length) (H : Heap) : callL (ctx T) (.fn 79) [aTree t] H = some (.fslc 1 (cxs (wkOf t.length (kidsOf t))), H) :=
  mkE_pure hT injT t ⟨ht, hpos⟩ (by simp [pureL]) (by simp [thawL, th_aTree]) H
theorem c80 {T : List (Entry Tryz.prog)} (p q : Int × Int) (hp : okM p) (hq : okM q) : CallAt (ctx T) 80 [cx p, cx q] ⟨0, []⟩ (.bool (insB p q)) ⟨0, []⟩ := by
  have np := fl_neg hp.1.1 hp.1.2
  have nq := fl_neg hq.1.1 hq.1.2
  obtain ⟨d, d1, d2, d3⟩ := fl_sub hp.1.1 hp.1.2 hq.1.1 hq.1.2
  obtain ⟨e, e1, e2, e3⟩ := fl_sub hp.2.1 hp.2.2 hq.2.1 hq.2.2
  refine callAt_body (fn := Tryz.f80) (s0 := ⟨[0, 1, 4, 5], [.cplx .f64 (fl p.1) (fl p.2), .cplx .f64 (fl q.1) (fl q.2), .undef, .undef], [], 25, ⟨0, [[]]⟩⟩) Tryz.func80 rfl rfl rfl ?_
  repeat refine wps_seq ?_
  refine wps_region callOK ?_
  simp [zS]
  by_cases c1 : p.1 < 0
  · repeat refine wps_seq ?_
    refine wps_region callOK ?_
    simp [zS, np, nq, c1]
    repeat refine wps_seq ?_
    refine wps_cond (t := true) rfl (fun _ => ?_) fun h => by cases h
    repeat refine wps_seq ?_
    refine wps_region callOK ?_
    simp [zS]
    repeat refine wps_seq ?_
    refine wps_ret ?_
    simp [retVal, Tryz.f80, oneOr, thenQ, blockQ]
    exact ends_pure rfl (by simp [insB]; intros; omega)
  · by_cases c2 : q.1 < 0
    · repeat refine wps_seq ?_
      refine wps_region callOK ?_
      simp [zS, np, nq, c1, c2]
      repeat refine wps_seq ?_
      refine wps_cond (t := true) rfl (fun _ => ?_) fun h => by cases h
      repeat refine wps_seq ?_
      refine wps_region callOK ?_
      simp [zS]
      repeat refine wps_seq ?_
      refine wps_ret ?_
      simp [retVal, Tryz.f80, oneOr, thenQ, blockQ]
      exact ends_pure rfl (by simp [insB]; intros; omega)
    · repeat refine wps_seq ?_
      refine wps_region callOK ?_
      simp [zS, np, nq, c1, c2]
      repeat refine wps_seq ?_
      refine wps_cond (t := false) rfl (fun h => by cases h) fun _ => ?_
      repeat refine wps_seq ?_
      refine wps_skip ?_
      simp
      repeat refine wps_seq ?_
      refine wps_region callOK ?_
      simp [zS, d1, e1]
      by_cases c3 : q.1 < p.1
      · repeat refine wps_seq ?_
        refine wps_region callOK ?_
        simp [zS, d2, e3, c3]
        repeat refine wps_seq ?_
        refine wps_ret ?_
        simp [retVal, Tryz.f80, oneOr, thenQ, blockQ]
        exact ends_pure rfl (by simp [insB, c3, Int.not_lt.1 c1, Int.not_lt.1 c2])
      · repeat refine wps_seq ?_
        refine wps_region callOK ?_
        simp [zS, d2, e3, c3]
        repeat refine wps_seq ?_
        refine wps_ret ?_
        simp [retVal, Tryz.f80, oneOr, thenQ, blockQ]
        exact ends_pure rfl (by simp [insB, c3])
theorem inj_cx {p q : Int × Int} (hp : okM p) (hq : okM q) (h : cx p = cx q) : p = q := by
  simp only [cx, AV.cplx.injEq] at h
  exact Prod.ext (fl_inj hp.1.1 hp.1.2 hq.1.1 hq.1.2 h.2.1) (fl_inj hp.2.1 hp.2.2 hq.2.1 hq.2.2 h.2.2)
abbrev Mk1 := { p : Int × Int // okM p }
theorem injMM (x y : Mk1 × Mk1) (h : [cx x.1.1, cx x.2.1] = [cx y.1.1, cx y.2.1]) : x = y := by
  simp only [List.cons.injEq] at h
  exact Prod.ext (Subtype.ext (inj_cx x.1.2 y.1.2 h.1)) (Subtype.ext (inj_cx x.2.2 y.2.2 h.2.1))
noncomputable def e80 : Entry Tryz.prog := mkE 80 [[], []] (fun x : Mk1 × Mk1 => [cx x.1.1, cx x.2.1]) (fun _ => True) (fun x => .bool (insB x.1.1 x.2.1)) fun x _ => c80 (T := []) x.1.1 x.2.1 x.1.2 x.2.2
theorem k80 {T : List (Entry Tryz.prog)} (hT : findE 80 T = some e80.g) {p q : Int × Int} (hp : okM p) (hq : okM q) (H : Heap) : callL (ctx T) (.fn 80) [cx p, cx q] H = some (.bool (insB p q), H) :=
  mkE_scalar hT injMM (⟨p, hp⟩, ⟨q, hq⟩) trivial rfl (by simp [thawL, thawA, okV, cx, pureV])
structure WordAt (s x : Str) (p : Nat) : Prop where
  room : p + x.length ≤ s.length
  occ : (s.drop p).take x.length = x
  pre : ∀ c, 0 < p → s[p - 1]? = some c → sp c = true
  post : ∀ c, s[p + x.length]? = some c → sp c = true
structure WInv (s : Str) (i : Nat) (st : List Str × Str) : Prop where
  le : i ≤ s.length
  words : ∀ w, w ∈ st.1 → ∃ p, WordAt s w p
  len : st.2.length ≤ i
  cur : (s.take i).drop (i - st.2.length) = st.2
  pre : ∀ c, 0 < i - st.2.length → s[i - st.2.length - 1]? = some c → sp c = true
theorem winv {s : Str} : ∀ (i : Nat), i ≤ s.length → WInv s i (wst (s.take i))
  | 0, _ => by
    have e : wst (s.take 0) = ([], []) := by simp [wst]
    rw [e]
    exact ⟨Nat.zero_le _, fun w h => (by cases h), Nat.le_refl _, rfl, fun c h => absurd h (Nat.lt_irrefl 0)⟩
  | i + 1, hi => by
    have ih := winv (s := s) i (by omega)
    have hlt : i < s.length := by omega
    rw [wst_at hlt]
    generalize wst (s.take i) = st at ih
    obtain ⟨W, c⟩ := st
    have ihl := ih.len
    have ihc := ih.cur
    have ihp := ih.pre
    simp only at ihl ihc ihp
    unfold wstep
    by_cases hs : sp s[i] = true
    · rw [if_pos hs]
      refine ⟨hi, ?_, Nat.zero_le _, ?_, ?_⟩
      · intro w hw
        simp only at hw
        by_cases hc : c = []
        · rw [if_pos hc] at hw
          exact ih.words w hw
        · rw [if_neg hc] at hw
          rcases List.mem_append.1 hw with hw | hw
          · exact ih.words w hw
          · rw [List.mem_singleton] at hw
            subst hw
            refine ⟨i - w.length, by omega, ?_, fun d h1 h2 => ihp d h1 h2, fun d h => ?_⟩
            · rw [List.drop_take, show i - (i - w.length) = w.length by omega] at ihc
              exact ihc
            · rw [show i - w.length + w.length = i by omega, List.getElem?_eq_getElem hlt, Option.some.injEq] at h
              rw [← h]; exact hs
      · simp
      · intro d _ h
        simp only [List.length_nil, Nat.sub_zero, Nat.add_sub_cancel] at h
        rw [List.getElem?_eq_getElem hlt, Option.some.injEq] at h
        rw [← h]; exact hs
    · rw [if_neg hs]
      refine ⟨hi, ih.words, by simp; omega, ?_, ?_⟩
      · simp only [List.length_append, List.length_singleton]
        rw [show i + 1 - (c.length + 1) = i - c.length by omega, List.take_succ_eq_append_getElem hlt, List.drop_append_of_le_length (by simp; omega), ihc]
      · simp only [List.length_append, List.length_singleton]
        rw [show i + 1 - (c.length + 1) = i - c.length by omega]
        exact ihp
theorem word_at {s x : Str} (h : x ∈ wsplit s) : ∃ p, WordAt s x p := by
  have inv := winv (s := s) s.length (Nat.le_refl _)
  rw [List.take_of_length_le (Nat.le_refl _)] at inv
  unfold wsplit wfin at h
  generalize wst s = st at *
  obtain ⟨W, c⟩ := st
  have il := inv.len
  have ic := inv.cur
  have ip := inv.pre
  simp only at il ic ip h
  by_cases hc : c = []
  · rw [if_pos hc] at h
    exact inv.words x h
  · rw [if_neg hc] at h
    rcases List.mem_append.1 h with h | h
    · exact inv.words x h
    · rw [List.mem_singleton] at h
      subst h
      refine ⟨s.length - x.length, by omega, ?_, ip, fun d h => ?_⟩
      · rw [List.take_of_length_le (Nat.le_refl _)] at ic
        rw [ic, List.take_of_length_le (Nat.le_refl _)]
      · rw [show s.length - x.length + x.length = s.length by omega, List.getElem?_eq_none (Nat.le_refl _)] at h
        cases h
theorem word_ne {s x : Str} (h : x ∈ wsplit s) : x ≠ [] := by
  have key : ∀ (l : Str) (st : List Str × Str), (∀ w, w ∈ st.1 → w ≠ []) → ∀ w, w ∈ (l.foldl wstep st).1 → w ≠ [] := by
    intro l
    induction l with
    | nil => intro st h; exact h
    | cons c r ih =>
      intro st h
      rw [List.foldl_cons]
      refine ih _ ?_
      intro w hw
      unfold wstep at hw
      split at hw
      · simp only at hw
        split at hw
        · exact h w hw
        · rename_i hn
          rcases List.mem_append.1 hw with hw | hw
          · exact h w hw
          · rw [List.mem_singleton] at hw; rw [hw]; exact hn
      · exact h w hw
  unfold wsplit wfin at h
  split at h
  · exact key s ([], []) (fun w h => by cases h) x h
  · rename_i hn
    rcases List.mem_append.1 h with h | h
    · exact key s ([], []) (fun w h => by cases h) x h
    · rw [List.mem_singleton] at h; rw [h]; exact hn
def lays143_ren : Go.Shelf.Ren := ⟨fun | 143 => 116 | 219 => 172 | 217 => 246 | 225 => 247 | 224 => 248 | 267 => 249 | 266 => 284 | 314 => 285 | n => n, fun | 9 => 9 | 3 => 3 | 4 => 4 | 5 => 5 | 46 => 163 | 146 => 238 | 51 => 215 | n => n, fun | 1 => 3 | n => n⟩
theorem lays143 : Go.Proofs.Lays.n143 Tryz.prog lays143_ren where
  mixed := by kernel_rfl
  f143 := Tryz.func116.trans (congrArg some (by kernel_rfl))
  f217 := Tryz.func246.trans (congrArg some (by kernel_rfl))
  f219 := Tryz.func172.trans (congrArg some (by kernel_rfl))
  f224 := Tryz.func248.trans (congrArg some (by kernel_rfl))
  f225 := Tryz.func247.trans (congrArg some (by kernel_rfl))
  f266 := Tryz.func284.trans (congrArg some (by kernel_rfl))
  f267 := Tryz.func249.trans (congrArg some (by kernel_rfl))
  f314 := Tryz.func285.trans (congrArg some (by kernel_rfl))
  t3 := Tryz.underlying3
  a3 := Tryz.isAgg3
  z3 := Tryz.sizeOf3
  v3 := Tryz.zeroValue3
  t4 := Tryz.underlying4
  a4 := Tryz.isAgg4
  z4 := Tryz.sizeOf4
  v4 := Tryz.zeroValue4
  t5 := Tryz.underlying5
  a5 := Tryz.isAgg5
  z5 := Tryz.sizeOf5
  v5 := Tryz.zeroValue5
  t9 := Tryz.underlying9
  a9 := Tryz.isAgg9
  z9 := Tryz.sizeOf9
  v9 := Tryz.zeroValue9
  t46 := Tryz.underlying163
  a46 := Tryz.isAgg163
  z46 := Tryz.sizeOf163
  v46 := Tryz.zeroValue163
  t51 := Tryz.underlying215
  a51 := Tryz.isAgg215
  z51 := Tryz.sizeOf215
  v51 := Tryz.zeroValue215
  t146 := Tryz.underlying238
  a146 := Tryz.isAgg238
  z146 := Tryz.sizeOf238
  v146 := Tryz.zeroValue238
  g1 := by kernel_rfl
theorem index_at (s sub : ByteArray) (m : Int) (w : World) (hs : s.size < 4294967281) (hm : w.cell? ⟨3, 0, none⟩ = some (.int .i64 m)) :
    Calls Tryz.prog 116 #[.string s, .string sub] w fun e w' => e = .returned (.int .i64 (Lib.index s.data.toList sub.data.toList)) ∧ w' = w := Any.strings_Index lays143 s sub m w hs hm
theorem c116 {T : List (Entry Tryz.prog)} (s t : Str) (hl : s.length ≤ 1000000) : CallAt (ctx T) 116 [.str s, .str t] ⟨0, []⟩ (.int .i64 (Lib.index s t)) ⟨0, []⟩ := by
  intro ρ w xs sm hx
  match xs, hx with
  | [x, y], hx =>
    have h0 := hx.2 0 (by simp) (by simp)
    have h1 := hx.2 1 (by simp) (by simp)
    simp only [List.getElem_cons_zero, List.getElem_cons_succ] at h0 h1
    cases h0; cases h1
    obtain ⟨hB, m, hm⟩ := ρ.gl 3 (by simp [globs])
    have hc : w.cell? ⟨3, 0, none⟩ = some (.int .i64 m) := by rw [World.cell?, sm.below 3 hB]; exact hm
    have hrun : (callFunc 116 #[.string ⟨s.toArray⟩, .string ⟨t.toArray⟩]).run (ctx T).P w = .ok (.enter 116 #[.string ⟨s.toArray⟩, .string ⟨t.toArray⟩]) w := by
      have hf : (ctx T).P.funcs[116]? = some Tryz.f116 := Tryz.func116
      have hn : ¬ Tryz.f116.name = "runtime.NumGoroutine" := by decide +kernel
      simp [callFunc, hf, hn, Tryz.f116]
    refine .inr ⟨116, _, hrun, callsIn_wide.2 ((index_at ⟨s.toArray⟩ ⟨t.toArray⟩ m w ?_ hc).mono ?_)⟩
    · show s.toArray.size < _
      simp; omega
    · rintro e w' ⟨rfl, rfl⟩
      exact ⟨_, ρ, rfl, .int _ _, sm, Step.refl _ _ _⟩
noncomputable def e116 : Entry Tryz.prog := mkE 116 [[], []] (fun x : Str × Str => [.str x.1, .str x.2]) (fun x => x.1.length ≤ 1000000) (fun x => .int .i64 (Lib.index x.1 x.2)) fun x h => c116 (T := []) x.1 x.2 h
theorem k116 {T : List (Entry Tryz.prog)} (hT : findE 116 T = some e116.g) {s t : Str} (h1 : s.length ≤ 1000000) (H : Heap) : callL (ctx T) (.fn 116) [.str s, .str t] H = some (.int .i64 (Lib.index s t), H) :=
  mkE_scalar hT inj_str2 (s, t) h1 rfl (by simp)
theorem c117 {T : List (Entry Tryz.prog)} (c : UInt8) : CallAt (ctx T) 117 [.int .u8 c.toNat] ⟨0, []⟩ (.bool (sp c)) ⟨0, []⟩ := by
  refine callAt_body (fn := Tryz.f117) (s0 := ⟨[0, 2, 3, 4], [.int .u8 c.toNat, .undef, .undef, .undef], [], 10, ⟨0, [[]]⟩⟩) Tryz.func117 rfl rfl rfl ?_
  repeat refine wps_seq ?_
  refine wps_region callOK ?_
  simp [zS]
  repeat refine wps_seq ?_
  refine wps_region callOK ?_
  simp [zS]
  repeat refine wps_seq ?_
  refine wps_block ?_
  by_cases h1 : (c.toNat : Int) = 9
  · (repeat (first
      | (refine wps_seq ?_)
      | (refine wps_block ?_)
      | (refine wps_label ?_; simp only [thenQ, blockQ])
      | ((refine wps_region callOK ?_); simp [zS, h1])
      | (refine wps_cond (t := true) rfl (fun _ => ?_) (fun h => by cases h))
      | (refine wps_cond (t := false) rfl (fun h => by cases h) (fun _ => ?_))
      | ((refine wps_skip ?_); simp only [thenQ, blockQ])
      | ((refine wps_exit ?_); simp [thenQ, blockQ])))
    repeat refine wps_seq ?_
    refine wps_ret ?_
    simp [retVal, Tryz.f117, oneOr, thenQ, blockQ]
    exact ends_pure rfl (by simp [sp, h1])
  by_cases h2 : (c.toNat : Int) = 10
  · (repeat (first
      | (refine wps_seq ?_)
      | (refine wps_block ?_)
      | (refine wps_label ?_; simp only [thenQ, blockQ])
      | ((refine wps_region callOK ?_); simp [zS, h1, h2])
      | (refine wps_cond (t := true) rfl (fun _ => ?_) (fun h => by cases h))
      | (refine wps_cond (t := false) rfl (fun h => by cases h) (fun _ => ?_))
      | ((refine wps_skip ?_); simp only [thenQ, blockQ])
      | ((refine wps_exit ?_); simp [thenQ, blockQ])))
    repeat refine wps_seq ?_
    refine wps_ret ?_
    simp [retVal, Tryz.f117, oneOr, thenQ, blockQ]
    exact ends_pure rfl (by simp [sp, h2])
  by_cases h3 : (c.toNat : Int) = 12
  · (repeat (first
      | (refine wps_seq ?_)
      | (refine wps_block ?_)
      | (refine wps_label ?_; simp only [thenQ, blockQ])
      | ((refine wps_region callOK ?_); simp [zS, h1, h2, h3])
      | (refine wps_cond (t := true) rfl (fun _ => ?_) (fun h => by cases h))
      | (refine wps_cond (t := false) rfl (fun h => by cases h) (fun _ => ?_))
      | ((refine wps_skip ?_); simp only [thenQ, blockQ])
      | ((refine wps_exit ?_); simp [thenQ, blockQ])))
    repeat refine wps_seq ?_
    refine wps_ret ?_
    simp [retVal, Tryz.f117, oneOr, thenQ, blockQ]
    exact ends_pure rfl (by simp [sp, h3])
  by_cases h4 : (c.toNat : Int) = 13
  · (repeat (first
      | (refine wps_seq ?_)
      | (refine wps_block ?_)
      | (refine wps_label ?_; simp only [thenQ, blockQ])
      | ((refine wps_region callOK ?_); simp [zS, h1, h2, h3, h4])
      | (refine wps_cond (t := true) rfl (fun _ => ?_) (fun h => by cases h))
      | (refine wps_cond (t := false) rfl (fun h => by cases h) (fun _ => ?_))
      | ((refine wps_skip ?_); simp only [thenQ, blockQ])
      | ((refine wps_exit ?_); simp [thenQ, blockQ])))
    repeat refine wps_seq ?_
    refine wps_ret ?_
    simp [retVal, Tryz.f117, oneOr, thenQ, blockQ]
    exact ends_pure rfl (by simp [sp, h4])
  by_cases h5 : (c.toNat : Int) = 32
  · (repeat (first
      | (refine wps_seq ?_)
      | (refine wps_block ?_)
      | (refine wps_label ?_; simp only [thenQ, blockQ])
      | ((refine wps_region callOK ?_); simp [zS, h1, h2, h3, h4, h5])
      | (refine wps_cond (t := true) rfl (fun _ => ?_) (fun h => by cases h))
      | (refine wps_cond (t := false) rfl (fun h => by cases h) (fun _ => ?_))
      | ((refine wps_skip ?_); simp only [thenQ, blockQ])
      | ((refine wps_exit ?_); simp [thenQ, blockQ])))
    repeat refine wps_seq ?_
    refine wps_ret ?_
    simp [retVal, Tryz.f117, oneOr, thenQ, blockQ]
    exact ends_pure rfl (by simp [sp, h5])
  · (repeat (first
      | (refine wps_seq ?_)
      | (refine wps_block ?_)
      | (refine wps_label ?_; simp only [thenQ, blockQ])
      | ((refine wps_region callOK ?_); simp [zS, h1, h2, h3, h4, h5])
      | (refine wps_cond (t := true) rfl (fun _ => ?_) (fun h => by cases h))
      | (refine wps_cond (t := false) rfl (fun h => by cases h) (fun _ => ?_))
      | ((refine wps_skip ?_); simp only [thenQ, blockQ])
      | ((refine wps_exit ?_); simp [thenQ, blockQ])))
    repeat refine wps_seq ?_
    refine wps_ret ?_
    simp [retVal, Tryz.f117, oneOr, thenQ, blockQ]
    exact ends_pure rfl (by simp [sp, h1, h2, h3, h4, h5])
noncomputable def e117 : Entry Tryz.prog := mkE 117 [[]] (fun x : UInt8 => [.int .u8 x.toNat]) (fun _ => True) (fun x => .bool (sp x)) fun x _ => c117 (T := []) x
theorem k117 {T : List (Entry Tryz.prog)} (hT : findE 117 T = some e117.g) (c : UInt8) (H : Heap) : callL (ctx T) (.fn 117) [.int .u8 c.toNat] H = some (.bool (sp c), H) :=
  mkE_scalar hT inj_u8 c trivial rfl (by simp)
def strsB : List AV → List Str → Bool
  | [], l => match l with
    | [] => true
    | _ :: _ => false
  | v :: r, l => match v, l with
    | .str s, t :: q => match eqB s t with
      | true => strsB r q
      | false => false
    | _, _ => false
theorem strsB_eq : ∀ {cs : List AV} {L : List Str}, strsB cs L = true → cs = L.map AV.str
  | [], [], _ => rfl
  | [], _ :: _, h => by simp [strsB] at h
  | v :: r, L, h => by
    cases v <;> cases L <;> simp only [strsB] at h <;> first | (cases h; done) | skip
    rename_i s t q
    split at h
    · rename_i he
      rw [eqB_eq] at he
      simp only [decide_eq_true_eq] at he
      rw [he, strsB_eq h]; rfl
    · cases h
def splitOK (L : List Str) : Option (AV × Heap) → Bool
  | some (.slc b 0 len _, H) => match H.get b with
    | some (.cells cs) => match strsB cs L with
      | true => Nat.beq len L.length
      | false => false
    | _ => false
  | _ => false
theorem closedSplit {T : List (Entry Tryz.prog)} {f : FuncId} {args : List AV} {L : List Str} (h : splitOK L (callN (ctx T) 100000 (.fn f) args ⟨0, []⟩) = true) : CallAt (ctx T) f args ⟨0, []⟩ (aStrs L) ⟨0, []⟩ := by
  revert h
  cases hr : callN (ctx T) 100000 (.fn f) args ⟨0, []⟩ with
  | none => intro h; cases h
  | some r =>
    obtain ⟨v, H'⟩ := r
    intro h
    cases v <;> simp only [splitOK] at h <;> first | (cases h; done) | skip
    rename_i b o len cap
    cases o with
    | succ o => simp [splitOK] at h
    | zero =>
      simp only [splitOK] at h
      split at h
      · rename_i cs hg
        split at h
        · rename_i hs
          have hcs := strsB_eq hs
          have hlen := Nat.eq_of_beq_eq_true h
          refine ((call_ok mixed (mkC_ok _ _ _) 100000).fn f args ⟨0, []⟩ _ _ hr).freeze (Φ := [(b, cs)]) ?_ (.froze (by simp) fun x hx => ?_)
          · simp only [aStrs, fitV]
            refine .inl ⟨cs, by simp [lookC], ?_, by simp [hlen], (el_str L).size⟩
            have h1 := sub_pre (el_str L) (k := L.length) (by simp)
            rw [List.take_of_length_le (by simp)] at h1
            have h2 : flatAV (L.map AV.str) = cs := by
              rw [hcs]
              clear h1 hcs hs h hlen
              induction L with
              | nil => rfl
              | cons x r ih => simp only [List.map_cons, flatAV, ih]; rfl
            rw [h2] at h1 ⊢
            rw [hlen]; exact h1
          · simp only [List.mem_singleton] at hx
            subst hx
            have hp : pureL cs = true := by
              rw [hcs]
              clear hcs hs h hlen
              induction L with
              | nil => rfl
              | cons x r ih => simpa [pureL, pureV] using ih
            exact ⟨cs, hg, fitL_pure hp, hp⟩
        · cases h
      · cases h
theorem occ_iff {s x : Str} {i : Nat} : Lib.occAt s x i = true ↔ (s.drop i).take x.length = x := by
  unfold Lib.occAt
  rw [List.isPrefixOf_iff_prefix, List.prefix_iff_eq_take]
  exact eq_comm
theorem c83 {T : List (Entry Tryz.prog)} (hI : findE 116 T = some e116.g) (hS : findE 117 T = some e117.g) (W x : Str) (hl : W.length ≤ 100000) (hx1 : x.length ≤ 1000000000)
    (hsp : CallAt (ctx T) 119 [.str W] ⟨0, []⟩ (aStrs (wsplit W)) ⟨0, []⟩) (hco : CallAt (ctx T) 118 [aStrs (wsplit W), .str x] ⟨0, []⟩ (.bool (decide (x ∈ wsplit W))) ⟨0, []⟩) :
    CallAt (ctx T) 83 [.str W, .str x] ⟨0, []⟩ (.bool (inW W x)) ⟨0, []⟩ := by
  have h1 := hsp.lift (by simp [pureL, pureV]) ⟨0, [[]]⟩
  have h2 := hco.lift (by simp [aStrs, pureL, pureV]) ⟨0, [[]]⟩
  refine callAt_body (fn := Tryz.f83) (s0 := ⟨[0, 1, 4, 5, 6, 7, 8], [.str W, .str x, .undef, .undef, .undef, .undef, .undef], [], 52, ⟨0, [[]]⟩⟩) Tryz.func83 rfl rfl rfl ?_
  repeat refine wps_seq ?_
  refine wps_region callOK ?_
  simp [zS]
  by_cases hx : x = []
  · repeat refine wps_seq ?_
    refine wps_region callOK ?_
    simp [zS, hx]
    repeat refine wps_seq ?_
    refine wps_cond (t := true) rfl (fun _ => ?_) fun h => by cases h
    repeat refine wps_seq ?_
    refine wps_region callOK ?_
    simp [zS]
    repeat refine wps_seq ?_
    refine wps_ret ?_
    simp [retVal, Tryz.f83, oneOr, thenQ, blockQ]
    exact ends_pure rfl (by simp only [inW]; symm; simp; intro h; exact word_ne h rfl)
  repeat refine wps_seq ?_
  refine wps_region callOK ?_
  simp [zS, hx]
  repeat refine wps_seq ?_
  refine wps_cond (t := false) rfl (fun h => by cases h) fun _ => ?_
  repeat refine wps_seq ?_
  refine wps_skip ?_
  simp
  have hx0 : 0 < x.length := List.length_pos_iff.2 hx
  repeat refine wps_seq ?_
  refine wps_region callOK ?_
  simp [zS]
  repeat refine wps_seq ?_
  refine wps_block (wps_loop' (fun i : Nat => (⟨[0, 1, 4, 5, 6, 7, 8], [.str W, .str x, .undef, .int .i64 i, .undef, .undef, .undef], [], 52, ⟨0, [[]]⟩⟩ : St))
    (fun i => i ≤ W.length ∧ (x ∈ wsplit W → ∃ p, i ≤ p ∧ WordAt W x p)) (fun i => W.length + 1 - i) [] [] 0 ⟨Nat.zero_le _, fun h => let ⟨p, hp⟩ := word_at h; ⟨p, Nat.zero_le _, hp⟩⟩ ⟨rfl, rfl, rfl, by simp [fitL, fitV, pureV, pureL], FitH.nothing⟩ ?_)
  rintro i ⟨hi, hw⟩ B hB
  have hd : (W.drop i).length ≤ 1000000 := by simp; omega
  repeat refine wps_seq ?_
  refine wps_block ?_
  rcases Lib.index_spec (W.drop i) x with ⟨h0, hn⟩ | ⟨k, h0, hk, ho, hno⟩
  · have hnot : ¬ x ∈ wsplit W := fun h => by
      obtain ⟨p, hp, hwa⟩ := hw h
      have hr := hwa.room
      have := hn (p - i) (by simp; omega)
      have h3 : Lib.occAt (W.drop i) x (p - i) = true := occ_iff.2 (by rw [List.drop_drop, show i + (p - i) = p by omega]; exact hwa.occ)
      rw [h3] at this
      cases this
    repeat refine wps_seq ?_
    refine wps_region callOK ?_
    simp [zS, slStr hi, k116 hI hd, h0]
    repeat refine wps_seq ?_
    refine wps_region callOK ?_
    simp [zS]
    repeat refine wps_seq ?_
    refine wps_cond (t := true) rfl (fun _ => ?_) fun h => by cases h
    repeat refine wps_seq ?_
    refine wps_region callOK ?_
    simp [zS]
    repeat refine wps_seq ?_
    refine wps_ret ?_
    simp [retVal, Tryz.f83, oneOr, thenQ, blockQ]
    exact ends_pure rfl (by simp [inW, hnot])
  · have hk0 : ¬ (k : Int) < 0 := by omega
    obtain ⟨j, hj⟩ : ∃ j, j = i + k := ⟨_, rfl⟩
    have ho' := occ_iff.1 ho
    rw [List.drop_drop, ← hj] at ho'
    have hroom : j + x.length ≤ W.length := by
      have := congrArg List.length ho'
      simp at this
      simp at hk
      omega
    have a1 : wr .i64 ((i : Int) + (k : Int)) = some (j : Int) := by rw [wr_small (by omega) (by omega), hj]; simp
    obtain ⟨q, hq⟩ : ∃ q, q = j + x.length := ⟨_, rfl⟩
    have a2 : wr .i64 ((j : Int) + (x.length : Int)) = some (q : Int) := by rw [wr_small (by omega) (by omega), hq]; simp
    have nxt : ∀ s', ¬ WordAt W x j → (∃ σ Φ, Fit 0 σ Φ s' (⟨[0, 1, 4, 5, 6, 7, 8], [.str W, .str x, .undef, .int .i64 ((j + 1 : Nat) : Int), .undef, .undef, .undef], [], 52, ⟨0, [[]]⟩⟩ : St)) → B s' := fun s' hno2 hf =>
      hB s' (j + 1) (by omega) ⟨by omega, fun h => by
        obtain ⟨p, hp, hwa⟩ := hw h
        refine ⟨p, ?_, hwa⟩
        have hr := hwa.room
        apply Decidable.byContradiction
        intro hlt
        rcases Nat.lt_or_ge p j with hpj | hpj
        · have h3 := hno (p - i) (by omega)
          have h4 : Lib.occAt (W.drop i) x (p - i) = true := occ_iff.2 (by rw [List.drop_drop, show i + (p - i) = p by omega]; exact hwa.occ)
          rw [h4] at h3
          cases h3
        · have : p = j := by omega
          subst this
          exact hno2 hwa⟩ hf
    repeat refine wps_seq ?_
    refine wps_region callOK ?_
    simp [zS, slStr hi, k116 hI hd, h0]
    repeat refine wps_seq ?_
    refine wps_region callOK ?_
    simp [zS, hk0]
    repeat refine wps_seq ?_
    refine wps_cond (t := false) rfl (fun h => by cases h) fun _ => ?_
    repeat refine wps_seq ?_
    refine wps_skip ?_
    simp
    repeat refine wps_seq ?_
    refine wps_region callOK ?_
    simp [zS, a1]
    repeat refine wps_seq ?_
    refine wps_region callOK ?_
    simp [zS, a2]
    have kS := fun c H => k117 hS c H
    by_cases c0 : j = 0
    · have a4 : wr .i64 1 = some ((j + 1 : Nat) : Int) := by rw [c0]; rfl
      by_cases d0 : q = W.length
      · repeat refine wps_seq ?_
        refine wps_region callOK ?_
        simp [zS, c0, d0]
        repeat refine wps_seq ?_
        refine wps_cond (t := true) rfl (fun _ => ?_) fun h => by cases h
        repeat refine wps_seq ?_
        refine wps_region (callOKF [⟨119, _, _, _, _, h1⟩, ⟨118, _, _, _, _, h2⟩]) ?_
        simp [zS, callF, aStrs]
        repeat refine wps_seq ?_
        refine wps_ret ?_
        simp [retVal, Tryz.f83, oneOr, thenQ, blockQ]
        exact ends_pure rfl (by simp [inW])
      · have hql : q < W.length := by omega
        have d0i : ¬ (q : Int) = (W.length : Int) := by omega
        rcases Bool.eq_false_or_eq_true (sp W[q]) with d1 | d1
        · repeat refine wps_seq ?_
          refine wps_region callOK ?_
          simp [zS, c0, d0i, ixStr hql, kS, d1]
          repeat refine wps_seq ?_
          refine wps_cond (t := true) rfl (fun _ => ?_) fun h => by cases h
          repeat refine wps_seq ?_
          refine wps_region (callOKF [⟨119, _, _, _, _, h1⟩, ⟨118, _, _, _, _, h2⟩]) ?_
          simp [zS, callF, aStrs]
          repeat refine wps_seq ?_
          refine wps_ret ?_
          simp [retVal, Tryz.f83, oneOr, thenQ, blockQ]
          exact ends_pure rfl (by simp [inW])
        · repeat refine wps_seq ?_
          refine wps_region callOK ?_
          simp [zS, c0, d0i, ixStr hql, kS, d1]
          repeat refine wps_seq ?_
          refine wps_cond (t := false) rfl (fun h => by cases h) fun _ => ?_
          repeat refine wps_seq ?_
          refine wps_skip ?_
          simp
          repeat refine wps_seq ?_
          refine wps_region callOK ?_
          simp [zS, a4]
          exact nxt _ (fun hwa => by have := hwa.post _ (by rw [← hq]; exact List.getElem?_eq_getElem hql); rw [d1] at this; cases this) ⟨[], [], ⟨rfl, rfl, rfl, by simp [fitL, fitV, pureV, pureL], FitH.nothing⟩⟩
    · obtain ⟨q1, hq1⟩ : ∃ q1, q1 + 1 = j := ⟨j - 1, by omega⟩
      have hq1l : q1 < W.length := by omega
      have a3 : wr .i64 ((j : Int) - 1) = some (q1 : Int) := by rw [wr_small (by omega) (by omega)]; congr 1; omega
      rcases Bool.eq_false_or_eq_true (sp W[q1]) with c1 | c1
      · skip
        by_cases d0 : q = W.length
        · repeat refine wps_seq ?_
          refine wps_region callOK ?_
          simp [zS, c0, a3, ixStr hq1l, kS, c1, d0]
          repeat refine wps_seq ?_
          refine wps_cond (t := true) rfl (fun _ => ?_) fun h => by cases h
          repeat refine wps_seq ?_
          refine wps_region (callOKF [⟨119, _, _, _, _, h1⟩, ⟨118, _, _, _, _, h2⟩]) ?_
          simp [zS, callF, aStrs]
          repeat refine wps_seq ?_
          refine wps_ret ?_
          simp [retVal, Tryz.f83, oneOr, thenQ, blockQ]
          exact ends_pure rfl (by simp [inW])
        · have hql : q < W.length := by omega
          have d0i : ¬ (q : Int) = (W.length : Int) := by omega
          rcases Bool.eq_false_or_eq_true (sp W[q]) with d1 | d1
          · repeat refine wps_seq ?_
            refine wps_region callOK ?_
            simp [zS, c0, a3, ixStr hq1l, kS, c1, d0i, ixStr hql, kS, d1]
            repeat refine wps_seq ?_
            refine wps_cond (t := true) rfl (fun _ => ?_) fun h => by cases h
            repeat refine wps_seq ?_
            refine wps_region (callOKF [⟨119, _, _, _, _, h1⟩, ⟨118, _, _, _, _, h2⟩]) ?_
            simp [zS, callF, aStrs]
            repeat refine wps_seq ?_
            refine wps_ret ?_
            simp [retVal, Tryz.f83, oneOr, thenQ, blockQ]
            exact ends_pure rfl (by simp [inW])
          · repeat refine wps_seq ?_
            refine wps_region callOK ?_
            simp [zS, c0, a3, ixStr hq1l, kS, c1, d0i, ixStr hql, kS, d1]
            repeat refine wps_seq ?_
            refine wps_cond (t := false) rfl (fun h => by cases h) fun _ => ?_
            repeat refine wps_seq ?_
            refine wps_skip ?_
            simp
            repeat refine wps_seq ?_
            refine wps_region callOK ?_
            simp [zS, add_one (show j ≤ 1000000000 by omega)]
            exact nxt _ (fun hwa => by have := hwa.post _ (by rw [← hq]; exact List.getElem?_eq_getElem hql); rw [d1] at this; cases this) ⟨[], [], ⟨rfl, rfl, rfl, by simp [fitL, fitV, pureV, pureL], FitH.nothing⟩⟩
      · repeat refine wps_seq ?_
        refine wps_region callOK ?_
        simp [zS, c0, a3, ixStr hq1l, kS, c1]
        repeat refine wps_seq ?_
        refine wps_cond (t := false) rfl (fun h => by cases h) fun _ => ?_
        repeat refine wps_seq ?_
        refine wps_skip ?_
        simp
        repeat refine wps_seq ?_
        refine wps_region callOK ?_
        simp [zS, add_one (show j ≤ 1000000000 by omega)]
        exact nxt _ (fun hwa => by have := hwa.pre _ (by omega) (by rw [← hq1, Nat.add_sub_cancel]; exact List.getElem?_eq_getElem hq1l); rw [c1] at this; cases this) ⟨[], [], ⟨rfl, rfl, rfl, by simp [fitL, fitV, pureV, pureL], FitH.nothing⟩⟩
theorem c173 {T : List (Entry Tryz.prog)} (L : List Str) (x : Str) (hl : L.length ≤ 1000000) : CallAt (ctx T) 173 [aStrs L, .str x] ⟨0, []⟩ (.int .i64 (idxFrom (fun y => decide (x = y)) L 0)) ⟨0, []⟩ := by
  refine callAt_body (fn := Tryz.f173) (s0 := ⟨[0, 1, 4, 5, 7, 8], [aStrs L, .str x, .undef, .undef, .undef, .undef], [], 19, ⟨0, [[]]⟩⟩) Tryz.func173 rfl rfl rfl ?_
  repeat refine wps_seq ?_
  refine wps_region callOK ?_
  simp [zS]
  repeat refine wps_seq ?_
  refine wps_region callOK ?_
  simp [zS, lenS]
  repeat refine wps_seq ?_
  refine wps_block (wps_loop' (fun i : Nat => (⟨[0, 1, 4, 5, 7, 8], [aStrs L, .str x, .undef, .undef, .int .i64 (L.length : Nat), .int .i64 i], [], 19, ⟨0, [[]]⟩⟩ : St))
    (fun i => i ≤ L.length ∧ idxFrom (fun y => decide (x = y)) L 0 = idxFrom (fun y => decide (x = y)) (L.drop i) i) (fun i => L.length - i) [] [] 0 ⟨Nat.zero_le _, rfl⟩ ⟨rfl, rfl, rfl, by simp [fitL, fitV, pureV, pureL, aStrs], FitH.nothing⟩ ?_)
  rintro i ⟨hi, hx⟩ B hB
  repeat refine wps_seq ?_
  refine wps_region callOK ?_
  simp [zS]
  repeat refine wps_seq ?_
  refine wps_cond rfl (fun h => ?_) fun h => ?_
  · simp at h
    rw [idxFrom_at h] at hx
    repeat refine wps_seq ?_
    refine wps_skip ?_
    simp
    repeat refine wps_seq ?_
    refine wps_block ?_
    repeat refine wps_seq ?_
    refine wps_region callOK ?_
    simp [zS]
    by_cases h2 : L[i] = x
    · repeat refine wps_seq ?_
      refine wps_region callOK ?_
      simp [zS, atS h, h2]
      repeat refine wps_seq ?_
      refine wps_cond (t := true) rfl (fun _ => ?_) fun h => by cases h
      repeat refine wps_seq ?_
      refine wps_region callOK ?_
      simp [zS]
      repeat refine wps_seq ?_
      refine wps_ret ?_
      simp [retVal, Tryz.f173, oneOr, thenQ, blockQ]
      exact ends_pure rfl (by rw [hx, if_pos (by simp [h2])])
    · have h2' : ¬ x = L[i] := fun e => h2 e.symm
      repeat refine wps_seq ?_
      refine wps_region callOK ?_
      simp [zS, atS h, h2']
      repeat refine wps_seq ?_
      refine wps_cond (t := false) rfl (fun h => by cases h) fun _ => ?_
      repeat refine wps_seq ?_
      refine wps_skip ?_
      simp
      repeat refine wps_seq ?_
      refine wps_region callOK ?_
      simp [zS, add_one (show i ≤ 1000000000 by omega)]
      exact hB _ (i + 1) (by omega) ⟨by omega, by rw [hx, if_neg (by simp [h2'])]⟩ ⟨[], [], ⟨rfl, rfl, rfl, by simp [fitL, fitV, pureV, pureL, aStrs], FitH.nothing⟩⟩
  · simp at h
    repeat refine wps_seq ?_
    refine wps_exit ?_
    simp
    repeat refine wps_seq ?_
    refine wps_region callOK ?_
    simp [zS]
    repeat refine wps_seq ?_
    refine wps_ret ?_
    simp [retVal, Tryz.f173, oneOr, thenQ, blockQ]
    exact ends_pure rfl (by rw [hx, List.drop_eq_nil_of_le h]; rfl)
noncomputable def e173 : Entry Tryz.prog := mkE 173 [[1], []] (fun x : List Str × Str => [aStrs x.1, .str x.2]) (fun x => x.1.length ≤ 1000000) (fun x => .int .i64 (idxFrom (fun y => decide (x.2 = y)) x.1 0)) fun x hx => c173 (T := []) x.1 x.2 hx
theorem injSS (x y : List Str × Str) (h : [aStrs x.1, .str x.2] = [aStrs y.1, .str y.2]) : x = y := by
  simp at h; exact Prod.ext (inj_strs (by simpa [aStrs] using h.1)) h.2
theorem k173 {T : List (Entry Tryz.prog)} (hT : findE 173 T = some e173.g) {L : List Str} (x : Str) (hl : L.length ≤ 1000000) (H : Heap) : callL (ctx T) (.fn 173) [aStrs L, .str x] H = some (.int .i64 (idxFrom (fun y => decide (x = y)) L 0), H) :=
  mkE_scalar hT injSS (L, x) hl rfl (by simp [aStrs])
theorem idx_mem {x : Str} : ∀ (L : List Str) (k : Nat), (0 ≤ idxFrom (fun y => decide (x = y)) L k) ↔ x ∈ L
  | [], k => by simp [idxFrom]
  | y :: r, k => by
    unfold idxFrom
    by_cases h : x = y
    · simp [h]
    · simp only [h, decide_false, Bool.false_eq_true, if_false, List.mem_cons, false_or]
      exact idx_mem r (k + 1)
theorem c118 {T : List (Entry Tryz.prog)} (hI : findE 173 T = some e173.g) (L : List Str) (x : Str) (hl : L.length ≤ 1000000) : CallAt (ctx T) 118 [aStrs L, .str x] ⟨0, []⟩ (.bool (decide (x ∈ L))) ⟨0, []⟩ := by
  have hk := fun H => k173 hI x hl H
  have hm := idx_mem (x := x) L 0
  generalize idxFrom (fun y => decide (x = y)) L 0 = v at *
  simp only [aStrs] at hk
  refine callAt_body (fn := Tryz.f118) (s0 := ⟨[0, 1, 4], [aStrs L, .str x, .undef], [], 9, ⟨0, [[]]⟩⟩) Tryz.func118 rfl rfl rfl ?_
  (repeat (first
    | (refine wps_seq ?_)
    | (refine wps_block ?_)
    | (refine wps_label ?_; simp only [thenQ, blockQ])
    | ((refine wps_region callOK ?_); simp [zS, aStrs, hk])
    | (refine wps_cond (t := true) rfl (fun _ => ?_) (fun h => by cases h))
    | (refine wps_cond (t := false) rfl (fun h => by cases h) (fun _ => ?_))
    | ((refine wps_skip ?_); simp only [thenQ, blockQ])
    | ((refine wps_exit ?_); simp [thenQ, blockQ])))
  repeat refine wps_seq ?_
  refine wps_ret ?_
  simp [retVal, Tryz.f118, oneOr, thenQ, blockQ]
  exact ends_pure rfl (by simp [hm])
end Go.Proofs.YthclkpplpdnffaaGreatDoor
