/- ref03.Once, ref35.All. No condition. -/
import Derived.Test.YtlgdgolobnbefaaGreatDoorML
import Derived.Test.YtlgdgolobnbefaaGreatDoorMH
import Derived.Test.YtlgdgolobnbefaaGreatDoorMI
import Derived.Test.YtlgdgolobnbefaaGreatDoorMK
namespace Go.Proofs.YtlgdgolobnbefaaGreatDoor
set_option linter.unusedSimpArgs false
set_option linter.unusedVariables false
open Go Go.RowKit
set_option maxRecDepth 100000
@[simp] theorem szT22 : sizeT Tryz.prog 22 = some 1 := rfl
@[simp] theorem agT22 : aggT Tryz.prog 22 = some false := rfl
@[simp] theorem byT22 : bytesT Tryz.prog 22 = some 24 := rfl
@[simp] theorem alT22 (H : Heap) : alV Tryz.prog H 22 = some (.ptr H.n 0, H.new (.cells [.nilS])) := rfl
@[simp] theorem zeT22 : zeroOf Tryz.prog 22 = some (.nilS) := rfl
attribute [simp] Tryz.underlying22
@[simp 500] theorem rvF22 (H : Heap) (cs : List AV) (o : Nat) : readVar Tryz.prog H 22 (.fptr cs o) = getL cs o := rfl
@[simp 500] theorem rvP22 (H : Heap) (b o : Nat) : readVar Tryz.prog H 22 (.ptr b o) = (H.get b).bind fun k => k.rd.bind fun cs => getL cs o := rfl
@[simp] theorem slz22 (sz : Nat) (e : AV) (r : List AV) : binA Tryz.prog .eql 22 (.fslc sz (e :: r)) .nilS = some (.bool false) := rfl
@[simp] theorem sln22 (sz : Nat) (e : AV) (r : List AV) : binA Tryz.prog .neq 22 (.fslc sz (e :: r)) .nilS = some (.bool true) := rfl
@[simp] theorem slze22 : binA Tryz.prog .eql 22 .eslc .nilS = some (.bool false) := rfl
@[simp] theorem slzz22 : binA Tryz.prog .eql 22 .nilS .nilS = some (.bool true) := rfl
@[simp] theorem szT36 : sizeT Tryz.prog 36 = some 1 := rfl
@[simp] theorem agT36 : aggT Tryz.prog 36 = some false := rfl
@[simp] theorem byT36 : bytesT Tryz.prog 36 = some 24 := rfl
@[simp] theorem alT36 (H : Heap) : alV Tryz.prog H 36 = some (.ptr H.n 0, H.new (.cells [.nilS])) := rfl
@[simp] theorem zeT36 : zeroOf Tryz.prog 36 = some (.nilS) := rfl
attribute [simp] Tryz.underlying36
@[simp 500] theorem rvF36 (H : Heap) (cs : List AV) (o : Nat) : readVar Tryz.prog H 36 (.fptr cs o) = getL cs o := rfl
@[simp 500] theorem rvP36 (H : Heap) (b o : Nat) : readVar Tryz.prog H 36 (.ptr b o) = (H.get b).bind fun k => k.rd.bind fun cs => getL cs o := rfl
@[simp] theorem slz36 (sz : Nat) (e : AV) (r : List AV) : binA Tryz.prog .eql 36 (.fslc sz (e :: r)) .nilS = some (.bool false) := rfl
@[simp] theorem sln36 (sz : Nat) (e : AV) (r : List AV) : binA Tryz.prog .neq 36 (.fslc sz (e :: r)) .nilS = some (.bool true) := rfl
@[simp] theorem slze36 : binA Tryz.prog .eql 36 .eslc .nilS = some (.bool false) := rfl
@[simp] theorem slzz36 : binA Tryz.prog .eql 36 .nilS .nilS = some (.bool true) := rfl
@[simp] theorem szT38 : sizeT Tryz.prog 38 = some 6 := rfl
@[simp] theorem agT38 : aggT Tryz.prog 38 = some true := rfl
@[simp] theorem byT38 : bytesT Tryz.prog 38 = some 104 := rfl
@[simp] theorem alT38 (H : Heap) : alV Tryz.prog H 38 = some (.ptr H.n 0, H.new (.cells [.str [], .str [], .str [], .str [], .str [], .nilS])) := rfl
@[simp] theorem zeT38 : zeroOf Tryz.prog 38 = some (.agg [.str [], .str [], .str [], .str [], .str [], .nilS]) := rfl
attribute [simp] Tryz.underlying38
@[simp 500] theorem rvF38 (H : Heap) (cs : List AV) (o : Nat) : readVar Tryz.prog H 38 (.fptr cs o) = (subL o 6 cs).bind fun cs => some (.agg cs) := rfl
@[simp 500] theorem rvP38 (H : Heap) (b o : Nat) : readVar Tryz.prog H 38 (.ptr b o) = (readCells H b o 6).bind fun cs => some (.agg cs) := rfl
@[simp] theorem fa38_0 (x : AV) : fieldAddrA Tryz.prog 38 x 0 = (match x with | .ptr b o => some (.ptr b (o + 0)) | .fptr cs o => some (.fptr cs (o + 0)) | _ => none) := rfl
@[simp] theorem fd38_0 (cs : List AV) : fieldA Tryz.prog 38 (.agg cs) 0 = getL cs 0 := rfl
@[simp] theorem fa38_1 (x : AV) : fieldAddrA Tryz.prog 38 x 1 = (match x with | .ptr b o => some (.ptr b (o + 1)) | .fptr cs o => some (.fptr cs (o + 1)) | _ => none) := rfl
@[simp] theorem fd38_1 (cs : List AV) : fieldA Tryz.prog 38 (.agg cs) 1 = getL cs 1 := rfl
@[simp] theorem fa38_2 (x : AV) : fieldAddrA Tryz.prog 38 x 2 = (match x with | .ptr b o => some (.ptr b (o + 2)) | .fptr cs o => some (.fptr cs (o + 2)) | _ => none) := rfl
@[simp] theorem fd38_2 (cs : List AV) : fieldA Tryz.prog 38 (.agg cs) 2 = getL cs 2 := rfl
@[simp] theorem fa38_3 (x : AV) : fieldAddrA Tryz.prog 38 x 3 = (match x with | .ptr b o => some (.ptr b (o + 3)) | .fptr cs o => some (.fptr cs (o + 3)) | _ => none) := rfl
@[simp] theorem fd38_3 (cs : List AV) : fieldA Tryz.prog 38 (.agg cs) 3 = getL cs 3 := rfl
@[simp] theorem fa38_4 (x : AV) : fieldAddrA Tryz.prog 38 x 4 = (match x with | .ptr b o => some (.ptr b (o + 4)) | .fptr cs o => some (.fptr cs (o + 4)) | _ => none) := rfl
@[simp] theorem fd38_4 (cs : List AV) : fieldA Tryz.prog 38 (.agg cs) 4 = getL cs 4 := rfl
@[simp] theorem fa38_5 (x : AV) : fieldAddrA Tryz.prog 38 x 5 = (match x with | .ptr b o => some (.ptr b (o + 5)) | .fptr cs o => some (.fptr cs (o + 5)) | _ => none) := rfl
@[simp] theorem fd38_5 (cs : List AV) : fieldA Tryz.prog 38 (.agg cs) 5 = getL cs 5 := rfl
@[simp] theorem szT63 : sizeT Tryz.prog 63 = some 3 := rfl
@[simp] theorem agT63 : aggT Tryz.prog 63 = some true := rfl
@[simp] theorem byT63 : bytesT Tryz.prog 63 = some 48 := rfl
@[simp] theorem alT63 (H : Heap) : alV Tryz.prog H 63 = some (.ptr H.n 0, H.new (.cells [.str [], .str [], .str []])) := rfl
@[simp] theorem zeT63 : zeroOf Tryz.prog 63 = some (.agg [.str [], .str [], .str []]) := rfl
attribute [simp] Tryz.underlying63
@[simp 500] theorem rvF63 (H : Heap) (cs : List AV) (o : Nat) : readVar Tryz.prog H 63 (.fptr cs o) = (subL o 3 cs).bind fun cs => some (.agg cs) := rfl
@[simp 500] theorem rvP63 (H : Heap) (b o : Nat) : readVar Tryz.prog H 63 (.ptr b o) = (readCells H b o 3).bind fun cs => some (.agg cs) := rfl
@[simp] theorem fa63_0 (x : AV) : fieldAddrA Tryz.prog 63 x 0 = (match x with | .ptr b o => some (.ptr b (o + 0)) | .fptr cs o => some (.fptr cs (o + 0)) | _ => none) := rfl
@[simp] theorem fd63_0 (cs : List AV) : fieldA Tryz.prog 63 (.agg cs) 0 = getL cs 0 := rfl
@[simp] theorem fa63_1 (x : AV) : fieldAddrA Tryz.prog 63 x 1 = (match x with | .ptr b o => some (.ptr b (o + 1)) | .fptr cs o => some (.fptr cs (o + 1)) | _ => none) := rfl
@[simp] theorem fd63_1 (cs : List AV) : fieldA Tryz.prog 63 (.agg cs) 1 = getL cs 1 := rfl
@[simp] theorem fa63_2 (x : AV) : fieldAddrA Tryz.prog 63 x 2 = (match x with | .ptr b o => some (.ptr b (o + 2)) | .fptr cs o => some (.fptr cs (o + 2)) | _ => none) := rfl
@[simp] theorem fd63_2 (cs : List AV) : fieldA Tryz.prog 63 (.agg cs) 2 = getL cs 2 := rfl
theorem wps_joinF {C : Ctx} {n : Nat} {r : Option Nat} {c d : Code} {s : St} {Q : Out → St → Prop} {ι : Type} (φ : ι → Prop) (inv : ι → St) (h1 : ∀ x, φ x → WpSr C n r d (inv x) Q) (h2 : (∀ s' x, φ x → (∃ σ Φ, Fit n σ Φ s' (inv x)) → WpSr C n r d s' Q) → WpSr C n r c s (thenQ (fun s => WpSr C n r d s Q) Q)) : WpSr C n r (.seq c d) s Q :=
  wps_seq (h2 fun _ x hφ ⟨σ, Φ, f⟩ => .fit σ Φ f (h1 x hφ))
theorem bld_at (n v : Str) : buildA Tryz.prog 98 [(0, .str n), (1, .str v)] = some (.agg [.str n, .str v]) := rfl
theorem atPt {L : List Pt} {i : Nat} (h : i < L.length) : indexAddrA Tryz.prog 22 (aPts L) (.int .i64 (i : Int)) = some (.fptr (L[i]).cs 0) := by
  simp [indexAddrA, idx_nat h, getL_map h, aPt, AV.cells]
theorem lenPt {H : Heap} {L : List Pt} : lenA Tryz.prog H 22 (aPts L) = some L.length := by simp [lenA]
theorem atCt {L : List Ct} {i : Nat} (h : i < L.length) : indexAddrA Tryz.prog 36 (aCts L) (.int .i64 (i : Int)) = some (.fptr [.str (L[i]).name, .str (L[i]).id, .str (L[i]).label] 0) := by
  simp [indexAddrA, idx_nat h, getL_map h, aCt, AV.cells]
theorem lenCt {H : Heap} {L : List Ct} : lenA Tryz.prog H 36 (aCts L) = some L.length := by simp [lenA]
section
variable {m n pb k sz q N : Nat} {pre post es row : List AV} {g f : List (Nat × Blk)}
theorem fit_VEt {m' : Nat} (h : Eok m pb pre k sz es post (g ++ [(q, .cells row)])) (hN : N ≤ m) (hm : m ≤ m') : FitH N (idn m) [] ⟨n, [[(q, .cells row)], VE pb pre k sz es post g]⟩ ⟨m', [[(q, .cells row)], VE pb pre k sz es post g]⟩ := by
  have pm := VE_perm (n := m') (pb := pb) (pre := pre) (k := k) (sz := sz) (es := es) (post := post) (g := g) (e := (q, .cells row))
  have nd : ((⟨m', [[(q, .cells row)], VE pb pre k sz es post g]⟩ : Heap).ents.map (·.1)).Nodup := by
    refine (pm.map (·.1)).nodup_iff.2 ?_
    simpa [Heap.ents] using VE_nd h
  refine fit_any hN nd (fun e he => ?_) hm
  obtain ⟨h1, h2⟩ := VE_all h e (by simpa [Heap.ents] using pm.mem_iff.1 he)
  refine ⟨h1, h2, get_of_mem (fs := [[(q, .cells row)], VE pb pre k sz es post g]) ?_ (by simpa only [Heap.ents] using he)⟩
  simpa [Heap.ents] using nd
theorem fit_VEd {m' : Nat} {b : Blk} (h : Eok m pb pre k sz es post (g ++ [(q, b)])) (hN : N ≤ m) (hm : m ≤ m') : FitH N (idn m) [] ⟨n, [[(q, b)], VE pb pre k sz es post g]⟩ ⟨m', [[], VE pb pre k sz es post g]⟩ := by
  have h' := h.less
  refine fit_any hN (by simpa [Heap.ents] using VE_nd h') (fun e he => ?_) hm
  simp only [Heap.ents, List.flatten_cons, List.flatten_nil, List.append_nil, List.nil_append] at he
  obtain ⟨h1, h2⟩ := VE_all h' e he
  refine ⟨h1, h2, ?_⟩
  have nd := VE_nd h
  have e1 : VE pb pre k sz es post (g ++ [(q, b)]) = VE pb pre k sz es post g ++ [(q, b)] := by simp [VE]
  rw [e1, List.map_append, List.nodup_append] at nd
  have hq : q ≠ e.1 := fun x => nd.2.2 _ (List.mem_map.2 ⟨e, he, rfl⟩) q (by simp) x.symm
  simp only [Heap.get, getFs]
  rw [show getF e.1 [(q, b)] = none by simp [getF, beqN_ne hq]]
  simp only
  rw [gF_of (VE_nd h') he]
end
section
variable {T : List (Entry Tryz.prog)} {m pb k u : Nat} {g : List (Nat × Blk)} {t : Tr}
structure PrT (T : List (Entry Tryz.prog)) : Prop where
  hA : findE 72 T = some e72.g
  hP : findE 89 T = some e89.g
  hS : findE 73 T = some e73.g
  hH : findE 74 T = some e74.g
  hC : findE 77 T = some e77.g
theorem elem_at (hT : PrT T) {row : List AV} (hr : pureL row = true) (L : List At1) (hl : L.length ≤ 1000) (hne : L ≠ []) (h : Eok m pb [] k 7 (t.map aNode) [] g) (ht : t.length + 1 ≤ 1000000) (hu : u < t.length) (ok : UpOk t) (name : Str) :
    CallAt (ctx T) 26 [.ptr pb 0, .int .i64 (u : Int), .str name, .slc (m + 1) 0 L.length (.ex L.length)] ⟨m + 2, [[(m + 1, .cells (rwA L)), (m, .cells row)], VE pb [] k 7 (t.map aNode) [] g]⟩ (.int .i64 (t.length : Int))
      ⟨m + 3, [[(m, .cells row)], VE pb [] (m + 2) 7 ((putN t u (el0 name (L.filter full))).map aNode) [] g]⟩ ∧ Eok (m + 3) pb [] (m + 2) 7 ((putN t u (el0 name (L.filter full))).map aNode) [] (g ++ [(m, .cells row)]) := by
  have h1 := h.extra (m' := m + 1) (q := m) (b := .cells row) (Nat.le_refl m) (by omega) (self_pure hr)
  have h2 := h1.extra (m' := m + 2) (q := m + 1) (b := .cells (rwA L)) (Nat.le_refl _) (by omega) (self_pure (pure_rwA L))
  refine ⟨(c26 (T := T) hT.hA hT.hP hT.hS hT.hH hT.hC L hl hne h2 ht hu ok name).perm rfl rfl ?_ VE_perm, h2.less.next (el_node _)⟩
  simp only [Heap.ents, List.flatten_cons, List.flatten_nil, List.append_nil]
  have e1 : VE pb [] k 7 (t.map aNode) [] (g ++ [(m, .cells row)] ++ [(m + 1, .cells (rwA L))]) = VE pb [] k 7 (t.map aNode) [] g ++ [(m, .cells row), (m + 1, .cells (rwA L))] := by simp [VE]
  rw [e1]
  exact (List.perm_append_comm).trans ((List.Perm.refl _).append (List.Perm.swap _ _ _))
theorem chars_at (hT : PrT T) (h : Eok m pb [] k 7 (t.map aNode) [] g) (ht : t.length + 1 ≤ 1000000) (hu : u < t.length) (ok : UpOk t) (s : Str) :
    ∃ m' k', m ≤ m' ∧ (k' = k ∨ m ≤ k') ∧ Eok m' pb [] k' 7 ((charsN t u s).map aNode) [] g ∧ CallAt (ctx T) 27 [.ptr pb 0, .int .i64 (u : Int), .str s] ⟨m, [VE pb [] k 7 (t.map aNode) [] g]⟩ (.tup []) ⟨m', [VE pb [] k' 7 ((charsN t u s).map aNode) [] g]⟩ := by
  by_cases hs : s = []
  · subst hs
    exact ⟨m, k, Nat.le_refl m, .inl rfl, h, c270 h⟩
  · have e : charsN t u s = putN t u ⟨2, 0, [], [], s, 0, []⟩ := if_neg hs
    rw [e]
    exact ⟨m + 1, m, Nat.le_succ m, .inr (Nat.le_refl m), h.next (el_node _), c271 hT.hA hT.hP hT.hS hT.hH hT.hC h ht hu ok s hs⟩
theorem partsN_take {L : List Pt} {i : Nat} (h : i < L.length) : partsN t u (L.take (i + 1)) = partN (partsN t u (L.take i)) u L[i] := by
  unfold partsN
  rw [List.take_succ_eq_append_getElem h, List.foldl_append]
  rfl
theorem ctlsN_take {L : List Ct} {i : Nat} (h : i < L.length) : ctlsN t u (L.take (i + 1)) = ctlN (ctlsN t u (L.take i)) u L[i] := by
  unfold ctlsN
  rw [List.take_succ_eq_append_getElem h, List.foldl_append]
  rfl
theorem costs_take : ∀ {L : List Pt} {i : Nat} (h : i < L.length), costs (L.take i) + costP L[i] ≤ costs L
  | p :: r, 0, _ => by simp [costs]
  | p :: r, i + 1, h => by
    have := costs_take (L := r) (i := i) (by simpa using h)
    simp only [List.take_succ_cons, costs, List.getElem_cons_succ]
    omega
theorem c281 (hT : PrT T) (hV : findE 56 T = some e56.g) (L : List Pt) (hn : L ≠ []) (hL : L.length ≤ 1000) (hS : ∀ p, p ∈ L → p.name.length ≤ 1000000000 ∧ p.ctls.length ≤ 1000) (h : Eok m pb [] k 7 (t.map aNode) [] g) (ht : t.length + costs L ≤ 1000000) (hu : u < t.length) (ok : UpOk t) :
    CallAt (ctx T) 28 [.ptr pb 0, .int .i64 (u : Int), aPts L] ⟨m, [VE pb [] k 7 (t.map aNode) [] g]⟩ (.tup []) ⟨m + 1, [VE pb [] m 7 ((partsN t u L).map aNode) [] g]⟩ := by
  refine callAt_body (fn := Tryz.f28) (s0 := ⟨[0, 1, 2, 7, 8, 10, 11, 12, 13, 42, 43, 44], [.ptr pb 0, .int .i64 (u : Int), aPts L, .undef, .undef, .undef, .undef, .undef, .undef, .undef, .undef, .undef], [], 62, ⟨m, [] :: [VE pb [] k 7 (t.map aNode) [] g]⟩⟩) Tryz.func28 rfl rfl rfl ?_
  repeat refine wps_seq ?_
  refine wps_region callOK ?_
  simp [zS, lenPt]
  repeat refine wps_seq ?_
  refine wps_block (wps_loop' (fun x : Nat × Nat × Nat => (⟨[0, 1, 2, 7, 8, 10, 11, 12, 13, 42, 43, 44], [.ptr pb 0, .int .i64 (u : Int), .undef, .undef, .undef, .undef, aPts L, .int .i64 L.length, .int .i64 x.1, .undef, .undef, .undef], [], 62, ⟨x.2.1, [[], VE pb [] x.2.2 7 ((partsN t u (L.take x.1)).map aNode) [] g]⟩⟩ : St))
    (fun x => x.1 ≤ L.length ∧ m ≤ x.2.1 ∧ (0 < x.1 → m ≤ x.2.2) ∧ Eok x.2.1 pb [] x.2.2 7 ((partsN t u (L.take x.1)).map aNode) [] g) (fun x => L.length - x.1) (idn m) [] (0, m, k) ⟨Nat.zero_le _, Nat.le_refl m, fun h => absurd h (Nat.lt_irrefl 0), h⟩ ⟨rfl, rfl, rfl, by simp [fitL, fitV, lookN_idn h.lp, pureV], fit_VE h (Nat.le_refl m) (Nat.le_refl m) fun _ _ => rfl⟩ ?_)
  rintro ⟨i, m1, k1⟩ ⟨hi, hm1, hk1, h1⟩ B hB
  simp only at hi hm1 hk1 h1
  repeat refine wps_seq ?_
  refine wps_region callOK ?_
  simp [zS]
  repeat refine wps_seq ?_
  refine wps_cond rfl (fun hc => ?_) fun hc => ?_
  · simp at hc
    repeat refine wps_seq ?_
    refine wps_skip ?_
    simp
    refine wps_seq ?_
    repeat refine wps_seq ?_
    refine wps_block ?_
    repeat refine wps_seq ?_
    refine wps_region callOK ?_
    simp [zS, atPt hc, Pt.cs]
    obtain ⟨p, hp⟩ : ∃ p, p = L[i] := ⟨_, rfl⟩
    have mp : p ∈ L := by rw [hp]; exact List.getElem_mem _
    rw [← hp]
    obtain ⟨t1, ht1⟩ : ∃ t1, t1 = partsN t u (L.take i) := ⟨_, rfl⟩
    rw [← ht1] at h1 ⊢
    have lt1 := partsN_len (u := u) (L.take i) hu
    rw [← ht1] at lt1
    have ct := costs_take hc
    rw [← hp] at ct
    have ok1 : UpOk t1 := by
      rw [ht1]
      exact (Grow.parts (P := fun _ => True) (L.take i) hu fun p _ => ⟨trivial, trivial, fun _ _ => trivial⟩).2.1 ok
    have cp : 0 < costP p := by unfold costP; omega
    have cc : costP p = 2 + p.ctls.length := rfl
    have hel := elem_at (T := T) hT (row := p.cs) (by simp) (ptL p) (by simp [ptL]) (by simp [ptL]) h1 (by omega) (show u < t1.length by omega) ok1 p.name
    obtain ⟨hel, h2⟩ := hel
    have hel' : CallAt (ctx T) 26 [.ptr pb 0, .int .i64 (u : Int), .str p.name, .slc (m1 + 1) 0 3 (.ex 3)] ⟨m1 + 2, [[(m1 + 1, .cells [.str wId, .str p.id, .str wName, .str p.label, .str wForm, .str p.form]), (m1, .cells [.str p.name, .str p.id, .str p.label, .str p.form, .str p.text, aCts p.ctls])], VE pb [] k1 7 (t1.map aNode) [] g]⟩ (.int .i64 (t1.length : Int))
      ⟨m1 + 3, [[(m1, .cells [.str p.name, .str p.id, .str p.label, .str p.form, .str p.text, aCts p.ctls])], VE pb [] (m1 + 2) 7 ((headN t1 u p).map aNode) [] g]⟩ := hel
    refine wps_seq ?_
    repeat refine wps_seq ?_
    refine wps_region (callOKF [⟨26, _, _, _, _, hel'⟩]) ?_
    simp [zS, callF, wId, wName, wForm, bld_at]
    have kv := fun H => k56 hV 0 (hS p mp).1 H
    obtain ⟨P, hP⟩ : ∃ P, P = [AV.str p.name, .str p.id, .str p.label, .str p.form, .str p.text, aCts p.ctls] := ⟨_, rfl⟩
    have lh : (headN t1 u p).length = t1.length + 1 := putN_len (by omega) _
    have okh : UpOk (headN t1 u p) := ok1.put (by omega) _
    have lt2 := textN_len (t := headN t1 u p) (u := t1.length) (by omega) p
    refine wps_joinF (fun x : Nat × Nat => m1 ≤ x.2 ∧ Eok x.1 pb [] x.2 7 ((textN (headN t1 u p) t1.length p).map aNode) [] (g ++ [(m1, .cells P)])) (fun x => (⟨[0, 1, 2, 7, 8, 10, 11, 12, 13, 42, 43, 44], [.ptr pb 0, .int .i64 (u : Int), .undef, .ptr m1 0, .int .i64 (t1.length : Int), .undef, aPts L, .int .i64 L.length, .int .i64 i, .undef, .undef, .undef], [], 62, ⟨x.1, [[(m1, .cells P)], VE pb [] x.2 7 ((textN (headN t1 u p) t1.length p).map aNode) [] g]⟩⟩ : St)) (fun x hx => ?_) fun J => ?_
    rotate_left
    · rcases Bool.eq_false_or_eq_true (voidW 0 p.name) with hv | hv
      · repeat refine wps_seq ?_
        refine wps_region callOK ?_
        simp [zS, kv, hv]
        repeat refine wps_seq ?_
        refine wps_cond (t := false) rfl (fun h => by cases h) fun _ => ?_
        repeat refine wps_seq ?_
        refine wps_skip ?_
        rw [← hP]
        have e2 : textN (headN t1 u p) t1.length p = headN t1 u p := by simp [textN, hv]
        have h2' : Eok (m1 + 3) pb [] (m1 + 2) 7 ((headN t1 u p).map aNode) [] (g ++ [(m1, .cells P)]) := by rw [hP]; exact h2
        refine J _ (m1 + 3, m1 + 2) ⟨by simp, by rw [e2]; exact h2'⟩ ⟨idn (m1 + 3), [], rfl, rfl, rfl, ?_, ?_⟩
        · simp [fitL, fitV, lookN_idn (show pb < m1 + 3 by have := h.lp; omega), lookN_idn (show m1 < m1 + 3 by omega), pureV]
        · rw [e2]
          exact fit_VEt h2' (by omega) (Nat.le_refl _)
      · obtain ⟨m2, k2, hm2, hk2, h3, hch⟩ := chars_at (T := T) (t := headN t1 u p) hT h2 (by omega) (show t1.length < (headN t1 u p).length by omega) okh p.text
        have e2 : textN (headN t1 u p) t1.length p = charsN (headN t1 u p) t1.length p.text := by simp [textN, hv]
        have hch' : CallAt (ctx T) 27 [.ptr pb 0, .int .i64 (t1.length : Int), .str p.text] ⟨m1 + 3, [[(m1, .cells [.str p.name, .str p.id, .str p.label, .str p.form, .str p.text, aCts p.ctls])], VE pb [] (m1 + 2) 7 ((headN t1 u p).map aNode) [] g]⟩ (.tup [])
            ⟨m2, [[(m1, .cells [.str p.name, .str p.id, .str p.label, .str p.form, .str p.text, aCts p.ctls])], VE pb [] k2 7 ((charsN (headN t1 u p) t1.length p.text).map aNode) [] g]⟩ := hch.perm rfl rfl VE_perm VE_perm
        repeat refine wps_seq ?_
        refine wps_region callOK ?_
        simp [zS, kv, hv]
        repeat refine wps_seq ?_
        refine wps_cond (t := true) rfl (fun _ => ?_) fun h => by cases h
        repeat refine wps_seq ?_
        refine wps_region (callOKF [⟨27, _, _, _, _, hch'⟩]) ?_
        simp [zS, callF]
        rw [← hP]
        have h3' : Eok m2 pb [] k2 7 ((textN (headN t1 u p) t1.length p).map aNode) [] (g ++ [(m1, .cells P)]) := by rw [hP, e2]; exact h3
        refine J _ (m2, k2) ⟨by simp only; omega, h3'⟩ ⟨idn m2, [], rfl, rfl, rfl, ?_, ?_⟩
        · simp [fitL, fitV, lookN_idn (show pb < m2 by have := h.lp; omega), lookN_idn (show m1 < m2 by omega), pureV]
        · rw [← e2]
          exact fit_VEt h3' (by omega) (Nat.le_refl _)
    · obtain ⟨m2, k2⟩ := x
      obtain ⟨hk2, h3⟩ := hx
      simp only at hk2 h3
      obtain ⟨t2, ht2⟩ : ∃ t2, t2 = textN (headN t1 u p) t1.length p := ⟨_, rfl⟩
      rw [← ht2] at h3 lt2 ⊢
      have ok2 : UpOk t2 := by
        rw [ht2]
        unfold textN
        split
        · exact okh
        · exact (Grow.chars (P := fun _ => True) (by omega) _ trivial).2.1 okh
      have g1 : getL P 5 = some (aCts p.ctls) := by rw [hP]; rfl
      have m1m2 : m1 < m2 := by
        exact h3.lg (m1, .cells P) (by simp)
      repeat refine wps_seq ?_
      refine wps_region callOK ?_
      simp [zS, g1, lenCt]
      have lp := h.lp
      repeat refine wps_seq ?_
      refine wps_block (wps_loop' (fun x : Nat × Nat × Nat => (⟨[0, 1, 2, 7, 8, 10, 11, 12, 13, 42, 43, 44], [.ptr pb 0, .int .i64 (u : Int), .undef, .undef, .int .i64 (t1.length : Int), .undef, aPts L, .int .i64 L.length, .int .i64 i, aCts p.ctls, .int .i64 p.ctls.length, .int .i64 x.1], [], 62, ⟨x.2.1, [[], VE pb [] x.2.2 7 ((ctlsN t2 t1.length (p.ctls.take x.1)).map aNode) [] g]⟩⟩ : St))
        (fun x => x.1 ≤ p.ctls.length ∧ m1 ≤ x.2.1 ∧ m1 ≤ x.2.2 ∧ Eok x.2.1 pb [] x.2.2 7 ((ctlsN t2 t1.length (p.ctls.take x.1)).map aNode) [] g) (fun x => p.ctls.length - x.1) (idn m2) [] (0, m2, k2) ⟨Nat.zero_le _, by simp only; omega, hk2, h3.less⟩ ⟨rfl, rfl, rfl, by simp [fitL, fitV, lookN_idn (show pb < m2 by omega), pureV], fit_VEd h3 (by omega) (Nat.le_refl m2)⟩ ?_)
      rintro ⟨j, m3, k3⟩ ⟨hj, hm3, hk3, h4⟩ B2 hB2
      simp only at hj hm3 hk3 h4
      repeat refine wps_seq ?_
      refine wps_region callOK ?_
      simp [zS]
      repeat refine wps_seq ?_
      refine wps_cond rfl (fun hc2 => ?_) fun hc2 => ?_
      · simp at hc2
        repeat refine wps_seq ?_
        refine wps_skip ?_
        simp
        refine wps_seq ?_
        repeat refine wps_seq ?_
        refine wps_block ?_
        repeat refine wps_seq ?_
        refine wps_region callOK ?_
        simp [zS, atCt hc2]
        obtain ⟨c, hcc⟩ : ∃ c, c = p.ctls[j] := ⟨_, rfl⟩
        rw [← hcc]
        obtain ⟨t3, ht3⟩ : ∃ t3, t3 = ctlsN t2 t1.length (p.ctls.take j) := ⟨_, rfl⟩
        rw [← ht3] at h4 ⊢
        have lt3 : t3.length = t2.length + j := by
          rw [ht3, ctlsN_len _ (by omega), List.length_take]
          omega
        have ok3 : UpOk t3 := by
          rw [ht3]
          exact (Grow.ctls (P := fun _ => True) (p.ctls.take j) (by omega) fun _ _ => trivial).2.1 ok2
        obtain ⟨hel, h5⟩ := elem_at (T := T) hT (row := [.str c.name, .str c.id, .str c.label]) (by simp [pureL, pureV]) (ctL c) (by simp [ctL]) (by simp [ctL]) h4 (by omega) (show t1.length < t3.length by omega) ok3 c.name
        have hel' : CallAt (ctx T) 26 [.ptr pb 0, .int .i64 (t1.length : Int), .str c.name, .slc (m3 + 1) 0 2 (.ex 2)] ⟨m3 + 2, [[(m3 + 1, .cells [.str wId, .str c.id, .str wName, .str c.label]), (m3, .cells [.str c.name, .str c.id, .str c.label])], VE pb [] k3 7 (t3.map aNode) [] g]⟩ (.int .i64 (t3.length : Int))
          ⟨m3 + 3, [[(m3, .cells [.str c.name, .str c.id, .str c.label])], VE pb [] (m3 + 2) 7 ((ctlN t3 t1.length c).map aNode) [] g]⟩ := hel
        repeat refine wps_seq ?_
        refine wps_region (callOKF [⟨26, _, _, _, _, hel'⟩]) ?_
        simp [zS, callF, wId, wName, wForm, bld_at]
        repeat refine wps_seq ?_
        refine wps_region callOK ?_
        simp [zS, add_one (show j ≤ 1000000000 by have := (hS p mp).2; omega)]
        have e5 : ctlsN t2 t1.length (p.ctls.take (j + 1)) = ctlN t3 t1.length c := by rw [ctlsN_take hc2, ← ht3, ← hcc]
        have h6 : Eok (m3 + 3) pb [] (m3 + 2) 7 ((ctlN t3 t1.length c).map aNode) [] (g ++ [(m3, .cells [.str c.name, .str c.id, .str c.label])]) := h5
        refine hB2 _ (j + 1, m3 + 3, m3 + 2) (by simp only; omega) ⟨by simp only; omega, by simp only; omega, by simp only; omega, by rw [e5]; exact h6.less⟩ ⟨idn (m3 + 3), [], rfl, rfl, rfl, ?_, ?_⟩
        · simp [fitL, fitV, lookN_idn (show pb < m3 + 3 by omega), pureV]
        · rw [e5]
          exact fit_VEd h6 (by omega) (Nat.le_refl _)
      · simp at hc2
        have hje : j = p.ctls.length := by omega
        subst hje
        rw [List.take_length] at h4 ⊢
        repeat refine wps_seq ?_
        refine wps_exit ?_
        simp
        repeat refine wps_seq ?_
        refine wps_region callOK ?_
        simp [zS, add_one (show i ≤ 1000000000 by omega)]
        have e5 : partsN t u (L.take (i + 1)) = ctlsN t2 t1.length p.ctls := by rw [partsN_take hc, ← ht1, ← hp, partN, ← ht2]
        refine hB _ (i + 1, m3, k3) (by simp only; omega) ⟨by simp only; omega, by simp only; omega, by simp only; omega, by rw [e5]; exact h4⟩ ⟨idn m3, [], rfl, rfl, rfl, ?_, ?_⟩
        · simp [fitL, fitV, lookN_idn (show pb < m3 by omega), pureV]
        · rw [e5]
          exact fit_VE h4 (by omega) (Nat.le_refl _) fun _ _ => rfl
  · simp at hc
    have hie : i = L.length := by omega
    subst hie
    rw [List.take_length] at h1 ⊢
    repeat refine wps_seq ?_
    refine wps_exit ?_
    simp [retVal, Tryz.f28, oneOr]
    have hes : (partsN t u L).map aNode ≠ [] := by
      have := partsN_len (u := u) L hu
      intro e
      have e2 := congrArg List.length e
      rw [List.length_map, List.length_nil] at e2
      omega
    have k1p := hk1 (by cases L with | nil => exact absurd rfl hn | cons _ _ => simp)
    have nd := VE_nd h1
    refine ⟨_, _, ?_, fit_E h k1p hes (fun σ => fitL_pure (el_node _).pure) ?_ ?_ fun e he => ?_⟩
    · simp [fitV, fitL]
    · simp only [Heap.get, getFs]
      rw [show getF pb ([] : List (Nat × Blk)) = none from rfl, VE_p, ownV_ne hes]
    · simp only [Heap.get, getFs]
      rw [show getF k1 ([] : List (Nat × Blk)) = none from rfl, VE_k h1 hes]
    · simp only [Heap.get, getFs]
      rw [show getF e.1 ([] : List (Nat × Blk)) = none from rfl, gF_of nd (by simp [VE, he])]
theorem parts_at (hT : PrT T) (hV : findE 56 T = some e56.g) (L : List Pt) (hL : L.length ≤ 1000) (hS : ∀ p, p ∈ L → p.name.length ≤ 1000000000 ∧ p.ctls.length ≤ 1000) (h : Eok m pb [] k 7 (t.map aNode) [] g) (ht : t.length + costs L ≤ 1000000) (hu : u < t.length) (ok : UpOk t) :
    ∃ m' k', m ≤ m' ∧ (k' = k ∨ m ≤ k') ∧ Eok m' pb [] k' 7 ((partsN t u L).map aNode) [] g ∧ CallAt (ctx T) 28 [.ptr pb 0, .int .i64 (u : Int), aPts L] ⟨m, [VE pb [] k 7 (t.map aNode) [] g]⟩ (.tup []) ⟨m', [VE pb [] k' 7 ((partsN t u L).map aNode) [] g]⟩ := by
  by_cases hn : L = []
  · subst hn
    refine ⟨m, k, Nat.le_refl m, .inl rfl, h, ?_⟩
    refine callAt_body (fn := Tryz.f28) (s0 := ⟨[0, 1, 2, 7, 8, 10, 11, 12, 13, 42, 43, 44], [.ptr pb 0, .int .i64 (u : Int), .fslc 6 [], .undef, .undef, .undef, .undef, .undef, .undef, .undef, .undef, .undef], [], 62, ⟨m, [] :: [VE pb [] k 7 (t.map aNode) [] g]⟩⟩) Tryz.func28 rfl rfl rfl ?_
    have l0 : ∀ H, lenA Tryz.prog H 22 (.fslc 6 []) = some 0 := fun H => rfl
    repeat refine wps_seq ?_
    refine wps_region callOK ?_
    simp [zS, l0]
    repeat refine wps_seq ?_
    refine wps_block (wps_loop' (fun x : Nat => (⟨[0, 1, 2, 7, 8, 10, 11, 12, 13, 42, 43, 44], [.undef, .undef, .undef, .undef, .undef, .undef, .undef, .int .i64 0, .int .i64 0, .undef, .undef, .undef], [], 62, ⟨m, [[], VE pb [] k 7 (t.map aNode) [] g]⟩⟩ : St))
      (fun x => True) (fun x => 0) (idn m) [] 0 trivial ⟨rfl, rfl, rfl, by simp [fitL, fitV, pureV], fit_VE h (Nat.le_refl m) (Nat.le_refl m) fun _ _ => rfl⟩ ?_)
    intro x _ B hB
    repeat refine wps_seq ?_
    refine wps_region callOK ?_
    simp [zS]
    repeat refine wps_seq ?_
    refine wps_cond (t := false) rfl (fun h => by cases h) fun _ => ?_
    repeat refine wps_seq ?_
    refine wps_exit ?_
    simp [retVal, Tryz.f28, oneOr]
    refine ⟨_, _, ?_, fit_VE1 h (Nat.le_refl m) (Nat.le_refl m) fun _ _ => rfl⟩
    simp [fitV, fitL]
  · exact ⟨m + 1, m, Nat.le_succ m, .inr (Nat.le_refl m), h.next (el_node _), c281 hT hV L hn hL hS h ht hu ok⟩
end
theorem marks_none : litOK (.fslc 1 []) (callN (ctx []) 100000 (.fn 57) [.agg [.nilS]] ⟨0, []⟩) = true := by decide +kernel
theorem list_none : litOK (.fslc 1 []) (callN (ctx []) 100000 (.fn 58) [.agg [.nilS]] ⟨0, []⟩) = true := by decide +kernel
theorem c29 {T : List (Entry Tryz.prog)} {m pb k : Nat} {g : List (Nat × Blk)} {es : List AV} (h : Eok m pb [] k 7 es [] g) (u : Int) :
    CallAt (ctx T) 29 [.ptr pb 0, .int .i64 u, .agg [.nilS]] ⟨m, [VE pb [] k 7 es [] g]⟩ (.tup []) ⟨m, [VE pb [] k 7 es [] g]⟩ := by
  have hM : ∀ H, CallAt (ctx T) 57 [.agg [.nilS]] H (.fslc 1 []) H := fun H => (closedLit (T := []) marks_none).lift (by simp [pureL, pureV]) H
  have hL : ∀ H, CallAt (ctx T) 58 [.agg [.nilS]] H (.fslc 1 []) H := fun H => (closedLit (T := []) list_none).lift (by simp [pureL, pureV]) H
  have b1 : Nat.beq (m + 1) m = false := beqN_ne (by omega)
  have l0 : ∀ H, lenA Tryz.prog H 46 (.fslc 1 []) = some 0 := fun H => rfl
  refine callAt_body (fn := Tryz.f29) (s0 := ⟨[0, 1, 2, 5, 6, 7, 8, 9, 10, 15, 16, 17], [.ptr pb 0, .int .i64 u, .agg [.nilS], .undef, .undef, .undef, .undef, .undef, .undef, .undef, .undef, .undef], [], 74, ⟨m, [] :: [VE pb [] k 7 es [] g]⟩⟩) Tryz.func29 rfl rfl rfl ?_
  repeat refine wps_seq ?_
  refine wps_region callOK ?_
  simp [zS]
  repeat refine wps_seq ?_
  refine wps_region callOK ?_
  simp [zS]
  repeat refine wps_seq ?_
  refine wps_region (callOKF [⟨57, _, _, _, _, hM ⟨m + 1 + 1, [[(m + 1, .map []), (m, .cells [.nilS])], VE pb [] k 7 es [] g]⟩⟩]) ?_
  simp [zS, callF, b1]
  repeat refine wps_seq ?_
  refine wps_region callOK ?_
  simp [zS]
  refine wps_seq ?_
  repeat refine wps_seq ?_
  refine wps_region (callOKF [⟨58, _, _, _, _, hL ⟨m + 1 + 1, [[(m + 1, .map []), (m, .cells [.nilS])], VE pb [] k 7 es [] g]⟩⟩]) ?_
  simp [zS, callF, l0, b1]
  have lp := h.lp
  have h1 := fit_VE (n := m + 1 + 1) (f := [(m + 1, .map []), (m, .cells [.nilS])]) h (Nat.le_refl m) (Nat.le_refl m) fun i hi => by simp [getF, beqN_ne (show m + 1 ≠ i by omega), beqN_ne (show m ≠ i by omega)]
  repeat refine wps_seq ?_
  refine wps_block (wps_loop' (fun x : Nat => (⟨[0, 1, 2, 5, 6, 7, 8, 9, 10, 15, 16, 17], [.undef, .undef, .undef, .undef, .undef, .undef, .undef, .undef, .undef, .undef, .int .i64 0, .int .i64 0], [], 74, ⟨m, [[], VE pb [] k 7 es [] g]⟩⟩ : St))
      (fun x => True) (fun x => 0) (idn m) [] 0 trivial ⟨rfl, rfl, rfl, by simp [fitL, fitV, pureV], h1⟩ ?_)
  intro x _ B hB
  repeat refine wps_seq ?_
  refine wps_region callOK ?_
  simp [zS]
  repeat refine wps_seq ?_
  refine wps_cond (t := false) rfl (fun h => by cases h) fun _ => ?_
  repeat refine wps_seq ?_
  refine wps_exit ?_
  simp [retVal, Tryz.f29, oneOr]
  refine ⟨_, _, ?_, fit_VE1 h (Nat.le_refl m) (Nat.le_refl m) fun _ _ => rfl⟩
  simp [fitV, fitL]
theorem VR.slcInv {ρ : Place} {b o n c : Nat} {x : Value} (h : VR ρ (.slc b o n (.ex c)) x) : ∃ l, ρ b = some l ∧ x = .slice (some ⟨l.cb, l.off + o, none⟩) n c ∧ n ≤ c := by
  cases h with
  | slcE b o len c l h hc => exact ⟨l, h, rfl, hc⟩
theorem VR.aggInv1 {ρ : Place} {v : AV} {x : Value} (h : VR ρ (.agg [v]) x) : ∃ y, x = .agg #[y] ∧ VR ρ v y := by
  cases h with
  | agg cs vs hl hv =>
    have h0 : 0 < vs.size := by rw [hl]; simp
    refine ⟨vs[0], ?_, hv 0 (by simp) h0⟩
    congr 1
    apply Array.ext
    · rw [hl]; rfl
    · intro i h1 h2
      have : i = 0 := by simp at h2; omega
      subst this
      rfl
theorem CallAt.rest {C : Ctx} {f : FuncId} {args : List AV} {n sz : Nat} {cs : List AV} (h : CallAt C f args ⟨0, []⟩ (.agg [.slc 0 0 n (.ex n)]) ⟨1, [[(0, .cells cs)]]⟩) (hc : cs.length = n * sz) (hp : pureL cs = true) (hn : n ≤ 9223372036854775807) :
    CallAt C f args ⟨0, []⟩ (.agg [.slc 0 0 n (.rest sz)]) ⟨1, [[(0, .cells cs)]]⟩ := by
  intro ρ w xs sm hx
  have key : ∀ {x : Value} {ρ' : Place} {w' : World}, VR ρ' (.agg [.slc 0 0 n (.ex n)]) x → Sim ρ' ⟨1, [[(0, .cells cs)]]⟩ w' → Step ρ ⟨0, []⟩ w ρ' ⟨1, [[(0, .cells cs)]]⟩ w' → ∃ ρ'', VR ρ'' (.agg [.slc 0 0 n (.rest sz)]) x ∧ Sim ρ'' ⟨1, [[(0, .cells cs)]]⟩ w' ∧ Step ρ ⟨0, []⟩ w ρ'' ⟨1, [[(0, .cells cs)]]⟩ w' := fun {x ρ' w'} h1 h2 h3 => by
    obtain ⟨y, rfl, hy⟩ := h1.aggInv1
    obtain ⟨l, hl, rfl, _⟩ := hy.slcInv
    obtain ⟨l', hl', g2, g3, g4⟩ := h2.live (0, .cells cs) (by simp [Heap.ents])
    rw [hl] at hl'
    cases hl'
    obtain ⟨r1, r2, r3⟩ := g4
    obtain ⟨ρ'', e⟩ : ∃ ρ'' : Place, ρ'' = ρ'.upd 0 ⟨l.cb, l.off, l.off + cs.length⟩ := ⟨_, rfl⟩
    have u0 : ρ'' 0 = some ⟨l.cb, l.off, l.off + cs.length⟩ := by rw [e]; exact Place.upd_same
    have uo : ∀ b, b ≠ 0 → ρ'' b = ρ' b := fun b hb => by rw [e]; exact Place.upd_other hb
    have eB : ρ''.B = ρ'.B := by rw [e]; rfl
    have eW : ρ''.W = ρ'.W := by rw [e]; rfl
    have ebare : ρ''.bare = ρ'.bare := by rw [e]; rfl
    have hd : ∀ b, ρ b = none := fun b => sm.dom b (Nat.zero_le _)
    have only : ∀ e, e ∈ (⟨1, [[(0, .cells cs)]]⟩ : Heap).ents → e = (0, .cells cs) := fun e he => by simpa [Heap.ents] using he
    refine ⟨ρ'', ?_, ⟨?_, ?_, ?_, ?_, ?_, ?_, ?_, ?_, ?_⟩, ⟨⟨?_, ?_, ?_, ?_, ?_⟩, h3.size, ?_, ?_, h3.num, ?_, ?_⟩⟩
    · refine .agg _ _ (by simp) fun i hi hi' => ?_
      have : i = 0 := by simp at hi; omega
      subst this
      exact .slcR 0 0 n sz n ⟨l.cb, l.off, l.off + cs.length⟩ u0 (Nat.le_refl _) ⟨by simp [hc], hn⟩
    · rw [eB]; exact h2.base
    · rw [eB, eW]; exact h2.below
    · rw [eW]; exact h2.os
    · rw [eW]; exact h2.tape
    · rw [eW]; exact h2.output
    · intro b hb
      rw [uo b (by simp at hb; omega)]
      exact h2.dom b hb
    · exact h2.nodup
    · intro e he
      rw [only e he]
      refine ⟨_, u0, by rw [eB]; exact g2, g3, ⟨by simp, fun i hi => r2 i (by simp at hi; omega), fun i hi => ?_⟩⟩
      obtain ⟨x, hx1, hx2⟩ := r3 i hi
      refine ⟨x, hx1, ?_⟩
      have := hx2.pure (pureL_get hp i hi)
      rw [← ebare] at this
      exact this.mono ρ''.bare_le
    · intro e e' he he' _ _ _ _ _
      rw [only e he, only e' he']
    · intro b l0 hb
      rw [hd b] at hb; cases hb
    · intro k hk
      rw [eB, eW]; exact h3.le.fz k hk
    · rw [eW]; exact h3.le.os
    · rw [eW]; exact h3.le.tape
    · rw [eW]; exact h3.le.output
    · exact h3.keeps
    · intro e he l0 hl0
      rw [only e he] at hl0
      rw [u0] at hl0
      cases hl0
      exact h3.rows (0, .cells cs) (by simp [Heap.ents]) l hl
    · intro b hb
      exact absurd hb (Nat.not_lt_zero b)
    · intro k hk
      rw [eB] at hk
      exact h3.cold k hk
  rcases h ρ w xs sm hx with ⟨x, ρ', w', h0, h1, h2, h3⟩ | ⟨g, ys, h0, h1⟩
  · obtain ⟨ρ'', k1, k2, k3⟩ := key h1 h2 h3
    exact .inl ⟨x, ρ'', w', h0, k1, k2, k3⟩
  · refine .inr ⟨g, ys, h0, h1.mono ?_⟩
    rintro e w' ⟨x, ρ', rfl, m1, m2, m3⟩
    obtain ⟨ρ'', k1, k2, k3⟩ := key m1 m2 m3
    exact ⟨x, ρ'', rfl, k1, k2, k3⟩
def root0 : Nd := ⟨0, 0, [], [], [], -1, []⟩
theorem c24 {T : List (Entry Tryz.prog)} : CallAt (ctx T) 24 [] ⟨0, []⟩ (.agg [.slc 0 0 1 (.rest 7)]) ⟨1, [[(0, .cells root0.cs)]]⟩ := by
  refine CallAt.rest ?_ rfl (by simp [root0, Nd.cs, aInt, aAttrs, pureL, pureV]) (by omega)
  have b5 : buildA Tryz.prog 50 [(5, .int .i64 (-1))] = some (.agg [.int .i64 0, .int .i64 0, .str [], .nilS, .str [], .int .i64 (-1), .nilS]) := rfl
  refine callAt_body (fn := Tryz.f24) (s0 := ⟨[0], [.undef], [], 4, ⟨0, [[]]⟩⟩) Tryz.func24 rfl rfl rfl ?_
  have bt : ∀ b n c, buildA Tryz.prog 32 [(0, .slc b 0 n c)] = some (.agg [.slc b 0 n c]) := fun b n c => rfl
  have pr : promote 0 [1] [] [[(1, .cells [.int .i64 0, .int .i64 0, .str [], .nilS, .str [], .int .i64 (-1), .nilS]), (0, .cells [.nilS])]] = [[(1, .cells [.int .i64 0, .int .i64 0, .str [], .nilS, .str [], .int .i64 (-1), .nilS]), (0, .cells [.nilS])]] := rfl
  repeat refine wps_seq ?_
  refine wps_region callOK ?_
  simp [zS, b5, bt, pr]
  repeat refine wps_seq ?_
  refine wps_region callOK ?_
  simp [zS, b5, bt, pr]
  repeat refine wps_seq ?_
  refine wps_ret ?_
  simp [retVal, Tryz.f24, oneOr]
  refine ⟨_, rfl, [(1, 0)], [], ?_, ⟨by simp, by simp, by simp [Heap.ents], by simp, fun x hx h => absurd h (Nat.not_lt_zero _), by simp, fun e he => ?_, fun x hx => by cases hx⟩⟩
  · simp [fitV, fitL, lookN, readCells]
  · simp only [Heap.ents, List.flatten_cons, List.flatten_nil, List.append_nil, List.mem_singleton] at he
    subst he
    exact ⟨1, _, by simp, rfl, by simp [fitB, fitL, fitV, root0, Nd.cs, aInt, aAttrs, pureV]⟩
@[simp] theorem szT25 : sizeT Tryz.prog 25 = some 4 := rfl
@[simp] theorem agT25 : aggT Tryz.prog 25 = some true := rfl
@[simp] theorem byT25 : bytesT Tryz.prog 25 = some 88 := rfl
@[simp] theorem alT25 (H : Heap) : alV Tryz.prog H 25 = some (.ptr H.n 0, H.new (.cells [.str [], .nilS, .nilS, .nilS])) := rfl
@[simp] theorem zeT25 : zeroOf Tryz.prog 25 = some (.agg [.str [], .nilS, .nilS, .nilS]) := rfl
attribute [simp] Tryz.underlying25
@[simp 500] theorem rvF25 (H : Heap) (cs : List AV) (o : Nat) : readVar Tryz.prog H 25 (.fptr cs o) = (subL o 4 cs).bind fun cs => some (.agg cs) := rfl
@[simp 500] theorem rvP25 (H : Heap) (b o : Nat) : readVar Tryz.prog H 25 (.ptr b o) = (readCells H b o 4).bind fun cs => some (.agg cs) := rfl
@[simp] theorem fa25_0 (x : AV) : fieldAddrA Tryz.prog 25 x 0 = (match x with | .ptr b o => some (.ptr b (o + 0)) | .fptr cs o => some (.fptr cs (o + 0)) | _ => none) := rfl
@[simp] theorem fd25_0 (cs : List AV) : fieldA Tryz.prog 25 (.agg cs) 0 = getL cs 0 := rfl
@[simp] theorem fa25_1 (x : AV) : fieldAddrA Tryz.prog 25 x 1 = (match x with | .ptr b o => some (.ptr b (o + 1)) | .fptr cs o => some (.fptr cs (o + 1)) | _ => none) := rfl
@[simp] theorem fd25_1 (cs : List AV) : fieldA Tryz.prog 25 (.agg cs) 1 = getL cs 1 := rfl
@[simp] theorem fa25_2 (x : AV) : fieldAddrA Tryz.prog 25 x 2 = (match x with | .ptr b o => some (.ptr b (o + 2)) | .fptr cs o => some (.fptr cs (o + 2)) | _ => none) := rfl
@[simp] theorem fd25_2 (cs : List AV) : fieldA Tryz.prog 25 (.agg cs) 2 = getL cs 2 := rfl
@[simp] theorem fa25_3 (x : AV) : fieldAddrA Tryz.prog 25 x 3 = (match x with | .ptr b o => some (.ptr b (o + 3)) | .fptr cs o => some (.fptr cs (o + 3)) | _ => none) := rfl
@[simp] theorem fd25_3 (cs : List AV) : fieldA Tryz.prog 25 (.agg cs) 3 = getL cs 3 := rfl
theorem new_at {T : List (Entry Tryz.prog)} (m : Nat) (f : List (Nat × Blk)) (fs : List (List (Nat × Blk))) : CallAt (ctx T) 24 [] ⟨m, f :: fs⟩ (.agg [.slc m 0 1 (.rest 7)]) ⟨m + 1, ((m, .cells root0.cs) :: f) :: fs⟩ := by
  have fh : FitH 0 [] [] ⟨m, f :: fs⟩ ⟨0, []⟩ := ⟨by simp, by simp, by simp [Heap.ents], fun x h => (by cases h), fun x h => (by cases h), Nat.zero_le _, fun e he => by simp [Heap.ents] at he, fun x h => by cases h⟩
  have pr : pureL root0.cs = true := by simp [root0, Nd.cs, aInt, aAttrs, pureL, pureV]
  have := (c24 (T := T)).framed (args := []) (H := ⟨m, f :: fs⟩) (H' := ⟨m + 1, ((m, .cells root0.cs) :: f) :: fs⟩) fh (by simp [fitL]) ⟨by simp, fun nd lt => ?_, fun e he => ?_⟩ (by simp)
  · simpa [renV, renL, outN, lookR] using this
  · simp only [Heap.ents, List.flatten_cons, List.cons_append, List.map_cons, List.nodup_cons] at nd ⊢
    refine ⟨fun hx => ?_, nd⟩
    obtain ⟨e, he, hx⟩ := List.mem_map.1 hx
    have := lt e (by simpa [Heap.ents] using he)
    simp only at this
    omega
  · simp only [Heap.ents, List.flatten_cons, List.cons_append, List.mem_cons] at he
    rcases he with rfl | he
    · refine .inl ⟨(0, .cells root0.cs), by simp [Heap.ents], ?_⟩
      simp [outN, lookR, renB, renL_pure _ pr]
    · exact .inr ⟨by simpa [Heap.ents] using he, fun x hx => by cases hx⟩
structure Pg where
  title : Str
  before : List Pt
  around : List Str
  after : List Pt
def Pg.cs (x : Pg) : List AV := [.str x.title, aPts x.before, aStrs x.around, aPts x.after]
def aPg (x : Pg) : AV := .agg x.cs
@[simp] theorem pure_Pgcs (x : Pg) : pureL x.cs = true := by simp [Pg.cs, pureL, pureV, aStrs]
abbrev sHtml : Str := [104, 116, 109, 108]
abbrev sHead : Str := [104, 101, 97, 100]
abbrev sTitle : Str := [116, 105, 116, 108, 101]
abbrev sBody : Str := [98, 111, 100, 121]
abbrev sDiv : Str := [100, 105, 118]
def tp1 : Tr := putN [root0] 0 ⟨4, 0, [], [], sHtml, 0, []⟩
def tp2 : Tr := putN tp1 0 (el0 sHtml [])
def tp3 : Tr := putN tp2 2 (el0 sHead [])
def tp4 : Tr := putN tp3 3 (el0 sTitle [])
def tp5 (x : Pg) : Tr := charsN tp4 4 x.title
def tp6 (x : Pg) : Tr := putN (tp5 x) 2 (el0 sBody [])
def tp7 (x : Pg) : Tr := partsN (tp6 x) (tp5 x).length x.before
def wrapN (t : Tr) (up : Nat) : List Str → Tr × Nat
  | [] => (t, up)
  | s :: r => wrapN (putN t up (el0 s [])) t.length r
def tp8 (x : Pg) : Tr × Nat := wrapN (tp7 x) (tp5 x).length x.around
def tp9 (x : Pg) : Tr := putN (tp8 x).1 (tp8 x).2 (el0 sDiv [])
def pageT (x : Pg) : Tr := partsN (tp9 x) (tp5 x).length x.after
section
variable {T : List (Entry Tryz.prog)} {m pb k u : Nat} {g : List (Nat × Blk)} {t : Tr}
theorem CallAt.nilD1 {C : Ctx} {f : FuncId} {args args' : List AV} {m pb k sz : Nat} {pre post es : List AV} {g : List (Nat × Blk)} {v : AV} {H' : Heap} (h : Eok m pb pre k sz es post g)
    (hc : CallAt C f args' ⟨m, [VE pb pre k sz es post g]⟩ v H') (hf : fitL (idn m) [] args args') : CallAt C f args ⟨m, [VE pb pre k sz es post g]⟩ v H' := by
  refine hc.drop (σ := idn m) (Φ := []) (fun nd => ?_) hf
  refine fit_any (Nat.le_refl m) (by simpa [Heap.ents] using VE_nd h) (fun e he => ?_) (Nat.le_refl m)
  have he' : e ∈ VE pb pre k sz es post g := by simpa only [Heap.ents, List.flatten_cons, List.flatten_nil, List.append_nil] using he
  obtain ⟨h1, h2⟩ := VE_all h e he'
  refine ⟨h1, h2, ?_⟩
  simp only [Heap.get, getFs]
  rw [gF_of (VE_nd h) he']
theorem fit_V1 {n m' N sz : Nat} {pre post es : List AV} (h : Eok m pb pre k sz es post g) (hN : N ≤ m) (hm : m ≤ m') : FitH N (idn m) [] ⟨n, [VE pb pre k sz es post g]⟩ ⟨m', [VE pb pre k sz es post g]⟩ := by
  refine fit_any hN (by simpa [Heap.ents] using VE_nd h) (fun e he => ?_) hm
  have he' : e ∈ VE pb pre k sz es post g := by simpa only [Heap.ents, List.flatten_cons, List.flatten_nil, List.append_nil] using he
  obtain ⟨h1, h2⟩ := VE_all h e he'
  refine ⟨h1, h2, ?_⟩
  simp only [Heap.get, getFs]
  rw [gF_of (VE_nd h) he']
theorem put_nil (hT : PrT T) (h : Eok m pb [] k 7 (t.map aNode) [] g) (ht : t.length + 1 ≤ 1000000) (hu : u < t.length) (ok : UpOk t) (kind : Int) (name data : Str) :
    CallAt (ctx T) 25 [.ptr pb 0, .int .i64 (u : Int), .agg [.int .i64 kind, .int .i64 0, .str name, .nilS, .str data, .int .i64 0, .nilS]] ⟨m, [VE pb [] k 7 (t.map aNode) [] g]⟩ (.int .i64 (t.length : Int)) ⟨m + 1, [VE pb [] m 7 ((putN t u ⟨kind, 0, name, [], data, 0, []⟩).map aNode) [] g]⟩ :=
  (c25 (T := T) hT.hA hT.hP hT.hS hT.hH hT.hC h ht hu ok ⟨kind, 0, name, [], data, 0, []⟩ (by simp)).nilD1 h (by
    simp [fitL, fitV, lookN_idn h.lp, pureV, aNode, Nd.cs, aInt, aAttrs])
theorem elem_nil (hT : PrT T) (h : Eok m pb [] k 7 (t.map aNode) [] g) (ht : t.length + 1 ≤ 1000000) (hu : u < t.length) (ok : UpOk t) (name : Str) :
    CallAt (ctx T) 26 [.ptr pb 0, .int .i64 (u : Int), .str name, .nilS] ⟨m, [VE pb [] k 7 (t.map aNode) [] g]⟩ (.int .i64 (t.length : Int)) ⟨m + 1, [VE pb [] m 7 ((putN t u (el0 name [])).map aNode) [] g]⟩ :=
  (c260 (T := T) hT.hA hT.hP hT.hS hT.hH hT.hC h ht hu ok name).nilD1 h (by
    simp [fitL, fitV, lookN_idn h.lp, pureV])
end
theorem wrapN_take : ∀ {L : List Str} {t : Tr} {up i : Nat} (h : i < L.length), wrapN t up (L.take (i + 1)) = (putN (wrapN t up (L.take i)).1 (wrapN t up (L.take i)).2 (el0 L[i] []), (wrapN t up (L.take i)).1.length)
  | s :: r, t, up, 0, _ => rfl
  | s :: r, t, up, i + 1, h => by
    have := wrapN_take (L := r) (t := putN t up (el0 s [])) (up := t.length) (i := i) (by simpa using h)
    simpa only [List.take_succ_cons, wrapN, List.getElem_cons_succ] using this
theorem wrapN_ok : ∀ (L : List Str) {t : Tr} {up : Nat}, up < t.length → (wrapN t up L).1.length = t.length + L.length ∧ (wrapN t up L).2 < (wrapN t up L).1.length
  | [], t, up, h => ⟨rfl, h⟩
  | s :: r, t, up, h => by
    have l := putN_len h (el0 s [])
    obtain ⟨h1, h2⟩ := wrapN_ok r (t := putN t up (el0 s [])) (up := t.length) (by omega)
    exact ⟨by rw [wrapN, h1, l, List.length_cons]; omega, h2⟩
theorem Grow.wrap {P : Nd → Prop} : ∀ (L : List Str) {t : Tr} {up : Nat}, up < t.length → (∀ s, s ∈ L → P (el0 s [])) → Grow P t (wrapN t up L).1
  | [], t, up, h, _ => .refl _ _
  | s :: r, t, up, h, hP => by
    have l := putN_len h (el0 s [])
    exact (Grow.put h (hP s (by simp))).trans (Grow.wrap r (t := putN t up (el0 s [])) (up := t.length) (by omega) fun c hc => hP c (by simp [hc]))
theorem tp1_len : tp1.length = 2 := rfl
theorem tp2_len : tp2.length = 3 := rfl
theorem tp3_len : tp3.length = 4 := rfl
theorem tp4_len : tp4.length = 5 := rfl
theorem c8 {T : List (Entry Tryz.prog)} (hT : PrT T) (hV : findE 56 T = some e56.g) (x : Pg) (hC : costs x.before + costs x.after + x.around.length ≤ 900000)
    (hbl : x.before.length ≤ 1000) (hal : x.after.length ≤ 1000) (hb : ∀ p, p ∈ x.before → p.name.length ≤ 1000000000 ∧ p.ctls.length ≤ 1000) (ha : ∀ p, p ∈ x.after → p.name.length ≤ 1000000000 ∧ p.ctls.length ≤ 1000) :
    CallAt (ctx T) 8 [aPg x, .agg [.nilS]] ⟨0, []⟩ (aTree (pageT x)) ⟨0, []⟩ := by
  have hn := new_at (T := T) 3 [(2, .cells [.nilS]), (1, .cells [.nilS]), (0, .cells x.cs)] []
  refine callAt_body (fn := Tryz.f8) (s0 := ⟨[0, 1, 2, 3, 4, 5, 6, 7, 8, 10, 38, 39, 40], [aPg x, .agg [.nilS], .undef, .undef, .undef, .undef, .undef, .undef, .undef, .undef, .undef, .undef, .undef], [], 64, ⟨0, [[]]⟩⟩) Tryz.func8 rfl rfl rfl ?_
  have sx : allSingle x.cs = true := rfl
  have bp : buildA Tryz.prog 56 [(0, .agg [.slc 3 0 1 (.rest 7)])] = some (.agg [.slc 3 0 1 (.rest 7)]) := rfl
  repeat refine wps_seq ?_
  refine wps_region callOK ?_
  simp [zS, aPg, sx]
  try refine wps_seq ?_
  repeat refine wps_seq ?_
  refine wps_region (callOKF [⟨24, _, _, _, _, hn⟩]) ?_
  simp [zS, callF, bp]
  obtain ⟨g, hg⟩ : ∃ g : List (Nat × Blk), g = [(2, .cells [.nilS]), (1, .cells [.nilS]), (0, .cells x.cs)] := ⟨_, rfl⟩
  have h0 : Eok 5 4 [] 3 7 ([root0].map aNode) [] g := by
    subst hg
    refine ⟨by omega, ⟨by omega, by simp⟩, fun e he => ?_, by simp, fun e he => ?_, fun σ hσ => by simp [fitL], fun σ hσ => by simp [fitL], el_node _⟩
    · simp at he
      rcases he with rfl | rfl | rfl <;> simp
    · simp at he
      rcases he with rfl | rfl | rfl <;> exact self_pure (by simp [pureL, pureV])
  repeat refine wps_seq ?_
  refine .fit (idn 5) [] (s' := (⟨[0, 1, 2, 3, 4, 5, 6, 7, 8, 10, 38, 39, 40], [.undef, .undef, .ptr 0 0, .ptr 1 0, .ptr 2 0, .ptr 4 0, .undef, .undef, .undef, .undef, .undef, .undef, .undef], [], 64, ⟨5, [VE 4 [] 3 7 ([root0].map aNode) [] g]⟩⟩ : St)) ⟨rfl, rfl, rfl, by simp [fitL, fitV, lookN_idn (show 0 < 5 by omega), lookN_idn (show 1 < 5 by omega), lookN_idn (show 2 < 5 by omega), lookN_idn (show 4 < 5 by omega)], ?_⟩ ?_
  · refine fit_any (by omega) (by simpa [Heap.ents] using VE_nd h0) (fun e he => ?_) (Nat.le_refl _)
    have he' : e ∈ VE 4 [] 3 7 ([root0].map aNode) [] g := by simpa [Heap.ents] using he
    obtain ⟨h1, h2⟩ := VE_all h0 e he'
    refine ⟨h1, h2, ?_⟩
    subst hg
    simp [VE, ownF] at he'
    rcases he' with rfl | rfl | rfl | rfl | rfl <;> rfl
  have u1 : UpOk [root0] := ⟨fun n hn => by simp at hn; subst hn; simp [root0], fun n hn => by simp at hn; subst hn; simp [root0]⟩
  have h1 := h0.next (el_node tp1)
  have ok1 : UpOk tp1 := u1.put (by simp) _
  have h2 := h1.next (el_node tp2)
  have ok2 : UpOk tp2 := ok1.put (by rw [tp1_len]; omega) _
  have p1 : CallAt (ctx T) 25 [.ptr 4 0, .int .i64 0, .agg [.int .i64 4, .int .i64 0, .str [], .nilS, .str sHtml, .int .i64 0, .nilS]] ⟨5, [VE 4 [] 3 7 ([root0].map aNode) [] g]⟩ (.int .i64 1) ⟨6, [VE 4 [] 5 7 (tp1.map aNode) [] g]⟩ := put_nil hT h0 (by simp) (u := 0) (by simp) u1 4 [] sHtml
  have p2 : CallAt (ctx T) 26 [.ptr 4 0, .int .i64 0, .str sHtml, .nilS] ⟨6, [VE 4 [] 5 7 (tp1.map aNode) [] g]⟩ (.int .i64 2) ⟨7, [VE 4 [] 6 7 (tp2.map aNode) [] g]⟩ := elem_nil hT h1 (by rw [tp1_len]; omega) (u := 0) (by rw [tp1_len]; omega) ok1 sHtml
  have b1 : buildA Tryz.prog 50 [(0, .int .i64 4), (4, .str sHtml)] = some (.agg [.int .i64 4, .int .i64 0, .str [], .nilS, .str sHtml, .int .i64 0, .nilS]) := rfl
  try refine wps_seq ?_
  repeat refine wps_seq ?_
  refine wps_region (callOKF [⟨25, _, _, _, _, p1⟩]) ?_
  simp [zS, callF, b1]
  try refine wps_seq ?_
  repeat refine wps_seq ?_
  refine wps_region (callOKF [⟨26, _, _, _, _, p2⟩]) ?_
  simp [zS, callF]
  have h2' := h2.mono (m' := 16) (by omega) (el_node tp2)
  have h3 : Eok 17 4 [] 16 7 (tp3.map aNode) [] g := h2'.next (el_node tp3)
  have ok3 : UpOk tp3 := ok2.put (by rw [tp2_len]; omega) _
  have h4 : Eok 18 4 [] 17 7 (tp4.map aNode) [] g := h3.next (el_node tp4)
  have ok4 : UpOk tp4 := ok3.put (by rw [tp3_len]; omega) _
  have p3 : CallAt (ctx T) 26 [.ptr 4 0, .int .i64 2, .str sHead, .nilS] ⟨16, [VE 4 [] 6 7 (tp2.map aNode) [] g]⟩ (.int .i64 3) ⟨17, [VE 4 [] 16 7 (tp3.map aNode) [] g]⟩ := elem_nil hT h2' (by rw [tp2_len]; omega) (u := 2) (by rw [tp2_len]; omega) ok2 sHead
  have p4 : CallAt (ctx T) 26 [.ptr 4 0, .int .i64 3, .str sTitle, .nilS] ⟨17, [VE 4 [] 16 7 (tp3.map aNode) [] g]⟩ (.int .i64 4) ⟨18, [VE 4 [] 17 7 (tp4.map aNode) [] g]⟩ := elem_nil hT h3 (by rw [tp3_len]; omega) (u := 3) (by rw [tp3_len]; omega) ok3 sTitle
  obtain ⟨m5, k5, hm5, hk5, h5, p5⟩ := chars_at (T := T) (t := tp4) (u := 4) hT h4 (by rw [tp4_len]; omega) (by rw [tp4_len]; omega) ok4 x.title
  have p5' : CallAt (ctx T) 27 [.ptr 4 0, .int .i64 4, .str x.title] ⟨18, [VE 4 [] 17 7 (tp4.map aNode) [] g]⟩ (.tup []) ⟨m5, [VE 4 [] k5 7 ((tp5 x).map aNode) [] g]⟩ := p5
  have hgx : ∀ {m k : Nat} {es : List AV}, Eok m 4 [] k 7 es [] g → getF 0 (VE 4 [] k 7 es [] g) = some (.cells x.cs) := fun {m k es} h => by
    rw [gF_of (VE_nd h) (e := (0, .cells x.cs)) (by subst hg; simp [VE])]
  have x0 : getL x.cs 0 = some (.str x.title) := rfl
  have x1 : getL x.cs 1 = some (aPts x.before) := rfl
  have x2 : getL x.cs 2 = some (aStrs x.around) := rfl
  have x3 : getL x.cs 3 = some (aPts x.after) := rfl
  have g4 := hgx h4
  have g3 := hgx h3
  have g2 := hgx h2
  have g5 := hgx h5
  repeat refine wps_seq ?_
  refine wps_drawn mixed (callOKF [⟨26, _, _, _, _, p3⟩, ⟨26, _, _, _, _, p4⟩, ⟨27, _, _, _, _, p5'⟩]) (by decide +kernel) fun B_ hB_ => ?_
  have d_4_7 : ahead B_ 4 7 = false := by rw [hB_]; decide +kernel
  have d_5_7 : ahead B_ 5 7 = false := by rw [hB_]; decide +kernel
  have d_7_4 : ahead B_ 7 4 = false := by rw [hB_]; decide +kernel
  have d_7_5 : ahead B_ 7 5 = false := by rw [hB_]; decide +kernel
  have d_7_8 : ahead B_ 7 8 = true := by rw [hB_]; decide +kernel
  have d_8_7 : ahead B_ 8 7 = false := by rw [hB_]; decide +kernel
  apply drawE B_
  simp [zS, mkBlk, guardA, clsOf, reserve, freshenAll, wantedBy, unwantedBy, Heap.lay, ontoF, evE_c, evE_n, putE_s, putX_s, valE_s, redE_s, actE_s, layE_s, gateE_t, clsE_l, clsE_a, clsE_p, clsE_r, d_4_7, d_5_7, d_7_4, d_7_5, d_7_8, d_8_7, callF, g4, g3, g2, g5, x0]
  exact rfl
  refine ⟨_, rfl, ?_, ?_⟩
  simp [zS, reserve, freshenAll, sameRecs, sameAll, sameAt, d_4_7, d_5_7, d_7_4, d_7_5, d_7_8, d_8_7, callF, g4, g3, g2, g5, x0]
  simp [allPend, Heap.lay, ontoF, thenQ]
  have l5 := charsN_len (t := tp4) (u := 4) (by rw [tp4_len]; omega) x.title
  rw [tp4_len, show charsN tp4 4 x.title = tp5 x from rfl] at l5
  rw [show charsN tp4 4 x.title = tp5 x from rfl] at h5
  have ok5 : UpOk (tp5 x) := (Grow.chars (P := fun _ => True) (by rw [tp4_len]; omega) x.title trivial).2.1 ok4
  have h6 : Eok (m5 + 1) 4 [] m5 7 ((tp6 x).map aNode) [] g := h5.next (el_node (tp6 x))
  have l6 : (tp6 x).length = (tp5 x).length + 1 := putN_len (by omega) _
  have ok6 : UpOk (tp6 x) := ok5.put (by omega) _
  have p6 : CallAt (ctx T) 26 [.ptr 4 0, .int .i64 2, .str sBody, .nilS] ⟨m5, [VE 4 [] k5 7 ((tp5 x).map aNode) [] g]⟩ (.int .i64 ((tp5 x).length : Int)) ⟨m5 + 1, [VE 4 [] m5 7 ((tp6 x).map aNode) [] g]⟩ := elem_nil (t := tp5 x) hT h5 (by omega) (u := 2) (by omega) ok5 sBody
  try refine wps_seq ?_
  repeat refine wps_seq ?_
  refine wps_region (callOKF [⟨26, _, _, _, _, p6⟩]) ?_
  simp [zS, callF]
  obtain ⟨m7, k7, hm7, hk7, h7, p7⟩ := parts_at (T := T) (u := (tp5 x).length) hT hV x.before hbl hb h6 (by omega) (by omega) ok6
  rw [show partsN (tp6 x) (tp5 x).length x.before = tp7 x from rfl] at h7 p7
  have l7 := partsN_len (u := (tp5 x).length) x.before (t := tp6 x) (by omega)
  rw [show partsN (tp6 x) (tp5 x).length x.before = tp7 x from rfl] at l7
  have ok7 : UpOk (tp7 x) := (Grow.parts (P := fun _ => True) (t := tp6 x) x.before (by omega) fun _ _ => ⟨trivial, trivial, fun _ _ => trivial⟩).2.1 ok6
  have g6 := hgx h6
  have g7 := hgx h7
  try refine wps_seq ?_
  repeat refine wps_seq ?_
  refine wps_region (callOKF [⟨28, _, _, _, _, p7⟩]) ?_
  simp [zS, callF, g6, x1]
  repeat refine wps_seq ?_
  refine wps_region callOK ?_
  simp [zS]
  repeat refine wps_seq ?_
  refine wps_region callOK ?_
  simp [zS, g7, x2, lenS]
  have b7 : (tp5 x).length < (tp7 x).length := by omega
  have c7 : (tp7 x).length ≤ 7 + costs x.before := by omega
  have eq9 : pageT x = partsN (putN (wrapN (tp7 x) (tp5 x).length x.around).1 (wrapN (tp7 x) (tp5 x).length x.around).2 (el0 sDiv [])) (tp5 x).length x.after := rfl
  clear p6 l5 l6 l7 p7
  generalize (tp5 x).length = B at *
  repeat refine wps_seq ?_
  refine wps_block (wps_loop' (fun y : Nat × Nat × Nat => (⟨[0, 1, 2, 3, 4, 5, 6, 7, 8, 10, 38, 39, 40], [.undef, .undef, .ptr 0 0, .ptr 1 0, .ptr 2 0, .ptr 4 0, .undef, .int .i64 (B : Int), .int .i64 ((wrapN (tp7 x) B (x.around.take y.1)).2 : Int), .undef, aStrs x.around, .int .i64 x.around.length, .int .i64 y.1], [], 64, ⟨y.2.1, [VE 4 [] y.2.2 7 ((wrapN (tp7 x) B (x.around.take y.1)).1.map aNode) [] g]⟩⟩ : St))
    (fun y => y.1 ≤ x.around.length ∧ Eok y.2.1 4 [] y.2.2 7 ((wrapN (tp7 x) B (x.around.take y.1)).1.map aNode) [] g) (fun y => x.around.length - y.1) (idn m7) [] (0, m7, k7) ⟨Nat.zero_le _, h7⟩ ⟨rfl, rfl, rfl, ?_, ?_⟩ ?_)
  · simp [fitL, fitV, lookN_idn (show 0 < m7 by omega), lookN_idn (show 1 < m7 by omega), lookN_idn (show 2 < m7 by omega), lookN_idn (show 4 < m7 by omega), pureV, wrapN, aStrs]
  · exact fit_V1 h7 (by omega) (Nat.le_refl _)
  · rintro ⟨i, m8, k8⟩ ⟨hi, h8⟩ B1 hB1
    simp only at hi h8
    obtain ⟨w1, w2⟩ := wrapN_ok (x.around.take i) (t := tp7 x) (up := B) (by omega)
    have okw : UpOk (wrapN (tp7 x) B (x.around.take i)).1 := (Grow.wrap (P := fun _ => True) _ (t := tp7 x) (up := B) (by omega) fun _ _ => trivial).2.1 ok7
    have m84 : 4 < m8 := h8.lp
    have m80 : 0 < m8 := by omega
    rw [List.length_take, Nat.min_eq_left hi] at w1
    repeat refine wps_seq ?_
    refine wps_region callOK ?_
    simp [zS]
    repeat refine wps_seq ?_
    refine wps_cond rfl (fun hc => ?_) fun hc => ?_
    · simp at hc
      repeat refine wps_seq ?_
      refine wps_skip ?_
      simp
      refine wps_seq ?_
      repeat refine wps_seq ?_
      refine wps_block ?_
      have wt := wrapN_take (t := tp7 x) (up := B) hc
      generalize wrapN (tp7 x) B (x.around.take i) = q at *
      have h9 := h8.next (el_node (putN q.1 q.2 (el0 x.around[i] [])))
      have p9 := elem_nil (T := T) hT h8 (by omega) w2 okw x.around[i]
      repeat refine wps_seq ?_
      refine wps_region callOK ?_
      simp [zS, atS hc]
      repeat refine wps_seq ?_
      refine wps_region (callOKF [⟨26, _, _, _, _, p9⟩]) ?_
      simp [zS, callF]
      repeat refine wps_seq ?_
      refine wps_region callOK ?_
      simp [zS, add_one (show i ≤ 1000000000 by omega)]
      refine hB1 _ (i + 1, m8 + 1, m8) (by simp only; omega) ⟨by simp only; omega, by rw [wt]; exact h9⟩ ⟨idn (m8 + 1), [], rfl, rfl, rfl, ?_, ?_⟩
      · rw [wt]
        simp [fitL, fitV, lookN_idn (show 0 < m8 + 1 by omega), lookN_idn (show 1 < m8 + 1 by omega), lookN_idn (show 2 < m8 + 1 by omega), lookN_idn (show 4 < m8 + 1 by omega), pureV, aStrs]
      · rw [wt]
        exact fit_V1 h9 (by omega) (Nat.le_refl _)
    · simp at hc
      have hie : i = x.around.length := by omega
      subst hie
      repeat refine wps_seq ?_
      refine wps_exit ?_
      simp
      rw [List.take_length] at *
      generalize wrapN (tp7 x) B x.around = q at *
      have h8' := h8.mono (m' := m8 + 6) (by omega) (el_node q.1)
      have h9 : Eok (m8 + 6 + 1) 4 [] (m8 + 6) 7 ((putN q.1 q.2 (el0 sDiv [])).map aNode) [] g := h8'.next (el_node _)
      have p9 : CallAt (ctx T) 26 [.ptr 4 0, .int .i64 (q.2 : Int), .str sDiv, .nilS] ⟨m8 + 6, [VE 4 [] k8 7 (q.1.map aNode) [] g]⟩ (.int .i64 (q.1.length : Int)) ⟨m8 + 6 + 1, [VE 4 [] (m8 + 6) 7 ((putN q.1 q.2 (el0 sDiv [])).map aNode) [] g]⟩ := elem_nil hT h8' (by omega) w2 okw sDiv
      have p10 := c29 (T := T) h9 (q.1.length : Int)
      have l9 := putN_len w2 (el0 sDiv [])
      have ok9 : UpOk (putN q.1 q.2 (el0 sDiv [])) := okw.put w2 _
      generalize putN q.1 q.2 (el0 sDiv []) = t9 at *
      obtain ⟨m11, k11, hm11, hk11, h11, p11⟩ := parts_at (T := T) (u := B) hT hV x.after hal ha h9 (by omega) (by omega) ok9
      have l11 := partsN_len (u := B) x.after (t := t9) (by omega)
      rw [← eq9] at l11 h11 p11
      have gs : ∀ {m k : Nat} {es : List AV}, Eok m 4 [] k 7 es [] g → getF 1 (VE 4 [] k 7 es [] g) = some (.cells [.nilS]) := fun {m k es} h => by
        rw [gF_of (VE_nd h) (e := (1, .cells [.nilS])) (by subst hg; simp [VE])]
      have s8 := gs h8'
      have s9 := gs h9
      repeat refine wps_seq ?_
      refine wps_drawn mixed (callOKF [⟨26, _, _, _, _, p9⟩, ⟨29, _, _, _, _, p10⟩]) (by decide +kernel) fun B_ hB_ => ?_
      have d_3_4 : ahead B_ 3 4 = false := by rw [hB_]; decide +kernel
      have d_4_3 : ahead B_ 4 3 = false := by rw [hB_]; decide +kernel
      have d_4_5 : ahead B_ 4 5 = true := by rw [hB_]; decide +kernel
      have d_5_4 : ahead B_ 5 4 = false := by rw [hB_]; decide +kernel
      apply drawE B_
      simp [zS, mkBlk, guardA, clsOf, reserve, freshenAll, wantedBy, unwantedBy, Heap.lay, ontoF, evE_c, evE_n, putE_s, putX_s, valE_s, redE_s, actE_s, layE_s, gateE_t, clsE_l, clsE_a, clsE_p, clsE_r, d_3_4, d_4_3, d_4_5, d_5_4, callF, s8, s9]
      exact rfl
      refine ⟨_, rfl, ?_, ?_⟩
      simp [zS, reserve, freshenAll, sameRecs, sameAll, sameAt, d_3_4, d_4_3, d_4_5, d_5_4, callF, s8, s9]
      simp [allPend, Heap.lay, ontoF, thenQ]
      have g9 := hgx h9
      try refine wps_seq ?_
      repeat refine wps_seq ?_
      refine wps_region (callOKF [⟨28, _, _, _, _, p11⟩]) ?_
      simp [zS, callF, g9, x3]
      have hes : (pageT x).map aNode ≠ [] := fun e => by
        have e2 := congrArg List.length e
        rw [List.length_map, List.length_nil] at e2
        omega
      have k0 := h11.lk.2
      rw [hg] at k0
      simp only [List.map_cons, List.map_nil, List.mem_cons, List.not_mem_nil, or_false, not_or] at k0
      obtain ⟨k04, k02, k01, k00⟩ := k0
      have eV : VE 4 [] k11 7 ((pageT x).map aNode) [] g = [(4, .cells [.slc k11 0 (pageT x).length (.rest 7)]), (k11, .cells (flatAV ((pageT x).map aNode))), (2, .cells [.nilS]), (1, .cells [.nilS]), (0, .cells x.cs)] := by
        unfold VE
        rw [ownV_ne hes, ownF_ne hes, List.length_map, hg]
        rfl
      have q2 : Nat.beq k11 2 = false := beqN_ne k02
      rw [eV]
      have rdT : ∀ n, readVar Tryz.prog ⟨n, [[(4, .cells [.slc k11 0 (pageT x).length (.rest 7)]), (k11, .cells (flatAV ((pageT x).map aNode))), (2, .cells [.nilS]), (1, .cells [.nilS]), (0, .cells x.cs)]]⟩ 32 (.ptr 4 0) = some (.agg [.slc k11 0 (pageT x).length (.rest 7)]) := fun n => rfl
      have wrT : ∀ n, writeVar Tryz.prog ⟨n, [[(4, .cells [.slc k11 0 (pageT x).length (.rest 7)]), (k11, .cells (flatAV ((pageT x).map aNode))), (2, .cells [.nilS]), (1, .cells [.nilS]), (0, .cells x.cs)]]⟩ 32 (.ptr 2 0) (.agg [.slc k11 0 (pageT x).length (.rest 7)]) =
          some ⟨n, [[(4, .cells [.slc k11 0 (pageT x).length (.rest 7)]), (k11, .cells (flatAV ((pageT x).map aNode))), (2, .cells [.slc k11 0 (pageT x).length (.rest 7)]), (1, .cells [.nilS]), (0, .cells x.cs)]]⟩ := fun n => by
        simp [writeVar, AV.cells, allSingle, AV.single, writeCells, Heap.get, getFs, getF, q2, Blk.wt, layL, Heap.ready, refs, promote, Heap.set, setFs, setF, Blk.re]
      repeat refine wps_seq ?_
      refine wps_region callOK ?_
      simp [zS, rdT, wrT]
      repeat refine wps_seq ?_
      refine wps_ret ?_
      simp [retVal, Tryz.f8, oneOr]
      have q4 : Nat.beq 4 k11 = false := beqN_ne (fun e => k04 e.symm)
      have rc : readCells ⟨m11, [[(4, .cells [.slc k11 0 (pageT x).length (.rest 7)]), (k11, .cells (flatAV ((pageT x).map aNode))), (2, .cells [.slc k11 0 (pageT x).length (.rest 7)]), (1, .cells [.nilS]), (0, .cells x.cs)]]⟩ 2 0 1 = some [.slc k11 0 (pageT x).length (.rest 7)] := by
        simp [readCells, Heap.get, getFs, getF, q2, Blk.rd, subL, takeL]
      rw [rc]
      obtain ⟨σ, Φ, f1, f2⟩ := ends_front (H := ⟨m11, [[(4, .cells [.slc k11 0 (pageT x).length (.rest 7)]), (k11, .cells (flatAV ((pageT x).map aNode))), (2, .cells [.slc k11 0 (pageT x).length (.rest 7)]), (1, .cells [.nilS]), (0, .cells x.cs)]]⟩) (b := k11) (sz := 7) (len := (pageT x).length) (cap := .rest 7) (es := (pageT x).map aNode) (fr := (pageT x).map aNode) (el_node _) (by simp [Heap.get, getFs, getF, q4]) (by simp) (by rw [List.take_of_length_le (by simp)])
      refine ⟨_, rfl, σ, Φ, ?_, f2⟩
      show fitV σ Φ (.agg [.slc k11 0 (pageT x).length (.rest 7)]) (.agg [.fslc 7 ((pageT x).map aNode)])
      simp only [fitV, fitL]
      exact .inl ⟨f1, trivial⟩
def preB (s t : Str) : Bool := decide (t.length ≤ s.length) && decide (s.take t.length = t)
theorem c30 {T : List (Entry Tryz.prog)} (s t : Str) : CallAt (ctx T) 30 [.str s, .str t] ⟨0, []⟩ (.bool (preB s t)) ⟨0, []⟩ := by
  refine callAt_body (fn := Tryz.f30) (s0 := ⟨[0, 1, 4], [.str s, .str t, .undef], [], 18, ⟨0, [[]]⟩⟩) Tryz.func30 rfl rfl rfl ?_
  repeat refine wps_seq ?_
  refine wps_region callOK ?_
  simp [zS]
  by_cases h : t.length ≤ s.length
  · repeat refine wps_seq ?_
    refine wps_region callOK ?_
    simp [zS, h, slStrTo h]
    repeat refine wps_seq ?_
    refine wps_ret ?_
    simp [retVal, Tryz.f30, oneOr, thenQ, blockQ]
    exact ends_pure rfl (by simp [preB, h])
  · repeat refine wps_seq ?_
    refine wps_region callOK ?_
    simp [zS, h]
    repeat refine wps_seq ?_
    refine wps_ret ?_
    simp [retVal, Tryz.f30, oneOr, thenQ, blockQ]
    exact ends_pure rfl (by simp [preB, h])
noncomputable def e30 : Entry Tryz.prog := mkE 30 [[], []] (fun x : Str × Str => [.str x.1, .str x.2]) (fun _ => True) (fun x => .bool (preB x.1 x.2)) fun x _ => c30 (T := []) x.1 x.2
theorem k30 {T : List (Entry Tryz.prog)} (hT : findE 30 T = some e30.g) (s t : Str) (H : Heap) : callL (ctx T) (.fn 30) [.str s, .str t] H = some (.bool (preB s t), H) :=
  mkE_scalar hT inj_str2 (s, t) trivial rfl (by simp)
theorem c9 {T : List (Entry Tryz.prog)} (hI : findE 30 T = some e30.g) (s t : Str) : CallAt (ctx T) 9 [.str s, .str t] ⟨0, []⟩ (.bool (preB s t)) ⟨0, []⟩ := by
  have hk := fun H => k30 hI s t H
  refine callAt_body (fn := Tryz.f9) (s0 := ⟨[0, 1, 4], [.str s, .str t, .undef], [], 8, ⟨0, [[]]⟩⟩) Tryz.func9 rfl rfl rfl ?_
  (repeat (first
    | (refine wps_seq ?_)
    | (refine wps_block ?_)
    | (refine wps_label ?_; simp only [thenQ, blockQ])
    | ((refine wps_region callOK ?_); simp [zS, hk])
    | (refine wps_cond (t := true) rfl (fun _ => ?_) (fun h => by cases h))
    | (refine wps_cond (t := false) rfl (fun h => by cases h) (fun _ => ?_))
    | ((refine wps_skip ?_); simp only [thenQ, blockQ])
    | ((refine wps_exit ?_); simp [thenQ, blockQ])))
  repeat refine wps_seq ?_
  refine wps_ret ?_
  simp [retVal, Tryz.f9, oneOr, thenQ, blockQ]
  exact ends_pure rfl (by rfl)
noncomputable def e9 : Entry Tryz.prog := mkE 9 [[], []] (fun x : Str × Str => [.str x.1, .str x.2]) (fun _ => True) (fun x => .bool (preB x.1 x.2)) fun x _ => c9 (T := [e30]) rfl x.1 x.2
theorem k9 {T : List (Entry Tryz.prog)} (hT : findE 9 T = some e9.g) (s t : Str) (H : Heap) : callL (ctx T) (.fn 9) [.str s, .str t] H = some (.bool (preB s t), H) :=
  mkE_scalar hT inj_str2 (s, t) trivial rfl (by simp)
def conB (s t : Str) : Bool := decide (0 ≤ Lib.index s t)
theorem c40 {T : List (Entry Tryz.prog)} (hI : findE 35 T = some e35.g) (s t : Str) (hl : s.length ≤ 1000000) : CallAt (ctx T) 40 [.str s, .str t] ⟨0, []⟩ (.bool (conB s t)) ⟨0, []⟩ := by
  have hk := fun H => k35 hI (t := t) hl H
  refine callAt_body (fn := Tryz.f40) (s0 := ⟨[0, 1, 4], [.str s, .str t, .undef], [], 9, ⟨0, [[]]⟩⟩) Tryz.func40 rfl rfl rfl ?_
  (repeat (first
    | (refine wps_seq ?_)
    | (refine wps_block ?_)
    | (refine wps_label ?_; simp only [thenQ, blockQ])
    | ((refine wps_region callOK ?_); simp [zS, hk])
    | (refine wps_cond (t := true) rfl (fun _ => ?_) (fun h => by cases h))
    | (refine wps_cond (t := false) rfl (fun h => by cases h) (fun _ => ?_))
    | ((refine wps_skip ?_); simp only [thenQ, blockQ])
    | ((refine wps_exit ?_); simp [thenQ, blockQ])))
  repeat refine wps_seq ?_
  refine wps_ret ?_
  simp [retVal, Tryz.f40, oneOr, thenQ, blockQ]
  exact ends_pure rfl (by simp [conB])
noncomputable def e40 : Entry Tryz.prog := mkE 40 [[], []] (fun x : Str × Str => [.str x.1, .str x.2]) (fun x => x.1.length ≤ 1000000) (fun x => .bool (conB x.1 x.2)) fun x h => c40 (T := [e35]) rfl x.1 x.2 h
theorem k40 {T : List (Entry Tryz.prog)} (hT : findE 40 T = some e40.g) {s : Str} (t : Str) (hl : s.length ≤ 1000000) (H : Heap) : callL (ctx T) (.fn 40) [.str s, .str t] H = some (.bool (conB s t), H) :=
  mkE_scalar hT inj_str2 (s, t) hl rfl (by simp)
def textB (s : Str) : Bool := validR s && !conB s [13]
def freeB (s pre : Str) : Bool := textB s && (decide (s = []) || !preB s pre)
theorem c17 {T : List (Entry Tryz.prog)} (hV : findE 39 T = some e39.g) (hC : findE 40 T = some e40.g) (s : Str) (hl : s.length ≤ 900000) : CallAt (ctx T) 17 [.str s] ⟨0, []⟩ (.bool (textB s)) ⟨0, []⟩ := by
  have k1 := fun H => k39 hV (s := s) hl H
  have k2 := fun H => k40 hC (s := s) [13] (by omega) H
  rcases Bool.eq_false_or_eq_true (validR s) with h | h
  · rw [h] at k1
    refine callAt_body (fn := Tryz.f17) (s0 := ⟨[0, 2], [.str s, .undef], [], 10, ⟨0, [[]]⟩⟩) Tryz.func17 rfl rfl rfl ?_
    repeat refine wps_seq ?_
    refine wps_region callOK ?_
    simp [zS]
    repeat refine wps_seq ?_
    refine wps_region callOK ?_
    simp [zS, k1, k2]
    repeat refine wps_seq ?_
    refine wps_ret ?_
    simp [retVal, Tryz.f17, oneOr, thenQ, blockQ]
    exact ends_pure rfl (by simp [textB, h])
  · rw [h] at k1
    refine callAt_body (fn := Tryz.f17) (s0 := ⟨[0, 2], [.str s, .undef], [], 10, ⟨0, [[]]⟩⟩) Tryz.func17 rfl rfl rfl ?_
    repeat refine wps_seq ?_
    refine wps_region callOK ?_
    simp [zS]
    repeat refine wps_seq ?_
    refine wps_region callOK ?_
    simp [zS, k1]
    repeat refine wps_seq ?_
    refine wps_ret ?_
    simp [retVal, Tryz.f17, oneOr, thenQ, blockQ]
    exact ends_pure rfl (by simp [textB, h])
noncomputable def e17 : Entry Tryz.prog := mkE 17 [[]] (fun x : Str => [.str x]) (fun x => x.length ≤ 900000) (fun x => .bool (textB x)) fun x h => c17 (T := [e39, e40]) rfl rfl x h
theorem k17 {T : List (Entry Tryz.prog)} (hT : findE 17 T = some e17.g) {s : Str} (h1 : s.length ≤ 900000) (H : Heap) : callL (ctx T) (.fn 17) [.str s] H = some (.bool (textB s), H) :=
  mkE_scalar hT (fun x y h => by simpa using h) s h1 rfl (by simp)
theorem c33 {T : List (Entry Tryz.prog)} (hX : findE 17 T = some e17.g) (hP : findE 9 T = some e9.g) (s pre : Str) (hl : s.length ≤ 900000) : CallAt (ctx T) 33 [.str s, .str pre] ⟨0, []⟩ (.bool (freeB s pre)) ⟨0, []⟩ := by
  have k1 := fun H => k17 hX (s := s) hl H
  have k2 := fun H => k9 hP s pre H
  rcases Bool.eq_false_or_eq_true (textB s) with h | h
  · by_cases hs : s = []
    · subst hs
      rw [h] at k1
      refine callAt_body (fn := Tryz.f33) (s0 := ⟨[0, 1, 4], [.str [], .str pre, .undef], [], 17, ⟨0, [[]]⟩⟩) Tryz.func33 rfl rfl rfl ?_
      repeat refine wps_seq ?_
      refine wps_region callOK ?_
      simp [zS]
      repeat refine wps_seq ?_
      refine wps_region callOK ?_
      simp [zS, k1]
      repeat refine wps_seq ?_
      refine wps_ret ?_
      simp [retVal, Tryz.f33, oneOr, thenQ, blockQ]
      exact ends_pure rfl (by simp [freeB, h])
    · rw [h] at k1
      refine callAt_body (fn := Tryz.f33) (s0 := ⟨[0, 1, 4], [.str s, .str pre, .undef], [], 17, ⟨0, [[]]⟩⟩) Tryz.func33 rfl rfl rfl ?_
      repeat refine wps_seq ?_
      refine wps_region callOK ?_
      simp [zS]
      repeat refine wps_seq ?_
      refine wps_region callOK ?_
      simp [zS, k1, k2, hs]
      repeat refine wps_seq ?_
      refine wps_ret ?_
      simp [retVal, Tryz.f33, oneOr, thenQ, blockQ]
      exact ends_pure rfl (by simp [freeB, h, hs])
  · rw [h] at k1
    refine callAt_body (fn := Tryz.f33) (s0 := ⟨[0, 1, 4], [.str s, .str pre, .undef], [], 17, ⟨0, [[]]⟩⟩) Tryz.func33 rfl rfl rfl ?_
    repeat refine wps_seq ?_
    refine wps_region callOK ?_
    simp [zS]
    repeat refine wps_seq ?_
    refine wps_region callOK ?_
    simp [zS, k1]
    repeat refine wps_seq ?_
    refine wps_ret ?_
    simp [retVal, Tryz.f33, oneOr, thenQ, blockQ]
    exact ends_pure rfl (by simp [freeB, h])
noncomputable def e33 : Entry Tryz.prog := mkE 33 [[], []] (fun x : Str × Str => [.str x.1, .str x.2]) (fun x => x.1.length ≤ 900000) (fun x => .bool (freeB x.1 x.2)) fun x h => c33 (T := [e17, e9]) rfl rfl x.1 x.2 h
theorem k33 {T : List (Entry Tryz.prog)} (hT : findE 33 T = some e33.g) {s : Str} (pre : Str) (h1 : s.length ≤ 900000) (H : Heap) : callL (ctx T) (.fn 33) [.str s, .str pre] H = some (.bool (freeB s pre), H) :=
  mkE_scalar hT inj_str2 (s, pre) h1 rfl (by simp)
theorem wIn_any {T : List (Entry Tryz.prog)} (W x : Str) (hW : asciiB W) (hl : W.length ≤ 100000) (hx : x.length ≤ 1000000000) : CallAt (ctx T) 16 [.str W, .str x] ⟨0, []⟩ (.bool (inW W x)) ⟨0, []⟩ :=
  c16 (T := [e35, e36]) rfl rfl W x hl hx (c38 (T := []) W hW (by omega)) (c37 (T := [e62]) rfl _ x (by have := wsplit_len W; omega))
noncomputable def ew16 : Entry Tryz.prog := mkE 16 [[], []] (fun x : Str × Str => [.str x.1, .str x.2]) (fun x => asciiB x.1 ∧ x.1.length ≤ 100000 ∧ x.2.length ≤ 1000000000) (fun x => .bool (inW x.1 x.2)) fun x h => wIn_any (T := []) x.1 x.2 h.1 h.2.1 h.2.2
theorem kw16 {T : List (Entry Tryz.prog)} (hT : findE 16 T = some ew16.g) {W x : Str} (hW : asciiB W) (hl : W.length ≤ 100000) (hx : x.length ≤ 1000000000) (H : Heap) : callL (ctx T) (.fn 16) [.str W, .str x] H = some (.bool (inW W x), H) :=
  mkE_scalar hT inj_str2 (W, x) ⟨hW, hl, hx⟩ rfl (by simp)
@[simp] theorem szT39 : sizeT Tryz.prog 39 = some 1 := rfl
@[simp] theorem agT39 : aggT Tryz.prog 39 = some false := rfl
@[simp] theorem byT39 : bytesT Tryz.prog 39 = some 8 := rfl
@[simp] theorem alT39 (H : Heap) : alV Tryz.prog H 39 = some (.ptr H.n 0, H.new (.cells [.nilF])) := rfl
@[simp] theorem zeT39 : zeroOf Tryz.prog 39 = some (.nilF) := rfl
attribute [simp] Tryz.underlying39
@[simp 500] theorem rvF39 (H : Heap) (cs : List AV) (o : Nat) : readVar Tryz.prog H 39 (.fptr cs o) = getL cs o := rfl
@[simp 500] theorem rvP39 (H : Heap) (b o : Nat) : readVar Tryz.prog H 39 (.ptr b o) = (H.get b).bind fun k => k.rd.bind fun cs => getL cs o := rfl
@[simp] theorem szT42 : sizeT Tryz.prog 42 = some 1 := rfl
@[simp] theorem agT42 : aggT Tryz.prog 42 = some false := rfl
@[simp] theorem byT42 : bytesT Tryz.prog 42 = some 8 := rfl
@[simp] theorem alT42 (H : Heap) : alV Tryz.prog H 42 = some (.ptr H.n 0, H.new (.cells [.nilF])) := rfl
@[simp] theorem zeT42 : zeroOf Tryz.prog 42 = some (.nilF) := rfl
attribute [simp] Tryz.underlying42
@[simp 500] theorem rvF42 (H : Heap) (cs : List AV) (o : Nat) : readVar Tryz.prog H 42 (.fptr cs o) = getL cs o := rfl
@[simp 500] theorem rvP42 (H : Heap) (b o : Nat) : readVar Tryz.prog H 42 (.ptr b o) = (H.get b).bind fun k => k.rd.bind fun cs => getL cs o := rfl
@[simp] theorem szT66 : sizeT Tryz.prog 66 = some 1 := rfl
@[simp] theorem agT66 : aggT Tryz.prog 66 = some false := rfl
@[simp] theorem byT66 : bytesT Tryz.prog 66 = some 8 := rfl
@[simp] theorem alT66 (H : Heap) : alV Tryz.prog H 66 = some (.ptr H.n 0, H.new (.cells [.nilF])) := rfl
@[simp] theorem zeT66 : zeroOf Tryz.prog 66 = some (.nilF) := rfl
attribute [simp] Tryz.underlying66
@[simp 500] theorem rvF66 (H : Heap) (cs : List AV) (o : Nat) : readVar Tryz.prog H 66 (.fptr cs o) = getL cs o := rfl
@[simp 500] theorem rvP66 (H : Heap) (b o : Nat) : readVar Tryz.prog H 66 (.ptr b o) = (H.get b).bind fun k => k.rd.bind fun cs => getL cs o := rfl
theorem idx_any {α : Type} {p : α → Bool} : ∀ (L : List α) (k : Nat), (0 ≤ idxFrom p L k) ↔ L.any p = true
  | [], k => by simp [idxFrom]
  | y :: r, k => by
    unfold idxFrom
    by_cases h : p y = true
    · simp [h]
    · rw [if_neg h, idx_any r (k + 1)]
      simp [h]
theorem c42 {T : List (Entry Tryz.prog)} (L : List Str) (hl : L.length ≤ 1000000) (f : FuncId) (cap : List AV) (hc : pureL cap = true) (p : Str → Bool) (hp : ∀ s, s ∈ L → CallAt (ctx T) f (.str s :: cap) ⟨0, []⟩ (.bool (p s)) ⟨0, []⟩) :
    CallAt (ctx T) 42 [aStrs L, .func (.func f) [] cap] ⟨0, []⟩ (.int .i64 (idxFrom p L 0)) ⟨0, []⟩ := by
  refine callAt_body (fn := Tryz.f42) (s0 := ⟨[0, 1, 4, 5, 7, 8], [aStrs L, .func (.func f) [] cap, .undef, .undef, .undef, .undef], [], 19, ⟨0, [[]]⟩⟩) Tryz.func42 rfl rfl rfl ?_
  repeat refine wps_seq ?_
  refine wps_region callOK ?_
  simp [zS]
  repeat refine wps_seq ?_
  refine wps_region callOK ?_
  simp [zS, lenS]
  repeat refine wps_seq ?_
  refine wps_block (wps_loop' (fun i : Nat => (⟨[0, 1, 4, 5, 7, 8], [aStrs L, .func (.func f) [] cap, .int .i64 0, .undef, .int .i64 (L.length : Nat), .int .i64 i], [], 19, ⟨0, [[]]⟩⟩ : St))
    (fun i => i ≤ L.length ∧ idxFrom p L 0 = idxFrom p (L.drop i) i) (fun i => L.length - i) [] [] 0 ⟨Nat.zero_le _, rfl⟩ ⟨rfl, rfl, rfl, by simp [fitL, fitV, pureV, pureL, aStrs, hc], FitH.nothing⟩ ?_)
  rintro i ⟨hi, hx⟩ B hB
  repeat refine wps_seq ?_
  refine wps_region callOK ?_
  simp [zS]
  repeat refine wps_seq ?_
  refine wps_cond rfl (fun h => ?_) fun h => ?_
  · simp at h
    rw [idxFrom_at h] at hx
    repeat refine wps_seq ?_
    refine wps_skip ?_
    simp
    repeat refine wps_seq ?_
    refine wps_block ?_
    repeat refine wps_seq ?_
    refine wps_region callOK ?_
    simp [zS]
    have hcall := (hp L[i] (List.getElem_mem h)).lift (by simp [pureL, pureV, hc]) ⟨0, [[]]⟩
    skip
    rcases Bool.eq_false_or_eq_true (p L[i]) with hb | hb
    · rw [hb] at hcall hx
      repeat refine wps_seq ?_
      refine wps_region (callOKF [⟨f, _, _, _, _, hcall⟩]) ?_
      simp [zS, atS h,  callF]
      repeat refine wps_seq ?_
      refine wps_cond (t := true) rfl (fun _ => ?_) fun h => by cases h
      repeat refine wps_seq ?_
      refine wps_region callOK ?_
      simp [zS]
      repeat refine wps_seq ?_
      refine wps_ret ?_
      simp [retVal, Tryz.f42, oneOr, thenQ, blockQ]
      exact ends_pure rfl (by rw [hx, if_pos rfl])
    · rw [hb] at hcall hx
      repeat refine wps_seq ?_
      refine wps_region (callOKF [⟨f, _, _, _, _, hcall⟩]) ?_
      simp [zS, atS h,  callF]
      repeat refine wps_seq ?_
      refine wps_cond (t := false) rfl (fun h => by cases h) fun _ => ?_
      repeat refine wps_seq ?_
      refine wps_skip ?_
      simp
      repeat refine wps_seq ?_
      refine wps_region callOK ?_
      simp [zS, add_one (show i ≤ 1000000000 by omega)]
      exact hB _ (i + 1) (by omega) ⟨by omega, by rw [hx, if_neg (by decide)]⟩ ⟨[], [], ⟨rfl, rfl, rfl, by simp [fitL, fitV, pureV, pureL, aStrs, hc], FitH.nothing⟩⟩
  · simp at h
    repeat refine wps_seq ?_
    refine wps_exit ?_
    simp
    repeat refine wps_seq ?_
    refine wps_region callOK ?_
    simp [zS]
    repeat refine wps_seq ?_
    refine wps_ret ?_
    simp [retVal, Tryz.f42, oneOr, thenQ, blockQ]
    exact ends_pure rfl (by rw [hx, List.drop_eq_nil_of_le h]; rfl)
theorem c19 {T : List (Entry Tryz.prog)} (L : List Str) (hl : L.length ≤ 1000000) (f : FuncId) (cap : List AV) (hc : pureL cap = true) (p : Str → Bool) (hp : ∀ s, s ∈ L → CallAt (ctx T) f (.str s :: cap) ⟨0, []⟩ (.bool (p s)) ⟨0, []⟩) :
    CallAt (ctx T) 19 [aStrs L, .func (.func f) [] cap] ⟨0, []⟩ (.bool (L.any p)) ⟨0, []⟩ := by
  have hk := (c42 (T := T) L hl f cap hc p hp).lift (by simp [pureL, pureV, hc]) ⟨0, [[]]⟩
  have hd : decide (0 ≤ idxFrom p L 0) = L.any p := by rw [Bool.eq_iff_iff, decide_eq_true_iff]; exact idx_any L 0
  generalize idxFrom p L 0 = v at *
  refine callAt_body (fn := Tryz.f19) (s0 := ⟨[0, 1, 4], [aStrs L, .func (.func f) [] cap, .undef], [], 9, ⟨0, [[]]⟩⟩) Tryz.func19 rfl rfl rfl ?_
  repeat refine wps_seq ?_
  refine wps_region callOK ?_
  simp [zS]
  repeat refine wps_seq ?_
  refine wps_region (callOKF [⟨42, _, _, _, _, hk⟩]) ?_
  simp [zS, callF]
  repeat refine wps_seq ?_
  refine wps_ret ?_
  simp [retVal, Tryz.f19, oneOr, thenQ, blockQ]
  exact ends_pure rfl (by rw [hd])
theorem c41 {T : List (Entry Tryz.prog)} (L : List Pt) (hl : L.length ≤ 1000000) (f : FuncId) (cap : List AV) (hc : pureL cap = true) (p : Pt → Bool) (hp : ∀ s, s ∈ L → CallAt (ctx T) f (aPt s :: cap) ⟨0, []⟩ (.bool (p s)) ⟨0, []⟩) :
    CallAt (ctx T) 41 [aPts L, .func (.func f) [] cap] ⟨0, []⟩ (.int .i64 (idxFrom p L 0)) ⟨0, []⟩ := by
  refine callAt_body (fn := Tryz.f41) (s0 := ⟨[0, 1, 4, 5, 7, 8], [aPts L, .func (.func f) [] cap, .undef, .undef, .undef, .undef], [], 19, ⟨0, [[]]⟩⟩) Tryz.func41 rfl rfl rfl ?_
  repeat refine wps_seq ?_
  refine wps_region callOK ?_
  simp [zS]
  repeat refine wps_seq ?_
  refine wps_region callOK ?_
  simp [zS, lenPt]
  repeat refine wps_seq ?_
  refine wps_block (wps_loop' (fun i : Nat => (⟨[0, 1, 4, 5, 7, 8], [aPts L, .func (.func f) [] cap, .int .i64 0, .undef, .int .i64 (L.length : Nat), .int .i64 i], [], 19, ⟨0, [[]]⟩⟩ : St))
    (fun i => i ≤ L.length ∧ idxFrom p L 0 = idxFrom p (L.drop i) i) (fun i => L.length - i) [] [] 0 ⟨Nat.zero_le _, rfl⟩ ⟨rfl, rfl, rfl, by simp [fitL, fitV, pureV, pureL, aPts, hc], FitH.nothing⟩ ?_)
  rintro i ⟨hi, hx⟩ B hB
  repeat refine wps_seq ?_
  refine wps_region callOK ?_
  simp [zS]
  repeat refine wps_seq ?_
  refine wps_cond rfl (fun h => ?_) fun h => ?_
  · simp at h
    rw [idxFrom_at h] at hx
    repeat refine wps_seq ?_
    refine wps_skip ?_
    simp
    repeat refine wps_seq ?_
    refine wps_block ?_
    repeat refine wps_seq ?_
    refine wps_region callOK ?_
    simp [zS]
    have hcall := (hp L[i] (List.getElem_mem h)).lift (by simp [pureL, pureV, hc]) ⟨0, [[]]⟩
    simp only [aPt, Pt.cs] at hcall
    rcases Bool.eq_false_or_eq_true (p L[i]) with hb | hb
    · rw [hb] at hcall hx
      repeat refine wps_seq ?_
      refine wps_region (callOKF [⟨f, _, _, _, _, hcall⟩]) ?_
      simp [zS, atPt h, Pt.cs, callF]
      repeat refine wps_seq ?_
      refine wps_cond (t := true) rfl (fun _ => ?_) fun h => by cases h
      repeat refine wps_seq ?_
      refine wps_region callOK ?_
      simp [zS]
      repeat refine wps_seq ?_
      refine wps_ret ?_
      simp [retVal, Tryz.f41, oneOr, thenQ, blockQ]
      exact ends_pure rfl (by rw [hx, if_pos rfl])
    · rw [hb] at hcall hx
      repeat refine wps_seq ?_
      refine wps_region (callOKF [⟨f, _, _, _, _, hcall⟩]) ?_
      simp [zS, atPt h, Pt.cs, callF]
      repeat refine wps_seq ?_
      refine wps_cond (t := false) rfl (fun h => by cases h) fun _ => ?_
      repeat refine wps_seq ?_
      refine wps_skip ?_
      simp
      repeat refine wps_seq ?_
      refine wps_region callOK ?_
      simp [zS, add_one (show i ≤ 1000000000 by omega)]
      exact hB _ (i + 1) (by omega) ⟨by omega, by rw [hx, if_neg (by decide)]⟩ ⟨[], [], ⟨rfl, rfl, rfl, by simp [fitL, fitV, pureV, pureL, aPts, hc], FitH.nothing⟩⟩
  · simp at h
    repeat refine wps_seq ?_
    refine wps_exit ?_
    simp
    repeat refine wps_seq ?_
    refine wps_region callOK ?_
    simp [zS]
    repeat refine wps_seq ?_
    refine wps_ret ?_
    simp [retVal, Tryz.f41, oneOr, thenQ, blockQ]
    exact ends_pure rfl (by rw [hx, List.drop_eq_nil_of_le h]; rfl)
theorem c18 {T : List (Entry Tryz.prog)} (L : List Pt) (hl : L.length ≤ 1000000) (f : FuncId) (cap : List AV) (hc : pureL cap = true) (p : Pt → Bool) (hp : ∀ s, s ∈ L → CallAt (ctx T) f (aPt s :: cap) ⟨0, []⟩ (.bool (p s)) ⟨0, []⟩) :
    CallAt (ctx T) 18 [aPts L, .func (.func f) [] cap] ⟨0, []⟩ (.bool (L.any p)) ⟨0, []⟩ := by
  have hk := (c41 (T := T) L hl f cap hc p hp).lift (by simp [pureL, pureV, hc]) ⟨0, [[]]⟩
  have hd : decide (0 ≤ idxFrom p L 0) = L.any p := by rw [Bool.eq_iff_iff, decide_eq_true_iff]; exact idx_any L 0
  generalize idxFrom p L 0 = v at *
  refine callAt_body (fn := Tryz.f18) (s0 := ⟨[0, 1, 4], [aPts L, .func (.func f) [] cap, .undef], [], 9, ⟨0, [[]]⟩⟩) Tryz.func18 rfl rfl rfl ?_
  repeat refine wps_seq ?_
  refine wps_region callOK ?_
  simp [zS]
  repeat refine wps_seq ?_
  refine wps_region (callOKF [⟨41, _, _, _, _, hk⟩]) ?_
  simp [zS, callF]
  repeat refine wps_seq ?_
  refine wps_ret ?_
  simp [retVal, Tryz.f18, oneOr, thenQ, blockQ]
  exact ends_pure rfl (by rw [hd])
theorem c60 {T : List (Entry Tryz.prog)} (L : List Ct) (hl : L.length ≤ 1000000) (f : FuncId) (cap : List AV) (hc : pureL cap = true) (p : Ct → Bool) (hp : ∀ s, s ∈ L → CallAt (ctx T) f (aCt s :: cap) ⟨0, []⟩ (.bool (p s)) ⟨0, []⟩) :
    CallAt (ctx T) 60 [aCts L, .func (.func f) [] cap] ⟨0, []⟩ (.int .i64 (idxFrom p L 0)) ⟨0, []⟩ := by
  refine callAt_body (fn := Tryz.f60) (s0 := ⟨[0, 1, 4, 5, 7, 8], [aCts L, .func (.func f) [] cap, .undef, .undef, .undef, .undef], [], 19, ⟨0, [[]]⟩⟩) Tryz.func60 rfl rfl rfl ?_
  repeat refine wps_seq ?_
  refine wps_region callOK ?_
  simp [zS]
  repeat refine wps_seq ?_
  refine wps_region callOK ?_
  simp [zS, lenCt]
  repeat refine wps_seq ?_
  refine wps_block (wps_loop' (fun i : Nat => (⟨[0, 1, 4, 5, 7, 8], [aCts L, .func (.func f) [] cap, .int .i64 0, .undef, .int .i64 (L.length : Nat), .int .i64 i], [], 19, ⟨0, [[]]⟩⟩ : St))
    (fun i => i ≤ L.length ∧ idxFrom p L 0 = idxFrom p (L.drop i) i) (fun i => L.length - i) [] [] 0 ⟨Nat.zero_le _, rfl⟩ ⟨rfl, rfl, rfl, by simp [fitL, fitV, pureV, pureL, aCts, hc], FitH.nothing⟩ ?_)
  rintro i ⟨hi, hx⟩ B hB
  repeat refine wps_seq ?_
  refine wps_region callOK ?_
  simp [zS]
  repeat refine wps_seq ?_
  refine wps_cond rfl (fun h => ?_) fun h => ?_
  · simp at h
    rw [idxFrom_at h] at hx
    repeat refine wps_seq ?_
    refine wps_skip ?_
    simp
    repeat refine wps_seq ?_
    refine wps_block ?_
    repeat refine wps_seq ?_
    refine wps_region callOK ?_
    simp [zS]
    have hcall := (hp L[i] (List.getElem_mem h)).lift (by simp [pureL, pureV, hc]) ⟨0, [[]]⟩
    simp only [aCt] at hcall
    rcases Bool.eq_false_or_eq_true (p L[i]) with hb | hb
    · rw [hb] at hcall hx
      repeat refine wps_seq ?_
      refine wps_region (callOKF [⟨f, _, _, _, _, hcall⟩]) ?_
      simp [zS, atCt h,  callF]
      repeat refine wps_seq ?_
      refine wps_cond (t := true) rfl (fun _ => ?_) fun h => by cases h
      repeat refine wps_seq ?_
      refine wps_region callOK ?_
      simp [zS]
      repeat refine wps_seq ?_
      refine wps_ret ?_
      simp [retVal, Tryz.f60, oneOr, thenQ, blockQ]
      exact ends_pure rfl (by rw [hx, if_pos rfl])
    · rw [hb] at hcall hx
      repeat refine wps_seq ?_
      refine wps_region (callOKF [⟨f, _, _, _, _, hcall⟩]) ?_
      simp [zS, atCt h,  callF]
      repeat refine wps_seq ?_
      refine wps_cond (t := false) rfl (fun h => by cases h) fun _ => ?_
      repeat refine wps_seq ?_
      refine wps_skip ?_
      simp
      repeat refine wps_seq ?_
      refine wps_region callOK ?_
      simp [zS, add_one (show i ≤ 1000000000 by omega)]
      exact hB _ (i + 1) (by omega) ⟨by omega, by rw [hx, if_neg (by decide)]⟩ ⟨[], [], ⟨rfl, rfl, rfl, by simp [fitL, fitV, pureV, pureL, aCts, hc], FitH.nothing⟩⟩
  · simp at h
    repeat refine wps_seq ?_
    refine wps_exit ?_
    simp
    repeat refine wps_seq ?_
    refine wps_region callOK ?_
    simp [zS]
    repeat refine wps_seq ?_
    refine wps_ret ?_
    simp [retVal, Tryz.f60, oneOr, thenQ, blockQ]
    exact ends_pure rfl (by rw [hx, List.drop_eq_nil_of_le h]; rfl)
theorem c34 {T : List (Entry Tryz.prog)} (L : List Ct) (hl : L.length ≤ 1000000) (f : FuncId) (cap : List AV) (hc : pureL cap = true) (p : Ct → Bool) (hp : ∀ s, s ∈ L → CallAt (ctx T) f (aCt s :: cap) ⟨0, []⟩ (.bool (p s)) ⟨0, []⟩) :
    CallAt (ctx T) 34 [aCts L, .func (.func f) [] cap] ⟨0, []⟩ (.bool (L.any p)) ⟨0, []⟩ := by
  have hk := (c60 (T := T) L hl f cap hc p hp).lift (by simp [pureL, pureV, hc]) ⟨0, [[]]⟩
  have hd : decide (0 ≤ idxFrom p L 0) = L.any p := by rw [Bool.eq_iff_iff, decide_eq_true_iff]; exact idx_any L 0
  generalize idxFrom p L 0 = v at *
  refine callAt_body (fn := Tryz.f34) (s0 := ⟨[0, 1, 4], [aCts L, .func (.func f) [] cap, .undef], [], 9, ⟨0, [[]]⟩⟩) Tryz.func34 rfl rfl rfl ?_
  repeat refine wps_seq ?_
  refine wps_region callOK ?_
  simp [zS]
  repeat refine wps_seq ?_
  refine wps_region (callOKF [⟨60, _, _, _, _, hk⟩]) ?_
  simp [zS, callF]
  repeat refine wps_seq ?_
  refine wps_ret ?_
  simp [retVal, Tryz.f34, oneOr, thenQ, blockQ]
  exact ends_pure rfl (by rw [hd])
@[simp] theorem szT64 : sizeT Tryz.prog 64 = some 1 := rfl
@[simp] theorem agT64 : aggT Tryz.prog 64 = some false := rfl
@[simp] theorem byT64 : bytesT Tryz.prog 64 = some 24 := rfl
@[simp] theorem alT64 (H : Heap) : alV Tryz.prog H 64 = some (.ptr H.n 0, H.new (.cells [.nilS])) := rfl
@[simp] theorem zeT64 : zeroOf Tryz.prog 64 = some (.nilS) := rfl
attribute [simp] Tryz.underlying64
@[simp 500] theorem rvF64 (H : Heap) (cs : List AV) (o : Nat) : readVar Tryz.prog H 64 (.fptr cs o) = getL cs o := rfl
@[simp 500] theorem rvP64 (H : Heap) (b o : Nat) : readVar Tryz.prog H 64 (.ptr b o) = (H.get b).bind fun k => k.rd.bind fun cs => getL cs o := rfl
@[simp] theorem slz64 (sz : Nat) (e : AV) (r : List AV) : binA Tryz.prog .eql 64 (.fslc sz (e :: r)) .nilS = some (.bool false) := rfl
@[simp] theorem sln64 (sz : Nat) (e : AV) (r : List AV) : binA Tryz.prog .neq 64 (.fslc sz (e :: r)) .nilS = some (.bool true) := rfl
@[simp] theorem slze64 : binA Tryz.prog .eql 64 .eslc .nilS = some (.bool false) := rfl
@[simp] theorem slzz64 : binA Tryz.prog .eql 64 .nilS .nilS = some (.bool true) := rfl
theorem el_pt (L : List Pt) : Elems 6 (L.map aPt) := .map (sz := 6) (f := aPt) (by decide) (fun x => ⟨rfl, by simp [aPt, AV.cells], fun h => absurd h (by decide), fun _ => ⟨_, rfl⟩⟩) L
theorem single_pt : ∀ (L : List Pt), allSingle (flatAV (L.map aPt)) = true
  | [] => rfl
  | a :: r => by simp only [List.map_cons, flatAV, allSingle_append, single_pt r]; rfl
abbrev rwP (L : List Pt) : List AV := flatAV (L.map aPt)
theorem rwP_len (L : List Pt) : (rwP L).length = L.length * 6 := by rw [(el_pt L).len, List.length_map]
theorem rwP_pure (L : List Pt) : pureL (rwP L) = true := (el_pt L).pure
theorem rwP_app (A B : List Pt) : rwP (A ++ B) = rwP A ++ rwP B := by simp only [rwP, List.map_append, flat_append]
def ptZ : List AV := [.str [], .str [], .str [], .str [], .str [], .nilS]
def blkP (n : Nat) : List AV := replL ptZ n
theorem blkP_len (n : Nat) : (blkP n).length = n * 6 := replL_len n
theorem blkP_pure : ∀ (n : Nat), pureL (blkP n) = true
  | 0 => rfl
  | n + 1 => by
    simp only [blkP, replL, pureL_append]
    have := blkP_pure n
    unfold blkP at this
    rw [this]
    rfl
theorem blkP_add : ∀ (a b : Nat), blkP (a + b) = blkP a ++ blkP b
  | 0, b => by simp [blkP, replL]
  | a + 1, b => by
    have := blkP_add a b
    unfold blkP at this ⊢
    rw [Nat.add_right_comm]
    simp only [replL, this, List.append_assoc]
@[simp] theorem blt_capP {H : Heap} : builtinA Tryz.prog H .cap #[22] [.nilS] = some (.int .i64 0, H) := by
  simp [builtinA]
theorem grow_P {H : Heap} {n : Nat} (h0 : 0 < n) (h : n ≤ 1000) : growA Tryz.prog H 38 .nilS (.int .i64 (n : Int)) = some (.slc H.n 0 n (.rest 6), H.new (.cells (blkP n))) := by
  obtain ⟨q, rfl⟩ : ∃ q, n = q + 1 := ⟨n - 1, by omega⟩
  have h1 : idx ((q + 1 : Nat) : Int) 140737488355328 = some (q + 1) := idx_nat (by omega)
  obtain ⟨by_, hby⟩ : ∃ b, bytesT Tryz.prog 38 = some b := ⟨_, byT38⟩
  have hb2 : by_ = 104 := by rw [byT38] at hby; exact (Option.some.inj hby).symm
  have h3 : roomOK (q + 1) 104 = true := by unfold roomOK; rw [Nat.ble_eq]; omega
  have hrow : ∀ cs, rowA Tryz.prog 38 cs = .cells cs := fun cs => rfl
  have hzz : zeroOf Tryz.prog 38 = some (.agg ptZ) := zeT38
  unfold growA
  simp only [szT38, byT38, hzz, Option.bind_some, h1, h3, hrow]
  rfl
theorem sl_nilP {H : Heap} : sliceA Tryz.prog H 22 .nilS none (some (.int .i64 0)) none = some .nilS := by
  simp [sliceA, hiOK, bound]
  rfl
theorem c310 {T : List (Entry Tryz.prog)} : CallAt (ctx T) 31 [.nilS, .int .i64 0] ⟨0, []⟩ .nilS ⟨0, []⟩ := by
  have hl : ∀ H, lenA Tryz.prog H 22 .nilS = some 0 := fun H => by simp [lenA]
  have hw0 : wr .i64 0 = some 0 := wr_small (by omega) (by omega)
  refine callAt_body (fn := Tryz.f31) (s0 := ⟨[0, 1, 4], [.nilS, .int .i64 0, .undef], [], 27, ⟨0, [[]]⟩⟩) Tryz.func31 rfl rfl rfl ?_
  repeat refine wps_seq ?_
  refine wps_region callOK ?_
  simp [zS]
  repeat refine wps_seq ?_
  refine wps_region callOK ?_
  simp [zS]
  repeat refine wps_seq ?_
  refine wps_cond (t := false) rfl (fun h => by cases h) fun _ => ?_
  repeat refine wps_seq ?_
  refine wps_skip ?_
  simp
  repeat refine wps_seq ?_
  refine wps_region callOK ?_
  simp [zS, hl, hw0]
  repeat refine wps_seq ?_
  refine wps_region callOK ?_
  simp [zS]
  repeat refine wps_seq ?_
  refine wps_cond (t := false) rfl (fun h => by cases h) fun _ => ?_
  repeat refine wps_seq ?_
  refine wps_skip ?_
  simp
  repeat refine wps_seq ?_
  refine wps_region callOK ?_
  simp [zS]
  repeat refine wps_seq ?_
  refine wps_ret ?_
  simp [retVal, Tryz.f31, oneOr]
  exact ends_pure rfl rfl
theorem c31 {T : List (Entry Tryz.prog)} {n : Nat} (h0 : 0 < n) (h : n ≤ 1000) : CallAt (ctx T) 31 [.nilS, .int .i64 (n : Int)] ⟨0, []⟩ (.slc 0 0 0 (.rest 6)) ⟨1, [[(0, .cells (blkP n))]]⟩ := by
  have hg := fun H => grow_P (H := H) h0 h
  have hp : (0 : Int) < (n : Int) := by omega
  have hn : ¬ (n : Int) < 0 := by omega
  have hw : wr .i64 (n : Int) = some (n : Int) := wr_small (by omega) (by omega)
  have hl : ∀ H, lenA Tryz.prog H 22 .nilS = some 0 := fun H => by simp [lenA]
  have hb : Heap.get ⟨1, [[(0, .cells (blkP n))]]⟩ 0 = some (.cells (blkP n)) := rfl
  have hsl := slice_to (P := Tryz.prog) (H := ⟨1, [[(0, .cells (blkP n))]]⟩) (t := 22) (b := 0) (len := n) (i := 0) (cs := blkP n) Tryz.underlying22 szT38 (by omega) hb (blkP_len n) (by omega) h0
  simp only [Int.natCast_zero, Int.ofNat_zero, Int.cast_ofNat_Int] at hsl
  refine callAt_body (fn := Tryz.f31) (s0 := ⟨[0, 1, 4], [.nilS, .int .i64 (n : Int), .undef], [], 27, ⟨0, [[]]⟩⟩) Tryz.func31 rfl rfl rfl ?_
  repeat refine wps_seq ?_
  refine wps_region callOK ?_
  simp [zS]
  repeat refine wps_seq ?_
  refine wps_region callOK ?_
  simp [zS, hn]
  repeat refine wps_seq ?_
  refine wps_cond (t := false) (by simp [opnd, St.get, hn]) (fun h => by cases h) fun _ => ?_
  repeat refine wps_seq ?_
  refine wps_skip ?_
  simp
  have hw0 : wr .i64 0 = some 0 := wr_small (by omega) (by omega)
  repeat refine wps_seq ?_
  refine wps_region callOK ?_
  simp [zS, hl, hw, hw0]
  repeat refine wps_seq ?_
  refine wps_region callOK ?_
  simp [zS, hp]
  repeat refine wps_seq ?_
  refine wps_cond (t := true) (by simp [opnd, St.get, h0]) (fun _ => ?_) fun h => by cases h
  repeat refine wps_seq ?_
  refine wps_region callOK ?_
  simp [zS, sl_nilP, hg, hl, hsl]
  repeat refine wps_seq ?_
  refine wps_region callOK ?_
  simp [zS]
  repeat refine wps_seq ?_
  refine wps_ret ?_
  simp [retVal, Tryz.f31, oneOr]
  exact ⟨[(0, 0)], [], by simp [fitV, lookN], FitH.keep1 (b := 0) (by simp [Heap.get, getFs, getF]) (blkP_pure n) rfl⟩
def aPP (LL : List (List Pt)) : AV := .fslc 1 (LL.map aPts)
@[simp] theorem pure_aPP (LL : List (List Pt)) : pureV (aPP LL) = true := by simp [aPP, pureV]
theorem atPP {LL : List (List Pt)} {i : Nat} (h : i < LL.length) : indexAddrA Tryz.prog 64 (aPP LL) (.int .i64 (i : Int)) = some (.fptr [aPts LL[i]] 0) := by
  simp [indexAddrA, aPP, idx_nat h, getL_map h, AV.cells]
theorem lenPP {H : Heap} {LL : List (List Pt)} : lenA Tryz.prog H 64 (aPP LL) = some LL.length := by simp [lenA, aPP]
theorem ready_pts {H : Heap} {b : Nat} {L : List Pt} : H.ready b (rwP L) = H := by
  have : (rwP L).flatMap (refs 6) = [] := refsL_pure _ _ (rwP_pure L)
  unfold Heap.ready
  rw [this]
theorem app_roomP {m b k : Nat} {A B : List Pt} {g : List (Nat × Blk)} {fs : List (List (Nat × Blk))} (hk : B.length ≤ k) (hr : A.length + B.length ≤ 1000000) :
    appendA Tryz.prog ⟨m, ((b, .cells (rwP A ++ blkP k)) :: g) :: fs⟩ 38 (.slc b 0 A.length (.rest 6)) (aPts B) = some (.slc b 0 (A.length + B.length) (.rest 6), ⟨m, ((b, .cells (rwP (A ++ B) ++ blkP (k - B.length))) :: g) :: fs⟩) := by
  have hg : Heap.get ⟨m, ((b, .cells (rwP A ++ blkP k)) :: g) :: fs⟩ b = some (.cells (rwP A ++ blkP k)) := by simp [Heap.get, getFs, getF]
  have hkn : knownCells ⟨m, ((b, .cells (rwP A ++ blkP k)) :: g) :: fs⟩ b = some (A.length * 6 + k * 6) := by rw [knownCells, hg]; simp only [Option.bind_some, rd_cells, List.length_append, rwP_len, blkP_len]
  have hroom : roomOK (A.length + B.length) 104 = true := by unfold roomOK; rw [Nat.ble_eq]; omega
  have hsrc : ∀ H, srcCells H 6 B.length (aPts B) = some (rwP B) := fun H => by
    simp [srcCells, List.take_of_length_le]
  have hsing : allSingle (rwP B) = true := single_pt B
  have hble : Nat.ble (0 + (A.length + B.length) * 6) (A.length * 6 + k * 6) = true := by rw [Nat.ble_eq]; omega
  have hsplit : blkP k = blkP B.length ++ blkP (k - B.length) := by rw [← blkP_add]; congr 1; omega
  have hlay : layL (rwP B) (0 + A.length * 6) (rwP A ++ blkP k) = some (rwP (A ++ B) ++ blkP (k - B.length)) := by
    have := layL_app (a := rwP A) (b := blkP B.length) (b' := rwP B) (c := blkP (k - B.length)) (by rw [blkP_len, rwP_len])
    rw [rwP_len] at this
    rw [hsplit, ← List.append_assoc, show 0 + A.length * 6 = A.length * 6 by omega, this, rwP_app]
  have hzz : zeroOf Tryz.prog 38 = some (.agg ptZ) := zeT38
  unfold appendA
  simp only [szT38, byT38, hzz, Option.bind_some, srcLen, List.length_map, hsrc, hroom, hsing, hkn, hble]
  simp only [writeCells, hg, Option.bind_some, Blk.wt, hlay, ready_pts, Blk.re]
  simp [Heap.set, setFs, setF]
  rfl
def sumP (LL : List (List Pt)) (i : Nat) : Nat := (LL.take i).flatten.length
theorem sumP_at {LL : List (List Pt)} {i : Nat} (h : i < LL.length) : sumP LL (i + 1) = sumP LL i + LL[i].length := by
  unfold sumP
  rw [List.take_succ_eq_append_getElem h, List.flatten_append]
  simp
theorem sumP_le {LL : List (List Pt)} {i : Nat} : sumP LL i ≤ LL.flatten.length := by
  unfold sumP
  have : LL.flatten = (LL.take i).flatten ++ (LL.drop i).flatten := by rw [← List.flatten_append, List.take_append_drop]
  rw [this, List.length_append]; omega
theorem c12 {T : List (Entry Tryz.prog)} (LL : List (List Pt)) (hmx : LL.flatten.length ≤ 1000) (hl : LL.length ≤ 1000) : CallAt (ctx T) 12 [aPP LL] ⟨0, []⟩ (aPts LL.flatten) ⟨0, []⟩ := by
  refine callAt_body (fn := Tryz.f12) (s0 := ⟨[0, 2, 3, 5, 6, 8, 9, 10, 11, 25, 26, 27], [aPP LL, .undef, .undef, .undef, .undef, .undef, .undef, .undef, .undef, .undef, .undef, .undef], [], 36, ⟨0, [[]]⟩⟩) Tryz.func12 rfl rfl rfl ?_
  repeat refine wps_seq ?_
  refine wps_region callOK ?_
  simp [zS]
  repeat refine wps_seq ?_
  refine wps_region callOK ?_
  simp [zS]
  repeat refine wps_seq ?_
  refine wps_region callOK ?_
  simp [zS, lenPP]
  repeat refine wps_seq ?_
  refine wps_block (wps_loop' (fun i : Nat => (⟨[0, 2, 3, 5, 6, 8, 9, 10, 11, 25, 26, 27], [aPP LL, .undef, .int .i64 (sumP LL i : Nat), .undef, .undef, .undef, aPP LL, .int .i64 (LL.length : Nat), .int .i64 i, .undef, .undef, .undef], [], 36, ⟨0, [[]]⟩⟩ : St))
    (fun i => i ≤ LL.length) (fun i => LL.length - i) [] [] 0 (Nat.zero_le _) ⟨rfl, rfl, rfl, by simp [fitL, fitV, pureV, pureL, aPP, sumP], FitH.nothing⟩ ?_)
  rintro i hi B hB
  repeat refine wps_seq ?_
  refine wps_region callOK ?_
  simp [zS]
  repeat refine wps_seq ?_
  refine wps_cond rfl (fun h => ?_) fun h => ?_
  · simp at h
    repeat refine wps_seq ?_
    refine wps_skip ?_
    simp
    repeat refine wps_seq ?_
    refine wps_block ?_
    have hs := sumP_at h
    have hle := sumP_le (LL := LL) (i := i + 1)
    have hadd : wr .i64 ((sumP LL i : Int) + (LL[i].length : Int)) = some (sumP LL (i + 1) : Int) := by rw [wr_small (by omega) (by omega), hs]; simp
    have hneg : ¬ ((sumP LL (i + 1) : Nat) : Int) < 0 := by omega
    repeat refine wps_seq ?_
    refine wps_region callOK ?_
    simp [zS, atPP h]
    repeat refine wps_seq ?_
    refine wps_region callOK ?_
    simp [zS, lenPt, hadd]
    repeat refine wps_seq ?_
    refine wps_region callOK ?_
    simp [zS, hneg]
    repeat refine wps_seq ?_
    refine wps_cond (t := false) (by simp [opnd, St.get, hneg]) (fun h => by cases h) fun _ => ?_
    repeat refine wps_seq ?_
    refine wps_skip ?_
    simp
    repeat refine wps_seq ?_
    refine wps_region callOK ?_
    simp [zS, add_one (show i ≤ 1000000000 by omega)]
    exact hB _ (i + 1) (by omega) (by omega) ⟨[], [], ⟨rfl, rfl, rfl, by simp [fitL, fitV, pureV, pureL, aPP], FitH.nothing⟩⟩
  · simp at h
    have hie : i = LL.length := by omega
    subst hie
    repeat refine wps_seq ?_
    refine wps_exit ?_
    simp
    have he : sumP LL LL.length = LL.flatten.length := by simp [sumP]
    obtain ⟨F, hF⟩ : ∃ F : Nat → List Pt, F = fun i => (LL.take i).flatten := ⟨_, rfl⟩
    have hF0 : F 0 = [] := by rw [hF]; simp
    have hFn : F LL.length = LL.flatten := by rw [hF]; simp
    have hFs : ∀ (i : Nat) (h : i < LL.length), F (i + 1) = F i ++ LL[i] := fun i h => by
      rw [hF]
      show (LL.take (i + 1)).flatten = _
      rw [List.take_succ_eq_append_getElem h, List.flatten_append]; simp
    have hFl : ∀ i, (F i).length ≤ LL.flatten.length := fun i => by rw [hF]; exact sumP_le
    rw [he]
    by_cases h0 : LL.flatten.length = 0
    · have hgr := (c310 (T := T)).lift (by simp [pureL, pureV]) ⟨0, [[]]⟩
      have hfl : LL.flatten = [] := List.eq_nil_of_length_eq_zero h0
      have hLi : ∀ (i : Nat) (h : i < LL.length), LL[i] = [] := fun i h => by
        have := hFs i h
        have hl1 := hFl (i + 1)
        rw [this, List.length_append] at hl1
        exact List.eq_nil_of_length_eq_zero (by omega)
      rw [h0, hfl]
      try simp only [Int.natCast_zero, Int.ofNat_zero, Int.cast_ofNat_Int]
      repeat refine wps_seq ?_
      refine wps_region (callOKF [⟨31, _, _, _, _, hgr⟩]) ?_
      simp [zS, callF]
      repeat refine wps_seq ?_
      refine wps_region callOK ?_
      simp [zS, lenPP]
      repeat refine wps_seq ?_
      refine wps_block (wps_loop' (fun i : Nat => (⟨[0, 2, 3, 5, 6, 8, 9, 10, 11, 25, 26, 27], [.undef, .undef, .undef, .undef, .nilS, .undef, .undef, .undef, .undef, aPP LL, .int .i64 (LL.length : Nat), .int .i64 i], [], 36, ⟨0, [[]]⟩⟩ : St))
        (fun i => i ≤ LL.length) (fun i => LL.length - i) [] [] 0 (Nat.zero_le _) ⟨rfl, rfl, rfl, by simp [fitL, fitV, pureV, pureL, aPP], FitH.nothing⟩ ?_)
      rintro i hi B hB
      repeat refine wps_seq ?_
      refine wps_region callOK ?_
      simp [zS]
      repeat refine wps_seq ?_
      refine wps_cond rfl (fun h => ?_) fun h => ?_
      · simp at h
        repeat refine wps_seq ?_
        refine wps_skip ?_
        simp
        repeat refine wps_seq ?_
        refine wps_block ?_
        have happ : ∀ H, appendA Tryz.prog H 38 .nilS (aPts []) = some (.nilS, H) := fun H => rfl
        have hat := atPP h
        rw [hLi i h] at hat
        simp only [aPts, List.map_nil] at happ hat
        repeat refine wps_seq ?_
        refine wps_region callOK ?_
        simp [zS, hat]
        repeat refine wps_seq ?_
        refine wps_region callOK ?_
        simp [zS, happ]
        repeat refine wps_seq ?_
        refine wps_region callOK ?_
        simp [zS, add_one (show i ≤ 1000000000 by omega)]
        exact hB _ (i + 1) (by omega) (by omega) ⟨[], [], ⟨rfl, rfl, rfl, by simp [fitL, fitV, pureV, pureL, aPP], FitH.nothing⟩⟩
      · simp at h
        have hie : i = LL.length := by omega
        subst hie
        repeat refine wps_seq ?_
        refine wps_exit ?_
        simp
        repeat refine wps_seq ?_
        refine wps_region callOK ?_
        simp [zS]
        repeat refine wps_seq ?_
        refine wps_ret ?_
        simp [retVal, Tryz.f12, oneOr]
        exact ⟨[], [], by simp [fitV], FitH.empty⟩
    · have h0 : 0 < LL.flatten.length := by omega
      have hgr := (c31 (T := T) h0 hmx).new (by simp [pureL, pureV]) (blkP_pure _) ⟨0, [[]]⟩
      obtain ⟨n, hn⟩ : ∃ n, n = LL.flatten.length := ⟨_, rfl⟩
      have hFn2 : (F LL.length).length = n := by rw [hFn, hn]
      rw [← hn] at hgr h0 hmx hFl ⊢
      rw [← hFn]
      repeat refine wps_seq ?_
      refine wps_region (callOKF [⟨31, _, _, _, _, hgr⟩]) ?_
      simp [zS, callF]
      repeat refine wps_seq ?_
      refine wps_region callOK ?_
      simp [zS, lenPP]
      have pr : ∀ i k, pureL (rwP (F i) ++ blkP k) = true := fun i k => by rw [pureL_append, rwP_pure, blkP_pure]; rfl
      repeat refine wps_seq ?_
      refine wps_block (wps_loop' (fun i : Nat => (⟨[0, 2, 3, 5, 6, 8, 9, 10, 11, 25, 26, 27], [.undef, .undef, .undef, .undef, .slc 0 0 (F i).length (.rest 6), .undef, .undef, .undef, .undef, aPP LL, .int .i64 (LL.length : Nat), .int .i64 i], [], 36, ⟨1, [[(0, .cells (rwP (F i) ++ blkP (n - (F i).length)))]]⟩⟩ : St))
        (fun i => i ≤ LL.length) (fun i => LL.length - i) [(0, 0)] [] 0 (Nat.zero_le _)
        ⟨rfl, rfl, rfl, by simp [fitL, fitV, lookN, pureV, aPP, hF0], .keep1 (by rw [hF0]; simp [Heap.get, getFs, getF, rwP, flatAV]) (pr 0 _) rfl⟩ ?_)
      rintro i hi B hB
      repeat refine wps_seq ?_
      refine wps_region callOK ?_
      simp [zS]
      repeat refine wps_seq ?_
      refine wps_cond rfl (fun h => ?_) fun h => ?_
      · simp at h
        repeat refine wps_seq ?_
        refine wps_skip ?_
        simp
        repeat refine wps_seq ?_
        refine wps_block ?_
        have hs := hFs i h
        have hle := hFl (i + 1)
        have hs2 : (F (i + 1)).length = (F i).length + LL[i].length := by rw [hs, List.length_append]
        have happ := fun g fs => app_roomP (m := 1) (b := 0) (k := n - (F i).length) (A := F i) (B := LL[i]) (g := g) (fs := fs) (by omega) (by omega)
        have hk : n - (F i).length - LL[i].length = n - (F (i + 1)).length := by rw [hs2]; omega
        simp only [← hs, ← hs2, hk] at happ
        repeat refine wps_seq ?_
        refine wps_region callOK ?_
        simp [zS, atPP h]
        repeat refine wps_seq ?_
        refine wps_region callOK ?_
        simp [zS, happ]
        repeat refine wps_seq ?_
        refine wps_region callOK ?_
        simp [zS, add_one (show i ≤ 1000000000 by omega)]
        exact hB _ (i + 1) (by omega) (by omega) ⟨[(0, 0)], [], rfl, rfl, rfl, by simp [fitL, fitV, lookN, pureV, aPP], .keep1 (by simp [Heap.get, getFs, getF]) (pr _ _) rfl⟩
      · simp at h
        have hie : i = LL.length := by omega
        subst hie
        have hz : rwP (F LL.length) ++ blkP (n - (F LL.length).length) = rwP (F LL.length) := by rw [hFn2, Nat.sub_self]; simp [blkP, replL]
        rw [hz]
        generalize F LL.length = G at *
        repeat refine wps_seq ?_
        refine wps_exit ?_
        simp
        repeat refine wps_seq ?_
        refine wps_region callOK ?_
        simp [zS]
        repeat refine wps_seq ?_
        refine wps_ret ?_
        simp [retVal, Tryz.f12, oneOr]
        exact ends_front (es := G.map aPt) (len := G.length) (el_pt G) (by simp [Heap.get, getFs, getF]) (by simp) (by rw [List.take_of_length_le (by simp)])
abbrev wElems : Str := [97, 32, 98, 117, 116, 116, 111, 110, 32, 100, 105, 118, 32, 102, 111, 114, 109, 32, 104, 49, 32, 105, 109, 103, 32, 105, 110, 112, 117, 116, 32, 112, 32, 115, 101, 99, 116, 105, 111, 110, 32, 115, 112, 97, 110]
abbrev wControls : Str := [98, 117, 116, 116, 111, 110, 32, 105, 110, 112, 117, 116, 32, 115, 101, 108, 101, 99, 116, 32, 116, 101, 120, 116, 97, 114, 101, 97]
abbrev wWraps : Str := [97, 114, 116, 105, 99, 108, 101, 32, 100, 105, 118, 32, 109, 97, 105, 110, 32, 115, 101, 99, 116, 105, 111, 110]
theorem as_elems : asciiB wElems := by unfold asciiB; decide +kernel
theorem as_controls : asciiB wControls := by unfold asciiB; decide +kernel
theorem as_wraps : asciiB wWraps := by unfold asciiB; decide +kernel
def oddC (pre : Str) (c : Ct) : Bool := !(inW wControls c.name && freeB c.id pre && freeB c.label pre)
def smallC (c : Ct) : Prop := c.name.length ≤ 900000 ∧ c.id.length ≤ 900000 ∧ c.label.length ≤ 900000
theorem c32 {T : List (Entry Tryz.prog)} (hI : findE 16 T = some ew16.g) (hF : findE 33 T = some e33.g) (c : Ct) (hc : smallC c) (pre : Str) :
    CallAt (ctx T) 32 [aCt c, .fptr [.str pre] 0] ⟨0, []⟩ (.bool (oddC pre c)) ⟨0, []⟩ := by
  have k1 := fun H => kw16 hI (x := c.name) as_controls (by decide) (by have := hc.1; omega) H
  have k2 := fun H => k33 hF pre hc.2.1 H
  have k3 := fun H => k33 hF pre hc.2.2 H
  obtain ⟨nm, id, lb⟩ := c
  simp only at k1 k2 k3
  simp only [oddC, aCt]
  generalize inW wControls nm = b1 at *
  generalize hb2 : freeB id pre = b2 at *
  generalize hb3 : freeB lb pre = b3 at *
  rcases Bool.eq_false_or_eq_true (b1) with c1 | c1
  rotate_left
  · refine callAt_body (fn := Tryz.f32) (s0 := ⟨[0, 1, 2, 3], [.agg [.str nm, .str id, .str lb], .fptr [.str pre] 0, .undef, .undef], [], 22, ⟨0, [[]]⟩⟩) Tryz.func32 rfl rfl rfl ?_
    repeat refine wps_seq ?_
    refine wps_region callOK ?_
    simp [zS]
    repeat refine wps_seq ?_
    refine wps_region callOK ?_
    simp [zS, k1, k2, k3, c1]
    repeat refine wps_seq ?_
    refine wps_ret ?_
    simp [retVal, Tryz.f32, oneOr, thenQ, blockQ]
    exact ends_pure rfl (by simp [c1])
  · rcases Bool.eq_false_or_eq_true (b2) with c2 | c2
    rotate_left
    · refine callAt_body (fn := Tryz.f32) (s0 := ⟨[0, 1, 2, 3], [.agg [.str nm, .str id, .str lb], .fptr [.str pre] 0, .undef, .undef], [], 22, ⟨0, [[]]⟩⟩) Tryz.func32 rfl rfl rfl ?_
      repeat refine wps_seq ?_
      refine wps_region callOK ?_
      simp [zS]
      repeat refine wps_seq ?_
      refine wps_region callOK ?_
      simp [zS, k1, k2, k3, c1, c2]
      repeat refine wps_seq ?_
      refine wps_ret ?_
      simp [retVal, Tryz.f32, oneOr, thenQ, blockQ]
      exact ends_pure rfl (by simp [c1, c2])
    · rcases Bool.eq_false_or_eq_true (b3) with c3 | c3
      rotate_left
      · refine callAt_body (fn := Tryz.f32) (s0 := ⟨[0, 1, 2, 3], [.agg [.str nm, .str id, .str lb], .fptr [.str pre] 0, .undef, .undef], [], 22, ⟨0, [[]]⟩⟩) Tryz.func32 rfl rfl rfl ?_
        repeat refine wps_seq ?_
        refine wps_region callOK ?_
        simp [zS]
        repeat refine wps_seq ?_
        refine wps_region callOK ?_
        simp [zS, k1, k2, k3, c1, c2, c3]
        repeat refine wps_seq ?_
        refine wps_ret ?_
        simp [retVal, Tryz.f32, oneOr, thenQ, blockQ]
        exact ends_pure rfl (by simp [c1, c2, c3])
      · refine callAt_body (fn := Tryz.f32) (s0 := ⟨[0, 1, 2, 3], [.agg [.str nm, .str id, .str lb], .fptr [.str pre] 0, .undef, .undef], [], 22, ⟨0, [[]]⟩⟩) Tryz.func32 rfl rfl rfl ?_
        repeat refine wps_seq ?_
        refine wps_region callOK ?_
        simp [zS]
        repeat refine wps_seq ?_
        refine wps_region callOK ?_
        simp [zS, k1, k2, k3, c1, c2, c3]
        repeat refine wps_seq ?_
        refine wps_ret ?_
        simp [retVal, Tryz.f32, oneOr, thenQ, blockQ]
        exact ends_pure rfl (by simp [c1, c2, c3])
structure smallP (p : Pt) : Prop where
  name : p.name.length ≤ 900000
  id : p.id.length ≤ 900000
  label : p.label.length ≤ 900000
  form : p.form.length ≤ 900000
  text : p.text.length ≤ 900000
  ctls : p.ctls.length ≤ 1000
  each : ∀ c, c ∈ p.ctls → smallC c
def partB (pre : Str) (p : Pt) : Bool := inW wElems p.name && !(decide (0 < p.ctls.length) && !decide (p.name = wForm)) && textB p.text && freeB p.id pre && freeB p.label pre && freeB p.form pre && !p.ctls.any (oddC pre)
theorem c14 {T : List (Entry Tryz.prog)} (hI : findE 16 T = some ew16.g) (hF : findE 33 T = some e33.g) (hX : findE 17 T = some e17.g) (p : Pt) (hp : smallP p) (pre : Str) :
    CallAt (ctx T) 14 [aPt p, .str pre] ⟨0, []⟩ (.bool (partB pre p)) ⟨0, []⟩ := by
  have k1 := fun H => kw16 hI (x := p.name) as_elems (by decide) (by have := hp.name; omega) H
  have k2 := fun H => k17 hX hp.text H
  have k3 := fun H => k33 hF pre hp.id H
  have k4 := fun H => k33 hF pre hp.label H
  have k5 := fun H => k33 hF pre hp.form H
  have hany := fun cs => CallAt.thaw (c34 (T := T) p.ctls (by have := hp.ctls; omega) 32 [.fptr [.str pre] 0] rfl (oddC pre) fun c hc => c32 hI hF c (hp.each c hc) pre) rfl [] (H := ⟨2, [[(1, .cells [.str pre]), (0, .cells cs)]]⟩) (args := [aCts p.ctls, .func (.func 32) [] [.ptr 1 0]])
    (by simp [thawA_ok, okV, thawA_clo (H := ⟨2, [[(1, .cells [.str pre]), (0, .cells cs)]]⟩) (b := 1) (cs := [.str pre]) rfl rfl])
  obtain ⟨nm, id, lb, fm, tx, L⟩ := p
  simp only at k1 k2 k3 k4 k5 hany
  simp only [partB, aPt, Pt.cs]
  have hn : ∀ v : Str, decide (nm = v) = decide (nm = v) := fun _ => rfl
  generalize hx1 : inW wElems nm = b1 at *
  generalize hx2 : textB tx = b2 at *
  generalize hx3 : freeB id pre = b3 at *
  generalize hx4 : freeB lb pre = b4 at *
  generalize hx5 : freeB fm pre = b5 at *
  generalize hx6 : L.any (oddC pre) = b6 at *
  rcases (Bool.eq_false_or_eq_true b1).symm with c1 | c1
  · refine callAt_body (fn := Tryz.f14) (s0 := ⟨[0, 1, 2, 3, 4, 5], [.agg [.str nm, .str id, .str lb, .str fm, .str tx, aCts L], .str pre, .undef, .undef, .undef, .undef], [], 51, ⟨0, [[]]⟩⟩) Tryz.func14 rfl rfl rfl ?_
    repeat refine wps_seq ?_
    refine wps_region callOK ?_
    simp [zS]
    repeat refine wps_seq ?_
    refine wps_region callOK ?_
    simp [zS, k1, k2, lenCt, c1]
    repeat refine wps_seq ?_
    refine wps_cond (t := true) rfl (fun _ => ?_) fun h => by cases h
    repeat refine wps_seq ?_
    refine wps_region callOK ?_
    simp [zS]
    repeat refine wps_seq ?_
    refine wps_ret ?_
    simp [retVal, Tryz.f14, oneOr, thenQ, blockQ]
    exact ends_pure rfl (by simp [c1])
  by_cases d1 : 0 < L.length
  · by_cases d2 : nm = wForm
    · subst d2
      rcases (Bool.eq_false_or_eq_true b2).symm with c2 | c2
      · refine callAt_body (fn := Tryz.f14) (s0 := ⟨[0, 1, 2, 3, 4, 5], [.agg [.str wForm, .str id, .str lb, .str fm, .str tx, aCts L], .str pre, .undef, .undef, .undef, .undef], [], 51, ⟨0, [[]]⟩⟩) Tryz.func14 rfl rfl rfl ?_
        repeat refine wps_seq ?_
        refine wps_region callOK ?_
        simp [zS]
        repeat refine wps_seq ?_
        refine wps_region callOK ?_
        simp [zS, k1, k2, lenCt, c1, d1, c2]
        repeat refine wps_seq ?_
        refine wps_cond (t := true) rfl (fun _ => ?_) fun h => by cases h
        repeat refine wps_seq ?_
        refine wps_region callOK ?_
        simp [zS]
        repeat refine wps_seq ?_
        refine wps_ret ?_
        simp [retVal, Tryz.f14, oneOr, thenQ, blockQ]
        exact ends_pure rfl (by simp [c1, d1, c2])
      rcases Bool.eq_false_or_eq_true (b3) with c3 | c3
      rotate_left
      · refine callAt_body (fn := Tryz.f14) (s0 := ⟨[0, 1, 2, 3, 4, 5], [.agg [.str wForm, .str id, .str lb, .str fm, .str tx, aCts L], .str pre, .undef, .undef, .undef, .undef], [], 51, ⟨0, [[]]⟩⟩) Tryz.func14 rfl rfl rfl ?_
        repeat refine wps_seq ?_
        refine wps_region callOK ?_
        simp [zS]
        repeat refine wps_seq ?_
        refine wps_region callOK ?_
        simp [zS, k1, k2, lenCt, c1, d1, c2]
        repeat refine wps_seq ?_
        refine wps_cond (t := false) rfl (fun h => by cases h) fun _ => ?_
        repeat refine wps_seq ?_
        refine wps_skip ?_
        simp
        repeat refine wps_seq ?_
        refine wps_region callOK ?_
        simp [zS]
        repeat refine wps_seq ?_
        refine wps_region (callOKF [⟨34, _, _, _, _, hany [.str wForm, .str id, .str lb, .str fm, .str tx, aCts L]⟩]) ?_
        simp [zS, callF, k3, k4, k5, c3]
        repeat refine wps_seq ?_
        refine wps_ret ?_
        simp [retVal, Tryz.f14, oneOr, thenQ, blockQ]
        exact ends_pure rfl (by simp [c1, d1, c2, c3])
      · rcases Bool.eq_false_or_eq_true (b4) with c4 | c4
        rotate_left
        · refine callAt_body (fn := Tryz.f14) (s0 := ⟨[0, 1, 2, 3, 4, 5], [.agg [.str wForm, .str id, .str lb, .str fm, .str tx, aCts L], .str pre, .undef, .undef, .undef, .undef], [], 51, ⟨0, [[]]⟩⟩) Tryz.func14 rfl rfl rfl ?_
          repeat refine wps_seq ?_
          refine wps_region callOK ?_
          simp [zS]
          repeat refine wps_seq ?_
          refine wps_region callOK ?_
          simp [zS, k1, k2, lenCt, c1, d1, c2]
          repeat refine wps_seq ?_
          refine wps_cond (t := false) rfl (fun h => by cases h) fun _ => ?_
          repeat refine wps_seq ?_
          refine wps_skip ?_
          simp
          repeat refine wps_seq ?_
          refine wps_region callOK ?_
          simp [zS]
          repeat refine wps_seq ?_
          refine wps_region (callOKF [⟨34, _, _, _, _, hany [.str wForm, .str id, .str lb, .str fm, .str tx, aCts L]⟩]) ?_
          simp [zS, callF, k3, k4, k5, c3, c4]
          repeat refine wps_seq ?_
          refine wps_ret ?_
          simp [retVal, Tryz.f14, oneOr, thenQ, blockQ]
          exact ends_pure rfl (by simp [c1, d1, c2, c3, c4])
        · rcases Bool.eq_false_or_eq_true (b5) with c5 | c5
          rotate_left
          · refine callAt_body (fn := Tryz.f14) (s0 := ⟨[0, 1, 2, 3, 4, 5], [.agg [.str wForm, .str id, .str lb, .str fm, .str tx, aCts L], .str pre, .undef, .undef, .undef, .undef], [], 51, ⟨0, [[]]⟩⟩) Tryz.func14 rfl rfl rfl ?_
            repeat refine wps_seq ?_
            refine wps_region callOK ?_
            simp [zS]
            repeat refine wps_seq ?_
            refine wps_region callOK ?_
            simp [zS, k1, k2, lenCt, c1, d1, c2]
            repeat refine wps_seq ?_
            refine wps_cond (t := false) rfl (fun h => by cases h) fun _ => ?_
            repeat refine wps_seq ?_
            refine wps_skip ?_
            simp
            repeat refine wps_seq ?_
            refine wps_region callOK ?_
            simp [zS]
            repeat refine wps_seq ?_
            refine wps_region (callOKF [⟨34, _, _, _, _, hany [.str wForm, .str id, .str lb, .str fm, .str tx, aCts L]⟩]) ?_
            simp [zS, callF, k3, k4, k5, c3, c4, c5]
            repeat refine wps_seq ?_
            refine wps_ret ?_
            simp [retVal, Tryz.f14, oneOr, thenQ, blockQ]
            exact ends_pure rfl (by simp [c1, d1, c2, c3, c4, c5])
          · rcases Bool.eq_false_or_eq_true (b6) with c6 | c6
            rotate_left
            · refine callAt_body (fn := Tryz.f14) (s0 := ⟨[0, 1, 2, 3, 4, 5], [.agg [.str wForm, .str id, .str lb, .str fm, .str tx, aCts L], .str pre, .undef, .undef, .undef, .undef], [], 51, ⟨0, [[]]⟩⟩) Tryz.func14 rfl rfl rfl ?_
              repeat refine wps_seq ?_
              refine wps_region callOK ?_
              simp [zS]
              repeat refine wps_seq ?_
              refine wps_region callOK ?_
              simp [zS, k1, k2, lenCt, c1, d1, c2]
              repeat refine wps_seq ?_
              refine wps_cond (t := false) rfl (fun h => by cases h) fun _ => ?_
              repeat refine wps_seq ?_
              refine wps_skip ?_
              simp
              repeat refine wps_seq ?_
              refine wps_region callOK ?_
              simp [zS]
              repeat refine wps_seq ?_
              refine wps_region (callOKF [⟨34, _, _, _, _, hany [.str wForm, .str id, .str lb, .str fm, .str tx, aCts L]⟩]) ?_
              simp [zS, callF, k3, k4, k5, c3, c4, c5, c6]
              repeat refine wps_seq ?_
              refine wps_ret ?_
              simp [retVal, Tryz.f14, oneOr, thenQ, blockQ]
              exact ends_pure rfl (by simp [c1, d1, c2, c3, c4, c5, c6])
            · refine callAt_body (fn := Tryz.f14) (s0 := ⟨[0, 1, 2, 3, 4, 5], [.agg [.str wForm, .str id, .str lb, .str fm, .str tx, aCts L], .str pre, .undef, .undef, .undef, .undef], [], 51, ⟨0, [[]]⟩⟩) Tryz.func14 rfl rfl rfl ?_
              repeat refine wps_seq ?_
              refine wps_region callOK ?_
              simp [zS]
              repeat refine wps_seq ?_
              refine wps_region callOK ?_
              simp [zS, k1, k2, lenCt, c1, d1, c2]
              repeat refine wps_seq ?_
              refine wps_cond (t := false) rfl (fun h => by cases h) fun _ => ?_
              repeat refine wps_seq ?_
              refine wps_skip ?_
              simp
              repeat refine wps_seq ?_
              refine wps_region callOK ?_
              simp [zS]
              repeat refine wps_seq ?_
              refine wps_region (callOKF [⟨34, _, _, _, _, hany [.str wForm, .str id, .str lb, .str fm, .str tx, aCts L]⟩]) ?_
              simp [zS, callF, k3, k4, k5, c3, c4, c5, c6]
              repeat refine wps_seq ?_
              refine wps_ret ?_
              simp [retVal, Tryz.f14, oneOr, thenQ, blockQ]
              exact ends_pure rfl (by simp [c1, d1, c2, c3, c4, c5, c6])
    · refine callAt_body (fn := Tryz.f14) (s0 := ⟨[0, 1, 2, 3, 4, 5], [.agg [.str nm, .str id, .str lb, .str fm, .str tx, aCts L], .str pre, .undef, .undef, .undef, .undef], [], 51, ⟨0, [[]]⟩⟩) Tryz.func14 rfl rfl rfl ?_
      repeat refine wps_seq ?_
      refine wps_region callOK ?_
      simp [zS]
      repeat refine wps_seq ?_
      refine wps_region callOK ?_
      simp [zS, k1, k2, lenCt, c1, d1, d2]
      repeat refine wps_seq ?_
      refine wps_cond (t := true) rfl (fun _ => ?_) fun h => by cases h
      repeat refine wps_seq ?_
      refine wps_region callOK ?_
      simp [zS]
      repeat refine wps_seq ?_
      refine wps_ret ?_
      simp [retVal, Tryz.f14, oneOr, thenQ, blockQ]
      exact ends_pure rfl (by simp [c1, d1, d2])
  · rcases (Bool.eq_false_or_eq_true b2).symm with c2 | c2
    · refine callAt_body (fn := Tryz.f14) (s0 := ⟨[0, 1, 2, 3, 4, 5], [.agg [.str nm, .str id, .str lb, .str fm, .str tx, aCts L], .str pre, .undef, .undef, .undef, .undef], [], 51, ⟨0, [[]]⟩⟩) Tryz.func14 rfl rfl rfl ?_
      repeat refine wps_seq ?_
      refine wps_region callOK ?_
      simp [zS]
      repeat refine wps_seq ?_
      refine wps_region callOK ?_
      simp [zS, k1, k2, lenCt, c1, d1, c2]
      repeat refine wps_seq ?_
      refine wps_cond (t := true) rfl (fun _ => ?_) fun h => by cases h
      repeat refine wps_seq ?_
      refine wps_region callOK ?_
      simp [zS]
      repeat refine wps_seq ?_
      refine wps_ret ?_
      simp [retVal, Tryz.f14, oneOr, thenQ, blockQ]
      exact ends_pure rfl (by simp [c1, d1, c2])
    rcases Bool.eq_false_or_eq_true (b3) with c3 | c3
    rotate_left
    · refine callAt_body (fn := Tryz.f14) (s0 := ⟨[0, 1, 2, 3, 4, 5], [.agg [.str nm, .str id, .str lb, .str fm, .str tx, aCts L], .str pre, .undef, .undef, .undef, .undef], [], 51, ⟨0, [[]]⟩⟩) Tryz.func14 rfl rfl rfl ?_
      repeat refine wps_seq ?_
      refine wps_region callOK ?_
      simp [zS]
      repeat refine wps_seq ?_
      refine wps_region callOK ?_
      simp [zS, k1, k2, lenCt, c1, d1, c2]
      repeat refine wps_seq ?_
      refine wps_cond (t := false) rfl (fun h => by cases h) fun _ => ?_
      repeat refine wps_seq ?_
      refine wps_skip ?_
      simp
      repeat refine wps_seq ?_
      refine wps_region callOK ?_
      simp [zS]
      repeat refine wps_seq ?_
      refine wps_region (callOKF [⟨34, _, _, _, _, hany [.str nm, .str id, .str lb, .str fm, .str tx, aCts L]⟩]) ?_
      simp [zS, callF, k3, k4, k5, c3]
      repeat refine wps_seq ?_
      refine wps_ret ?_
      simp [retVal, Tryz.f14, oneOr, thenQ, blockQ]
      exact ends_pure rfl (by simp [c1, d1, c2, c3])
    · rcases Bool.eq_false_or_eq_true (b4) with c4 | c4
      rotate_left
      · refine callAt_body (fn := Tryz.f14) (s0 := ⟨[0, 1, 2, 3, 4, 5], [.agg [.str nm, .str id, .str lb, .str fm, .str tx, aCts L], .str pre, .undef, .undef, .undef, .undef], [], 51, ⟨0, [[]]⟩⟩) Tryz.func14 rfl rfl rfl ?_
        repeat refine wps_seq ?_
        refine wps_region callOK ?_
        simp [zS]
        repeat refine wps_seq ?_
        refine wps_region callOK ?_
        simp [zS, k1, k2, lenCt, c1, d1, c2]
        repeat refine wps_seq ?_
        refine wps_cond (t := false) rfl (fun h => by cases h) fun _ => ?_
        repeat refine wps_seq ?_
        refine wps_skip ?_
        simp
        repeat refine wps_seq ?_
        refine wps_region callOK ?_
        simp [zS]
        repeat refine wps_seq ?_
        refine wps_region (callOKF [⟨34, _, _, _, _, hany [.str nm, .str id, .str lb, .str fm, .str tx, aCts L]⟩]) ?_
        simp [zS, callF, k3, k4, k5, c3, c4]
        repeat refine wps_seq ?_
        refine wps_ret ?_
        simp [retVal, Tryz.f14, oneOr, thenQ, blockQ]
        exact ends_pure rfl (by simp [c1, d1, c2, c3, c4])
      · rcases Bool.eq_false_or_eq_true (b5) with c5 | c5
        rotate_left
        · refine callAt_body (fn := Tryz.f14) (s0 := ⟨[0, 1, 2, 3, 4, 5], [.agg [.str nm, .str id, .str lb, .str fm, .str tx, aCts L], .str pre, .undef, .undef, .undef, .undef], [], 51, ⟨0, [[]]⟩⟩) Tryz.func14 rfl rfl rfl ?_
          repeat refine wps_seq ?_
          refine wps_region callOK ?_
          simp [zS]
          repeat refine wps_seq ?_
          refine wps_region callOK ?_
          simp [zS, k1, k2, lenCt, c1, d1, c2]
          repeat refine wps_seq ?_
          refine wps_cond (t := false) rfl (fun h => by cases h) fun _ => ?_
          repeat refine wps_seq ?_
          refine wps_skip ?_
          simp
          repeat refine wps_seq ?_
          refine wps_region callOK ?_
          simp [zS]
          repeat refine wps_seq ?_
          refine wps_region (callOKF [⟨34, _, _, _, _, hany [.str nm, .str id, .str lb, .str fm, .str tx, aCts L]⟩]) ?_
          simp [zS, callF, k3, k4, k5, c3, c4, c5]
          repeat refine wps_seq ?_
          refine wps_ret ?_
          simp [retVal, Tryz.f14, oneOr, thenQ, blockQ]
          exact ends_pure rfl (by simp [c1, d1, c2, c3, c4, c5])
        · rcases Bool.eq_false_or_eq_true (b6) with c6 | c6
          rotate_left
          · refine callAt_body (fn := Tryz.f14) (s0 := ⟨[0, 1, 2, 3, 4, 5], [.agg [.str nm, .str id, .str lb, .str fm, .str tx, aCts L], .str pre, .undef, .undef, .undef, .undef], [], 51, ⟨0, [[]]⟩⟩) Tryz.func14 rfl rfl rfl ?_
            repeat refine wps_seq ?_
            refine wps_region callOK ?_
            simp [zS]
            repeat refine wps_seq ?_
            refine wps_region callOK ?_
            simp [zS, k1, k2, lenCt, c1, d1, c2]
            repeat refine wps_seq ?_
            refine wps_cond (t := false) rfl (fun h => by cases h) fun _ => ?_
            repeat refine wps_seq ?_
            refine wps_skip ?_
            simp
            repeat refine wps_seq ?_
            refine wps_region callOK ?_
            simp [zS]
            repeat refine wps_seq ?_
            refine wps_region (callOKF [⟨34, _, _, _, _, hany [.str nm, .str id, .str lb, .str fm, .str tx, aCts L]⟩]) ?_
            simp [zS, callF, k3, k4, k5, c3, c4, c5, c6]
            repeat refine wps_seq ?_
            refine wps_ret ?_
            simp [retVal, Tryz.f14, oneOr, thenQ, blockQ]
            exact ends_pure rfl (by simp [c1, d1, c2, c3, c4, c5, c6])
          · refine callAt_body (fn := Tryz.f14) (s0 := ⟨[0, 1, 2, 3, 4, 5], [.agg [.str nm, .str id, .str lb, .str fm, .str tx, aCts L], .str pre, .undef, .undef, .undef, .undef], [], 51, ⟨0, [[]]⟩⟩) Tryz.func14 rfl rfl rfl ?_
            repeat refine wps_seq ?_
            refine wps_region callOK ?_
            simp [zS]
            repeat refine wps_seq ?_
            refine wps_region callOK ?_
            simp [zS, k1, k2, lenCt, c1, d1, c2]
            repeat refine wps_seq ?_
            refine wps_cond (t := false) rfl (fun h => by cases h) fun _ => ?_
            repeat refine wps_seq ?_
            refine wps_skip ?_
            simp
            repeat refine wps_seq ?_
            refine wps_region callOK ?_
            simp [zS]
            repeat refine wps_seq ?_
            refine wps_region (callOKF [⟨34, _, _, _, _, hany [.str nm, .str id, .str lb, .str fm, .str tx, aCts L]⟩]) ?_
            simp [zS, callF, k3, k4, k5, c3, c4, c5, c6]
            repeat refine wps_seq ?_
            refine wps_ret ?_
            simp [retVal, Tryz.f14, oneOr, thenQ, blockQ]
            exact ends_pure rfl (by simp [c1, d1, c2, c3, c4, c5, c6])
noncomputable def e14 : Entry Tryz.prog := mkE 14 [[], []] (fun x : Pt × Str => [aPt x.1, .str x.2]) (fun x => smallP x.1) (fun x => .bool (partB x.2 x.1)) fun x h => c14 (T := [ew16, e33, e17]) rfl rfl rfl x.1 h x.2
theorem inj_aPts {L M : List Pt} (h : aPts L = aPts M) : L = M := by
  simp only [AV.fslc.injEq, true_and] at h
  refine (List.map_inj_right (fun x y e => ?_)).1 h
  obtain ⟨a1, a2, a3, a4, a5, a6⟩ := x
  obtain ⟨b1, b2, b3, b4, b5, b6⟩ := y
  simp only [aPt, Pt.cs, AV.agg.injEq, List.cons.injEq, AV.str.injEq, AV.fslc.injEq, true_and, and_true] at e
  obtain ⟨rfl, rfl, rfl, rfl, rfl, e6⟩ := e
  congr 1
  refine (List.map_inj_right (fun x y e => ?_)).1 e6
  obtain ⟨a1, a2, a3⟩ := x
  obtain ⟨b1, b2, b3⟩ := y
  simp only [aCt, AV.agg.injEq, List.cons.injEq, AV.str.injEq, and_true] at e
  obtain ⟨rfl, rfl, rfl⟩ := e
  rfl
theorem inj_aPt {x y : Pt} (h : aPt x = aPt y) : x = y := by
  have := inj_aPts (L := [x]) (M := [y]) (by simp [h])
  simpa using this
theorem injPS (x y : Pt × Str) (h : [aPt x.1, AV.str x.2] = [aPt y.1, AV.str y.2]) : x = y := by
  simp at h; exact Prod.ext (inj_aPt h.1) h.2
@[simp] theorem ok_aPt (p : Pt) : okV (aPt p) = true := by simp [aPt, Pt.cs, okV, pureV, pureL]
theorem k14 {T : List (Entry Tryz.prog)} (hT : findE 14 T = some e14.g) {p : Pt} (pre : Str) (h : smallP p) (H : Heap) : callL (ctx T) (.fn 14) [aPt p, .str pre] H = some (.bool (partB pre p), H) :=
  mkE_scalar hT injPS (p, pre) h rfl (by simp [thawA_ok])
theorem c13 {T : List (Entry Tryz.prog)} (hP : findE 14 T = some e14.g) (p : Pt) (hp : smallP p) (pre : Str) :
    CallAt (ctx T) 13 [aPt p, .fptr [.str pre] 0] ⟨0, []⟩ (.bool (!partB pre p)) ⟨0, []⟩ := by
  have k := fun H => k14 hP pre hp H
  simp only [aPt, Pt.cs] at k
  generalize partB pre p = b at *
  refine callAt_body (fn := Tryz.f13) (s0 := ⟨[0, 1, 2, 3], [aPt p, .fptr [.str pre] 0, .undef, .undef], [], 8, ⟨0, [[]]⟩⟩) Tryz.func13 rfl rfl rfl ?_
  repeat refine wps_seq ?_
  refine wps_region callOK ?_
  simp [zS, aPt, Pt.cs]
  repeat refine wps_seq ?_
  refine wps_region callOK ?_
  simp [zS, k]
  repeat refine wps_seq ?_
  refine wps_ret ?_
  simp [retVal, Tryz.f13, oneOr, thenQ, blockQ]
  exact ends_pure rfl (by simp)
theorem c15 {T : List (Entry Tryz.prog)} (hI : findE 16 T = some ew16.g) (s : Str) (hs : s.length ≤ 900000) :
    CallAt (ctx T) 15 [.str s] ⟨0, []⟩ (.bool (!inW wWraps s)) ⟨0, []⟩ := by
  have k := fun H => kw16 hI (x := s) as_wraps (by decide) (by omega) H
  generalize inW wWraps s = b at *
  refine callAt_body (fn := Tryz.f15) (s0 := ⟨[0, 2], [.str s, .undef], [], 6, ⟨0, [[]]⟩⟩) Tryz.func15 rfl rfl rfl ?_
  repeat refine wps_seq ?_
  refine wps_region callOK ?_
  simp [zS]
  repeat refine wps_seq ?_
  refine wps_region callOK ?_
  simp [zS, k]
  repeat refine wps_seq ?_
  refine wps_ret ?_
  simp [retVal, Tryz.f15, oneOr, thenQ, blockQ]
  exact ends_pure rfl (by simp)
structure smallPg (x : Pg) : Prop where
  title : x.title.length ≤ 900000
  before : x.before.length ≤ 400
  after : x.after.length ≤ 400
  around : x.around.length ≤ 1000
  eachB : ∀ p, p ∈ x.before → smallP p
  eachA : ∀ p, p ∈ x.after → smallP p
  eachR : ∀ s, s ∈ x.around → s.length ≤ 900000
def rightB2 (x : Pg) (pre : Str) : Bool := decide ((x.before ++ x.after).length ≤ 20) && decide (x.around.length ≤ 5) && textB x.title && !(x.before ++ x.after).any (fun p => !partB pre p) && !x.around.any (fun s => !inW wWraps s)
theorem c5 {T : List (Entry Tryz.prog)} (hI : findE 16 T = some ew16.g) (hP : findE 14 T = some e14.g) (hX : findE 17 T = some e17.g) (x : Pg) (hx : smallPg x) (pre : Str) :
    CallAt (ctx T) 5 [aPg x, .str pre] ⟨0, []⟩ (.bool (rightB2 x pre)) ⟨0, []⟩ := by
  have k1 := fun H => k17 hX hx.title H
  have sx : allSingle x.cs = true := rfl
  have x0 : getL x.cs 0 = some (.str x.title) := rfl
  have x1 : getL x.cs 1 = some (aPts x.before) := rfl
  have x2 : getL x.cs 2 = some (aStrs x.around) := rfl
  have x3 : getL x.cs 3 = some (aPts x.after) := rfl
  have hB := hx.before
  have hA := hx.after
  have hcon0 := (c12 (T := T) [x.before, x.after] (by simp; omega) (by simp)).lift (by simp [pureL]) ⟨3, [[(1, .cells [.str pre]), (0, .cells x.cs)]]⟩
  have hcon : CallAt (ctx T) 12 [.slc 2 0 2 (.ex 2)] ⟨3, [[(2, .cells [aPts x.before, aPts x.after]), (1, .cells [.str pre]), (0, .cells x.cs)]]⟩ (aPts [x.before, x.after].flatten) ⟨3, [[(1, .cells [.str pre]), (0, .cells x.cs)]]⟩ := by
    have pP : pureL [aPts x.before, aPts x.after] = true := by simp [pureL]
    refine hcon0.drop (σ := [(1, 1), (0, 0)]) (Φ := [(2, [aPts x.before, aPts x.after])]) (fun nd => ⟨by simp, by simp, by simp [Heap.ents], by simp, fun z hz h => ?_, by simp, fun e he => ?_, fun z hz => ?_⟩) ?_
    · simp at hz
      rcases hz with rfl | rfl <;> rfl
    · simp only [Heap.ents, List.flatten_cons, List.flatten_nil, List.append_nil, List.mem_cons, List.not_mem_nil, or_false] at he
      rcases he with rfl | rfl
      · exact ⟨1, _, by simp, rfl, by simp [fitB, fitL, fitV, pureV]⟩
      · exact ⟨0, _, by simp, rfl, fitL_pure (by simp)⟩
    · simp only [List.mem_singleton] at hz
      subst hz
      exact ⟨_, rfl, fitL_pure pP, pP⟩
    · simp only [fitL, and_true]
      simp only [fitV, aPP]
      exact .inl ⟨[aPts x.before, aPts x.after], by simp [lookC], by simp [subL, takeL, flatAV, AV.cells], by simp, by simp [allSize, AV.cells]⟩
  have e2 : [x.before, x.after].flatten = x.before ++ x.after := by simp
  rw [e2] at hcon
  obtain ⟨L, hL⟩ : ∃ L, L = x.before ++ x.after := ⟨_, rfl⟩
  have hLl : L.length ≤ 800 := by rw [hL, List.length_append]; omega
  have hLs : ∀ p, p ∈ L → smallP p := fun p hp => by
    rw [hL] at hp
    rcases List.mem_append.1 hp with hp | hp
    · exact hx.eachB p hp
    · exact hx.eachA p hp
  have hany := CallAt.thaw (c18 (T := T) L (by omega) 13 [.fptr [.str pre] 0] rfl (fun p => !partB pre p) fun p hp => c13 hP p (hLs p hp) pre) rfl [] (H := ⟨3, [[(1, .cells [.str pre]), (0, .cells x.cs)]]⟩) (args := [aPts L, .func (.func 13) [] [.ptr 1 0]])
    (by simp [thawA_ok, okV, thawA_clo (H := ⟨3, [[(1, .cells [.str pre]), (0, .cells x.cs)]]⟩) (b := 1) (cs := [.str pre]) rfl rfl])
  have hany2 := (c19 (T := T) x.around (by have := hx.around; omega) 15 [] rfl (fun s => !inW wWraps s) fun s hs => c15 hI s (hx.eachR s hs)).lift (by simp [pureL, pureV, aStrs]) ⟨3, [[(1, .cells [.str pre]), (0, .cells x.cs)]]⟩
  simp only [rightB2]
  rw [← hL] at hcon ⊢
  obtain ⟨n1, hn1⟩ : ∃ n, n = L.length := ⟨_, rfl⟩
  have l1 : ∀ H, lenA Tryz.prog H 22 (aPts L) = some n1 := fun H => by rw [hn1]; exact lenPt
  rw [← hn1]
  generalize hx1 : textB x.title = b1 at *
  generalize hx2 : L.any (fun p => !partB pre p) = b2 at *
  generalize hx3 : x.around.any (fun s => !inW wWraps s) = b3 at *
  have kl : ∀ H, lenA Tryz.prog H 23 (aStrs x.around) = some x.around.length := fun H => lenS
  by_cases c1 : n1 ≤ 20
  · have i1 : (n1 : Int) ≤ 20 := by omega
    by_cases c2 : x.around.length ≤ 5
    · have i2 : (x.around.length : Int) ≤ 5 := by omega
      rcases Bool.eq_false_or_eq_true (b1) with c3 | c3
      rotate_left
      · refine callAt_body (fn := Tryz.f5) (s0 := ⟨[0, 1, 2, 3, 4, 5, 6, 7], [aPg x, .str pre, .undef, .undef, .undef, .undef, .undef, .undef], [], 42, ⟨0, [[]]⟩⟩) Tryz.func5 rfl rfl rfl ?_
        repeat refine wps_seq ?_
        refine wps_region callOK ?_
        simp [zS, aPg, sx]
        repeat refine wps_seq ?_
        refine wps_region (callOKF [⟨12, _, _, _, _, hcon⟩]) ?_
        simp [zS, callF, x1, x3]
        repeat refine wps_seq ?_
        refine wps_region callOK ?_
        simp [zS]
        repeat refine wps_seq ?_
        refine wps_region callOK ?_
        simp [zS]
        repeat refine wps_seq ?_
        refine wps_region (callOKF [⟨18, _, _, _, _, hany⟩, ⟨19, _, _, _, _, hany2⟩]) ?_
        simp [zS, callF, l1, kl, k1, x0, x2, c1, i1, c2, i2, c3]
        repeat refine wps_seq ?_
        refine wps_ret ?_
        simp [retVal, Tryz.f5, oneOr, thenQ, blockQ]
        exact ends_pure rfl (by simp [c1, c2, c3])
      · rcases (Bool.eq_false_or_eq_true (b2)).symm with c4 | c4
        rotate_left
        · refine callAt_body (fn := Tryz.f5) (s0 := ⟨[0, 1, 2, 3, 4, 5, 6, 7], [aPg x, .str pre, .undef, .undef, .undef, .undef, .undef, .undef], [], 42, ⟨0, [[]]⟩⟩) Tryz.func5 rfl rfl rfl ?_
          repeat refine wps_seq ?_
          refine wps_region callOK ?_
          simp [zS, aPg, sx]
          repeat refine wps_seq ?_
          refine wps_region (callOKF [⟨12, _, _, _, _, hcon⟩]) ?_
          simp [zS, callF, x1, x3]
          repeat refine wps_seq ?_
          refine wps_region callOK ?_
          simp [zS]
          repeat refine wps_seq ?_
          refine wps_region callOK ?_
          simp [zS]
          repeat refine wps_seq ?_
          refine wps_region (callOKF [⟨18, _, _, _, _, hany⟩, ⟨19, _, _, _, _, hany2⟩]) ?_
          simp [zS, callF, l1, kl, k1, x0, x2, c1, i1, c2, i2, c3, c4]
          repeat refine wps_seq ?_
          refine wps_ret ?_
          simp [retVal, Tryz.f5, oneOr, thenQ, blockQ]
          exact ends_pure rfl (by simp [c1, c2, c3, c4])
        · rcases (Bool.eq_false_or_eq_true (b3)).symm with c5 | c5
          rotate_left
          · refine callAt_body (fn := Tryz.f5) (s0 := ⟨[0, 1, 2, 3, 4, 5, 6, 7], [aPg x, .str pre, .undef, .undef, .undef, .undef, .undef, .undef], [], 42, ⟨0, [[]]⟩⟩) Tryz.func5 rfl rfl rfl ?_
            repeat refine wps_seq ?_
            refine wps_region callOK ?_
            simp [zS, aPg, sx]
            repeat refine wps_seq ?_
            refine wps_region (callOKF [⟨12, _, _, _, _, hcon⟩]) ?_
            simp [zS, callF, x1, x3]
            repeat refine wps_seq ?_
            refine wps_region callOK ?_
            simp [zS]
            repeat refine wps_seq ?_
            refine wps_region callOK ?_
            simp [zS]
            repeat refine wps_seq ?_
            refine wps_region (callOKF [⟨18, _, _, _, _, hany⟩, ⟨19, _, _, _, _, hany2⟩]) ?_
            simp [zS, callF, l1, kl, k1, x0, x2, c1, i1, c2, i2, c3, c4, c5]
            repeat refine wps_seq ?_
            refine wps_ret ?_
            simp [retVal, Tryz.f5, oneOr, thenQ, blockQ]
            exact ends_pure rfl (by simp [c1, c2, c3, c4, c5])
          · refine callAt_body (fn := Tryz.f5) (s0 := ⟨[0, 1, 2, 3, 4, 5, 6, 7], [aPg x, .str pre, .undef, .undef, .undef, .undef, .undef, .undef], [], 42, ⟨0, [[]]⟩⟩) Tryz.func5 rfl rfl rfl ?_
            repeat refine wps_seq ?_
            refine wps_region callOK ?_
            simp [zS, aPg, sx]
            repeat refine wps_seq ?_
            refine wps_region (callOKF [⟨12, _, _, _, _, hcon⟩]) ?_
            simp [zS, callF, x1, x3]
            repeat refine wps_seq ?_
            refine wps_region callOK ?_
            simp [zS]
            repeat refine wps_seq ?_
            refine wps_region callOK ?_
            simp [zS]
            repeat refine wps_seq ?_
            refine wps_region (callOKF [⟨18, _, _, _, _, hany⟩, ⟨19, _, _, _, _, hany2⟩]) ?_
            simp [zS, callF, l1, kl, k1, x0, x2, c1, i1, c2, i2, c3, c4, c5]
            repeat refine wps_seq ?_
            refine wps_ret ?_
            simp [retVal, Tryz.f5, oneOr, thenQ, blockQ]
            exact ends_pure rfl (by simp [c1, c2, c3, c4, c5])
    · have i2 : ¬ (x.around.length : Int) ≤ 5 := by omega
      refine callAt_body (fn := Tryz.f5) (s0 := ⟨[0, 1, 2, 3, 4, 5, 6, 7], [aPg x, .str pre, .undef, .undef, .undef, .undef, .undef, .undef], [], 42, ⟨0, [[]]⟩⟩) Tryz.func5 rfl rfl rfl ?_
      repeat refine wps_seq ?_
      refine wps_region callOK ?_
      simp [zS, aPg, sx]
      repeat refine wps_seq ?_
      refine wps_region (callOKF [⟨12, _, _, _, _, hcon⟩]) ?_
      simp [zS, callF, x1, x3]
      repeat refine wps_seq ?_
      refine wps_region callOK ?_
      simp [zS]
      repeat refine wps_seq ?_
      refine wps_region callOK ?_
      simp [zS]
      repeat refine wps_seq ?_
      refine wps_region (callOKF [⟨18, _, _, _, _, hany⟩, ⟨19, _, _, _, _, hany2⟩]) ?_
      simp [zS, callF, l1, kl, k1, x0, x2, c1, i1, c2, i2]
      repeat refine wps_seq ?_
      refine wps_ret ?_
      simp [retVal, Tryz.f5, oneOr, thenQ, blockQ]
      exact ends_pure rfl (by simp [c1, c2])
  · have i1 : ¬ (n1 : Int) ≤ 20 := by omega
    refine callAt_body (fn := Tryz.f5) (s0 := ⟨[0, 1, 2, 3, 4, 5, 6, 7], [aPg x, .str pre, .undef, .undef, .undef, .undef, .undef, .undef], [], 42, ⟨0, [[]]⟩⟩) Tryz.func5 rfl rfl rfl ?_
    repeat refine wps_seq ?_
    refine wps_region callOK ?_
    simp [zS, aPg, sx]
    repeat refine wps_seq ?_
    refine wps_region (callOKF [⟨12, _, _, _, _, hcon⟩]) ?_
    simp [zS, callF, x1, x3]
    repeat refine wps_seq ?_
    refine wps_region callOK ?_
    simp [zS]
    repeat refine wps_seq ?_
    refine wps_region callOK ?_
    simp [zS]
    repeat refine wps_seq ?_
    refine wps_region (callOKF [⟨18, _, _, _, _, hany⟩, ⟨19, _, _, _, _, hany2⟩]) ?_
    simp [zS, callF, l1, kl, k1, x0, x2, c1, i1]
    repeat refine wps_seq ?_
    refine wps_ret ?_
    simp [retVal, Tryz.f5, oneOr, thenQ, blockQ]
    exact ends_pure rfl (by simp [c1])
def onS (a : List Str) (x : Str) : List Str := if x ∈ a then a else a ++ [x]
def onL (L : List Str) : List Str := L.foldl onS []
theorem on_at {L : List Str} {i : Nat} (h : i < L.length) : onL (L.take (i + 1)) = onS (onL (L.take i)) L[i] := by
  rw [List.take_succ_eq_append_getElem h]; simp only [onL, List.foldl_append, List.foldl_cons, List.foldl_nil]
theorem on_len : ∀ (L a : List Str), (L.foldl onS a).length ≤ a.length + L.length
  | [], a => by simp
  | x :: r, a => by
    have := on_len r (onS a x)
    simp only [List.foldl_cons, List.length_cons]
    have h1 : (onS a x).length ≤ a.length + 1 := by unfold onS; split <;> simp
    omega
theorem on_mem : ∀ (L a : List Str) {s : Str}, s ∈ L.foldl onS a → s ∈ a ∨ s ∈ L
  | [], a, s, h => .inl h
  | x :: r, a, s, h => by
    rcases on_mem r (onS a x) h with h | h
    · unfold onS at h
      split at h
      · exact .inl h
      · rcases List.mem_append.1 h with h | h
        · exact .inl h
        · exact .inr (by rw [List.mem_singleton.1 h]; simp)
    · exact .inr (by simp [h])
theorem c23 {T : List (Entry Tryz.prog)} (hH : findE 51 T = some e51.g) (L : List Str) (hl : L.length ≤ 1000000) : CallAt (ctx T) 23 [aStrs L] ⟨0, []⟩ (ownV 0 1 ((onL L).map .str)) ⟨1, [ownF 0 ((onL L).map .str)]⟩ := by
  refine callAt_body (fn := Tryz.f23) (s0 := ⟨[0, 2, 3, 4], [aStrs L, .undef, .undef, .undef], [], 26, ⟨0, [[]]⟩⟩) Tryz.func23 rfl rfl rfl ?_
  repeat refine wps_seq ?_
  refine wps_region callOK ?_
  simp [zS]
  repeat refine wps_seq ?_
  refine wps_region callOK ?_
  simp [zS]
  repeat refine wps_seq ?_
  refine wps_region callOK ?_
  simp [zS]
  repeat refine wps_seq ?_
  refine wps_block (wps_loop' (fun i : Nat => (⟨[0, 2, 3, 4], [aStrs L, .undef, ownV 0 1 ((onL (L.take i)).map .str), .int .i64 i], [], 26, ⟨1, [ownF 0 ((onL (L.take i)).map .str)]⟩⟩ : St))
    (fun i => i ≤ L.length) (fun i => L.length - i) [(0, 0)] [] 0 (Nat.zero_le _)
    ⟨rfl, rfl, rfl, by simp [fitL, fitV, lookN, pureV, onL, ownV, aStrs], by have := FitH.own1 (k := 0) (b := 0) (m' := 1) (τ := []) (g := []) (H := ⟨0, [[]]⟩) (el_str (onL (L.take 0))) (by simp [onL]) (by simp) (by simp) (by simp) (by simp) (by simp); simpa using this⟩ ?_)
  rintro i hi B hB
  have hlen := on_len (L.take i) []
  simp only [List.length_take, List.length_nil] at hlen
  have hlen : (onL (L.take i)).length ≤ i := by simp only [onL]; omega
  repeat refine wps_seq ?_
  refine wps_region callOK ?_
  simp [zS, lenS]
  repeat refine wps_seq ?_
  refine wps_cond rfl (fun h => ?_) fun h => ?_
  · simp at h
    repeat refine wps_seq ?_
    refine wps_skip ?_
    simp
    repeat refine wps_seq ?_
    refine wps_block ?_
    have hst := on_at h
    obtain ⟨O, hO⟩ : ∃ O, O = onL (L.take i) := ⟨_, rfl⟩
    rw [← hO] at hst hlen ⊢
    have hgO : ∀ f, O.map AV.str ≠ [] → Heap.get ⟨1, [ownF 0 (O.map .str) ++ f]⟩ 0 = some (.cells (flatAV (O.map .str))) := fun f h => by simp [Heap.get, getFs, own_get h]
    have hhas := CallAt.thaw (c51 (T := T) O L[i] (by omega)) rfl [[1], []] (H := ⟨1, [ownF 0 (O.map .str)]⟩) (args := [ownV 0 1 (O.map .str), .str L[i]]) (by
      have := thawA_own (r := []) (H := ⟨1, [ownF 0 (O.map .str)]⟩) (b := 0) (el_str O) (fun h => by have := hgO [] h; rwa [List.append_nil] at this)
      simp [thawL, this, aStrs])
    refine wps_seq ?_
    by_cases hm : L[i] ∈ O
    · rw [onS, if_pos hm] at hst
      simp only [hm, decide_true] at hhas
      repeat refine wps_seq ?_
      refine wps_region (callOKF [⟨51, _, _, _, _, hhas⟩]) ?_
      simp [zS, atS h, callF]
      repeat refine wps_seq ?_
      refine wps_cond (t := false) rfl (fun h => by cases h) fun _ => ?_
      repeat refine wps_seq ?_
      refine wps_skip ?_
      simp
      repeat refine wps_seq ?_
      refine wps_region callOK ?_
      simp [zS, add_one (show i ≤ 1000000000 by omega)]
      refine hB _ (i + 1) (by omega) (by omega) ⟨[(0, 0)], [], rfl, rfl, rfl, ?_, ?_⟩
      · rw [hst]; simp [fitL, fitV, lookN, fitV_own, pureV, aStrs]
      · rw [hst]
        have := FitH.own1 (k := 0) (b := 0) (m' := 1) (τ := []) (g := []) (H := ⟨1, [ownF 0 (O.map .str)]⟩) (el_str O) (fun h => by have := hgO [] h; rwa [List.append_nil] at this) (by simp) (by simp) (by simp) (by simp) (by simp)
        simpa using this
    · rw [onS, if_neg hm] at hst
      simp only [hm, decide_false] at hhas
      have happ := own_app1 (P := Tryz.prog) (elem := 9) (b := 0) (t := 1) (m := 2) (es := O.map .str) (cs := [.str L[i]]) (g := []) (fs := []) szT9 byT9 zeT9 rfl (by omega) (by omega) rfl rfl (el_str _) (by simp; omega) (by omega) (by simp) (by simp)
      simp only [List.append_nil] at happ
      repeat refine wps_seq ?_
      refine wps_region (callOKF [⟨51, _, _, _, _, hhas⟩]) ?_
      simp [zS, atS h, callF]
      repeat refine wps_seq ?_
      refine wps_cond (t := true) rfl (fun _ => ?_) fun h => by cases h
      repeat refine wps_seq ?_
      refine wps_region callOK ?_
      simp [zS, atS h, happ]
      repeat refine wps_seq ?_
      refine wps_region callOK ?_
      simp [zS, add_one (show i ≤ 1000000000 by omega)]
      have hne : (onL (L.take (i + 1))).map AV.str ≠ [] := by rw [hst]; simp
      refine hB _ (i + 1) (by omega) (by omega) ⟨[(2, 0)], [], rfl, rfl, rfl, ?_, ?_⟩
      · rw [ownV_ne hne, hst]; simp [fitL, fitV, lookN, pureV, aStrs]
      · have := FitH.own1 (k := 0) (b := 2) (m' := 1) (τ := []) (g := []) (H := ⟨3, [[(2, .cells (flatAV (O.map .str) ++ [.str L[i]])), (1, .cells [.str L[i]])]]⟩) (el_str (onL (L.take (i + 1)))) (fun _ => by
          rw [hst, List.map_append, flat_append]
          simp [Heap.get, getFs, getF, flatAV, AV.cells]) (by simp) (by simp) (by simp) (by simp) (by simp)
        simpa using this
  · simp at h
    repeat refine wps_seq ?_
    refine wps_exit ?_
    simp
    repeat refine wps_seq ?_
    refine wps_region callOK ?_
    simp [zS]
    repeat refine wps_seq ?_
    refine wps_ret ?_
    simp [retVal, Tryz.f23, oneOr]
    rw [List.take_of_length_le h]
    exact ⟨[(0, 0)], [], fitV_own (by simp [lookN]), by have := FitH.own1 (k := 0) (b := 0) (m' := 1) (τ := []) (g := []) (H := ⟨1, [ownF 0 ((onL L).map .str)]⟩) (el_str (onL L)) (fun h => by have := own_get (b := 0) (g := []) h; rw [List.append_nil] at this; simp [Heap.get, getFs, this]) (by simp) (by simp) (by simp) (by simp) (by simp); simpa using this⟩
theorem frozen_once {T : List (Entry Tryz.prog)} (hH : findE 51 T = some e51.g) (L : List Str) (hl : L.length ≤ 1000000) : CallAt (ctx T) 23 [aStrs L] ⟨0, []⟩ (aStrs (onL L)) ⟨0, []⟩ := (c23 hH L hl).froze (el_str _)
def namesAt (t : Tr) (y : Int) : List Str := if (nodeAt t y).kind = 1 then [valueB t y wId, valueB t y wName].filter (fun s => !decide (s = [])) else []
def allTo (t : Tr) (i : Nat) : List Str := ((orderOf t.length (kidsOf t)).take i).flatMap (namesAt t)
def allR (t : Tr) : List Str := (orderOf t.length (kidsOf t)).flatMap (namesAt t)
theorem allTo_at {t : Tr} {i : Nat} (h : i < (orderOf t.length (kidsOf t)).length) : allTo t (i + 1) = allTo t i ++ namesAt t (orderOf t.length (kidsOf t))[i] := by
  unfold allTo
  rw [List.take_succ_eq_append_getElem h, List.flatMap_append]
  simp
theorem namesAt_len (t : Tr) (y : Int) : (namesAt t y).length ≤ 2 := by
  unfold namesAt
  split
  · exact List.length_filter_le _ _
  · simp
theorem allTo_len (t : Tr) : ∀ (i : Nat), (allTo t i).length ≤ 2 * i
  | 0 => by simp [allTo]
  | i + 1 => by
    by_cases h : i < (orderOf t.length (kidsOf t)).length
    · rw [allTo_at h, List.length_append]
      have := allTo_len t i
      have := namesAt_len t (orderOf t.length (kidsOf t))[i]
      omega
    · have e : allTo t (i + 1) = allTo t i := by
        unfold allTo
        rw [List.take_of_length_le (by omega), List.take_of_length_le (by omega)]
      rw [e]
      have := allTo_len t i
      omega
end Go.Proofs.YtlgdgolobnbefaaGreatDoor
