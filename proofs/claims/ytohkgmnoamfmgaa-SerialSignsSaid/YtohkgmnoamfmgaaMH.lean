/- serial.Node, serial.Tree. No condition. -/
import Derived.Test.YtohkgmnoamfmgaaMG
namespace Go.Proofs.Ytohkgmnoamfmgaa
set_option linter.unusedSimpArgs false
set_option linter.unusedVariables false
open Go Go.RowKit
set_option maxRecDepth 100000

theorem FitH.fs {n : Nat} {σ : List (Nat × Nat)} {Φ : List (Nat × List AV)} {H : Heap} {m : Nat} {f g : List (List (Nat × Blk))} (h : FitH n σ Φ H ⟨m, f⟩) (e : f.flatten = g.flatten) : FitH n σ Φ H ⟨m, g⟩ where
  nd1 := h.nd1
  nd2 := h.nd2
  nd3 := by have := h.nd3; simp only [Heap.ents] at this ⊢; rw [← e]; exact this
  lt := h.lt
  idn := h.idn
  num := h.num
  src := by have := h.src; simp only [Heap.ents] at this ⊢; rw [← e]; exact this
  frz := h.frz
/-- a writer that may be new -/
theorem fit_objA {σ : List (Nat × Nat)} {wb kc k' : Nat} {ty : TypeId} {cs : List AV} {a : AV} {out : Str} (ha : a = .nilP ∨ a = .ptr wb 0) (hw : lookN wb σ = some wb) (hk : out ≠ [] → lookN kc σ = some k') (hc : fitL σ [] cs cs) : fitB σ [] (.obj ty (a :: bV ⟨kc, out⟩ :: cs)) (.obj ty (a :: bV ⟨k', out⟩ :: cs)) := by
  rcases ha with rfl | rfl
  · refine ⟨rfl, ?_⟩
    simp only [fitL, fitV, true_and, and_true]
    refine ⟨?_, hc⟩
    cases out with
    | nil => simp [bV, fitV]
    | cons c r => simp [bV, fitV, hk (by simp)]
  · exact fit_obj hw hk hc
theorem fit_keepA {m n wb : Nat} {ty : TypeId} {a : AV} {b : Bs} {cs : List AV} {g f : List (Nat × Blk)} (ha : a = .nilP ∨ a = .ptr wb 0) (h : Wok m wb b cs g) (hf : ∀ i, i < m → getF i f = none) : FitH m (idn m) [] ⟨n, [f, WF wb ty a b cs g]⟩ ⟨m + 1, [[], WF wb ty a b cs g]⟩ := by
  obtain ⟨k, out⟩ := b
  have := fitWr (m' := m + 1) (H := ⟨n, [f, WF wb ty a ⟨k, out⟩ cs g]⟩) (kc := k) (k' := k) (fz := out.length) (out := out) (O := .obj ty (a :: bV ⟨k, out⟩ :: cs)) (O' := .obj ty (a :: bV ⟨k, out⟩ :: cs)) (g := g) (.inl ⟨rfl, rfl, fun hne => (h.hk hne).2⟩) (by omega) h.lw h.lg h.nd (fun hne => (h.hk hne).1) (by simp only [Heap.get, getFs]; rw [hf wb h.lw, WF_o])
    (fit_objA ha (lookN_idn h.lw) (fun hne => lookN_idn (h.hk hne).2) (h.sc _ (idl_idn m))) (fun hne => by simp only [Heap.get, getFs]; rw [hf k (h.hk hne).2, WF_b h hne]) (Nat.le_refl _) (fun e he => ⟨by simp only [Heap.get, getFs]; rw [hf e.1 (h.lg e he), WF_g h he], h.sg e he⟩)
  exact this.fs (by simp [WF])
def cat (L : List Str) : Str := L.flatten
theorem cat_at {L : List Str} {i : Nat} (h : i < L.length) : cat (L.take (i + 1)) = cat (L.take i) ++ L[i] := by
  unfold cat
  rw [List.take_succ_eq_append_getElem h, List.flatten_append]
  simp only [List.flatten_cons, List.flatten_nil, List.append_nil]
theorem fit_upd {m n wb : Nat} {ty : TypeId} {b : Bs} {cs : List AV} {g f : List (Nat × Blk)} (h : Wok m wb b cs g) (txt : Str) (hf : ∀ i, i ≤ m → getF i f = none) : ∃ σ, Idl m σ ∧ FitH m σ [] ⟨n, [f, WF wb ty (.ptr wb 0) (upd m b txt) cs g]⟩ ⟨m + 1, [WF wb ty (.ptr wb 0) (upd m b txt) cs g]⟩ := by
  by_cases ht : txt = []
  · subst ht
    exact ⟨_, idl_idn m, fit_none h fun i hi => hf i (by omega)⟩
  · have h2 := h.upd txt
    rw [upd_ne ht] at h2 ⊢
    exact ⟨_, idl_cons (Nat.le_refl m), fit_done h h2 (by simp [ht]) (Nat.le_refl _) fun i hi => hf i (by simp at hi; omega)⟩
theorem liesS : ∀ (N M : AV), liesAt Try.prog Try.prog.depth 53 (([N, M].length + 1 + 1) / Try.prog.cellsOf 53) 0 51 1 = true := by
  intro N M
  show liesAt Try.prog Try.prog.depth 53 (4 / Try.prog.cellsOf 53) 0 51 1 = true
  decide +kernel
theorem cat_le (L : List Str) (i : Nat) : (cat (L.take i)).length ≤ (cat L).length := by
  have : cat L = cat (L.take i) ++ cat (L.drop i) := by
    unfold cat
    rw [← List.flatten_append, List.take_append_drop]
  rw [this]; simp
theorem c45 {T : List (Entry Try.prog)} (hE : findE 82 T = some e82.g) {m wb tb : Nat} {a N M : AV} {b : Bs} {g : List (Nat × Blk)} (h : Wok m wb b [N, M] g) (ha : a = .nilP ∨ a = .ptr wb 0) (L : List Str) (hL : L ≠ []) (hl : L.length ≤ 1000) (htb : (tb, .cells (L.map .str)) ∈ g) (hs : b.out.length + (cat L).length ≤ 100000000) :
    CallAt (ctx T) 45 [.ptr wb 0, .slc tb 0 L.length (.ex L.length)] ⟨m, [WF wb 53 a b [N, M] g]⟩ (.tup []) ⟨m + 1, [WF wb 53 (.ptr wb 0) (upd m b (cat L)) [N, M] g]⟩ := by
  have idl := idl_idn m
  have ltb := h.lg _ htb
  simp only at ltb
  have aI : ∀ i : Nat, (if i = 0 then a else .ptr wb 0) = .nilP ∨ (if i = 0 then a else .ptr wb 0) = .ptr wb 0 := fun i => by split <;> simp [ha]
  refine callAt_body (fn := Try.f45) (s0 := ⟨[0, 1, 5, 6, 7, 8], [.ptr wb 0, .slc tb 0 L.length (.ex L.length), .undef, .undef, .undef, .undef], [], 18, ⟨m, [] :: [WF wb 53 a b [N, M] g]⟩⟩) Try.func45 rfl rfl rfl ?_
  repeat refine wps_seq ?_
  refine wps_region callOK ?_
  simp [ofV, ofV1, mkC_P, writeVar, writeCells, readCells, allSingle, AV.single, getFs, getF, setFs, setF, Heap.get, Heap.set, Heap.new, Heap.kill, killF, pushF, Heap.ready, refs, sliceParts, fillA, replL, lenA]
  repeat refine wps_seq ?_
  refine wps_block (wps_loop' (fun i : Nat => (⟨[0, 1, 5, 6, 7, 8], [.ptr wb 0, .undef, .undef, .slc tb 0 L.length (.ex L.length), .int .i64 (L.length : Nat), .int .i64 i], [], 18, ⟨m + 1, [[], WF wb 53 (if i = 0 then a else .ptr wb 0) (upd m b (cat (L.take i))) [N, M] g]⟩⟩ : St))
    (fun i => i ≤ L.length) (fun i => L.length - i) (idn m) [] 0 (Nat.zero_le _)
    ⟨rfl, rfl, rfl, by simp [fitL, fitV, idl _ h.lw, idl _ ltb, pureV], by simpa [cat, upd] using fit_keepA (n := m) (ty := 53) (f := []) ha h fun _ _ => rfl⟩ ?_)
  rintro i hi B hB
  have hw1 := h.upd (cat (L.take i))
  repeat refine wps_seq ?_
  refine wps_region callOK ?_
  simp [ofV, ofV1, mkC_P, writeVar, writeCells, readCells, allSingle, AV.single, getFs, getF, setFs, setF, Heap.get, Heap.set, Heap.new, Heap.kill, killF, pushF, Heap.ready, refs, sliceParts, fillA, replL]
  repeat refine wps_seq ?_
  refine wps_cond rfl (fun hlt => ?_) fun hlt => ?_
  · simp at hlt
    repeat refine wps_seq ?_
    refine wps_skip ?_
    simp
    repeat refine wps_seq ?_
    refine wps_block ?_
    have hget : ∀ x, getF tb (WF wb 53 x (upd m b (cat (L.take i))) [N, M] g) = some (.cells (L.map .str)) := fun x => WF_g hw1 htb
    have hix : indexAddrA Try.prog 78 (.slc tb 0 L.length (.ex L.length)) (.int .i64 (i : Int)) = some (.ptr tb i) := by
      simp [indexAddrA, idx_nat hlt]
    have hgl : getL (L.map AV.str) i = some (.str L[i]) := getL_map hlt
    have hle := cat_le L (i + 1)
    rw [cat_at hlt] at hle
    simp only [List.length_append] at hle
    have fw := (c61 (T := T) (ty := 53) (a := if i = 0 then a else .ptr wb 0) hE hw1 (aI i) (liesS N M) L[i] (by rw [upd_out]; simp; omega)).perm (H2 := ⟨m + 1, [[], WF wb 53 (if i = 0 then a else .ptr wb 0) (upd m b (cat (L.take i))) [N, M] g]⟩) (H2' := ⟨m + 2, [[], WF wb 53 (.ptr wb 0) (upd (m + 1) (upd m b (cat (L.take i))) L[i]) [N, M] g]⟩) rfl rfl (by simp [Heap.ents]) (by simp [Heap.ents])
    repeat refine wps_seq ?_
    refine wps_region callOK ?_
    simp [ofV, ofV1, mkC_P, writeVar, writeCells, readCells, allSingle, AV.single, getFs, getF, setFs, setF, Heap.get, Heap.set, Heap.new, Heap.kill, killF, pushF, Heap.ready, refs, sliceParts, fillA, replL, hix, hget, hgl]
    repeat refine wps_seq ?_
    refine wps_region (callOKF [⟨61, _, _, _, _, fw⟩]) ?_
    simp [ofV, ofV1, mkC_P, writeVar, writeCells, readCells, allSingle, AV.single, getFs, getF, setFs, setF, Heap.get, Heap.set, Heap.new, Heap.kill, killF, pushF, Heap.ready, refs, sliceParts, fillA, replL, callF]
    repeat refine wps_seq ?_
    refine wps_region callOK ?_
    simp [ofV, ofV1, mkC_P, writeVar, writeCells, readCells, allSingle, AV.single, getFs, getF, setFs, setF, Heap.get, Heap.set, Heap.new, Heap.kill, killF, pushF, Heap.ready, refs, sliceParts, fillA, replL, add_one (show i ≤ 1000000000 by omega)]
    obtain ⟨σ, hσ, fh⟩ := fit_two (n := m + 2) (ty := 53) h (cat (L.take i)) L[i]
    refine hB _ (i + 1) (by omega) (by omega) ⟨σ, [], rfl, rfl, rfl, by simp [fitL, fitV, hσ _ h.lw, hσ _ ltb, pureV], ?_⟩
    simp only [Nat.succ_ne_zero, if_false]
    rw [cat_at hlt]
    exact fh.fs (by simp)
  · simp at hlt
    have hil : i = L.length := by omega
    subst hil
    have hne : ¬ L.length = 0 := by simpa using hL
    repeat refine wps_seq ?_
    refine wps_exit ?_
    simp
    rw [if_neg hL]
    obtain ⟨σ, hσ, fh⟩ := fit_upd (n := m + 1) (ty := 53) (f := []) h (cat L) fun _ _ => rfl
    exact ⟨[], rfl, σ, [], by simp [oneOr, fitV, fitL], fh⟩
end Go.Proofs.Ytohkgmnoamfmgaa
namespace Go.Proofs.Ytohkgmnoamfmgaa
set_option linter.unusedSimpArgs false
set_option linter.unusedVariables false
open Go Go.RowKit
set_option maxRecDepth 100000

/-- the end of a function that wrote -/
theorem fit_doneA {a : AV} {m m2 n wb : Nat} {ty : TypeId} {b0 b2 : Bs} {cs : List AV} {g f : List (Nat × Blk)} (ha : a = .nilP ∨ a = .ptr wb 0) (h : Wok m wb b0 cs g) (h2 : Wok m2 wb b2 cs g) (hne : b2.out ≠ []) (hk : m ≤ b2.k) (hf : ∀ i, i = b2.k ∨ i < m → getF i f = none) :
    FitH m ((b2.k, m) :: idn m) [] ⟨n, [f, WF wb ty a b2 cs g]⟩ ⟨m + 1, [WF wb ty a ⟨m, b2.out⟩ cs g]⟩ := by
  have idl := idl_cons (m := m) (k := b2.k) (k' := m) hk
  obtain ⟨k, out⟩ := b2
  simp only at hne hk hf idl
  refine fitWr (kc := k) (k' := m) (fz := out.length) (out := out) (O := .obj ty (a :: bV ⟨k, out⟩ :: cs)) (.inr ⟨rfl, rfl, hk⟩) (by omega) h.lw h.lg h.nd (fun _ hx => ?_) ?_ (fit_objA ha (idl _ h.lw) (fun _ => by simp [lookN]) (h.sc _ idl)) (fun _ => ?_) (Nat.le_refl _) (fun e he => ⟨?_, h.sg e he⟩)
  · rcases List.mem_cons.1 hx with hx | hx
    · have := h.lw; omega
    · obtain ⟨e, he, hx⟩ := List.mem_map.1 hx
      have := h.lg e he; omega
  · simp only [Heap.get, getFs]
    rw [hf wb (.inr h.lw), WF_o]
  · simp only [Heap.get, getFs]
    rw [hf k (.inl rfl), WF_b h2 hne]
  · simp only [Heap.get, getFs]
    rw [hf e.1 (.inr (h.lg e he)), WF_g h2 he]
/-- the same, where nothing was written -/
theorem fit_noneA {a : AV} {m n wb : Nat} {ty : TypeId} {b : Bs} {cs : List AV} {g f : List (Nat × Blk)} (ha : a = .nilP ∨ a = .ptr wb 0) (h : Wok m wb b cs g) (hf : ∀ i, i < m → getF i f = none) : FitH m (idn m) [] ⟨n, [f, WF wb ty a b cs g]⟩ ⟨m + 1, [WF wb ty a b cs g]⟩ := by
  obtain ⟨k, out⟩ := b
  exact fitWr (kc := k) (k' := k) (fz := out.length) (out := out) (O := .obj ty (a :: bV ⟨k, out⟩ :: cs)) (.inl ⟨rfl, rfl, fun hne => (h.hk hne).2⟩) (by omega) h.lw h.lg h.nd (fun hne => (h.hk hne).1) (by simp only [Heap.get, getFs]; rw [hf wb h.lw, WF_o])
    (fit_objA ha (lookN_idn h.lw) (fun hne => lookN_idn (h.hk hne).2) (h.sc _ (idl_idn m))) (fun hne => by simp only [Heap.get, getFs]; rw [hf k (h.hk hne).2, WF_b h hne]) (Nat.le_refl _) (fun e he => ⟨by simp only [Heap.get, getFs]; rw [hf e.1 (h.lg e he), WF_g h he], h.sg e he⟩)
/-- within a function: its own rows f, the buffer b by now -/
structure Wtn (m0 wb : Nat) (b0 : Bs) (cs : List AV) (g : List (Nat × Blk)) (n : Nat) (f : List (Nat × Blk)) (b : Bs) : Prop where
  base : Wok m0 wb b0 cs g
  le : m0 ≤ n
  fid : ∀ e, e ∈ f → m0 ≤ e.1 ∧ e.1 < n ∧ SelfB n e.2
  nd : (f.map (·.1)).Nodup
  bk : b = b0 ∨ (m0 ≤ b.k ∧ b.k < n ∧ (∃ t, t ≠ [] ∧ b.out = b0.out ++ t) ∧ b.k ∉ f.map (·.1))
section
variable {m0 wb : Nat} {b0 : Bs} {cs : List AV} {g : List (Nat × Blk)} {n : Nat} {f : List (Nat × Blk)} {b : Bs}
theorem Wtn.start (h : Wok m0 wb b0 cs g) : Wtn m0 wb b0 cs g m0 [] b0 := ⟨h, Nat.le_refl _, fun e he => by (cases he), by simp, .inl rfl⟩
theorem Wtn.wok (h : Wtn m0 wb b0 cs g n f b) : Wok n wb b cs (f ++ g) where
  lw := Nat.lt_of_lt_of_le h.base.lw h.le
  lg := fun e he => by
    rcases List.mem_append.1 he with he | he
    · exact (h.fid e he).2.1
    · exact Nat.lt_of_lt_of_le (h.base.lg e he) h.le
  nd := by
    have nd := h.base.nd
    rw [List.nodup_cons] at nd ⊢
    refine ⟨?_, ?_⟩
    · rw [List.map_append, List.mem_append, not_or]
      refine ⟨fun hx => ?_, nd.1⟩
      obtain ⟨e, he, hx⟩ := List.mem_map.1 hx
      have := (h.fid e he).1
      have := h.base.lw
      omega
    · rw [List.map_append]
      refine List.nodup_append.2 ⟨h.nd, nd.2, fun x hx y hy => ?_⟩
      obtain ⟨e, he, rfl⟩ := List.mem_map.1 hx
      obtain ⟨e', he', rfl⟩ := List.mem_map.1 hy
      have := (h.fid e he).1
      have := h.base.lg e' he'
      omega
  hk := fun hne => by
    have lw := h.base.lw
    rcases h.bk with rfl | ⟨h1, h2, h3, h4⟩
    · obtain ⟨k1, k2⟩ := h.base.hk hne
      simp only [List.mem_cons, not_or] at k1
      refine ⟨?_, Nat.lt_of_lt_of_le k2 h.le⟩
      simp only [List.mem_cons, List.map_append, List.mem_append, not_or]
      refine ⟨k1.1, fun hx => ?_, k1.2⟩
      obtain ⟨e, he, hx⟩ := List.mem_map.1 hx
      have := (h.fid e he).1
      omega
    · refine ⟨?_, h2⟩
      simp only [List.mem_cons, List.map_append, List.mem_append, not_or]
      refine ⟨by omega, h4, fun hx => ?_⟩
      obtain ⟨e, he, hx⟩ := List.mem_map.1 hx
      have := h.base.lg e he
      omega
  sg := fun e he => by
    rcases List.mem_append.1 he with he | he
    · exact (h.fid e he).2.2
    · exact (h.base.sg e he).mono h.le
  sc := fun σ hσ => h.base.sc σ fun i hi => hσ i (Nat.lt_of_lt_of_le hi h.le)
/-- a new row of the function's own -/
theorem Wtn.box (h : Wtn m0 wb b0 cs g n f b) {k : Blk} (hk : SelfB (n + 1) k) : Wtn m0 wb b0 cs g (n + 1) ((n, k) :: f) b where
  base := h.base
  le := Nat.le_succ_of_le h.le
  fid := fun e he => by
    rcases List.mem_cons.1 he with rfl | he
    · exact ⟨h.le, Nat.lt_succ_self _, hk⟩
    · obtain ⟨h1, h2, h3⟩ := h.fid e he
      exact ⟨h1, Nat.lt_succ_of_lt h2, h3.mono (Nat.le_succ n)⟩
  nd := by
    rw [List.map_cons, List.nodup_cons]
    refine ⟨fun hx => ?_, h.nd⟩
    obtain ⟨e, he, hx⟩ := List.mem_map.1 hx
    have := (h.fid e he).2.1
    simp only at hx
    omega
  bk := by
    rcases h.bk with rfl | ⟨h1, h2, h3, h4⟩
    · exact .inl rfl
    · refine .inr ⟨h1, Nat.lt_succ_of_lt h2, h3, ?_⟩
      rw [List.map_cons, List.mem_cons, not_or]
      exact ⟨by simp only; omega, h4⟩
theorem Wtn.more (h : Wtn m0 wb b0 cs g n f b) {n' : Nat} (hn : n ≤ n') : Wtn m0 wb b0 cs g n' f b where
  base := h.base
  le := Nat.le_trans h.le hn
  fid := fun e he => let ⟨h1, h2, h3⟩ := h.fid e he; ⟨h1, Nat.lt_of_lt_of_le h2 hn, h3.mono hn⟩
  nd := h.nd
  bk := h.bk.imp id fun ⟨h1, h2, h3, h4⟩ => ⟨h1, Nat.lt_of_lt_of_le h2 hn, h3, h4⟩
/-- more was written -/
theorem Wtn.upd (h : Wtn m0 wb b0 cs g n f b) (s : Str) : Wtn m0 wb b0 cs g (n + 1) f (upd n b s) := by
  cases s with
  | nil => exact h.more (Nat.le_succ n)
  | cons c r =>
    have h' := h.more (Nat.le_succ n)
    have ht : ∃ t, t ≠ [] ∧ (Go.Proofs.Ytohkgmnoamfmgaa.upd n b (c :: r)).out = b0.out ++ t := by
      rcases h.bk with rfl | ⟨_, _, ⟨t, ht, he⟩, _⟩
      · exact ⟨c :: r, by simp, rfl⟩
      · exact ⟨t ++ c :: r, by simp, by simp [Go.Proofs.Ytohkgmnoamfmgaa.upd, he]⟩
    refine ⟨h'.base, h'.le, h'.fid, h'.nd, .inr ⟨h.le, Nat.lt_succ_self n, ht, fun hx => ?_⟩⟩
    obtain ⟨e, he, hx⟩ := List.mem_map.1 hx
    have := (h.fid e he).2.1
    simp only [Go.Proofs.Ytohkgmnoamfmgaa.upd] at hx
    omega
theorem Wtn.none (h : Wtn m0 wb b0 cs g n f b) {i : Nat} (hi : i < m0 ∨ (b ≠ b0 ∧ i = b.k)) : getF i f = .none := by
  have key : ∀ (l : List (Nat × Blk)), (∀ e, e ∈ l → e.1 ≠ i) → getF i l = .none := by
    intro l
    induction l with
    | nil => intro _; rfl
    | cons x r ih =>
      intro hx
      unfold getF
      rw [beqN_ne (hx x (by simp))]
      exact ih fun e he => hx e (by simp [he])
  refine key f fun e he hx => ?_
  rcases hi with hi | ⟨hne, rfl⟩
  · have := (h.fid e he).1
    omega
  · rcases h.bk with rfl | ⟨_, _, _, h4⟩
    · exact hne rfl
    · exact h4 (List.mem_map.2 ⟨e, he, hx⟩)
/-- the end of the function -/
theorem Wtn.fin (h : Wtn m0 wb b0 cs g n f b) {txt : Str} (ht : b.out = b0.out ++ txt) {ty : TypeId} {n' : Nat} {a : AV} (ha : a = .nilP ∨ a = .ptr wb 0) : ∃ σ, Idl m0 σ ∧ FitH m0 σ [] ⟨n', [f, WF wb ty a b cs g]⟩ ⟨m0 + 1, [WF wb ty a (Go.Proofs.Ytohkgmnoamfmgaa.upd m0 b0 txt) cs g]⟩ := by
  rcases h.bk with rfl | ⟨h1, h2, h3, h4⟩
  · have : txt = [] := by simpa using ht
    subst this
    exact ⟨_, idl_idn m0, fit_noneA ha h.base fun i hi => h.none (.inl hi)⟩
  · by_cases hb : b = b0
    · subst hb
      have : txt = [] := by simpa using ht
      subst this
      exact ⟨_, idl_idn m0, fit_noneA ha h.base fun i hi => h.none (.inl hi)⟩
    · obtain ⟨t, htn, hte⟩ := h3
      have e : txt = t := by rw [ht] at hte; exact List.append_cancel_left hte
      subst e
      have h3 : b.out ≠ [] := by rw [hte]; simp [htn]
      have hw : Wok n wb b cs g := by
        have w := h.wok
        refine ⟨w.lw, fun e he => w.lg e (List.mem_append_right _ he), h.base.nd, fun hne => ?_, fun e he => w.sg e (List.mem_append_right _ he), w.sc⟩
        obtain ⟨k1, k2⟩ := w.hk hne
        simp only [List.mem_cons, List.map_append, List.mem_append, not_or] at k1
        exact ⟨by simp only [List.mem_cons, not_or]; exact ⟨k1.1, k1.2.2⟩, k2⟩
      rw [upd_ne htn, ← ht]
      exact ⟨_, idl_cons h1, fit_doneA ha h.base hw h3 h1 fun i hi => h.none (hi.symm.imp id fun e => ⟨hb, e⟩)⟩
end
theorem Wtn.put {T : List (Entry Try.prog)} (hE : findE 82 T = some e82.g) {m0 wb : Nat} {b0 : Bs} {N M a : AV} {g : List (Nat × Blk)} {n : Nat} {f : List (Nat × Blk)} {b : Bs} (h : Wtn m0 wb b0 [N, M] g n f b) (ha : a = .nilP ∨ a = .ptr wb 0) (L : List Str) (hL : L ≠ []) (hl : L.length ≤ 1000) {tb : Nat} (htb : (tb, .cells (L.map .str)) ∈ f) (hs : b.out.length + (cat L).length ≤ 100000000) :
    CallAt (ctx T) 45 [.ptr wb 0, .slc tb 0 L.length (.ex L.length)] ⟨n, [f, WF wb 53 a b [N, M] g]⟩ (.tup []) ⟨n + 1, [f, WF wb 53 (.ptr wb 0) (Go.Proofs.Ytohkgmnoamfmgaa.upd n b (cat L)) [N, M] g]⟩ :=
  (c45 (T := T) hE h.wok ha L hL hl (List.mem_append_left _ htb) hs).top
theorem c44 {T : List (Entry Try.prog)} (hE : findE 82 T = some e82.g) (hR : findE 13 T = some e13.g) (hT : findE 60 T = some e60.g) (t : Tr) {m wb : Nat} {M a : AV} {b : Bs} {g : List (Nat × Blk)} (h : Wok m wb b [aNodes t, M] g) (ha : a = .nilP ∨ a = .ptr wb 0) (n : Nd) (hn : fewNd n = true) (hs : b.out.length ≤ 10000000) :
    CallAt (ctx T) 44 [.ptr wb 0, aNode n] ⟨m, [WF wb 53 a b [aNodes t, M] g]⟩ (.tup []) ⟨m + 1, [WF wb 53 (.ptr wb 0) (upd m b (charsT rawB t n)) [aNodes t, M] g]⟩ := by
  have hd : n.data.length ≤ 300 := by
    simp only [fewNd, Bool.and_eq_true, decide_eq_true_eq] at hn
    exact hn.2.1
  have hmw : Nat.beq m wb = false := beqN_ne (by have := h.lw; omega)
  have W0 := Wtn.start h
  have W1 := W0.box (k := .cells n.cs) (self_pure (pure_cs n))
  have kT := fun H => k60 hT (s := n.data) (by omega) H
  have hel := esc_len false _ n.data (Nat.le_refl _)
  have fin : ∀ (b2 : Bs) (n2 : Nat) (f2 : List (Nat × Blk)) (txt : Str), Wtn m wb b [aNodes t, M] g n2 f2 b2 → b2.out = b.out ++ txt → charsT rawB t n = txt → ∃ σ, FitH m σ [] ⟨n2, [f2, WF wb 53 (.ptr wb 0) b2 [aNodes t, M] g]⟩ ⟨m + 1, [WF wb 53 (.ptr wb 0) (upd m b (charsT rawB t n)) [aNodes t, M] g]⟩ := fun b2 n2 f2 txt w e1 e2 => by
    obtain ⟨σ, _, fh⟩ := w.fin (ty := 53) (n' := n2) (txt := txt) e1 (.inr rfl)
    rw [e2]; exact ⟨σ, fh⟩
  refine callAt_body (fn := Try.f44) (s0 := ⟨[0, 1, 3], [.ptr wb 0, aNode n, .undef], [], 41, ⟨m, [] :: [WF wb 53 a b [aNodes t, M] g]⟩⟩) Try.func44 rfl rfl rfl ?_
  repeat refine wps_seq ?_
  refine wps_region callOK ?_
  simp [ofV, ofV1, mkC_P, writeVar, writeCells, readCells, allSingle, AV.single, getFs, getF, setFs, setF, Heap.get, Heap.set, Heap.new, Heap.kill, killF, pushF, Heap.ready, refs, sliceParts, fillA, replL, aNode]
  by_cases c1 : 0 ≤ n.up
  · by_cases c2 : n.up < (t.length : Int)
    · have a1 := atX c1 c2
      cases hr : rawB (nodeAt t n.up) with
      | true =>
        have hch : charsT rawB t n = n.data := by simp [charsT, c1, c2, hr]
        repeat refine wps_seq ?_
        refine wps_drawK mixed callOK (by decide +kernel) (by decide +kernel) ?_
        simp [ofV, ofV1, mkC_P, writeVar, writeCells, readCells, allSingle, AV.single, getFs, getF, setFs, setF, Heap.get, Heap.set, Heap.new, Heap.kill, killF, pushF, Heap.ready, refs, sliceParts, fillA, replL, evalK_c, evalK_nil, thenK_some, c1, hmw, WF_o, lenN, c2, a1, fold_node, k13 hR, hr]
        repeat refine wps_seq ?_
        refine wps_cond (t := true) rfl (fun _ => ?_) fun h => by cases h
        have W2 := (W1.more (n' := m + 1 + 26) (by omega)).box (k := .cells [.str n.data]) (self_pure (by simp [pureL, pureV]))
        have pt := W2.put (T := T) hE ha [n.data] (by simp) (by simp) (tb := m + 1 + 26) (by simp) (by simp [cat]; omega)
        have W3 := W2.upd (cat [n.data])
        repeat refine wps_seq ?_
        refine wps_region (callOKF [⟨45, _, _, _, _, pt⟩]) ?_
        simp [ofV, ofV1, mkC_P, writeVar, writeCells, readCells, allSingle, AV.single, getFs, getF, setFs, setF, Heap.get, Heap.set, Heap.new, Heap.kill, killF, pushF, Heap.ready, refs, sliceParts, fillA, replL, callF, hmw]
        repeat refine wps_seq ?_
        refine wps_ret ?_
        simp [thenQ]
        obtain ⟨σ, fh⟩ := fin _ _ _ n.data W3 (by rw [upd_out]; simp [cat]) hch
        exact ⟨[], rfl, σ, [], by simp [oneOr, fitV, fitL], fh⟩
      | false =>
        have hch : charsT rawB t n = esc false n.data := by simp [charsT, c1, c2, hr]
        repeat refine wps_seq ?_
        refine wps_drawK mixed callOK (by decide +kernel) (by decide +kernel) ?_
        simp [ofV, ofV1, mkC_P, writeVar, writeCells, readCells, allSingle, AV.single, getFs, getF, setFs, setF, Heap.get, Heap.set, Heap.new, Heap.kill, killF, pushF, Heap.ready, refs, sliceParts, fillA, replL, evalK_c, evalK_nil, thenK_some, c1, hmw, WF_o, lenN, c2, a1, fold_node, k13 hR, hr]
        repeat refine wps_seq ?_
        refine wps_cond (t := false) rfl (fun h => by cases h) fun _ => ?_
        repeat refine wps_seq ?_
        refine wps_skip ?_
        simp
        have W2 := (W1.more (n' := m + 1 + 26) (by omega)).box (k := .cells [.str (esc false n.data)]) (self_pure (by simp [pureL, pureV]))
        have pt := W2.put (T := T) hE ha [esc false n.data] (by simp) (by simp) (tb := m + 1 + 26) (by simp) (by simp [cat]; omega)
        have W3 := W2.upd (cat [esc false n.data])
        repeat refine wps_seq ?_
        refine wps_region (callOKF [⟨45, _, _, _, _, pt⟩]) ?_
        simp [ofV, ofV1, mkC_P, writeVar, writeCells, readCells, allSingle, AV.single, getFs, getF, setFs, setF, Heap.get, Heap.set, Heap.new, Heap.kill, killF, pushF, Heap.ready, refs, sliceParts, fillA, replL, callF, hmw, kT]
        obtain ⟨σ, fh⟩ := fin _ _ _ (esc false n.data) W3 (by rw [upd_out]; simp [cat]) hch
        exact ⟨[], rfl, σ, [], by simp [oneOr, fitV, fitL], fh⟩
    · have hch : charsT rawB t n = esc false n.data := by simp [charsT, c1, c2]
      repeat refine wps_seq ?_
      refine wps_drawK mixed callOK (by decide +kernel) (by decide +kernel) ?_
      simp [ofV, ofV1, mkC_P, writeVar, writeCells, readCells, allSingle, AV.single, getFs, getF, setFs, setF, Heap.get, Heap.set, Heap.new, Heap.kill, killF, pushF, Heap.ready, refs, sliceParts, fillA, replL, evalK_c, evalK_nil, thenK_some, c1, hmw, WF_o, lenN, c2]
      repeat refine wps_seq ?_
      refine wps_cond (t := false) rfl (fun h => by cases h) fun _ => ?_
      repeat refine wps_seq ?_
      refine wps_skip ?_
      simp
      have W2 := (W1.more (n' := m + 1 + 26) (by omega)).box (k := .cells [.str (esc false n.data)]) (self_pure (by simp [pureL, pureV]))
      have pt := W2.put (T := T) hE ha [esc false n.data] (by simp) (by simp) (tb := m + 1 + 26) (by simp) (by simp [cat]; omega)
      have W3 := W2.upd (cat [esc false n.data])
      repeat refine wps_seq ?_
      refine wps_region (callOKF [⟨45, _, _, _, _, pt⟩]) ?_
      simp [ofV, ofV1, mkC_P, writeVar, writeCells, readCells, allSingle, AV.single, getFs, getF, setFs, setF, Heap.get, Heap.set, Heap.new, Heap.kill, killF, pushF, Heap.ready, refs, sliceParts, fillA, replL, callF, hmw, kT]
      obtain ⟨σ, fh⟩ := fin _ _ _ (esc false n.data) W3 (by rw [upd_out]; simp [cat]) hch
      exact ⟨[], rfl, σ, [], by simp [oneOr, fitV, fitL], fh⟩
  · have hch : charsT rawB t n = esc false n.data := by simp [charsT, c1]
    repeat refine wps_seq ?_
    refine wps_drawK mixed callOK (by decide +kernel) (by decide +kernel) ?_
    simp [ofV, ofV1, mkC_P, writeVar, writeCells, readCells, allSingle, AV.single, getFs, getF, setFs, setF, Heap.get, Heap.set, Heap.new, Heap.kill, killF, pushF, Heap.ready, refs, sliceParts, fillA, replL, evalK_c, evalK_nil, thenK_some, c1, hmw, WF_o, lenN]
    repeat refine wps_seq ?_
    refine wps_cond (t := false) rfl (fun h => by cases h) fun _ => ?_
    repeat refine wps_seq ?_
    refine wps_skip ?_
    simp
    have W2 := (W1.more (n' := m + 1 + 26) (by omega)).box (k := .cells [.str (esc false n.data)]) (self_pure (by simp [pureL, pureV]))
    have pt := W2.put (T := T) hE ha [esc false n.data] (by simp) (by simp) (tb := m + 1 + 26) (by simp) (by simp [cat]; omega)
    have W3 := W2.upd (cat [esc false n.data])
    repeat refine wps_seq ?_
    refine wps_region (callOKF [⟨45, _, _, _, _, pt⟩]) ?_
    simp [ofV, ofV1, mkC_P, writeVar, writeCells, readCells, allSingle, AV.single, getFs, getF, setFs, setF, Heap.get, Heap.set, Heap.new, Heap.kill, killF, pushF, Heap.ready, refs, sliceParts, fillA, replL, callF, hmw, kT]
    obtain ⟨σ, fh⟩ := fin _ _ _ (esc false n.data) W3 (by rw [upd_out]; simp [cat]) hch
    exact ⟨[], rfl, σ, [], by simp [oneOr, fitV, fitL], fh⟩
end Go.Proofs.Ytohkgmnoamfmgaa
namespace Go.Proofs.Ytohkgmnoamfmgaa
set_option linter.unusedSimpArgs false
set_option linter.unusedVariables false
open Go Go.RowKit
set_option maxRecDepth 100000

/-! ### Whom the writer has written: a map of numbers -/
def oneI (_ : Unit) : AV := .int .i64 1
def mapIn : MapT Try.prog 47 aInt oneI where
  tk := 3
  te := 3
  kd := _
  hu := Try.underlying47
  hk := Try.underlying3
  eq := fun a b => by
    show some (a == b) = _
    congr 1
  pure := fun a v => rfl
def keyI (S : List Int) : List (Int × Unit) := S.map fun s => (s, ())
theorem keyI_get {w : Int} : ∀ (L : List Int), getM w (keyI L) = if w ∈ L then some () else none
  | [] => rfl
  | x :: r => by
    have ih := keyI_get (w := w) r
    simp only [keyI, List.map_cons, getM] at ih ⊢
    by_cases h : x = w
    · subst h; simp
    · have h' : ¬ w = x := fun e => h e.symm
      simp only [h, if_false, List.mem_cons, h', false_or]
      exact ih
theorem keyI_set {w : Int} : ∀ {L : List Int}, w ∉ L → setM w () (keyI L) = keyI (L ++ [w])
  | [], _ => rfl
  | x :: r, h => by
    have h1 : ¬ x = w := fun e => h (by simp [e])
    have ih := keyI_set (w := w) (L := r) fun e => h (by simp [e])
    simp only [keyI, List.map_cons, setM, h1, if_false, List.cons_append] at ih ⊢
    rw [ih]
def mB (S : List Int) : Blk := .map (entsM aInt oneI (keyI S))
theorem self_mB (m : Nat) (S : List Int) : SelfB m (mB S) := fun σ _ => by
  have h : pureL ((entsM aInt oneI (keyI S)).map (·.1)) = true ∧ pureL ((entsM aInt oneI (keyI S)).map (·.2)) = true := by
    induction S with
    | nil => exact ⟨rfl, rfl⟩
    | cons x r ih => exact ⟨by simpa [keyI, entsM, pureL, pureV, aInt] using ih.1, by simpa [keyI, entsM, pureL, pureV, oneI] using ih.2⟩
  exact ⟨fitL_pure h.1, fitL_pure h.2⟩
section
variable {m0 wb mb : Nat} {b0 : Bs} {cs : List AV} {g : List (Nat × Blk)} {n : Nat} {f : List (Nat × Blk)} {b : Bs}
theorem Wok.setm {S S' : List Int} (h : Wok m0 wb b0 cs ((mb, mB S) :: g)) : Wok m0 wb b0 cs ((mb, mB S') :: g) where
  lw := h.lw
  lg := fun e he => by
    rcases List.mem_cons.1 he with rfl | he
    · exact h.lg (mb, mB S) (by simp)
    · exact h.lg e (by simp [he])
  nd := h.nd
  hk := h.hk
  sg := fun e he => by
    rcases List.mem_cons.1 he with rfl | he
    · exact self_mB _ _
    · exact h.sg e (by simp [he])
  sc := h.sc
theorem Wtn.setm {S S' : List Int} (h : Wtn m0 wb b0 cs ((mb, mB S) :: g) n f b) : Wtn m0 wb b0 cs ((mb, mB S') :: g) n f b := ⟨h.base.setm, h.le, h.fid, h.nd, h.bk⟩
end
/-! ### Whether anything was asked of the Builder -/
def tchK (g : Int → List Int → Str × List Int) (tc : Int → List Int → Bool) : List Int → List Int → Bool
  | [], _ => false
  | k :: r, S => tc k S || tchK g tc r (g k S).2
def voidN (n : Nd) : Bool := voidW n.space n.name
abbrev txtS (t : Tr) := txtF voidN rawB t
def tchF (t : Tr) : Nat → Int → List Int → Bool
  | 0, _, _ => false
  | f + 1, i, S => if i < 0 ∨ (t.length : Int) ≤ i ∨ i ∈ S then false else
    if (nodeAt t i).kind = 0 then tchK (txtS t f) (tchF t f) (nodeAt t i).kids (S ++ [i])
    else decide (1 ≤ (nodeAt t i).kind) && decide ((nodeAt t i).kind ≤ 4)
def aft (wb : Nat) (a : AV) (tc : Bool) : AV := if tc = true then .ptr wb 0 else a
theorem aft_or {wb : Nat} {a : AV} (tc : Bool) (ha : a = .nilP ∨ a = .ptr wb 0) : aft wb a tc = .nilP ∨ aft wb a tc = .ptr wb 0 := by
  unfold aft; split <;> simp [ha]
theorem aft_aft {wb : Nat} {a : AV} {x y : Bool} : aft wb (aft wb a x) y = aft wb a (x || y) := by cases x <;> cases y <;> rfl
theorem kidsT_snoc {g : Int → List Int → Str × List Int} {k : Int} : ∀ (l : List Int) (S : List Int), kidsT g (l ++ [k]) S = ((kidsT g l S).1 ++ (g k (kidsT g l S).2).1, (g k (kidsT g l S).2).2)
  | [], S => by simp [kidsT]
  | x :: r, S => by
    simp only [List.cons_append, kidsT, kidsT_snoc r (g x S).2, List.append_assoc]
theorem tchK_snoc {g : Int → List Int → Str × List Int} {tc : Int → List Int → Bool} {k : Int} : ∀ (l : List Int) (S : List Int), tchK g tc (l ++ [k]) S = (tchK g tc l S || tc k (kidsT g l S).2)
  | [], S => by simp [kidsT, tchK]
  | x :: r, S => by
    simp only [List.cons_append, kidsT, tchK, tchK_snoc r (g x S).2, Bool.or_assoc]
/-- what a call for a node does -/
def NodeAt (T : List (Entry Try.prog)) (t : Tr) (f : Nat) : Prop := ∀ (m wb mb : Nat) (a : AV) (b : Bs) (g : List (Nat × Blk)) (i : Int) (S : List Int), Wok m wb b [aNodes t, .map mb] ((mb, mB S) :: g) → (a = .nilP ∨ a = .ptr wb 0) → SOK t S → t.length < f + S.length → b.out.length + bigT * (t.length - S.length) ≤ 10000000 →
  CallAt (ctx T) 25 [.ptr wb 0, .int .i64 i] ⟨m, [WF wb 53 a b [aNodes t, .map mb] ((mb, mB S) :: g)]⟩ (.tup []) ⟨m + 1, [WF wb 53 (aft wb a (tchF t f i S)) (upd m b (txtS t f i S).1) [aNodes t, .map mb] ((mb, mB (txtS t f i S).2) :: g)]⟩
theorem c42 {T : List (Entry Try.prog)} {t : Tr} (ht : smallTr t) (hf : t.all fewNd = true) {f : Nat} (hN : NodeAt T t f) {m wb mb : Nat} {a : AV} {b : Bs} {g : List (Nat × Blk)} {i : Int} {S : List Int} (h : Wok m wb b [aNodes t, .map mb] ((mb, mB S) :: g)) (ha : a = .nilP ∨ a = .ptr wb 0) (hS : SOK t S) (hfu : t.length < f + S.length) (hs : b.out.length + bigT * (t.length - S.length) ≤ 10000000) (i0 : 0 ≤ i) (i1 : i < (t.length : Int)) :
    CallAt (ctx T) 42 [.ptr wb 0, .int .i64 i] ⟨m, [WF wb 53 a b [aNodes t, .map mb] ((mb, mB S) :: g)]⟩ (.tup [])
      ⟨m + 1, [WF wb 53 (aft wb a (tchK (txtS t f) (tchF t f) (nodeAt t i).kids S)) (upd m b (kidsT (txtS t f) (nodeAt t i).kids S).1) [aNodes t, .map mb] ((mb, mB (kidsT (txtS t f) (nodeAt t i).kids S).2) :: g)]⟩ := by
  have hkl := (ht.2.2 _ (nodeAt_mem i0 i1)).1
  obtain ⟨ks, hks⟩ : ∃ ks, ks = (nodeAt t i).kids := ⟨_, rfl⟩
  rw [← hks] at hkl ⊢
  have idl := idl_idn m
  have gr : ∀ j, Grows t S (kidsT (txtS t f) (ks.take j) S) := fun j => kids_grows t (fun i S h => txt_grows voidN rawB t hf f i S h) _ S hS
  refine callAt_body (fn := Try.f42) (s0 := ⟨[0, 1, 5, 14, 15, 16], [.ptr wb 0, .int .i64 i, .undef, .undef, .undef, .undef], [], 24, ⟨m, [] :: [WF wb 53 a b [aNodes t, .map mb] ((mb, mB S) :: g)]⟩⟩) Try.func42 rfl rfl rfl ?_
  repeat refine wps_seq ?_
  refine wps_region callOK ?_
  simp [ofV, ofV1, mkC_P, writeVar, writeCells, readCells, allSingle, AV.single, getFs, getF, setFs, setF, Heap.get, Heap.set, Heap.new, Heap.kill, killF, pushF, Heap.ready, refs, sliceParts, fillA, replL, WF_o, atX i0 i1, ← hks, lenI]
  repeat refine wps_seq ?_
  refine wps_block (wps_loop' (fun j : Nat => (⟨[0, 1, 5, 14, 15, 16], [.ptr wb 0, .undef, .undef, aInts ks, .int .i64 (ks.length : Nat), .int .i64 j], [], 24, ⟨m + 1, [[], WF wb 53 (aft wb a (tchK (txtS t f) (tchF t f) (ks.take j) S)) (upd m b (kidsT (txtS t f) (ks.take j) S).1) [aNodes t, .map mb] ((mb, mB (kidsT (txtS t f) (ks.take j) S).2) :: g)]⟩⟩ : St))
    (fun j => j ≤ ks.length) (fun j => ks.length - j) (idn m) [] 0 (Nat.zero_le _)
    ⟨rfl, rfl, rfl, by simp [fitL, fitV, idl _ h.lw, pureV, aInts], by simpa [kidsT, tchK, aft, upd] using fit_keepA (n := m) (ty := 53) (f := []) ha h fun _ _ => rfl⟩ ?_)
  rintro j hj B hB
  have grj := gr j
  have W1 := ((Wtn.start h).upd (kidsT (txtS t f) (ks.take j) S).1).setm (S' := (kidsT (txtS t f) (ks.take j) S).2)
  repeat refine wps_seq ?_
  refine wps_region callOK ?_
  simp [ofV, ofV1, mkC_P, writeVar, writeCells, readCells, allSingle, AV.single, getFs, getF, setFs, setF, Heap.get, Heap.set, Heap.new, Heap.kill, killF, pushF, Heap.ready, refs, sliceParts, fillA, replL]
  repeat refine wps_seq ?_
  refine wps_cond rfl (fun hlt => ?_) fun hlt => ?_
  · simp at hlt
    repeat refine wps_seq ?_
    refine wps_skip ?_
    simp
    repeat refine wps_seq ?_
    refine wps_block ?_
    repeat refine wps_seq ?_
    refine wps_region callOK ?_
    simp [ofV, ofV1, mkC_P, writeVar, writeCells, readCells, allSingle, AV.single, getFs, getF, setFs, setF, Heap.get, Heap.set, Heap.new, Heap.kill, killF, pushF, Heap.ready, refs, sliceParts, fillA, replL, atI hlt]
    have hlS := sok_len t grj.ok
    have hle := grj.le
    have hgl := grj.len
    simp only [bigT] at hgl hs
    have hn := (hN (m + 1) wb mb _ _ g ks[j] _ W1.wok (aft_or (tchK (txtS t f) (tchF t f) (ks.take j) S) ha) grj.ok (by omega) (by rw [upd_out]; simp only [bigT, List.length_append]; omega)).perm (H2 := ⟨m + 1, [[], WF wb 53 (aft wb a (tchK (txtS t f) (tchF t f) (ks.take j) S)) (upd m b (kidsT (txtS t f) (ks.take j) S).1) [aNodes t, .map mb] ((mb, mB (kidsT (txtS t f) (ks.take j) S).2) :: g)]⟩)
      (H2' := ⟨m + 2, [[], WF wb 53 (aft wb (aft wb a (tchK (txtS t f) (tchF t f) (ks.take j) S)) (tchF t f ks[j] (kidsT (txtS t f) (ks.take j) S).2)) (upd (m + 1) (upd m b (kidsT (txtS t f) (ks.take j) S).1) (txtS t f ks[j] (kidsT (txtS t f) (ks.take j) S).2).1) [aNodes t, .map mb] ((mb, mB (txtS t f ks[j] (kidsT (txtS t f) (ks.take j) S).2).2) :: g)]⟩) rfl rfl (by simp [Heap.ents]) (by simp [Heap.ents])
    have W2 := (W1.upd (txtS t f ks[j] (kidsT (txtS t f) (ks.take j) S).2).1).setm (S' := (txtS t f ks[j] (kidsT (txtS t f) (ks.take j) S).2).2)
    repeat refine wps_seq ?_
    refine wps_region (callOKF [⟨25, _, _, _, _, hn⟩]) ?_
    simp [ofV, ofV1, mkC_P, writeVar, writeCells, readCells, allSingle, AV.single, getFs, getF, setFs, setF, Heap.get, Heap.set, Heap.new, Heap.kill, killF, pushF, Heap.ready, refs, sliceParts, fillA, replL, callF]
    repeat refine wps_seq ?_
    refine wps_region callOK ?_
    simp [ofV, ofV1, mkC_P, writeVar, writeCells, readCells, allSingle, AV.single, getFs, getF, setFs, setF, Heap.get, Heap.set, Heap.new, Heap.kill, killF, pushF, Heap.ready, refs, sliceParts, fillA, replL, add_one (show j ≤ 1000000000 by omega)]
    obtain ⟨σ, hσ, fh⟩ := W2.fin (ty := 53) (n' := m + 2) (a := aft wb (aft wb a (tchK (txtS t f) (tchF t f) (ks.take j) S)) (tchF t f ks[j] (kidsT (txtS t f) (ks.take j) S).2)) (txt := (kidsT (txtS t f) (ks.take j) S).1 ++ (txtS t f ks[j] (kidsT (txtS t f) (ks.take j) S).2).1) (by rw [upd_out, upd_out, List.append_assoc]) (aft_or _ (aft_or _ ha))
    refine hB _ (j + 1) (by omega) (by omega) ⟨σ, [], rfl, rfl, rfl, by simp [fitL, fitV, hσ _ h.lw, pureV, aInts], ?_⟩
    rw [List.take_succ_eq_append_getElem hlt, kidsT_snoc, tchK_snoc, ← aft_aft]
    exact fh.fs (by simp)
  · simp at hlt
    have hjl : j = ks.length := by omega
    subst hjl
    rw [List.take_of_length_le (Nat.le_refl _)] at W1 ⊢
    repeat refine wps_seq ?_
    refine wps_exit ?_
    simp
    obtain ⟨σ, _, fh⟩ := W1.fin (ty := 53) (n' := m + 1) (a := aft wb a (tchK (txtS t f) (tchF t f) ks S)) (txt := (kidsT (txtS t f) ks S).1) (by rw [upd_out]) (aft_or _ ha)
    exact ⟨[], rfl, σ, [], by simp [oneOr, fitV, fitL], fh⟩
end Go.Proofs.Ytohkgmnoamfmgaa
namespace Go.Proofs.Ytohkgmnoamfmgaa
set_option linter.unusedSimpArgs false
set_option linter.unusedVariables false
open Go Go.RowKit
set_option maxRecDepth 100000

theorem FitH.tperm {n : Nat} {σ : List (Nat × Nat)} {Φ : List (Nat × List AV)} {H H' H2' : Heap} (h : FitH n σ Φ H H') (e : H2'.n = H'.n) (p : H2'.ents.Perm H'.ents) : FitH n σ Φ H H2' where
  nd1 := h.nd1
  nd2 := h.nd2
  nd3 := (p.map _).nodup_iff.2 h.nd3
  lt := fun x hx => e ▸ h.lt x hx
  idn := h.idn
  num := e ▸ h.num
  src := fun x hx => h.src x (p.mem_iff.1 hx)
  frz := h.frz
theorem FitH.low {n n' : Nat} {σ : List (Nat × Nat)} {Φ : List (Nat × List AV)} {H H' : Heap} (h : FitH n σ Φ H H') (hn : n' ≤ n) : FitH n' σ Φ H H' := ⟨h.nd1, h.nd2, h.nd3, h.lt, fun x hx h' => h.idn x hx (by omega), Nat.le_trans hn h.num, h.src, h.frz⟩
section
variable {m0 wb : Nat} {b0 : Bs} {cs : List AV} {g : List (Nat × Blk)} {n : Nat} {f : List (Nat × Blk)} {b : Bs}
theorem Wtn.wokg (h : Wtn m0 wb b0 cs g n f b) : Wok n wb b cs g := by
  have w := h.wok
  refine ⟨w.lw, fun e he => w.lg e (List.mem_append_right _ he), h.base.nd, fun hne => ?_, fun e he => w.sg e (List.mem_append_right _ he), w.sc⟩
  obtain ⟨k1, k2⟩ := w.hk hne
  simp only [List.mem_cons, List.map_append, List.mem_append, not_or] at k1
  exact ⟨by simp only [List.mem_cons, not_or]; exact ⟨k1.1, k1.2.2⟩, k2⟩
theorem Wtn.mem (h : Wtn m0 wb b0 cs g n f b) {e : Nat × Blk} (he : e ∈ f) : getF e.1 f = some e.2 := by
  have := get_of_mem (fs := [f]) (b := e.1) (k := e.2) (by simpa using h.nd) (by simpa using he)
  simp only [getFs] at this
  revert this
  cases getF e.1 f with
  | none => intro h; cases h
  | some x => intro h; exact h
/-- the head of a loop: one own row, the buffer behind it -/
theorem Wtn.one (h : Wok m0 wb b0 cs g) {k : Blk} (hk : SelfB (m0 + 1) k) {txt : Str} (ht : txt ≠ []) : Wtn m0 wb b0 cs g (m0 + 2) [(m0, k)] ⟨m0 + 1, b0.out ++ txt⟩ :=
  ⟨h, by omega, fun e he => by
    rw [List.mem_singleton] at he
    subst he
    exact ⟨Nat.le_refl _, by simp, hk.mono (by omega)⟩, by simp, .inr ⟨by simp, by simp, ⟨txt, ht, rfl⟩, by simp⟩⟩
theorem Wtn.loop1 (h : Wtn m0 wb b0 cs g n f b) {k : Blk} (hm : (m0, k) ∈ f) (hself : SelfB (m0 + 1) k) {txt : Str} (ht : b.out = b0.out ++ txt) (htn : txt ≠ []) {ty : TypeId} {a : AV} (ha : a = .nilP ∨ a = .ptr wb 0) {n' : Nat} :
    ∃ σ, Idl (m0 + 1) σ ∧ FitH m0 σ [] ⟨n', [f, WF wb ty a b cs g]⟩ ⟨m0 + 2, [[(m0, k)], WF wb ty a ⟨m0 + 1, b0.out ++ txt⟩ cs g]⟩ := by
  have hbk : m0 ≤ b.k ∧ b.k ∉ f.map (·.1) ∧ b ≠ b0 := by
    rcases h.bk with rfl | ⟨h1, h2, h3, h4⟩
    · exfalso; apply htn; simpa using ht
    · refine ⟨h1, h4, ?_⟩
      rintro rfl
      apply htn; simpa using ht
  have hkm : m0 + 1 ≤ b.k := by
    have : b.k ≠ m0 := fun e => hbk.2.1 (by rw [e]; exact List.mem_map.2 ⟨_, hm, rfl⟩)
    omega
  have hne : b.out ≠ [] := by rw [ht]; simp [htn]
  have hw := h.wokg
  have idl := idl_cons (m := m0 + 1) (k := b.k) (k' := m0 + 1) hkm
  have hn1 := h.base.mono (Nat.le_succ m0)
  have nd := h.base.nd
  rw [List.nodup_cons] at nd
  have hlw := h.base.lw
  have key : FitH (m0 + 1) ((b.k, m0 + 1) :: idn (m0 + 1)) [] ⟨n', [f, WF wb ty a b cs g]⟩ ⟨m0 + 2, [(wb, .obj ty (a :: bV ⟨m0 + 1, b.out⟩ :: cs)) :: (bF ⟨m0 + 1, b.out⟩ ++ ((m0, k) :: g))]⟩ := by
    refine fitWr (kc := b.k) (k' := m0 + 1) (fz := b.out.length) (out := b.out) (O := .obj ty (a :: bV ⟨b.k, b.out⟩ :: cs)) (.inr ⟨rfl, rfl, hkm⟩) (by omega) (by omega) ?_ ?_ ?_ ?_ (fit_objA ha (idl _ (by omega)) (fun _ => by simp [lookN]) (h.base.sc _ fun i hi => idl i (by omega))) ?_ (Nat.le_refl _) ?_
    · intro e he
      rcases List.mem_cons.1 he with rfl | he
      · simp
      · exact hn1.lg e he
    · rw [List.nodup_cons]
      simp only [List.map_cons, List.mem_cons, not_or, List.nodup_cons]
      refine ⟨⟨by omega, nd.1⟩, fun hx => ?_, nd.2⟩
      obtain ⟨e, he, hx⟩ := List.mem_map.1 hx
      have := h.base.lg e he; omega
    · intro _ hx
      simp only [List.map_cons, List.mem_cons] at hx
      rcases hx with hx | hx | hx
      · omega
      · omega
      · obtain ⟨e, he, hx⟩ := List.mem_map.1 hx
        have := h.base.lg e he; omega
    · simp only [Heap.get, getFs]
      rw [h.none (.inl hlw), WF_o]
    · intro _
      simp only [Heap.get, getFs]
      rw [h.none (.inr ⟨hbk.2.2, rfl⟩), WF_b hw hne]
    · intro e he
      rcases List.mem_cons.1 he with rfl | he
      · refine ⟨?_, hself⟩
        simp only [Heap.get, getFs]
        have := h.mem hm
        simp only at this
        rw [this]
      · refine ⟨?_, (h.base.sg e he).mono (Nat.le_succ m0)⟩
        simp only [Heap.get, getFs]
        rw [h.none (.inl (h.base.lg e he)), WF_g hw he]
  refine ⟨_, idl, ((key.tperm (H2' := ⟨m0 + 2, [[(m0, k)], WF wb ty a ⟨m0 + 1, b0.out ++ txt⟩ cs g]⟩) rfl ?_).low (Nat.le_succ m0))⟩
  rw [← ht]
  have := perm_top (f := [(m0, k)]) (x := (wb, Blk.obj ty (a :: bV ⟨m0 + 1, b.out⟩ :: cs))) (B := bF ⟨m0 + 1, b.out⟩) (g := g)
  simpa [Heap.ents, WF] using this
end
def attT (a : At1) : Str := [32] ++ a.1 ++ [61, 34] ++ esc true a.2 ++ [34]
theorem open_eq (n : Nd) : openT n = [60] ++ n.name ++ n.attrs.flatMap attT ++ [62] := rfl
theorem att_len {a : At1} (h : fewAt a = true) : (attT a).length ≤ 1000 := by
  simp only [fewAt, decide_eq_true_eq] at h
  have := esc_len true _ a.2 (Nat.le_refl _)
  simp only [attT, List.length_append, List.length_cons, List.length_nil]
  omega
theorem atts_len {l : List At1} (h : ∀ a, a ∈ l → fewAt a = true) : (l.flatMap attT).length ≤ 1000 * l.length := by
  induction l with
  | nil => simp
  | cons a r ih =>
    have h1 := att_len (h a (by simp))
    have h2 := ih fun x hx => h x (by simp [hx])
    simp only [List.flatMap_cons, List.length_append, List.length_cons]
    omega
end Go.Proofs.Ytohkgmnoamfmgaa
namespace Go.Proofs.Ytohkgmnoamfmgaa
set_option linter.unusedSimpArgs false
set_option linter.unusedVariables false
open Go Go.RowKit
set_option maxRecDepth 100000

theorem Wok.perm {m wb : Nat} {b : Bs} {cs : List AV} {g g' : List (Nat × Blk)} (h : Wok m wb b cs g) (p : g'.Perm g) : Wok m wb b cs g' where
  lw := h.lw
  lg := fun e he => h.lg e (p.mem_iff.1 he)
  nd := (List.Perm.cons wb (p.map (·.1))).nodup_iff.2 h.nd
  hk := fun hne => ⟨fun hx => (h.hk hne).1 ((List.Perm.cons wb (p.map (·.1))).mem_iff.1 hx), (h.hk hne).2⟩
  sg := fun e he => h.sg e (p.mem_iff.1 he)
  sc := h.sc
theorem perm_topm {x y : Nat × Blk} {f B g : List (Nat × Blk)} : (f ++ (x :: (B ++ (y :: g)))).Perm (x :: (B ++ (y :: (f ++ g)))) :=
  perm_top.trans (List.Perm.cons _ (List.Perm.append_left _ List.perm_middle))
theorem Wtn.kids {T : List (Entry Try.prog)} {t : Tr} (ht : smallTr t) (hf : t.all fewNd = true) {f : Nat} (hN : NodeAt T t f) {m0 wb mb : Nat} {b0 : Bs} {n : Nat} {r : List (Nat × Blk)} {a : AV} {b : Bs} {g : List (Nat × Blk)} {i : Int} {S : List Int} (h : Wtn m0 wb b0 [aNodes t, .map mb] ((mb, mB S) :: g) n r b) (ha : a = .nilP ∨ a = .ptr wb 0) (hS : SOK t S) (hfu : t.length < f + S.length) (hs : b.out.length + bigT * (t.length - S.length) ≤ 10000000) (i0 : 0 ≤ i) (i1 : i < (t.length : Int)) :
    CallAt (ctx T) 42 [.ptr wb 0, .int .i64 i] ⟨n, [r, WF wb 53 a b [aNodes t, .map mb] ((mb, mB S) :: g)]⟩ (.tup [])
      ⟨n + 1, [r, WF wb 53 (aft wb a (tchK (txtS t f) (tchF t f) (nodeAt t i).kids S)) (Go.Proofs.Ytohkgmnoamfmgaa.upd n b (kidsT (txtS t f) (nodeAt t i).kids S).1) [aNodes t, .map mb] ((mb, mB (kidsT (txtS t f) (nodeAt t i).kids S).2) :: g)]⟩ :=
  (c42 (T := T) ht hf hN (g := r ++ g) (h.wok.perm List.perm_middle.symm) ha hS hfu hs i0 i1).perm rfl rfl (by simpa [Heap.ents, WF] using perm_topm) (by simpa [Heap.ents, WF] using perm_topm)
def tagT (n : Nd) (j : Nat) : Str := [60] ++ n.name ++ (n.attrs.take j).flatMap attT
theorem tagT_succ {n : Nd} {j : Nat} (h : j < n.attrs.length) : tagT n (j + 1) = tagT n j ++ attT n.attrs[j] := by
  simp only [tagT, List.take_succ_eq_append_getElem h, List.flatMap_append, List.flatMap_cons, List.flatMap_nil, List.append_nil, List.append_assoc]
theorem tagT_all (n : Nd) : tagT n n.attrs.length ++ [62] = openT n := by
  rw [open_eq, tagT, List.take_of_length_le (Nat.le_refl _)]
theorem tagT_ne (n : Nd) (j : Nat) : tagT n j ≠ [] := by simp [tagT]
theorem openT_ne (n : Nd) : openT n ≠ [] := by simp [openT]
theorem aft_ptr {wb : Nat} {tc : Bool} : aft wb (.ptr wb 0) tc = .ptr wb 0 := by cases tc <;> rfl
theorem Wok.empty {m wb k : Nat} {b : Bs} {cs : List AV} {g : List (Nat × Blk)} (h : Wok m wb b cs g) : Wok m wb ⟨k, []⟩ cs g := ⟨h.lw, h.lg, h.nd, fun hne => absurd rfl hne, h.sg, h.sc⟩
theorem Wtn.back {m0 wb : Nat} {b0 : Bs} {cs : List AV} {g : List (Nat × Blk)} {n : Nat} {f : List (Nat × Blk)} {b : Bs} (h : Wtn m0 wb b0 cs g n f b) {txt : Str} (htn : txt ≠ []) : Wtn m0 wb b0 cs g (n + 1) f ⟨n, b0.out ++ txt⟩ := by
  have h' := h.more (Nat.le_succ n)
  refine ⟨h'.base, h'.le, h'.fid, h'.nd, .inr ⟨h.le, Nat.lt_succ_self n, ⟨txt, htn, rfl⟩, fun hx => ?_⟩⟩
  obtain ⟨e, he, hx⟩ := List.mem_map.1 hx
  have := (h.fid e he).2.1
  simp only at hx
  omega
def elemT (t : Tr) (f : Nat) (n : Nd) (S : List Int) : Str := if voidN n = true then openT n else openT n ++ (kidsT (txtS t f) n.kids S).1 ++ closeT n
theorem c43 {T : List (Entry Try.prog)} (hE : findE 82 T = some e82.g) (hV : findE 58 T = some e58.g) (hA : findE 57 T = some e57.g) {t : Tr} (ht : smallTr t) (hf : t.all fewNd = true) {f : Nat} (hN : NodeAt T t f) {m wb mb : Nat} {a : AV} {b : Bs} {g : List (Nat × Blk)} {i : Int} {S : List Int} (h : Wok m wb b [aNodes t, .map mb] ((mb, mB S) :: g)) (ha : a = .nilP ∨ a = .ptr wb 0) (hS : SOK t S) (hfu : t.length < f + S.length) (hs : b.out.length + bigT * (t.length - S.length) + bigT ≤ 10000000) (i0 : 0 ≤ i) (i1 : i < (t.length : Int)) :
    CallAt (ctx T) 43 [.ptr wb 0, .int .i64 i, aNode (nodeAt t i)] ⟨m, [WF wb 53 a b [aNodes t, .map mb] ((mb, mB S) :: g)]⟩ (.tup [])
      ⟨m + 1, [WF wb 53 (.ptr wb 0) (upd m b (elemT t f (nodeAt t i) S)) [aNodes t, .map mb] ((mb, mB (kidsT (txtS t f) (nodeAt t i).kids S).2) :: g)]⟩ := by
  have hfew : fewNd (nodeAt t i) = true := List.all_eq_true.1 hf _ (nodeAt_mem i0 i1)
  have hkk : ∀ {n : Nat} {r : List (Nat × Blk)} {a' : AV} {b' : Bs}, Wtn m wb b [aNodes t, .map mb] ((mb, mB S) :: g) n r b' → (a' = .nilP ∨ a' = .ptr wb 0) → b'.out.length + bigT * (t.length - S.length) ≤ 10000000 → _ := fun W ha' h2 => W.kids (T := T) ht hf hN ha' hS hfu h2 i0 i1
  obtain ⟨nd, hnd⟩ : ∃ nd, nd = nodeAt t i := ⟨_, rfl⟩
  rw [← hnd] at hfew hkk ⊢
  simp only [fewNd, fewAts, Bool.and_eq_true, decide_eq_true_eq, List.all_eq_true] at hfew
  obtain ⟨hnl, hdl, hkl, hal, hat⟩ := hfew
  have hmw : Nat.beq m wb = false := beqN_ne (by have := h.lw; omega)
  have nb1 : Nat.beq (m + 1) m = false := beqN_ne (by omega)
  have nb2 : Nat.beq (m + 2) m = false := beqN_ne (by omega)
  have W1 := (Wtn.start h).box (k := .cells nd.cs) (self_pure (pure_cs nd))
  have hatt : ∀ j, (tagT nd j).length ≤ 14100 := fun j => by
    have := atts_len (l := nd.attrs.take j) fun x hx => hat x (List.mem_of_mem_take hx)
    have h2 : (nd.attrs.take j).length ≤ 14 := by simp; omega
    simp only [tagT, List.length_append, List.length_cons, List.length_nil]
    omega
  have kV : ∀ H, callL (ctx T) (.fn 58) [aInt nd.space, .str nd.name] H = some (.bool (voidN nd), H) := fun H => k58 hV nd.space (name := nd.name) (by omega) H
  have g1 : getL nd.cs 1 = some (aInt nd.space) := rfl
  have g2 : getL nd.cs 2 = some (.str nd.name) := rfl
  have g3 : getL nd.cs 3 = some (aAttrs nd.attrs) := rfl
  simp only [bigT] at hs
  refine callAt_body (fn := Try.f43) (s0 := ⟨[0, 1, 2, 5, 7, 8, 15, 16, 17], [.ptr wb 0, .int .i64 i, aNode nd, .undef, .undef, .undef, .undef, .undef, .undef], [], 61, ⟨m, [] :: [WF wb 53 a b [aNodes t, .map mb] ((mb, mB S) :: g)]⟩⟩) Try.func43 rfl rfl rfl ?_
  repeat refine wps_seq ?_
  refine wps_region callOK ?_
  simp [ofV, ofV1, mkC_P, writeVar, writeCells, readCells, allSingle, AV.single, getFs, getF, setFs, setF, Heap.get, Heap.set, Heap.new, Heap.kill, killF, pushF, Heap.ready, refs, sliceParts, fillA, replL, aNode]
  have W2 := W1.box (k := .cells [.str [60], .str nd.name]) (self_pure (by simp [pureL, pureV]))
  have pt := W2.put (T := T) hE ha [[60], nd.name] (by simp) (by simp) (tb := m + 1) (by simp) (by simp [cat]; omega)
  repeat refine wps_seq ?_
  refine wps_region (callOKF [⟨45, _, _, _, _, pt⟩]) ?_
  simp [ofV, ofV1, mkC_P, writeVar, writeCells, readCells, allSingle, AV.single, getFs, getF, setFs, setF, Heap.get, Heap.set, Heap.new, Heap.kill, killF, pushF, Heap.ready, refs, sliceParts, fillA, replL, callF, hmw]
  have W3 := W2.upd (cat [[60], nd.name])
  repeat refine wps_seq ?_
  refine wps_region callOK ?_
  simp [ofV, ofV1, mkC_P, writeVar, writeCells, readCells, allSingle, AV.single, getFs, getF, setFs, setF, Heap.get, Heap.set, Heap.new, Heap.kill, killF, pushF, Heap.ready, refs, sliceParts, fillA, replL, hmw, lenA1, nb1, g3]
  obtain ⟨σ0, hσ0, fh0⟩ := W3.loop1 (k := .cells nd.cs) (by simp) (self_pure (pure_cs nd)) (txt := tagT nd 0) (by rw [upd_out]; simp [cat, tagT]) (tagT_ne nd 0) (ty := 53) (a := .ptr wb 0) (.inr rfl) (n' := m + 3)
  repeat refine wps_seq ?_
  refine wps_block (wps_loop' (fun j : Nat => (⟨[0, 1, 2, 5, 7, 8, 15, 16, 17], [.ptr wb 0, .int .i64 i, .undef, .ptr m 0, .undef, .undef, aAttrs nd.attrs, .int .i64 (nd.attrs.length : Nat), .int .i64 j], [], 61, ⟨m + 2, [[(m, .cells nd.cs)], WF wb 53 (.ptr wb 0) ⟨m + 1, b.out ++ tagT nd j⟩ [aNodes t, .map mb] ((mb, mB S) :: g)]⟩⟩ : St))
    (fun j => j ≤ nd.attrs.length) (fun j => nd.attrs.length - j) σ0 [] 0 (Nat.zero_le _)
    ⟨rfl, rfl, rfl, by simp [fitL, fitV, hσ0 wb (by have := h.lw; omega), hσ0 m (by omega), pureV, pureL], fh0⟩ ?_)
  rintro j hj B hB
  have WL := Wtn.one h (k := .cells nd.cs) (self_pure (pure_cs nd)) (tagT_ne nd j)
  have hj1 := hatt j
  repeat refine wps_seq ?_
  refine wps_region callOK ?_
  simp [ofV, ofV1, mkC_P, writeVar, writeCells, readCells, allSingle, AV.single, getFs, getF, setFs, setF, Heap.get, Heap.set, Heap.new, Heap.kill, killF, pushF, Heap.ready, refs, sliceParts, fillA, replL]
  repeat refine wps_seq ?_
  refine wps_cond rfl (fun hlt => ?_) fun hlt => ?_
  · simp at hlt
    repeat refine wps_seq ?_
    refine wps_skip ?_
    simp
    repeat refine wps_seq ?_
    refine wps_block ?_
    repeat refine wps_seq ?_
    refine wps_region callOK ?_
    simp [ofV, ofV1, mkC_P, writeVar, writeCells, readCells, allSingle, AV.single, getFs, getF, setFs, setF, Heap.get, Heap.set, Heap.new, Heap.kill, killF, pushF, Heap.ready, refs, sliceParts, fillA, replL, atA hlt, rdA1, hmw, nb2, aAttr]
    have la := hat nd.attrs[j] (List.getElem_mem hlt)
    simp only [fewAt, decide_eq_true_eq] at la
    have hel := esc_len true _ nd.attrs[j].2 (Nat.le_refl _)
    have kA := fun H => k57 hA (s := nd.attrs[j].2) (by omega) H
    have V1 := WL.box (k := .cells [.str nd.attrs[j].1, .str nd.attrs[j].2]) (self_pure (by simp [pureL, pureV]))
    have V2 := ((V1.more (n' := m + 2 + 1 + 6) (by omega)).box (k := .cells [.str [32], .str nd.attrs[j].1, .str [61, 34], .str (esc true nd.attrs[j].2), .str [34]]) (self_pure (by simp [pureL, pureV]))).more (n' := m + 2 + 1 + 8) (by omega)
    have pt := V2.put (T := T) hE (a := .ptr wb 0) (.inr rfl) [[32], nd.attrs[j].1, [61, 34], esc true nd.attrs[j].2, [34]] (by simp) (by simp) (tb := m + 2 + 1 + 6) (by simp) (by simp [cat]; omega)
    repeat refine wps_seq ?_
    refine wps_drawn mixed (callOKF [⟨45, _, _, _, _, pt⟩]) (by decide +kernel) fun B_ hB_ => ?_
    have d_2_5 : ahead B_ 2 5 = false := by rw [hB_]; decide +kernel
    have d_2_7 : ahead B_ 2 7 = true := by rw [hB_]; decide +kernel
    have d_4_5 : ahead B_ 4 5 = true := by rw [hB_]; decide +kernel
    have d_4_7 : ahead B_ 4 7 = true := by rw [hB_]; decide +kernel
    have d_5_2 : ahead B_ 5 2 = false := by rw [hB_]; decide +kernel
    have d_5_4 : ahead B_ 5 4 = false := by rw [hB_]; decide +kernel
    have d_6_5 : ahead B_ 6 5 = false := by rw [hB_]; decide +kernel
    have d_6_7 : ahead B_ 6 7 = true := by rw [hB_]; decide +kernel
    have d_7_2 : ahead B_ 7 2 = false := by rw [hB_]; decide +kernel
    have d_7_4 : ahead B_ 7 4 = false := by rw [hB_]; decide +kernel
    simp [ofV, ofV1, mkC_P, writeVar, writeCells, readCells, allSingle, AV.single, getFs, getF, setFs, setF, Heap.get, Heap.set, Heap.new, Heap.kill, killF, pushF, Heap.ready, refs, sliceParts, fillA, replL, mkBlk, guardA, evalD, stepD, clsOf, reserve, freshenAll, sameRecs, sameAll, sameAt, allPend, Heap.lay, ontoF, wantedBy, unwantedBy, d_2_5, d_2_7, d_4_5, d_4_7, d_5_2, d_5_4, d_6_5, d_6_7, d_7_2, d_7_4, kA, callF, nb2]
    have V3 := V2.upd (cat [[32], nd.attrs[j].1, [61, 34], esc true nd.attrs[j].2, [34]])
    obtain ⟨σ, hσ, fh⟩ := V3.loop1 (k := .cells nd.cs) (by simp) (self_pure (pure_cs nd)) (txt := tagT nd (j + 1)) (by rw [upd_out, tagT_succ hlt]; simp [cat, attT]) (tagT_ne nd (j + 1)) (ty := 53) (a := .ptr wb 0) (.inr rfl) (n' := m + 2 + 1 + 8 + 1)
    repeat refine wps_seq ?_
    refine wps_region callOK ?_
    simp [ofV, ofV1, mkC_P, writeVar, writeCells, readCells, allSingle, AV.single, getFs, getF, setFs, setF, Heap.get, Heap.set, Heap.new, Heap.kill, killF, pushF, Heap.ready, refs, sliceParts, fillA, replL, add_one (show j ≤ 1000000000 by omega)]
    exact hB _ (j + 1) (by omega) (by omega) ⟨σ, [], rfl, rfl, rfl, by simp [fitL, fitV, hσ wb (by have := h.lw; omega), hσ m (by omega), pureV, pureL, aAttrs], fh⟩
  · simp at hlt
    have hjl : j = nd.attrs.length := by omega
    subst hjl
    repeat refine wps_seq ?_
    refine wps_exit ?_
    simp
    have V1 := WL.box (k := .cells [.str [62]]) (self_pure (by simp [pureL, pureV]))
    have pt := V1.put (T := T) hE (a := .ptr wb 0) (.inr rfl) [[62]] (by simp) (by simp) (tb := m + 2) (by simp) (by simp [cat]; omega)
    repeat refine wps_seq ?_
    refine wps_region (callOKF [⟨45, _, _, _, _, pt⟩]) ?_
    simp [ofV, ofV1, mkC_P, writeVar, writeCells, readCells, allSingle, AV.single, getFs, getF, setFs, setF, Heap.get, Heap.set, Heap.new, Heap.kill, killF, pushF, Heap.ready, refs, sliceParts, fillA, replL, callF, hmw]
    have V2 := V1.upd (cat [[62]])
    have V2o : (Go.Proofs.Ytohkgmnoamfmgaa.upd (m + 2 + 1) ⟨m + 1, b.out ++ tagT nd nd.attrs.length⟩ (cat [[62]])).out = b.out ++ openT nd := by
      rw [upd_out, ← tagT_all]; simp [cat]
    have hol : (openT nd).length ≤ 14101 := by rw [← tagT_all, List.length_append]; simp only [List.length_cons, List.length_nil]; omega
    obtain ⟨b2, hb2⟩ : ∃ b2, b2 = Go.Proofs.Ytohkgmnoamfmgaa.upd (m + 2 + 1) ⟨m + 1, b.out ++ tagT nd nd.attrs.length⟩ (cat [[62]]) := ⟨_, rfl⟩
    rw [← hb2] at V2 V2o ⊢
    repeat refine wps_seq ?_
    refine wps_region callOK ?_
    simp [ofV, ofV1, mkC_P, writeVar, writeCells, readCells, allSingle, AV.single, getFs, getF, setFs, setF, Heap.get, Heap.set, Heap.new, Heap.kill, killF, pushF, Heap.ready, refs, sliceParts, fillA, replL, hmw, nb2, g1, g2, kV]
    have hb2l : b2.out.length ≤ 10000000 := by rw [V2o, List.length_append]; omega
    have hkids := fun {n r b'} W h2 => hkk (n := n) (r := r) (a' := .ptr wb 0) (b' := b') W (.inr rfl) h2
    simp only [aft_ptr, bigT] at hkids
    obtain ⟨kt, hkt⟩ : ∃ kt, kt = (kidsT (txtS t f) nd.kids S).1 := ⟨_, rfl⟩
    have hgr := (kids_grows t (fun i S h => txt_grows voidN rawB t hf f i S h) nd.kids S hS).len
    simp only [bigT] at hgr
    have hle2 := sok_len t (kids_grows t (fun i S h => txt_grows voidN rawB t hf f i S h) nd.kids S hS).ok
    obtain ⟨S2, hS2⟩ : ∃ S2, S2 = (kidsT (txtS t f) nd.kids S).2 := ⟨_, rfl⟩
    rw [← hkt, ← hS2] at hgr
    rw [← hS2] at hle2
    rw [← hkt, ← hS2] at hkids
    simp only [elemT]
    rw [← hkt, ← hS2]
    cases hv : voidN nd with
    | true =>
      repeat refine wps_seq ?_
      refine wps_cond (t := true) rfl (fun _ => ?_) fun h => by cases h
      have st : CallAt (ctx T) 26 [.ptr wb 0] ⟨m + 2 + 1 + 1, [[(m + 2, .cells [.str [62]]), (m, .cells nd.cs)], WF wb 53 (.ptr wb 0) b2 [aNodes t, .map mb] ((mb, mB S) :: g)]⟩ (.str b2.out) ⟨m + 2 + 1 + 1 + 1, [[(m + 2, .cells [.str [62]]), (m, .cells nd.cs)], WF wb 53 (.ptr wb 0) b2 [aNodes t, .map mb] ((mb, mB S) :: g)]⟩ := (c26 (T := T) V2.wok (by omega)).top
      repeat refine wps_seq ?_
      refine wps_region (callOKF [⟨26, _, _, _, _, st⟩]) ?_
      simp [ofV, ofV1, mkC_P, writeVar, writeCells, readCells, allSingle, AV.single, getFs, getF, setFs, setF, Heap.get, Heap.set, Heap.new, Heap.kill, killF, pushF, Heap.ready, refs, sliceParts, fillA, replL, callF, hmw]
      have V3 := V2.more (Nat.le_succ _)
      have kd := hkids V3 (by rw [V2o, List.length_append]; omega)
      repeat refine wps_seq ?_
      refine wps_region (callOKF [⟨42, _, _, _, _, kd⟩]) ?_
      simp [ofV, ofV1, mkC_P, writeVar, writeCells, readCells, allSingle, AV.single, getFs, getF, setFs, setF, Heap.get, Heap.set, Heap.new, Heap.kill, killF, pushF, Heap.ready, refs, sliceParts, fillA, replL, callF, hmw]
      have V4 := (V3.upd kt).setm (S' := S2)
      have rs : CallAt (ctx T) 59 [.ptr wb 0] ⟨m + 4 + 1 + 1, [[(m + 2, .cells [.str [62]]), (m, .cells nd.cs)], WF wb 53 (.ptr wb 0) (Go.Proofs.Ytohkgmnoamfmgaa.upd (m + 4 + 1) b2 kt) [aNodes t, .map mb] ((mb, mB S2) :: g)]⟩ (.tup []) ⟨m + 4 + 1 + 1 + 1, [[(m + 2, .cells [.str [62]]), (m, .cells nd.cs)], WF wb 53 .nilP ⟨(Go.Proofs.Ytohkgmnoamfmgaa.upd (m + 4 + 1) b2 kt).k, []⟩ [aNodes t, .map mb] ((mb, mB S2) :: g)]⟩ := (c59 (T := T) V4.wok).top
      obtain ⟨k3, hk3⟩ : ∃ k3, k3 = (Go.Proofs.Ytohkgmnoamfmgaa.upd (m + 4 + 1) b2 kt).k := ⟨_, rfl⟩
      rw [← hk3] at rs
      repeat refine wps_seq ?_
      refine wps_region (callOKF [⟨59, _, _, _, _, rs⟩]) ?_
      simp [ofV, ofV1, mkC_P, writeVar, writeCells, readCells, allSingle, AV.single, getFs, getF, setFs, setF, Heap.get, Heap.set, Heap.new, Heap.kill, killF, pushF, Heap.ready, refs, sliceParts, fillA, replL, callF, hmw]
      have V5 := (V4.more (Nat.le_succ _)).box (k := .cells [.str b2.out]) (self_pure (by simp [pureL, pureV]))
      have pt : CallAt (ctx T) 45 [.ptr wb 0, .slc (m + 4 + 1 + 1 + 1) 0 1 (.ex 1)] ⟨m + 4 + 1 + 1 + 1 + 1, [[(m + 4 + 1 + 1 + 1, .cells [.str b2.out]), (m + 2, .cells [.str [62]]), (m, .cells nd.cs)], WF wb 53 .nilP ⟨k3, []⟩ [aNodes t, .map mb] ((mb, mB S2) :: g)]⟩ (.tup []) ⟨m + 4 + 1 + 1 + 1 + 1 + 1, [[(m + 4 + 1 + 1 + 1, .cells [.str b2.out]), (m + 2, .cells [.str [62]]), (m, .cells nd.cs)], WF wb 53 (.ptr wb 0) (Go.Proofs.Ytohkgmnoamfmgaa.upd (m + 4 + 1 + 1 + 1 + 1) ⟨k3, []⟩ (cat [b2.out])) [aNodes t, .map mb] ((mb, mB S2) :: g)]⟩ := (c45 (T := T) (tb := m + 4 + 1 + 1 + 1) hE (V5.wok.empty (k := k3)) (.inl rfl) [b2.out] (by simp) (by simp) (by simp) (by simp [cat]; omega)).top
      repeat refine wps_seq ?_
      refine wps_region (callOKF [⟨45, _, _, _, _, pt⟩]) ?_
      simp [ofV, ofV1, mkC_P, writeVar, writeCells, readCells, allSingle, AV.single, getFs, getF, setFs, setF, Heap.get, Heap.set, Heap.new, Heap.kill, killF, pushF, Heap.ready, refs, sliceParts, fillA, replL, callF, hmw]
      have V6 := V5.back (openT_ne nd)
      obtain ⟨σ, _, fh⟩ := V6.fin (ty := 53) (n' := m + 4 + 1 + 1 + 1 + 1 + 1) (a := .ptr wb 0) (txt := openT nd) rfl (.inr rfl)
      have hb3 : Go.Proofs.Ytohkgmnoamfmgaa.upd (m + 4 + 1 + 1 + 1 + 1) ⟨k3, []⟩ (cat [b2.out]) = ⟨m + 4 + 1 + 1 + 1 + 1, b.out ++ openT nd⟩ := by
        rw [show cat [b2.out] = b.out ++ openT nd by simp [cat, V2o], upd_ne (by simp [openT_ne])]; rfl
      repeat refine wps_seq ?_
      refine wps_ret ?_
      simp [thenQ]
      rw [hb3]
      exact ⟨[], rfl, σ, [], by simp [oneOr, fitV, fitL], fh⟩
    | false =>
      repeat refine wps_seq ?_
      refine wps_cond (t := false) rfl (fun h => by cases h) fun _ => ?_
      repeat refine wps_seq ?_
      refine wps_skip ?_
      simp
      have kd := hkids V2 (by rw [V2o, List.length_append]; omega)
      repeat refine wps_seq ?_
      refine wps_region (callOKF [⟨42, _, _, _, _, kd⟩]) ?_
      simp [ofV, ofV1, mkC_P, writeVar, writeCells, readCells, allSingle, AV.single, getFs, getF, setFs, setF, Heap.get, Heap.set, Heap.new, Heap.kill, killF, pushF, Heap.ready, refs, sliceParts, fillA, replL, callF, hmw]
      have V4 := ((V2.upd kt).setm (S' := S2)).box (k := .cells [.str [60, 47], .str nd.name, .str [62]]) (self_pure (by simp [pureL, pureV]))
      have nb4 : Nat.beq (m + 4 + 1) m = false := beqN_ne (by omega)
      have pt := V4.put (T := T) hE (a := .ptr wb 0) (.inr rfl) [[60, 47], nd.name, [62]] (by simp) (by simp) (tb := m + 2 + 1 + 1 + 1) (by simp) (by rw [upd_out]; simp [cat, V2o]; omega)
      have V5 := V4.upd (cat [[60, 47], nd.name, [62]])
      obtain ⟨σ, _, fh⟩ := V5.fin (ty := 53) (n' := m + 2 + 1 + 1 + 1 + 1 + 1) (a := .ptr wb 0) (txt := openT nd ++ kt ++ closeT nd) (by rw [upd_out, upd_out, V2o]; simp [cat, closeT]) (.inr rfl)
      repeat refine wps_seq ?_
      refine wps_region (callOKF [⟨45, _, _, _, _, pt⟩]) ?_
      simp [ofV, ofV1, mkC_P, writeVar, writeCells, readCells, allSingle, AV.single, getFs, getF, setFs, setF, Heap.get, Heap.set, Heap.new, Heap.kill, killF, pushF, Heap.ready, refs, sliceParts, fillA, replL, callF, hmw, nb4, nb2, g2]
      refine ⟨[], rfl, σ, [], by simp [oneOr, fitV, fitL], ?_⟩
      simpa only [List.append_assoc] using fh
end Go.Proofs.Ytohkgmnoamfmgaa
namespace Go.Proofs.Ytohkgmnoamfmgaa
set_option linter.unusedSimpArgs false
set_option linter.unusedVariables false
open Go Go.RowKit
set_option maxRecDepth 100000

theorem WF_setm {m wb mb : Nat} {ty : TypeId} {a : AV} {b : Bs} {cs : List AV} {k k' : Blk} {g : List (Nat × Blk)} (h : Wok m wb b cs ((mb, k) :: g)) : setF mb k' (WF wb ty a b cs ((mb, k) :: g)) = some (WF wb ty a b cs ((mb, k') :: g)) := by
  have nd := h.nd
  simp only [List.map_cons, List.nodup_cons, List.mem_cons, not_or] at nd
  have b1 : Nat.beq wb mb = false := beqN_ne nd.1.1
  obtain ⟨kb, out⟩ := b
  cases out with
  | nil => simp [WF, bF, setF, b1]
  | cons c r =>
    have h1 := (h.hk (by simp)).1
    simp only [List.map_cons, List.mem_cons, not_or] at h1
    have b2 : Nat.beq kb mb = false := beqN_ne h1.2.1
    simp [WF, bF, setF, b1, b2]
theorem Wtn.elem {T : List (Entry Try.prog)} (hE : findE 82 T = some e82.g) (hV : findE 58 T = some e58.g) (hA : findE 57 T = some e57.g) {t : Tr} (ht : smallTr t) (hf : t.all fewNd = true) {f : Nat} (hN : NodeAt T t f) {m0 wb mb : Nat} {b0 : Bs} {n : Nat} {r : List (Nat × Blk)} {a : AV} {b : Bs} {g : List (Nat × Blk)} {i : Int} {S : List Int} (h : Wtn m0 wb b0 [aNodes t, .map mb] ((mb, mB S) :: g) n r b) (ha : a = .nilP ∨ a = .ptr wb 0) (hS : SOK t S) (hfu : t.length < f + S.length) (hs : b.out.length + bigT * (t.length - S.length) + bigT ≤ 10000000) (i0 : 0 ≤ i) (i1 : i < (t.length : Int)) :
    CallAt (ctx T) 43 [.ptr wb 0, .int .i64 i, aNode (nodeAt t i)] ⟨n, [r, WF wb 53 a b [aNodes t, .map mb] ((mb, mB S) :: g)]⟩ (.tup [])
      ⟨n + 1, [r, WF wb 53 (.ptr wb 0) (Go.Proofs.Ytohkgmnoamfmgaa.upd n b (elemT t f (nodeAt t i) S)) [aNodes t, .map mb] ((mb, mB (kidsT (txtS t f) (nodeAt t i).kids S).2) :: g)]⟩ :=
  (c43 (T := T) hE hV hA ht hf hN (g := r ++ g) (h.wok.perm List.perm_middle.symm) ha hS hfu hs i0 i1).perm rfl rfl (by simpa [Heap.ents, WF] using perm_topm) (by simpa [Heap.ents, WF] using perm_topm)
theorem node_step {T : List (Entry Try.prog)} (hE : findE 82 T = some e82.g) (hV : findE 58 T = some e58.g) (hA : findE 57 T = some e57.g) (hR : findE 13 T = some e13.g) (hT : findE 60 T = some e60.g) {t : Tr} (ht : smallTr t) (hf : t.all fewNd = true) {f : Nat} (hN : NodeAt T t f) : NodeAt T t (f + 1) := by
  intro m wb mb a b g i S h ha hS hfu hs
  simp only [bigT] at hs
  have W0 := Wtn.start h
  have early : txtS t (f + 1) i S = ([], S) → tchF t (f + 1) i S = false → ∃ σ, FitH m σ [] ⟨m, [[], WF wb 53 a b [aNodes t, .map mb] ((mb, mB S) :: g)]⟩ ⟨m + 1, [WF wb 53 (aft wb a (tchF t (f + 1) i S)) (upd m b (txtS t (f + 1) i S).1) [aNodes t, .map mb] ((mb, mB (txtS t (f + 1) i S).2) :: g)]⟩ := fun e1 e2 => by
    rw [e1, e2]
    obtain ⟨σ, _, fh⟩ := W0.fin (ty := 53) (n' := m) (a := a) (txt := []) (by simp) ha
    exact ⟨σ, fh⟩
  have hg : Heap.get ⟨m, [[], WF wb 53 a b [aNodes t, .map mb] ((mb, mB S) :: g)]⟩ mb = some (.map (entsM aInt oneI (keyI S))) := by
    have := WF_g (ty := 53) (a := a) h (e := (mb, mB S)) (by simp)
    simp only at this
    simp only [Heap.get, getFs, getF]
    rw [this]; rfl
  have hlk : lookupA Try.prog ⟨m, [[], WF wb 53 a b [aNodes t, .map mb] ((mb, mB S) :: g)]⟩ 47 (.map mb) (.int .i64 i) false = some (if i ∈ S then .int .i64 1 else .int .i64 0) := by
    have := mapIn.look zeT3 hg i
    rw [keyI_get] at this
    refine Eq.trans this ?_
    split <;> rfl
  refine callAt_body (fn := Try.f25) (s0 := ⟨[0, 1, 4, 40], [.ptr wb 0, .int .i64 i, .undef, .undef], [], 71, ⟨m, [] :: [WF wb 53 a b [aNodes t, .map mb] ((mb, mB S) :: g)]⟩⟩) Try.func25 rfl rfl rfl ?_
  by_cases c1 : i < 0
  · have e1 : txtS t (f + 1) i S = ([], S) := by simp [txtS, txtF, c1]
    have e2 : tchF t (f + 1) i S = false := by simp [tchF, c1]
    repeat refine wps_seq ?_
    refine wps_region callOK ?_
    simp [ofV, ofV1, mkC_P, writeVar, writeCells, readCells, allSingle, AV.single, getFs, getF, setFs, setF, Heap.get, Heap.set, Heap.new, Heap.kill, killF, pushF, Heap.ready, refs, sliceParts, fillA, replL, c1]
    repeat refine wps_seq ?_
    refine wps_cond (t := true) rfl (fun _ => ?_) fun h => by cases h
    repeat refine wps_seq ?_
    refine wps_ret ?_
    simp [thenQ]
    obtain ⟨σ, fh⟩ := early e1 e2
    exact ⟨[], rfl, σ, [], by simp [oneOr, fitV, fitL], fh⟩
  · by_cases c2 : (t.length : Int) ≤ i
    · have e1 : txtS t (f + 1) i S = ([], S) := by simp [txtS, txtF, c2]
      have e2 : tchF t (f + 1) i S = false := by simp [tchF, c2]
      repeat refine wps_seq ?_
      refine wps_region callOK ?_
      simp [ofV, ofV1, mkC_P, writeVar, writeCells, readCells, allSingle, AV.single, getFs, getF, setFs, setF, Heap.get, Heap.set, Heap.new, Heap.kill, killF, pushF, Heap.ready, refs, sliceParts, fillA, replL, c1, c2, WF_o, lenN]
      repeat refine wps_seq ?_
      refine wps_cond (t := true) rfl (fun _ => ?_) fun h => by cases h
      repeat refine wps_seq ?_
      refine wps_ret ?_
      simp [thenQ]
      obtain ⟨σ, fh⟩ := early e1 e2
      exact ⟨[], rfl, σ, [], by simp [oneOr, fitV, fitL], fh⟩
    · by_cases c3 : i ∈ S
      · have e1 : txtS t (f + 1) i S = ([], S) := by simp [txtS, txtF, c3]
        have e2 : tchF t (f + 1) i S = false := by simp [tchF, c3]
        rw [if_pos c3] at hlk
        repeat refine wps_seq ?_
        refine wps_region callOK ?_
        simp [ofV, ofV1, mkC_P, writeVar, writeCells, readCells, allSingle, AV.single, getFs, getF, setFs, setF, Heap.get, Heap.set, Heap.new, Heap.kill, killF, pushF, Heap.ready, refs, sliceParts, fillA, replL, c1, c2, WF_o, lenN, hlk]
        repeat refine wps_seq ?_
        refine wps_cond (t := true) rfl (fun _ => ?_) fun h => by cases h
        repeat refine wps_seq ?_
        refine wps_ret ?_
        simp [thenQ]
        obtain ⟨σ, fh⟩ := early e1 e2
        exact ⟨[], rfl, σ, [], by simp [oneOr, fitV, fitL], fh⟩
      · rw [if_neg c3] at hlk
        repeat refine wps_seq ?_
        refine wps_region callOK ?_
        simp [ofV, ofV1, mkC_P, writeVar, writeCells, readCells, allSingle, AV.single, getFs, getF, setFs, setF, Heap.get, Heap.set, Heap.new, Heap.kill, killF, pushF, Heap.ready, refs, sliceParts, fillA, replL, c1, c2, WF_o, lenN, hlk]
        repeat refine wps_seq ?_
        refine wps_cond (t := false) rfl (fun h => by cases h) fun _ => ?_
        repeat refine wps_seq ?_
        refine wps_skip ?_
        simp
        have i0 : 0 ≤ i := by omega
        have i1 : i < (t.length : Int) := by omega
        have a1 := atX i0 i1
        have hup : mapUpdA Try.prog ⟨m, [[], WF wb 53 a b [aNodes t, .map mb] ((mb, mB S) :: g)]⟩ 47 (.map mb) (.int .i64 i) (.int .i64 1) = some ⟨m, [[], WF wb 53 a b [aNodes t, .map mb] ((mb, mB (S ++ [i])) :: g)]⟩ := by
          have := mapIn.update hg i ()
          rw [keyI_set c3] at this
          refine Eq.trans this ?_
          simp only [Heap.set, setFs, setF]
          rw [show Blk.map (entsM aInt oneI (keyI (S ++ [i]))) = mB (S ++ [i]) from rfl, WF_setm h]
          rfl
        repeat refine wps_seq ?_
        refine wps_region callOK ?_
        simp [ofV, ofV1, mkC_P, writeVar, writeCells, readCells, allSingle, AV.single, getFs, getF, setFs, setF, Heap.get, Heap.set, Heap.new, Heap.kill, killF, pushF, Heap.ready, refs, sliceParts, fillA, replL, WF_o, hup]
        have h' := h.setm (S' := S ++ [i])
        have W1 := (Wtn.start h').box (k := .cells (nodeAt t i).cs) (self_pure (pure_cs _))
        obtain ⟨nd, hnd⟩ : ∃ nd, nd = nodeAt t i := ⟨_, rfl⟩
        rw [← hnd] at a1 W1
        have hmw : Nat.beq m wb = false := beqN_ne (by have := h.lw; omega)
        have g0 : getL nd.cs 0 = some (aInt nd.kind) := rfl
        have g4 : getL nd.cs 4 = some (.str nd.data) := rfl
        repeat refine wps_seq ?_
        refine wps_region callOK ?_
        simp [ofV, ofV1, mkC_P, writeVar, writeCells, readCells, allSingle, AV.single, getFs, getF, setFs, setF, Heap.get, Heap.set, Heap.new, Heap.kill, killF, pushF, sliceParts, fillA, replL, WF_o, a1]
        repeat refine wps_seq ?_
        refine wps_region callOK ?_
        simp [ofV, ofV1, mkC_P, writeVar, writeCells, readCells, allSingle, AV.single, getFs, getF, setFs, setF, Heap.get, Heap.set, Heap.new, Heap.kill, killF, pushF, Heap.ready, refs, sliceParts, fillA, replL, g0, hmw]
        have hfew : fewNd nd = true := by rw [hnd]; exact List.all_eq_true.1 hf _ (nodeAt_mem i0 i1)
        have hdl : nd.data.length ≤ 300 := by
          simp only [fewNd, Bool.and_eq_true, decide_eq_true_eq] at hfew
          exact hfew.2.1
        have hS' := hS.add t i0 i1 c3
        have hl' := sok_len t hS'
        simp only [List.length_append, List.length_cons, List.length_nil] at hl'
        have hfu' : t.length < f + (S ++ [i]).length := by simp only [List.length_append, List.length_cons, List.length_nil]; omega
        have hbl : b.out.length + 100000 * (t.length - (S ++ [i]).length) + 100000 ≤ 10000000 := by simp only [List.length_append, List.length_cons, List.length_nil]; omega
        have c2' : ¬ (t.length : Int) ≤ i := c2
        repeat refine wps_seq ?_
        refine wps_block ?_
        by_cases k0 : nd.kind = 0
        · have kk := k0
          have e1 : txtS t (f + 1) i S = kidsT (txtS t f) nd.kids (S ++ [i]) := by simp [txtS, txtF, c1, c2', c3, ← hnd, kk]
          have e2 : tchF t (f + 1) i S = tchK (txtS t f) (tchF t f) nd.kids (S ++ [i]) := by simp [tchF, c1, c2', c3, ← hnd, kk]
          repeat refine wps_seq ?_
          refine wps_region callOK ?_
          simp [ofV, ofV1, mkC_P, writeVar, writeCells, readCells, allSingle, AV.single, getFs, getF, setFs, setF, Heap.get, Heap.set, Heap.new, Heap.kill, killF, pushF, Heap.ready, refs, sliceParts, fillA, replL, kk, aInt]
          repeat refine wps_seq ?_
          refine wps_cond (t := true) rfl (fun _ => ?_) fun h => by cases h
          have kd := W1.kids (T := T) ht hf hN ha hS' hfu' (by simp only [bigT]; omega) i0 i1
          rw [← hnd] at kd
          repeat refine wps_seq ?_
          refine wps_region (callOKF [⟨42, _, _, _, _, kd⟩]) ?_
          simp [ofV, ofV1, mkC_P, writeVar, writeCells, readCells, allSingle, AV.single, getFs, getF, setFs, setF, Heap.get, Heap.set, Heap.new, Heap.kill, killF, pushF, Heap.ready, refs, sliceParts, fillA, replL, callF, hmw]
          rw [e1, e2]
          have V := (W1.upd (kidsT (txtS t f) nd.kids (S ++ [i])).1).setm (S' := (kidsT (txtS t f) nd.kids (S ++ [i])).2)
          obtain ⟨σ, _, fh⟩ := V.fin (ty := 53) (n' := m + 1 + 1) (a := aft wb a (tchK (txtS t f) (tchF t f) nd.kids (S ++ [i]))) (txt := (kidsT (txtS t f) nd.kids (S ++ [i])).1) (by rw [upd_out]) (aft_or _ ha)
          exact ⟨[], rfl, σ, [], by simp [oneOr, fitV, fitL], fh⟩
        repeat refine wps_seq ?_
        refine wps_region callOK ?_
        simp [ofV, ofV1, mkC_P, writeVar, writeCells, readCells, allSingle, AV.single, getFs, getF, setFs, setF, Heap.get, Heap.set, Heap.new, Heap.kill, killF, pushF, Heap.ready, refs, sliceParts, fillA, replL, k0, aInt]
        repeat refine wps_seq ?_
        refine wps_cond (t := false) rfl (fun h => by cases h) fun _ => ?_
        by_cases k1 : nd.kind = 1
        · have kk := k1
          have e1 : txtS t (f + 1) i S = (elemT t f nd (S ++ [i]), (kidsT (txtS t f) nd.kids (S ++ [i])).2) := by simp [txtS, txtF, c1, c2', c3, ← hnd, kk, elemT]
          have e2 : tchF t (f + 1) i S = true := by simp [tchF, c1, c2', c3, ← hnd, kk]
          repeat refine wps_seq ?_
          refine wps_region callOK ?_
          simp [ofV, ofV1, mkC_P, writeVar, writeCells, readCells, allSingle, AV.single, getFs, getF, setFs, setF, Heap.get, Heap.set, Heap.new, Heap.kill, killF, pushF, Heap.ready, refs, sliceParts, fillA, replL, kk, aInt]
          repeat refine wps_seq ?_
          refine wps_cond (t := true) rfl (fun _ => ?_) fun h => by cases h
          have kd := W1.elem (T := T) hE hV hA ht hf hN ha hS' hfu' (by simp only [bigT]; omega) i0 i1
          rw [← hnd] at kd
          repeat refine wps_seq ?_
          refine wps_region (callOKF [⟨43, _, _, _, _, kd⟩]) ?_
          simp [ofV, ofV1, mkC_P, writeVar, writeCells, readCells, allSingle, AV.single, getFs, getF, setFs, setF, Heap.get, Heap.set, Heap.new, Heap.kill, killF, pushF, Heap.ready, refs, sliceParts, fillA, replL, callF, hmw, fold_node]
          rw [e1, e2]
          have V := (W1.upd (elemT t f nd (S ++ [i]))).setm (S' := (kidsT (txtS t f) nd.kids (S ++ [i])).2)
          obtain ⟨σ, _, fh⟩ := V.fin (ty := 53) (n' := m + 1 + 1) (a := .ptr wb 0) (txt := elemT t f nd (S ++ [i])) (by rw [upd_out]) (.inr rfl)
          exact ⟨[], rfl, σ, [], by simp [oneOr, fitV, fitL], fh⟩
        repeat refine wps_seq ?_
        refine wps_region callOK ?_
        simp [ofV, ofV1, mkC_P, writeVar, writeCells, readCells, allSingle, AV.single, getFs, getF, setFs, setF, Heap.get, Heap.set, Heap.new, Heap.kill, killF, pushF, Heap.ready, refs, sliceParts, fillA, replL, k1, aInt]
        repeat refine wps_seq ?_
        refine wps_cond (t := false) rfl (fun h => by cases h) fun _ => ?_
        by_cases k2 : nd.kind = 2
        · have kk := k2
          have e1 : txtS t (f + 1) i S = (charsT rawB t nd, S ++ [i]) := by simp [txtS, txtF, c1, c2', c3, ← hnd, kk]
          have e2 : tchF t (f + 1) i S = true := by simp [tchF, c1, c2', c3, ← hnd, kk]
          repeat refine wps_seq ?_
          refine wps_region callOK ?_
          simp [ofV, ofV1, mkC_P, writeVar, writeCells, readCells, allSingle, AV.single, getFs, getF, setFs, setF, Heap.get, Heap.set, Heap.new, Heap.kill, killF, pushF, Heap.ready, refs, sliceParts, fillA, replL, kk, aInt]
          repeat refine wps_seq ?_
          refine wps_cond (t := true) rfl (fun _ => ?_) fun h => by cases h
          have kd : CallAt (ctx T) 44 [.ptr wb 0, aNode nd] ⟨m + 1, [[(m, .cells nd.cs)], WF wb 53 a b [aNodes t, .map mb] ((mb, mB (S ++ [i])) :: g)]⟩ (.tup []) ⟨m + 1 + 1, [[(m, .cells nd.cs)], WF wb 53 (.ptr wb 0) (Go.Proofs.Ytohkgmnoamfmgaa.upd (m + 1) b (charsT rawB t nd)) [aNodes t, .map mb] ((mb, mB (S ++ [i])) :: g)]⟩ := (c44 (T := T) hE hR hT t W1.wok ha nd hfew (by omega)).top
          repeat refine wps_seq ?_
          refine wps_region (callOKF [⟨44, _, _, _, _, kd⟩]) ?_
          simp [ofV, ofV1, mkC_P, writeVar, writeCells, readCells, allSingle, AV.single, getFs, getF, setFs, setF, Heap.get, Heap.set, Heap.new, Heap.kill, killF, pushF, Heap.ready, refs, sliceParts, fillA, replL, callF, hmw, fold_node]
          rw [e1, e2]
          have V := W1.upd (charsT rawB t nd)
          obtain ⟨σ, _, fh⟩ := V.fin (ty := 53) (n' := m + 1 + 1) (a := .ptr wb 0) (txt := charsT rawB t nd) (by rw [upd_out]) (.inr rfl)
          exact ⟨[], rfl, σ, [], by simp [oneOr, fitV, fitL], fh⟩
        repeat refine wps_seq ?_
        refine wps_region callOK ?_
        simp [ofV, ofV1, mkC_P, writeVar, writeCells, readCells, allSingle, AV.single, getFs, getF, setFs, setF, Heap.get, Heap.set, Heap.new, Heap.kill, killF, pushF, Heap.ready, refs, sliceParts, fillA, replL, k2, aInt]
        repeat refine wps_seq ?_
        refine wps_cond (t := false) rfl (fun h => by cases h) fun _ => ?_
        by_cases k3 : nd.kind = 3
        · have kk := k3
          have e1 : txtS t (f + 1) i S = ([60, 33, 45, 45] ++ nd.data ++ [45, 45, 62], S ++ [i]) := by simp [txtS, txtF, c1, c2', c3, ← hnd, kk]
          have e2 : tchF t (f + 1) i S = true := by simp [tchF, c1, c2', c3, ← hnd, kk]
          repeat refine wps_seq ?_
          refine wps_region callOK ?_
          simp [ofV, ofV1, mkC_P, writeVar, writeCells, readCells, allSingle, AV.single, getFs, getF, setFs, setF, Heap.get, Heap.set, Heap.new, Heap.kill, killF, pushF, Heap.ready, refs, sliceParts, fillA, replL, kk, aInt]
          repeat refine wps_seq ?_
          refine wps_cond (t := true) rfl (fun _ => ?_) fun h => by cases h
          have W2 := W1.box (k := .cells [.str [60, 33, 45, 45], .str nd.data, .str [45, 45, 62]]) (self_pure (by simp [pureL, pureV]))
          have pt := W2.put (T := T) hE ha [[60, 33, 45, 45], nd.data, [45, 45, 62]] (by simp) (by simp) (tb := m + 1) (by simp) (by simp [cat]; omega)
          have V := W2.upd (cat [[60, 33, 45, 45], nd.data, [45, 45, 62]])
          repeat refine wps_seq ?_
          refine wps_region (callOKF [⟨45, _, _, _, _, pt⟩]) ?_
          simp [ofV, ofV1, mkC_P, writeVar, writeCells, readCells, allSingle, AV.single, getFs, getF, setFs, setF, Heap.get, Heap.set, Heap.new, Heap.kill, killF, pushF, Heap.ready, refs, sliceParts, fillA, replL, callF, hmw, g4]
          rw [e1, e2]
          obtain ⟨σ, _, fh⟩ := V.fin (ty := 53) (n' := m + 1 + 1 + 1) (a := .ptr wb 0) (txt := [60, 33, 45, 45] ++ nd.data ++ [45, 45, 62]) (by rw [upd_out]; simp [cat]) (.inr rfl)
          exact ⟨[], rfl, σ, [], by simp [oneOr, fitV, fitL], fh⟩
        repeat refine wps_seq ?_
        refine wps_region callOK ?_
        simp [ofV, ofV1, mkC_P, writeVar, writeCells, readCells, allSingle, AV.single, getFs, getF, setFs, setF, Heap.get, Heap.set, Heap.new, Heap.kill, killF, pushF, Heap.ready, refs, sliceParts, fillA, replL, k3, aInt]
        repeat refine wps_seq ?_
        refine wps_cond (t := false) rfl (fun h => by cases h) fun _ => ?_
        by_cases k4 : nd.kind = 4
        · have kk := k4
          have e1 : txtS t (f + 1) i S = ([60, 33, 68, 79, 67, 84, 89, 80, 69, 32] ++ nd.data ++ [62], S ++ [i]) := by simp [txtS, txtF, c1, c2', c3, ← hnd, kk]
          have e2 : tchF t (f + 1) i S = true := by simp [tchF, c1, c2', c3, ← hnd, kk]
          repeat refine wps_seq ?_
          refine wps_region callOK ?_
          simp [ofV, ofV1, mkC_P, writeVar, writeCells, readCells, allSingle, AV.single, getFs, getF, setFs, setF, Heap.get, Heap.set, Heap.new, Heap.kill, killF, pushF, Heap.ready, refs, sliceParts, fillA, replL, kk, aInt]
          repeat refine wps_seq ?_
          refine wps_cond (t := true) rfl (fun _ => ?_) fun h => by cases h
          have W2 := W1.box (k := .cells [.str [60, 33, 68, 79, 67, 84, 89, 80, 69, 32], .str nd.data, .str [62]]) (self_pure (by simp [pureL, pureV]))
          have pt := W2.put (T := T) hE ha [[60, 33, 68, 79, 67, 84, 89, 80, 69, 32], nd.data, [62]] (by simp) (by simp) (tb := m + 1) (by simp) (by simp [cat]; omega)
          have V := W2.upd (cat [[60, 33, 68, 79, 67, 84, 89, 80, 69, 32], nd.data, [62]])
          repeat refine wps_seq ?_
          refine wps_region (callOKF [⟨45, _, _, _, _, pt⟩]) ?_
          simp [ofV, ofV1, mkC_P, writeVar, writeCells, readCells, allSingle, AV.single, getFs, getF, setFs, setF, Heap.get, Heap.set, Heap.new, Heap.kill, killF, pushF, Heap.ready, refs, sliceParts, fillA, replL, callF, hmw, g4]
          rw [e1, e2]
          obtain ⟨σ, _, fh⟩ := V.fin (ty := 53) (n' := m + 1 + 1 + 1) (a := .ptr wb 0) (txt := [60, 33, 68, 79, 67, 84, 89, 80, 69, 32] ++ nd.data ++ [62]) (by rw [upd_out]; simp [cat]) (.inr rfl)
          exact ⟨[], rfl, σ, [], by simp [oneOr, fitV, fitL], fh⟩
        have e1 : txtS t (f + 1) i S = ([], S ++ [i]) := by simp [txtS, txtF, c1, c2', c3, ← hnd, k0, k1, k2, k3, k4]
        have e2 : tchF t (f + 1) i S = false := by
          simp only [tchF, c1, c2', c3, ← hnd, k0, or_self, if_false]
          simp; omega
        repeat refine wps_seq ?_
        refine wps_region callOK ?_
        simp [ofV, ofV1, mkC_P, writeVar, writeCells, readCells, allSingle, AV.single, getFs, getF, setFs, setF, Heap.get, Heap.set, Heap.new, Heap.kill, killF, pushF, Heap.ready, refs, sliceParts, fillA, replL, k4, aInt]
        repeat refine wps_seq ?_
        refine wps_cond (t := false) rfl (fun h => by cases h) fun _ => ?_
        repeat refine wps_seq ?_
        refine wps_skip ?_
        simp
        rw [e1, e2]
        obtain ⟨σ, _, fh⟩ := W1.fin (ty := 53) (n' := m + 1) (a := a) (txt := []) (by simp) ha
        exact ⟨[], rfl, σ, [], by simp [oneOr, fitV, fitL], fh⟩
theorem node_all {T : List (Entry Try.prog)} (hE : findE 82 T = some e82.g) (hV : findE 58 T = some e58.g) (hA : findE 57 T = some e57.g) (hR : findE 13 T = some e13.g) (hT : findE 60 T = some e60.g) {t : Tr} (ht : smallTr t) (hf : t.all fewNd = true) : ∀ f, NodeAt T t f
  | 0 => fun m wb mb a b g i S h ha hS hfu hs => by
    have := sok_len t hS
    omega
  | f + 1 => node_step hE hV hA hR hT ht hf (node_all hE hV hA hR hT ht hf f)
end Go.Proofs.Ytohkgmnoamfmgaa
namespace Go.Proofs.Ytohkgmnoamfmgaa
set_option linter.unusedSimpArgs false
set_option linter.unusedVariables false
open Go Go.RowKit
set_option maxRecDepth 100000

theorem cA26 {T : List (Entry Try.prog)} {m wb : Nat} {ty : TypeId} {a : AV} {b : Bs} {cs : List AV} {g : List (Nat × Blk)} (ha : a = .nilP ∨ a = .ptr wb 0) (h : Wok m wb b cs g) (hlen : b.out.length ≤ 1000000000) :
    CallAt (ctx T) 26 [.ptr wb 0] ⟨m, [WF wb ty a b cs g]⟩ (.str b.out) ⟨m + 1, [WF wb ty a b cs g]⟩ := by
  refine callAt_body (fn := Try.f26) (s0 := ⟨[0, 2], [.ptr wb 0, .undef], [], 14, ⟨m, [] :: [WF wb ty a b cs g]⟩⟩) Try.func26 rfl rfl rfl ?_
  repeat refine wps_seq ?_
  refine wps_region callOK ?_
  simp [ofV, ofV1, mkC_P, writeVar, writeCells, readCells, allSingle, AV.single, getFs, getF, setFs, setF, Heap.get, Heap.set, Heap.new, Heap.kill, killF, pushF, Heap.ready, refs, sliceParts, fillA, replL]
  obtain ⟨k, out⟩ := b
  cases out with
  | nil =>
    repeat refine wps_seq ?_
    refine wps_drawK mixed callOK (by decide +kernel) (by decide +kernel) ?_
    simp [ofV, ofV1, mkC_P, writeVar, writeCells, readCells, allSingle, AV.single, getFs, getF, setFs, setF, Heap.get, Heap.set, Heap.new, Heap.kill, killF, pushF, Heap.ready, refs, sliceParts, fillA, replL, evalK_c, evalK_nil, thenK_some, WF_o, bV, lenA, sd0, us0]
    repeat refine wps_seq ?_
    refine wps_ret ?_
    simp [retVal, Try.f26, oneOr]
    exact ⟨idn m, [], fitV_pure rfl, fit_noneA ha h fun _ _ => rfl⟩
  | cons c r =>
    have hg : ∀ n, Heap.get ⟨n, [[], WF wb ty a ⟨k, c :: r⟩ cs g]⟩ k = some (.buf 5 (c :: r).length (bytesAV (c :: r))) := fun n => by
      have := WF_b (ty := ty) (a := a) h (by simp)
      simp only [Heap.get, getFs, getF]
      rw [this]
    have hs : ∀ n, Heap.set ⟨n, [[], WF wb ty a ⟨k, c :: r⟩ cs g]⟩ k (.buf 5 (c :: r).length (bytesAV (c :: r))) = some ⟨n, [[], WF wb ty a ⟨k, c :: r⟩ cs g]⟩ := fun n => by
      have := setF_same (WF_b (ty := ty) (a := a) h (by simp))
      simp only at this
      simp only [Heap.set, setFs, setF, this, Option.bind_some, Option.bind_none]
    have hu := fun n => us1 (hg n) (hs n) (by simp) hlen
    simp only [List.length_cons, Int.natCast_add, Int.natCast_one] at hu
    repeat refine wps_seq ?_
    refine wps_drawK mixed callOK (by decide +kernel) (by decide +kernel) ?_
    simp [ofV, ofV1, mkC_P, writeVar, writeCells, readCells, allSingle, AV.single, getFs, getF, setFs, setF, Heap.get, Heap.set, Heap.new, Heap.kill, killF, pushF, Heap.ready, refs, sliceParts, fillA, replL, evalK_c, evalK_nil, thenK_some, WF_o, bV, lenA, sd1, hu]
    repeat refine wps_seq ?_
    refine wps_ret ?_
    simp [retVal, Try.f26, oneOr]
    exact ⟨idn m, [], fitV_pure rfl, fit_noneA ha h fun _ _ => rfl⟩
theorem fit_empty (H : Heap) : FitH 0 [] [] H ⟨0, []⟩ := ⟨by simp, by simp, by simp [Heap.ents], by simp, fun x hx h => by omega, Nat.le_refl _, fun x hx => by simp [Heap.ents] at hx, fun x hx => by simp at hx⟩
/-- the text of a node -/
def serT (t : Tr) (i : Int) : Str := (txtS t (t.length + 1) i []).1
theorem serT_len {t : Tr} (ht : smallTr t) (hf : t.all fewNd = true) (i : Int) : (serT t i).length ≤ 5000000 := by
  have h := txt_grows voidN rawB t hf (t.length + 1) i [] ⟨by simp, fun x hx => by cases hx⟩
  have h1 := h.len
  have h2 := sok_len t h.ok
  have h3 := ht.1
  simp only [bigT, List.length_nil] at h1
  show (txtF voidN rawB t (t.length + 1) i []).1.length ≤ 5000000
  omega
theorem c11 {T : List (Entry Try.prog)} (hE : findE 82 T = some e82.g) (hV : findE 58 T = some e58.g) (hA : findE 57 T = some e57.g) (hR : findE 13 T = some e13.g) (hT : findE 60 T = some e60.g) {t : Tr} (ht : smallTr t) (hf : t.all fewNd = true) (i : Int) :
    CallAt (ctx T) 11 [aTree t, .int .i64 i] ⟨0, []⟩ (.str (serT t i)) ⟨0, []⟩ := by
  have hlen := serT_len ht hf i
  have h3 := ht.1
  have hw : Wok 3 2 ⟨0, []⟩ [aNodes t, .map 1] ((1, mB []) :: [(0, .cells [aNodes t])]) := ⟨by omega, fun e he => by
      simp only [List.mem_cons, List.not_mem_nil, or_false] at he
      rcases he with rfl | rfl <;> simp, by simp, fun hne => absurd rfl hne, fun e he => by
      simp only [List.mem_cons, List.not_mem_nil, or_false] at he
      rcases he with rfl | rfl
      · exact self_mB _ _
      · exact self_pure (by simp [pureL]), fun σ hσ => by simp [fitL, fitV, hσ 1 (by omega), pureV, aNodes]⟩
  have nd := node_all (T := T) hE hV hA hR hT ht hf (t.length + 1) 3 2 1 .nilP ⟨0, []⟩ [(0, .cells [aNodes t])] i [] hw (.inl rfl) ⟨by simp, fun x hx => by cases hx⟩ (by simp) (by simp [bigT]; omega)
  obtain ⟨S2, hS2⟩ : ∃ S2, S2 = (txtS t (t.length + 1) i []).2 := ⟨_, rfl⟩
  rw [← hS2, show (txtS t (t.length + 1) i []).1 = serT t i from rfl] at nd
  obtain ⟨a, haa⟩ : ∃ a, a = aft 2 .nilP (tchF t (t.length + 1) i []) := ⟨_, rfl⟩
  have ha : a = .nilP ∨ a = .ptr 2 0 := by rw [haa]; exact aft_or _ (.inl rfl)
  rw [← haa] at nd
  have w2 := ((Wtn.start hw).upd (serT t i)).setm (S' := S2)
  have st := cA26 (T := T) (ty := 53) ha w2.wok (by rw [upd_out]; simp; omega)
  simp only [List.nil_append] at st
  refine callAt_body (fn := Try.f11) (s0 := ⟨[0, 1, 2, 4, 5], [aTree t, .int .i64 i, .undef, .undef, .undef], [], 13, ⟨0, [[]]⟩⟩) Try.func11 rfl rfl rfl ?_
  have hb : buildA Try.prog 53 [(1, .agg [aNodes t]), (2, .map 1)] = some (.agg [.nilP, .nilS, aNodes t, .map 1]) := rfl
  repeat refine wps_seq ?_
  refine wps_region callOK ?_
  simp [ofV, ofV1, mkC_P, writeVar, writeCells, readCells, allSingle, AV.single, getFs, getF, setFs, setF, Heap.get, Heap.set, Heap.new, Heap.kill, killF, pushF, Heap.ready, refs, sliceParts, fillA, replL, aTree]
  have hp : ∀ F, promote 2 [1] [] [[(2, F), (1, Blk.map []), (0, Blk.cells [aNodes t])]] = [[(2, F), (1, Blk.map []), (0, Blk.cells [aNodes t])]] := fun F => rfl
  repeat refine wps_seq ?_
  refine wps_region callOK ?_
  simp [ofV, ofV1, mkC_P, writeVar, writeCells, readCells, allSingle, AV.single, getFs, getF, setFs, setF, Heap.get, Heap.set, Heap.new, Heap.kill, killF, pushF, Heap.ready, refs, sliceParts, fillA, replL, aTree, hb, hp]
  have nd' : CallAt (ctx T) 25 [.ptr 2 0, .int .i64 i] ⟨3, [[(2, .obj 53 [.nilP, .nilS, aNodes t, .map 1]), (1, .map []), (0, .cells [aNodes t])]]⟩ (.tup []) ⟨4, [WF 2 53 a (upd 3 ⟨0, []⟩ (serT t i)) [aNodes t, .map 1] ((1, mB S2) :: [(0, .cells [aNodes t])])]⟩ := nd
  have st' : CallAt (ctx T) 26 [.ptr 2 0] ⟨4, [WF 2 53 a (upd 3 ⟨0, []⟩ (serT t i)) [aNodes t, .map 1] ((1, mB S2) :: [(0, .cells [aNodes t])])]⟩ (.str (serT t i)) ⟨5, [WF 2 53 a (upd 3 ⟨0, []⟩ (serT t i)) [aNodes t, .map 1] ((1, mB S2) :: [(0, .cells [aNodes t])])]⟩ := by
    have := st
    rw [upd_out, List.nil_append] at this
    exact this
  repeat refine wps_seq ?_
  refine wps_region (callOKF [⟨25, _, _, _, _, nd'⟩]) ?_
  simp [ofV, ofV1, mkC_P, writeVar, writeCells, readCells, allSingle, AV.single, getFs, getF, setFs, setF, Heap.get, Heap.set, Heap.new, Heap.kill, killF, pushF, Heap.ready, refs, sliceParts, fillA, replL, callF]
  repeat refine wps_seq ?_
  refine wps_region (callOKF [⟨26, _, _, _, _, st'⟩]) ?_
  simp [ofV, ofV1, mkC_P, writeVar, writeCells, readCells, allSingle, AV.single, getFs, getF, setFs, setF, Heap.get, Heap.set, Heap.new, Heap.kill, killF, pushF, Heap.ready, refs, sliceParts, fillA, replL, callF]
  repeat refine wps_seq ?_
  refine wps_ret ?_
  simp [retVal, Try.f11, oneOr]
  exact ⟨[], [], fitV_pure rfl, fit_empty _⟩
noncomputable def e11 : Entry Try.prog := mkE 11 [[], []] (fun x : Tr × Int => [aTree x.1, .int .i64 x.2]) (fun x => smallTr x.1 ∧ x.1.all fewNd = true) (fun x => .str (serT x.1 x.2)) fun x hx => c11 (T := [e82, e58, e57, e13, e60]) rfl rfl rfl rfl rfl hx.1 hx.2 x.2
theorem k11 {T : List (Entry Try.prog)} (hT : findE 11 T = some e11.g) {t : Tr} (ht : smallTr t) (hf : t.all fewNd = true) (i : Int) (H : Heap) : callL (ctx T) (.fn 11) [aTree t, .int .i64 i] H = some (.str (serT t i), H) :=
  mkE_scalar hT injTI (t, i) ⟨ht, hf⟩ rfl (by simp [th_aTree])
theorem c9 {T : List (Entry Try.prog)} (hN : findE 11 T = some e11.g) {t : Tr} (ht : smallTr t) (hf : t.all fewNd = true) : CallAt (ctx T) 9 [aTree t] ⟨0, []⟩ (.str (serT t 0)) ⟨0, []⟩ := by
  have hk : ∀ H, callL (ctx T) (.fn 11) [.agg [aNodes t], .int .i64 0] H = some (.str (serT t 0), H) := fun H => k11 hN ht hf 0 H
  refine callAt_body (fn := Try.f9) (s0 := ⟨[0, 1, 2], [aTree t, .undef, .undef], [], 5, ⟨0, [[]]⟩⟩) Try.func9 rfl rfl rfl ?_
  (repeat (first
    | (refine wps_seq ?_)
    | (refine wps_block ?_)
    | (refine wps_label ?_; simp only [thenQ, blockQ])
    | ((refine wps_region callOK ?_); simp [ofV, ofV1, mkC_P, writeVar, writeCells, readCells, allSingle, AV.single, getFs, getF, setFs, setF, Heap.get, Heap.set, Heap.new, Heap.kill, killF, pushF, Heap.ready, refs, sliceParts, fillA, replL, hk, aTree])
    | (refine wps_cond (t := true) rfl (fun _ => ?_) (fun h => by cases h))
    | (refine wps_cond (t := false) rfl (fun h => by cases h) (fun _ => ?_))
    | ((refine wps_skip ?_); simp only [thenQ, blockQ])
    | ((refine wps_exit ?_); simp [thenQ, blockQ])))
  repeat refine wps_seq ?_
  refine wps_ret ?_
  simp [retVal, Try.f9, oneOr, thenQ, blockQ]
  exact ends_pure rfl (by rfl)
noncomputable def e9 : Entry Try.prog := mkE 9 [[]] (fun t : Tr => [aTree t]) (fun t => smallTr t ∧ t.all fewNd = true) (fun t => .str (serT t 0)) fun t ht => c9 (T := [e11]) rfl ht.1 ht.2
theorem k9 {T : List (Entry Try.prog)} (hT : findE 9 T = some e9.g) {t : Tr} (ht : smallTr t) (hf : t.all fewNd = true) (H : Heap) : callL (ctx T) (.fn 9) [aTree t] H = some (.str (serT t 0), H) :=
  mkE_scalar hT injT t ⟨ht, hf⟩ rfl (by simp [th_aTree])
end Go.Proofs.Ytohkgmnoamfmgaa
