/- The reference's Value; DocsHave's walk. No condition. -/
import Derived.Test.YthclkpplpdnffaaGreatDoorRG
import Derived.Test.YthclkpplpdnffaaGreatDoorRF
namespace Go.Proofs.YthclkpplpdnffaaGreatDoor
set_option linter.unusedSimpArgs false
set_option linter.unusedVariables false
open Go Go.RowKit
set_option maxRecDepth 100000
def stepV (node up : Int) (c : Nat) (left : Bool) : AV := .agg [.int .i64 node, .int .i64 up, .float .f64 c, .bool left]
def hR (t : Tr) (LB : Blk) (m k : Nat) (f : List (Nat × Blk)) (L : List Int) : Heap := ⟨m, [f, [(k, .cells (ints L)), (2, LB), (1, .cells [.slc k 0 L.length (.rest 1)]), (0, .cells [aNodes t])]]⟩
def h0R (t : Tr) (LB : Blk) : Heap := ⟨3, [[], [(2, LB), (1, .cells [.nilS]), (0, .cells [aNodes t])]]⟩
def fR (P : List (Nat × Nat)) (s : List Bool) : List (Nat × Blk) := [(6, .cells (frs P)), (5, .cells (bls s))]
structure Rounds (T : List (Entry Tryz.prog)) (t : Tr) (LB : Blk) : Prop where
  fit : ∀ σ, lookN 0 σ = some 0 → lookN 1 σ = some 1 → fitB σ [] LB LB
  first : YieldAt (ctx T) 2 [stepV 0 (-1) 0 false] (h0R t LB) (.bool true) ⟨4, [[], [(3, .cells (ints [0])), (2, LB), (1, .cells [.slc 3 0 1 (.rest 1)]), (0, .cells [aNodes t])]]⟩
  leave : ∀ (m : Nat) (_ : m = 17) (P : List (Nat × Nat)) (s : List Bool) (L : List Int) (node up : Int) (c : Nat), L.length ≤ 1000000 → YieldAt (ctx T) 2 [stepV node up c true] (hR t LB m 4 (fR P s) L) (.bool true) (hR t LB m 4 (fR P s) L)
  enter : ∀ (m : Nat) (_ : m = 30) (P : List (Nat × Nat)) (s : List Bool) (L : List Int) (node up : Int) (c : Nat), L.length ≤ 1000000 → L ≠ [] → YieldAt (ctx T) 2 [stepV node up c false] (hR t LB m 4 (fR P s) L) (.bool true) (hR t LB (m + 1) m (fR P s) (L ++ [node]))
theorem fit_R {t : Tr} {LB : Blk} (hLB : ∀ σ, lookN 0 σ = some 0 → lookN 1 σ = some 1 → fitB σ [] LB LB) {m a b k : Nat} {f : List (Nat × Blk)} {P : List (Nat × Nat)} {s : List Bool} {L : List Int}
    (ha : getF a f = some (.cells (frs P))) (hb : getF b f = some (.cells (bls s))) (hk : getF k f = none) (h0 : getF 0 f = none) (h1 : getF 1 f = none) (h2 : getF 2 f = none)
    (a3 : 2 < a) (b3 : 2 < b) (k3 : 2 < k) (hab : a ≠ b) (hak : a ≠ k) (hbk : b ≠ k) :
    FitH 3 [(a, 6), (b, 5), (k, 4), (2, 2), (1, 1), (0, 0)] [] (hR t LB m k f L) (hR t LB 7 4 (fR P s) L) where
  nd1 := by simp; omega
  nd2 := by simp
  nd3 := by simp [hR, fR, Heap.ents]
  lt := by simp [hR]
  idn := by simp; omega
  num := by simp [hR]
  src := by
    intro e he
    simp [hR, fR, Heap.ents] at he
    rcases he with rfl | rfl | rfl | rfl | rfl | rfl
    · exact ⟨a, .cells (frs P), by simp, by simp [hR, Heap.get, getFs, ha], fitL_pure (pure_frs _)⟩
    · exact ⟨b, .cells (bls s), by simp, by simp [hR, Heap.get, getFs, hb], fitL_pure (pure_bls _)⟩
    · exact ⟨k, .cells (ints L), by simp, by simp [hR, Heap.get, getFs, hk, getF], fitL_pure (pure_ints _)⟩
    · refine ⟨2, LB, by simp, ?_, hLB _ ?_ ?_⟩
      · have : Nat.beq k 2 = false := beqN_ne (by omega)
        simp [hR, Heap.get, getFs, h2, getF, this]
      · have e1 : ¬ a = 0 := by omega
        have e2 : ¬ b = 0 := by omega
        have e3 : ¬ k = 0 := by omega
        simp [lookN, e1, e2, e3]
      · have e1 : ¬ a = 1 := by omega
        have e2 : ¬ b = 1 := by omega
        have e3 : ¬ k = 1 := by omega
        simp [lookN, e1, e2, e3]
    · refine ⟨1, .cells [.slc k 0 L.length (.rest 1)], by simp, ?_, ?_⟩
      · have : Nat.beq k 1 = false := beqN_ne (by omega)
        simp [hR, Heap.get, getFs, h1, getF, this]
      · simp [fitB, fitL, fitV, lookN, hak, hbk]
    · refine ⟨0, .cells [aNodes t], by simp, ?_, fitL_pure (by simp [pureL])⟩
      have : Nat.beq k 0 = false := beqN_ne (by omega)
      simp [hR, Heap.get, getFs, h0, getF, this]
  frz := fun x h => by cases h
theorem fit_end {t : Tr} {LB : Blk} (hLB : ∀ σ, lookN 0 σ = some 0 → lookN 1 σ = some 1 → fitB σ [] LB LB) {m : Nat} {f : List (Nat × Blk)} {L : List Int} (h4 : getF 4 f = none) (h0 : getF 0 f = none) (h1 : getF 1 f = none) (h2 : getF 2 f = none) :
    FitH 3 [(4, 3), (2, 2), (1, 1), (0, 0)] [] (hR t LB m 4 f L) ⟨4, [[(3, .cells (ints L)), (2, LB), (1, .cells [.slc 3 0 L.length (.rest 1)]), (0, .cells [aNodes t])]]⟩ where
  nd1 := by simp
  nd2 := by simp
  nd3 := by simp [Heap.ents]
  lt := by simp
  idn := by simp
  num := by simp
  src := by
    intro e he
    simp [Heap.ents] at he
    rcases he with rfl | rfl | rfl | rfl
    · exact ⟨4, .cells (ints L), by simp, by simp [hR, Heap.get, getFs, h4, getF], fitL_pure (pure_ints _)⟩
    · exact ⟨2, LB, by simp, by simp [hR, Heap.get, getFs, h2, getF], hLB _ (by simp [lookN]) (by simp [lookN])⟩
    · exact ⟨1, .cells [.slc 4 0 L.length (.rest 1)], by simp, by simp [hR, Heap.get, getFs, h1, getF], by simp [fitB, fitL, fitV, lookN]⟩
    · exact ⟨0, .cells [aNodes t], by simp, by simp [hR, Heap.get, getFs, h0, getF], fitL_pure (by simp [pureL])⟩
  frz := fun x h => by cases h
structure Ls where
  P : List (Nat × Nat)
  G : List (Nat × Nat)
  cap : Cap
  s : List Bool
  a : List Int
  c : Nat
def unseen (s : List Bool) : Nat := s.countP fun x => !x
def sm : List (Nat × Nat) → Nat
  | [] => 0
  | p :: r => (1001 - p.2) + sm r
theorem sm_app : ∀ (l m : List (Nat × Nat)), sm (l ++ m) = sm l + sm m
  | [], m => by simp [sm]
  | p :: r, m => by simp only [List.cons_append, sm, sm_app r m]; omega
def cap1 (x : Ls) : Prop := x.cap = .rest 2 ∨ (x.cap = .ex 1 ∧ x.P.length + x.G.length = 1)
structure Lok (t : Tr) (x : Ls) : Prop where
  cap : cap1 x
  s : x.s.length = t.length
  a : x.a ≠ []
  r : Reach t.length (kidsOf t) ([(0, 0)], (List.replicate t.length false).set 0 true, [0]) (x.P.reverse, x.s, x.a)
  p : ∀ e, e ∈ x.P → e.1 < t.length ∧ e.2 ≤ 1000
  pu : x.P.length + unseen x.s ≤ t.length
  au : x.a.length + unseen x.s ≤ t.length
  cu : x.c + 2 * unseen x.s + x.P.length ≤ 2 * t.length
theorem bS1 {x : Int} : buildA Tryz.prog 111 [(1, .int .i64 x)] = some (.agg [.int .i64 0, .int .i64 x, .float .f64 0, .bool false]) := by kernel_rfl
theorem bS2 {x : Int} {c : Nat} {b : Bool} : buildA Tryz.prog 111 [(0, .int .i64 x), (2, .float .f64 c), (3, .bool b)] = some (.agg [.int .i64 x, .int .i64 0, .float .f64 c, .bool b]) := by kernel_rfl
theorem bS3 {x u : Int} {c : Nat} : buildA Tryz.prog 111 [(0, .int .i64 x), (1, .int .i64 u), (2, .float .f64 c)] = some (.agg [.int .i64 x, .int .i64 u, .float .f64 c, .bool false]) := by kernel_rfl
theorem bF0 : buildA Tryz.prog 139 [] = some (.agg [.int .i64 0, .int .i64 0]) := by kernel_rfl
theorem bF1 {x : Int} : buildA Tryz.prog 139 [(0, .int .i64 x)] = some (.agg [.int .i64 x, .int .i64 0]) := by kernel_rfl
theorem callY_hit {C : Ctx} {b : Nat} {args : List AV} {H H' : Heap} {v : AV} {ok : YieldAt C b args H v H'} {r : List (FactY C)} {call : CallE} : callY (⟨b, args, H, v, H', ok⟩ :: r) call (.yl b) args H = some (v, H') := by simp [callY]
theorem unseen_set : ∀ {s : List Bool} {i : Nat}, i < s.length → s.getD i true = false → unseen (s.set i true) + 1 = unseen s
  | [], i, h, _ => absurd h (Nat.not_lt_zero i)
  | x :: r, 0, h, hx => by
    have hx' : x = false := by simpa using hx
    subst hx'
    simp [unseen, List.countP_cons]
  | x :: r, i + 1, h, hx => by
    have := unseen_set (s := r) (i := i) (by simpa using h) (by simpa using hx)
    simp only [unseen, List.set_cons_succ, List.countP_cons] at this ⊢
    omega
theorem unseen_rep (n : Nat) : unseen (List.replicate n false) = n := by simp [unseen, List.countP_replicate]
theorem mkBool {H : Heap} {n : Nat} (h : n ≤ 1000000) : makeSliceA Tryz.prog H 97 (.int .i64 (n : Int)) (.int .i64 (n : Int)) = some (.slc H.n 0 n (.ex n), H.new (.cells (bls (List.replicate n false)))) := by
  unfold makeSliceA
  rw [msBool h]; rfl
theorem slPath {H : Heap} {cs : List AV} {q kn : Nat} {cap : Cap} (hb : H.get 6 = some (.cells cs)) (hl : cs.length = kn * 2) (hq : q + 1 ≤ kn) (hc : cap = .rest 2 ∨ (cap = .ex 1 ∧ kn = 1)) :
    sliceA Tryz.prog H 140 (.slc 6 0 (q + 1) cap) none (some (.int .i64 (q : Int))) none = some (.slc 6 0 q cap) := by
  have hs : sizeT Tryz.prog 139 = some 2 := szT139
  have hk : knownCells H 6 = some (kn * 2) := by simp [knownCells, hb, Blk.rd, hl]
  simp only [sliceA, hiOK, Tryz.underlying140, Option.bind_some, hs]
  have e2 : kn * 2 / 2 = kn := by omega
  rcases hc with rfl | ⟨rfl, rfl⟩
  · have hi1 : idx (q : Int) (Nat.succ kn) = some q := idx_nat (by omega)
    have hn : Nat.ble (kn * 2) 0 = false := by cases kn with
      | zero => omega
      | succ m => rfl
    simp only [sliceBlk, hk, Option.bind_some, bound, Nat.beq_refl, Nat.sub_zero, e2, hi1, Nat.zero_mul, hn, Nat.add_zero]
  · have hq0 : q = 0 := by omega
    subst hq0
    simp only [sliceBlk, hk, Option.bind_some]
    rfl
def hP (n : Nat) (f0 : List (Nat × Blk)) (m : Int) (s : List Bool) (R : List AV) (top : List (Nat × Blk)) : Heap := ⟨n, [top ++ ((31, .cells [.int .i64 m, .int .i64 0]) :: ((6, .cells R) :: [(5, .cells (bls s))])), f0]⟩
theorem app0 {n : Nat} (h : n ≤ 1000) : roomOK (n + 1) 16 = true := by simp [roomOK]; omega
theorem appP1 {l G : List (Nat × Nat)} {g : Nat × Nat} {m : Nat} {s : List Bool} {f0 : List (Nat × Blk)} (hl : l.length ≤ 1000) :
    appendA Tryz.prog ⟨32, [[(31, .cells [.int .i64 (m : Int), .int .i64 0]), (6, .cells (frs (l ++ g :: G))), (5, .cells (bls s))], f0]⟩ 139 (.slc 6 0 l.length (.rest 2)) (.slc 31 0 1 (.ex 1)) =
      some (.slc 6 0 (l.length + 1) (.rest 2), ⟨32, [[(31, .cells [.int .i64 (m : Int), .int .i64 0]), (6, .cells (frs (l ++ (m, 0) :: G))), (5, .cells (bls s))], f0]⟩) := by
  have hs : sizeT Tryz.prog 139 = some 2 := szT139
  have hb : bytesT Tryz.prog 139 = some 16 := byT139
  have hz : zeroOf Tryz.prog 139 = some (.agg [.int .i64 0, .int .i64 0]) := zeT139
  have hble : Nat.ble (0 + (l.length + 1) * 2) (frs (l ++ g :: G)).length = true := by rw [len_frs]; simp; omega
  have hlay := layApp (k := m) (g := g) (G := G) l
  simp only [appendA, hs, hb, hz, Option.bind_some]
  simp [srcLen, srcCells, readCells, Heap.get, getFs, getF, Blk.rd, subL, takeL, AV.cells, app0 hl, allSingle, AV.single, knownCells]
  rw [show (Nat.ble ((l.length + 1) * 2) (frs (l ++ g :: G)).length) = true by simpa using hble]
  simp [writeCells, Heap.get, getFs, getF, Blk.wt, hlay, Heap.ready, refs, Heap.set, setFs, setF, Blk.re]
  rfl
theorem appP2 {l : List (Nat × Nat)} {m : Nat} {s : List Bool} {f0 : List (Nat × Blk)} (hl : l.length ≤ 1000) :
    appendA Tryz.prog ⟨32, [[(31, .cells [.int .i64 (m : Int), .int .i64 0]), (6, .cells (frs l)), (5, .cells (bls s))], f0]⟩ 139 (.slc 6 0 l.length (.rest 2)) (.slc 31 0 1 (.ex 1)) =
      some (.slc 32 0 (l.length + 1) (.rest 2), ⟨33, [[(32, .cells (frs (l ++ [(m, 0)]))), (31, .cells [.int .i64 (m : Int), .int .i64 0]), (5, .cells (bls s))], f0]⟩) := by
  have hs : sizeT Tryz.prog 139 = some 2 := szT139
  have hb : bytesT Tryz.prog 139 = some 16 := byT139
  have hz : zeroOf Tryz.prog 139 = some (.agg [.int .i64 0, .int .i64 0]) := zeT139
  have hble : Nat.ble ((l.length + 1) * 2) (frs l).length = false := by
    rw [len_frs]
    cases h : Nat.ble ((l.length + 1) * 2) (l.length * 2) with
    | false => rfl
    | true => have := Nat.le_of_ble_eq_true h; omega
  have hbeq : Nat.beq (l.length * 2) (frs l).length = true := by rw [len_frs]; exact Nat.beq_refl _
  have hsub : takeL (l.length * 2) (frs l) = some (frs l) := by have := subFr l; simpa [subL] using this
  simp only [appendA, hs, hb, hz, Option.bind_some]
  simp [srcLen, srcCells, readCells, Heap.get, getFs, getF, Blk.rd, subL, takeL, AV.cells, app0 hl, allSingle, AV.single, knownCells]
  rw [hble]
  simp [hbeq, hsub, goOn, Heap.drop, killFs, killF, getF, Heap.new, pushF, frs_app, frs]
  rfl
theorem appP3 {l : List (Nat × Nat)} {m : Nat} {s : List Bool} {f0 : List (Nat × Blk)} (hl : l.length = 1) :
    appendA Tryz.prog ⟨32, [[(31, .cells [.int .i64 (m : Int), .int .i64 0]), (6, .cells (frs l)), (5, .cells (bls s))], f0]⟩ 139 (.slc 6 0 l.length (.ex 1)) (.slc 31 0 1 (.ex 1)) =
      some (.slc 32 0 (l.length + 1) (.rest 2), ⟨33, [[(32, .cells (frs (l ++ [(m, 0)]))), (31, .cells [.int .i64 (m : Int), .int .i64 0]), (6, .cells (frs l)), (5, .cells (bls s))], f0]⟩) := by
  have hs : sizeT Tryz.prog 139 = some 2 := szT139
  have hb : bytesT Tryz.prog 139 = some 16 := byT139
  have hz : zeroOf Tryz.prog 139 = some (.agg [.int .i64 0, .int .i64 0]) := zeT139
  obtain ⟨p, rfl⟩ := List.length_eq_one_iff.1 hl
  simp only [appendA, hs, hb, hz, Option.bind_some]
  rfl
theorem FitH.eqL {n : Nat} {σ : List (Nat × Nat)} {Φ : List (Nat × List AV)} {H1 H2 H' : Heap} (h : H1 = H2) (f : FitH n σ Φ H2 H') : FitH n σ Φ H1 H' := h ▸ f
theorem cnt_bin {c : Nat} (h : c < 120) : binA Tryz.prog .add 109 (.float .f64 (cnt c)) (.float .f64 4607182418800017408) = some (.float .f64 (cnt (c + 1))) := by
  simp [binA, floatOp, cnt_add h]
theorem c115 {T : List (Entry Tryz.prog)} (t : Tr) (hn : t.length ≤ 50) (hpos : 0 < t.length) (hkd : ∀ x, x ∈ t → x.kids.length ≤ 1000) (LB : Blk) (hR0 : Rounds T t LB) :
    CallAt (ctx T) 115 [.yld 2, .fptr [aNodes t] 0] ⟨3, [[(2, LB), (1, .cells [.nilS]), (0, .cells [aNodes t])]]⟩ (.tup [])
      ⟨4, [[(3, .cells (ints (orderOf t.length (kidsOf t)))), (2, LB), (1, .cells [.slc 3 0 (orderOf t.length (kidsOf t)).length (.rest 1)]), (0, .cells [aNodes t])]]⟩ := by
  have h1 := hR0.first
  simp only [h0R, stepV] at h1
  refine callAt_body (fn := Tryz.f115) (s0 := ⟨[0, 1, 3, 4, 5, 6, 7, 8, 9], [.yld 2, .fptr [aNodes t] 0, .undef, .undef, .undef, .undef, .undef, .undef, .undef], [], 118, ⟨3, [] :: [[(2, LB), (1, .cells [.nilS]), (0, .cells [aNodes t])]]⟩⟩) Tryz.func115 rfl rfl rfl ?_
  repeat refine wps_seq ?_
  refine wps_region (callOKY [⟨2, _, _, _, _, h1⟩]) ?_
  simp [zS, lenN, bS1, callY_hit, (show ¬ t.length = 0 by omega)]
  repeat refine wps_seq ?_
  refine wps_cond (t := false) rfl (fun h => by cases h) fun _ => ?_
  repeat refine wps_seq ?_
  refine wps_skip ?_
  simp
  repeat refine wps_seq ?_
  refine wps_region callOK ?_
  simp [zS, lenN, mkBool (show t.length ≤ 1000000 by omega)]
  have ix0 : ∀ b cap, indexAddrA Tryz.prog 97 (.slc b 0 t.length cap) (.int .i64 0) = some (.ptr b 0) := fun b cap => by simpa using ixB (b := b) (cap := cap) hpos
  have ly0 : layL [.bool true] 0 (bls (List.replicate t.length false)) = some (bls ((List.replicate t.length false).set 0 true)) := layB (by simpa using hpos)
  repeat refine wps_seq ?_
  refine wps_region callOK ?_
  simp [zS, ix0, ly0]
  repeat refine wps_seq ?_
  refine wps_region callOK ?_
  simp [zS]
  repeat refine wps_seq ?_
  refine wps_region callOK ?_
  simp [zS, bF0]
  have hu0 := unseen_set (s := List.replicate t.length false) (i := 0) (by simpa using hpos) (by simp [List.getD_eq_getElem?_getD, hpos])
  rw [unseen_rep] at hu0
  repeat refine wps_seq ?_
  refine wps_block (wps_loop' (fun x : Ls => (⟨[0, 1, 3, 4, 5, 6, 7, 8, 9], [.yld 2, .fptr [aNodes t] 0, .slc 5 0 t.length (.ex t.length), .float .f64 (cnt x.c), .slc 6 0 x.P.length x.cap, .undef, .undef, .undef, .undef], [], 118, hR t LB 7 4 (fR (x.P ++ x.G) x.s) x.a⟩ : St))
    (Lok t) (fun x => unseen x.s * 1002 + sm x.P) [(5, 6), (4, 5), (3, 4), (2, 2), (1, 1), (0, 0)] [] ⟨[(0, 0)], [], .ex 1, (List.replicate t.length false).set 0 true, [0], 0⟩
    ⟨.inr ⟨rfl, rfl⟩, by simp, by simp, .refl _, by simp; omega, by simp; omega, by simp; omega, by simp; omega⟩
    ⟨rfl, rfl, rfl, by simp [fitL, fitV, lookN, pureV, pureL, cnt], fit_R (t := t) (LB := LB) hR0.fit (m := 6) (a := 5) (b := 4) (k := 3) (P := [(0, 0)]) (s := (List.replicate t.length false).set 0 true) (L := [0]) (f := [(5, .cells [.int .i64 0, .int .i64 0]), (4, .cells (bls ((List.replicate t.length false).set 0 true)))]) rfl rfl rfl rfl rfl rfl (by omega) (by omega) (by omega) (by omega) (by omega) (by omega)⟩ ?_)
  rintro ⟨P, G, cap, s, a, c⟩ hx B hB
  have hcap := hx.cap
  have hs := hx.s
  have ha := hx.a
  have hr := hx.r
  have hpp := hx.p
  have hpu := hx.pu
  have hau := hx.au
  have hcu := hx.cu
  simp only [cap1] at hcap hs ha hr hpp hpu hau hcu
  rcases List.eq_nil_or_concat P with rfl | ⟨pre, ⟨i, j⟩, rfl⟩
  · repeat refine wps_seq ?_
    refine wps_region callOK ?_
    simp [zS, hR, fR, lenA]
    repeat refine wps_seq ?_
    refine wps_cond (t := false) rfl (fun h => by cases h) fun _ => ?_
    repeat refine wps_seq ?_
    refine wps_exit ?_
    simp
    have hae : a = orderOf t.length (kidsOf t) := order_end hpos hr
    rw [← hae]
    exact ⟨[], rfl, [(4, 3), (2, 2), (1, 1), (0, 0)], [], by simp [oneOr, fitV, fitL], fit_end (t := t) (LB := LB) hR0.fit (m := 7) (f := fR G s) (L := a) rfl rfl rfl rfl⟩
  · have hij := hpp (i, j) (by simp)
    have hi : i < t.length := hij.1
    have hj : j ≤ 1000 := hij.2
    simp only [List.concat_eq_append, List.length_append, List.length_singleton] at hcap hpu hcu
    have hpl : pre.length ≤ 1000 := by omega
    have hw : wr .i64 (pre.length : Int) = some (pre.length : Int) := wr_small (by omega) (by omega)
    repeat refine wps_seq ?_
    refine wps_region callOK ?_
    simp [zS, hR, fR, lenA]
    repeat refine wps_seq ?_
    refine wps_cond rfl (fun h => ?_) fun h => ?_
    · repeat refine wps_seq ?_
      refine wps_skip ?_
      simp
      repeat refine wps_seq ?_
      refine wps_block ?_
      repeat refine wps_seq ?_
      refine wps_region callOK ?_
      simp [zS, lenA, hw, ixF (show pre.length < pre.length + 1 by omega)]
      repeat refine wps_seq ?_
      refine wps_drawn mixed callOK (by decide +kernel) fun B_ hB_ => ?_
      simp [zS, mkBlk, guardA, evalD, stepD, clsOf, reserve, freshenAll, sameRecs, sameAll, sameAt, allPend, Heap.lay, ontoF, wantedBy, unwantedBy, getFr0, atN hi, Nd.cs, kidsOf_at hi]
      repeat refine wps_seq ?_
      refine wps_region callOK ?_
      simp [zS, getFr1, lenI]
      simp only [List.concat_eq_append, List.reverse_append, List.reverse_cons, List.reverse_nil, List.nil_append, List.singleton_append] at hr
      by_cases hjk : j < (kidsOf t i).length
      · obtain ⟨k, hkj⟩ : ∃ k, k = (kidsOf t i)[j] := ⟨_, rfl⟩
        have hk? : (kidsOf t i)[j]? = some k := by rw [List.getElem?_eq_getElem hjk, hkj]
        have hkl : (kidsOf t i).length ≤ 1000 := by rw [← kidsOf_at hi]; exact hkd _ (List.getElem_mem hi)
        repeat refine wps_seq ?_
        refine wps_cond (t := false) (by simp [opnd, St.get]; omega) (fun h => by cases h) fun _ => ?_
        repeat refine wps_seq ?_
        refine wps_skip ?_
        simp
        repeat refine wps_seq ?_
        refine wps_drawn mixed callOK (by decide +kernel) fun B_ hB_ => ?_
        simp [zS, mkBlk, guardA, evalD, stepD, clsOf, reserve, freshenAll, sameRecs, sameAll, sameAt, allPend, Heap.lay, ontoF, wantedBy, unwantedBy, getFr0, getFr1, atI hjk, ← hkj]
        have hly : layL [.int .i64 ((j : Int) + 1)] (pre.length * 2 + 1) (frs (pre ++ (i, j) :: G)) = some (frs (pre ++ (i, j + 1) :: G)) := by simpa using layFr (i := i) (j := j) (v := j + 1) (G := G) pre
        repeat refine wps_seq ?_
        refine wps_region callOK ?_
        simp [zS, getFr1, add_one (show j ≤ 1000000000 by omega), hly]
        have skipit : ∀ (hst : stp t.length (kidsOf t) ((i, j) :: pre.reverse, s, a) = some ((i, j + 1) :: pre.reverse, s, a)), Lok t ⟨pre ++ [(i, j + 1)], G, cap, s, a, c⟩ := fun hst =>
          ⟨by simpa [cap1] using hcap, hs, ha, by simpa using hr.one hst, fun e he => by
            rcases List.mem_append.1 he with he | he
            · exact hpp e (by simp [he])
            · simp at he; subst he; exact ⟨hi, by omega⟩, by simpa using hpu, hau, by simpa using hcu⟩
        by_cases h0 : k < 0
        · have hst : stp t.length (kidsOf t) ((i, j) :: pre.reverse, s, a) = some ((i, j + 1) :: pre.reverse, s, a) := by
            simp only [stp, hk?]; rw [if_neg (fun hx => by omega)]
          repeat refine wps_seq ?_
          refine wps_region callOK ?_
          simp [zS, h0]
          repeat refine wps_seq ?_
          refine wps_cond (t := true) rfl (fun _ => ?_) fun h => by cases h
          repeat refine wps_seq ?_
          refine wps_exit ?_
          simp
          exact hB _ ⟨pre ++ [(i, j + 1)], G, cap, s, a, c⟩ (by simp only [List.concat_eq_append, sm_app, sm]; omega) (skipit hst) ⟨[(6, 6), (5, 5), (4, 4), (2, 2), (1, 1), (0, 0)], [], rfl, rfl, rfl, by simp [fitL, fitV, lookN, pureV, pureL], fit_R (t := t) (LB := LB) hR0.fit (m := 30) (a := 6) (b := 5) (k := 4) (P := pre ++ [(i, j + 1)] ++ G) (s := s) (L := a) (f := [(6, .cells (frs (pre ++ (i, j + 1) :: G))), (5, .cells (bls s))]) (by simp [getF]) rfl rfl rfl rfl rfl (by omega) (by omega) (by omega) (by omega) (by omega) (by omega)⟩
        · obtain ⟨m, rfl⟩ := Int.eq_ofNat_of_zero_le (show 0 ≤ k by omega)
          by_cases h1 : m < t.length
          · have h1' : ¬ t.length ≤ m := by omega
            by_cases h2 : s.getD m true = false
            · have h2' : s[m]'(by omega) = false := by rw [List.getD_eq_getElem?_getD, List.getElem?_eq_getElem (by omega), Option.getD_some] at h2; exact h2
              repeat refine wps_seq ?_
              refine wps_region callOK ?_
              simp [zS, lenN, (show ¬ ((m : Int) < 0) by omega), h1', ixB h1, getB (show m < s.length by omega), h2']
              repeat refine wps_seq ?_
              refine wps_cond (t := false) rfl (fun h => by cases h) fun _ => ?_
              repeat refine wps_seq ?_
              refine wps_skip ?_
              simp
              have hlb := layB (s := s) (i := m) (by omega)
              repeat refine wps_seq ?_
              refine wps_region callOK ?_
              simp [zS, ixB h1, hlb]
              have hy := hR0.enter 30 (by omega) (pre ++ (i, j + 1) :: G) (s.set m true) a m i (cnt c) (by omega) ha
              simp only [hR, fR, stepV] at hy
              repeat refine wps_seq ?_
              refine wps_region (callOKY [⟨2, _, _, _, _, hy⟩]) ?_
              simp [zS, bS3, callY_hit]
              repeat refine wps_seq ?_
              refine wps_cond (t := false) rfl (fun h => by cases h) fun _ => ?_
              repeat refine wps_seq ?_
              refine wps_skip ?_
              simp
              repeat refine wps_seq ?_
              refine wps_region callOK ?_
              simp [zS, cnt_bin (show c < 120 by omega)]
              have hus := unseen_set (s := s) (i := m) (by omega) h2
              have hst : stp t.length (kidsOf t) ((i, j) :: pre.reverse, s, a) = some ((m, 0) :: (i, j + 1) :: pre.reverse, s.set m true, a ++ [(m : Int)]) := by
                simp only [stp, hk?]
                rw [if_pos ⟨by omega, by omega, by simpa using h2⟩]
                simp
              have hok : ∀ G' cap', (cap' = .rest 2) → Lok t ⟨pre ++ [(i, j + 1)] ++ [(m, 0)], G', cap', s.set m true, a ++ [(m : Int)], c + 1⟩ := fun G' cap' hc' =>
                ⟨.inl hc', by simp [hs], by simp, by simpa using hr.one hst, fun e he => by
                  simp only [List.mem_append, List.mem_singleton] at he
                  rcases he with (he | he) | he
                  · exact hpp e (by simp [he])
                  · subst he; exact ⟨hi, by omega⟩
                  · subst he; exact ⟨h1, Nat.zero_le _⟩, by simp; omega, by simp; omega, by simp; omega⟩
              have hme : unseen (s.set m true) * 1002 + sm (pre ++ [(i, j + 1)] ++ [(m, 0)]) < unseen s * 1002 + sm (pre.concat (i, j)) := by
                simp only [List.concat_eq_append, sm_app, sm]; omega
              have hcap2 : cap = .rest 2 ∨ (cap = .ex 1 ∧ pre.length + 1 + G.length = 1) := hcap
              rcases hcap2 with hc | ⟨hc, hc1⟩
              · subst hc
                cases G with
                | cons g G' =>
                  have hap := appP1 (l := pre ++ [(i, j + 1)]) (G := G') (g := g) (m := m) (s := s.set m true) (f0 := [(30, .cells (ints (a ++ [(m : Int)]))), (2, LB), (1, .cells [.slc 30 0 (a.length + 1) (.rest 1)]), (0, .cells [aNodes t])]) (by simp; omega)
                  simp only [List.length_append, List.length_singleton, List.append_assoc, List.singleton_append] at hap
                  repeat refine wps_seq ?_
                  refine wps_region callOK ?_
                  simp [zS, bF1, hap]
                  exact hB _ ⟨pre ++ [(i, j + 1)] ++ [(m, 0)], G', .rest 2, s.set m true, a ++ [(m : Int)], c + 1⟩ hme (hok _ _ rfl) ⟨[(6, 6), (5, 5), (30, 4), (2, 2), (1, 1), (0, 0)], [], rfl, rfl, rfl, by simp [fitL, fitV, lookN, pureV, pureL], FitH.eqL (by simp [hR]) (fit_R (t := t) (LB := LB) hR0.fit (m := 32) (a := 6) (b := 5) (k := 30) (P := pre ++ [(i, j + 1)] ++ [(m, 0)] ++ G') (s := s.set m true) (L := a ++ [(m : Int)]) (f := [(31, .cells [.int .i64 (m : Int), .int .i64 0]), (6, .cells (frs (pre ++ (i, j + 1) :: (m, 0) :: G'))), (5, .cells (bls (s.set m true)))]) (by simp [getF]) rfl rfl rfl rfl rfl (by omega) (by omega) (by omega) (by omega) (by omega) (by omega))⟩
                | nil =>
                  have hap := appP2 (l := pre ++ [(i, j + 1)]) (m := m) (s := s.set m true) (f0 := [(30, .cells (ints (a ++ [(m : Int)]))), (2, LB), (1, .cells [.slc 30 0 (a.length + 1) (.rest 1)]), (0, .cells [aNodes t])]) (by simp; omega)
                  simp only [List.length_append, List.length_singleton, List.append_assoc, List.singleton_append] at hap
                  repeat refine wps_seq ?_
                  refine wps_region callOK ?_
                  simp [zS, bF1, hap]
                  exact hB _ ⟨pre ++ [(i, j + 1)] ++ [(m, 0)], [], .rest 2, s.set m true, a ++ [(m : Int)], c + 1⟩ hme (hok _ _ rfl) ⟨[(32, 6), (5, 5), (30, 4), (2, 2), (1, 1), (0, 0)], [], rfl, rfl, rfl, by simp [fitL, fitV, lookN, pureV, pureL], FitH.eqL (by simp [hR]) (fit_R (t := t) (LB := LB) hR0.fit (m := 33) (a := 32) (b := 5) (k := 30) (P := pre ++ [(i, j + 1)] ++ [(m, 0)] ++ []) (s := s.set m true) (L := a ++ [(m : Int)]) (f := [(32, .cells (frs (pre ++ [(i, j + 1), (m, 0)]))), (31, .cells [.int .i64 (m : Int), .int .i64 0]), (5, .cells (bls (s.set m true)))]) (by simp [getF]) rfl rfl rfl rfl rfl (by omega) (by omega) (by omega) (by omega) (by omega) (by omega))⟩
              · have hG : G = [] := List.length_eq_zero_iff.1 (by omega)
                have hpre : pre = [] := List.length_eq_zero_iff.1 (by omega)
                subst hc hG hpre
                have hap := appP3 (l := [(i, j + 1)]) (m := m) (s := s.set m true) (f0 := [(30, .cells (ints (a ++ [(m : Int)]))), (2, LB), (1, .cells [.slc 30 0 (a.length + 1) (.rest 1)]), (0, .cells [aNodes t])]) rfl
                simp only [List.length_append, List.length_singleton, List.append_assoc, List.singleton_append] at hap
                repeat refine wps_seq ?_
                refine wps_region callOK ?_
                simp [zS, bF1, hap]
                exact hB _ ⟨[] ++ [(i, j + 1)] ++ [(m, 0)], [], .rest 2, s.set m true, a ++ [(m : Int)], c + 1⟩ hme (hok _ _ rfl) ⟨[(32, 6), (5, 5), (30, 4), (2, 2), (1, 1), (0, 0)], [], rfl, rfl, rfl, by simp [fitL, fitV, lookN, pureV, pureL], FitH.eqL (by simp [hR]) (fit_R (t := t) (LB := LB) hR0.fit (m := 33) (a := 32) (b := 5) (k := 30) (P := [] ++ [(i, j + 1)] ++ [(m, 0)] ++ []) (s := s.set m true) (L := a ++ [(m : Int)]) (f := [(32, .cells (frs [(i, j + 1), (m, 0)])), (31, .cells [.int .i64 (m : Int), .int .i64 0]), (6, .cells (frs [(i, j + 1)])), (5, .cells (bls (s.set m true)))]) (by simp [getF]) rfl rfl rfl rfl rfl (by omega) (by omega) (by omega) (by omega) (by omega) (by omega))⟩
            · have h2s : s.getD m true = true := by cases hh : s.getD m true with
                | true => rfl
                | false => exact absurd hh h2
              have h2' : s[m]'(by omega) = true := by rw [List.getD_eq_getElem?_getD, List.getElem?_eq_getElem (by omega), Option.getD_some] at h2s; exact h2s
              have hst : stp t.length (kidsOf t) ((i, j) :: pre.reverse, s, a) = some ((i, j + 1) :: pre.reverse, s, a) := by
                simp only [stp, hk?]; rw [if_neg (fun hx => h2 (by simpa using hx.2.2))]
              repeat refine wps_seq ?_
              refine wps_region callOK ?_
              simp [zS, lenN, (show ¬ ((m : Int) < 0) by omega), h1', ixB h1, getB (show m < s.length by omega), h2']
              repeat refine wps_seq ?_
              refine wps_cond (t := true) rfl (fun _ => ?_) fun h => by cases h
              repeat refine wps_seq ?_
              refine wps_exit ?_
              simp
              exact hB _ ⟨pre ++ [(i, j + 1)], G, cap, s, a, c⟩ (by simp only [List.concat_eq_append, sm_app, sm]; omega) (skipit hst) ⟨[(6, 6), (5, 5), (4, 4), (2, 2), (1, 1), (0, 0)], [], rfl, rfl, rfl, by simp [fitL, fitV, lookN, pureV, pureL], fit_R (t := t) (LB := LB) hR0.fit (m := 30) (a := 6) (b := 5) (k := 4) (P := pre ++ [(i, j + 1)] ++ G) (s := s) (L := a) (f := [(6, .cells (frs (pre ++ (i, j + 1) :: G))), (5, .cells (bls s))]) (by simp [getF]) rfl rfl rfl rfl rfl (by omega) (by omega) (by omega) (by omega) (by omega) (by omega)⟩
          · have h1' : t.length ≤ m := by omega
            have hst : stp t.length (kidsOf t) ((i, j) :: pre.reverse, s, a) = some ((i, j + 1) :: pre.reverse, s, a) := by
              simp only [stp, hk?]; rw [if_neg (fun hx => by omega)]
            repeat refine wps_seq ?_
            refine wps_region callOK ?_
            simp [zS, lenN, (show ¬ ((m : Int) < 0) by omega), h1']
            repeat refine wps_seq ?_
            refine wps_cond (t := true) rfl (fun _ => ?_) fun h => by cases h
            repeat refine wps_seq ?_
            refine wps_exit ?_
            simp
            exact hB _ ⟨pre ++ [(i, j + 1)], G, cap, s, a, c⟩ (by simp only [List.concat_eq_append, sm_app, sm]; omega) (skipit hst) ⟨[(6, 6), (5, 5), (4, 4), (2, 2), (1, 1), (0, 0)], [], rfl, rfl, rfl, by simp [fitL, fitV, lookN, pureV, pureL], fit_R (t := t) (LB := LB) hR0.fit (m := 30) (a := 6) (b := 5) (k := 4) (P := pre ++ [(i, j + 1)] ++ G) (s := s) (L := a) (f := [(6, .cells (frs (pre ++ (i, j + 1) :: G))), (5, .cells (bls s))]) (by simp [getF]) rfl rfl rfl rfl rfl (by omega) (by omega) (by omega) (by omega) (by omega) (by omega)⟩
      · have hy := hR0.leave 17 (by omega) (pre ++ (i, j) :: G) s a i 0 (cnt c) (by omega)
        simp only [hR, fR, stepV] at hy
        repeat refine wps_seq ?_
        refine wps_cond (t := true) (by simp [opnd, St.get]; omega) (fun _ => ?_) fun h => by cases h
        repeat refine wps_seq ?_
        refine wps_region (callOKY [⟨2, _, _, _, _, hy⟩]) ?_
        simp [zS, getFr0, bS2, callY_hit]
        repeat refine wps_seq ?_
        refine wps_cond (t := false) rfl (fun h => by cases h) fun _ => ?_
        repeat refine wps_seq ?_
        refine wps_skip ?_
        simp
        have hc2 : cap = .rest 2 ∨ (cap = .ex 1 ∧ pre.length + 1 + G.length = 1) := hcap
        have hsl : ∀ m, sliceA Tryz.prog ⟨m, [[(6, .cells (frs (pre ++ (i, j) :: G))), (5, .cells (bls s))], [(4, .cells (ints a)), (2, LB), (1, .cells [.slc 4 0 a.length (.rest 1)]), (0, .cells [aNodes t])]]⟩ 140 (.slc 6 0 (pre.length + 1) cap) none (some (.int .i64 (pre.length : Int))) none = some (.slc 6 0 pre.length cap) := fun m =>
          slPath (cs := frs (pre ++ (i, j) :: G)) (kn := pre.length + 1 + G.length) (by simp [Heap.get, getFs, getF]) (by rw [len_frs]; simp; omega) (by omega) hc2
        repeat refine wps_seq ?_
        refine wps_region callOK ?_
        simp [zS, lenA, hw, opndO, hsl]
        repeat refine wps_seq ?_
        refine wps_region callOK ?_
        simp [zS, cnt_bin (show c < 120 by omega)]
        repeat refine wps_seq ?_
        refine wps_exit ?_
        simp
        refine hB _ ⟨pre, (i, j) :: G, cap, s, a, c + 1⟩ ?_ ⟨?_, hs, ha, ?_, fun e he => hpp e (by simp [he]), by simp only; omega, hau, by simp only; omega⟩ ⟨[(6, 6), (5, 5), (4, 4), (2, 2), (1, 1), (0, 0)], [], rfl, rfl, rfl, by simp [fitL, fitV, lookN, pureV, pureL], fit_R (t := t) (LB := LB) hR0.fit (m := 17) (a := 6) (b := 5) (k := 4) (P := pre ++ (i, j) :: G) (s := s) (L := a) (f := fR (pre ++ (i, j) :: G) s) rfl rfl rfl rfl rfl rfl (by omega) (by omega) (by omega) (by omega) (by omega) (by omega)⟩
        · simp only [List.concat_eq_append, sm_app, sm]; omega
        · simp only [cap1, List.length_cons]; rcases hc2 with h | ⟨h, h'⟩
          · exact .inl h
          · exact .inr ⟨h, by omega⟩
        · refine hr.one ?_
          have : (kidsOf t i)[j]? = none := List.getElem?_eq_none (by omega)
          simp [stp, this]
    · simp at h
def fW (t : Tr) : AV := .func (.func 115) [] [.fptr [aNodes t] 0]
theorem pure_fW (t : Tr) : pureV (fW t) = true := by simp [fW, pureV, pureL]
theorem c82 {T : List (Entry Tryz.prog)} (t : Tr) : CallAt (ctx T) 82 [aTree t] ⟨0, []⟩ (fW t) ⟨0, []⟩ := by
  refine callAt_body (fn := Tryz.f82) (s0 := ⟨[0, 1, 2], [aTree t, .undef, .undef], [], 4, ⟨0, [[]]⟩⟩) Tryz.func82 rfl rfl rfl ?_
  repeat refine wps_seq ?_
  refine wps_region callOK ?_
  simp [zS, aTree]
  repeat refine wps_seq ?_
  refine wps_region callOK ?_
  simp [zS]
  repeat refine wps_seq ?_
  refine wps_ret ?_
  simp [retVal, Tryz.f82, oneOr]
  refine ⟨[], [(0, [aNodes t])], by simp [fW, fitV, fitL, lookC], .froze (by simp) fun x hx => ?_⟩
  rw [List.mem_singleton] at hx
  subst hx
  exact ⟨[aNodes t], by simp [Heap.get, getFs, getF], fitL_pure (by simp [pureL]), by simp [pureL]⟩
noncomputable def e82 : Entry Tryz.prog := mkE 82 [[]] (fun t : Tr => [aTree t]) (fun _ => True) fW fun t _ => c82 (T := []) t
theorem k82 {T : List (Entry Tryz.prog)} (hT : findE 82 T = some e82.g) (t : Tr) (H : Heap) : callL (ctx T) (.fn 82) [aTree t] H = some (fW t, H) :=
  mkE_pure hT injT t trivial (by simp [pureL]) (by simp [thawL, th_aTree]) H
def rgOf : Code → Option (Code × Code)
  | .rangeFunc _ _ a b => some (a, b)
  | .seq a b => match rgOf a with
    | some x => some x
    | none => rgOf b
  | .block _ b => rgOf b
  | _ => none
noncomputable def asL : Code := match Tryz.f53.body with
  | some c => match rgOf c with
    | some x => x.1
    | none => .skip
  | none => .skip
noncomputable def bdL : Code := match Tryz.f53.body with
  | some c => match rgOf c with
    | some x => x.2
    | none => .skip
  | none => .skip
noncomputable def LBs (st : LoopState) (t : Tr) : Blk := .loop st none [0, 1, 2, 3, 4, 6, 7] [aTree t, .ptr 0 0, .nilS, .ptr 1 0, .undef, fW t, .undef] [] 17 [7] asL bdL
theorem LB_fit (t : Tr) : ∀ σ, lookN 0 σ = some 0 → lookN 1 σ = some 1 → fitB σ [] (LBs .ready t) (LBs .ready t) := by
  intro σ h0 h1
  simp [LBs, fitB, fitL, fitV, h0, h1, fitV_pure, pure_fW]
@[simp] theorem alStep (H : Heap) : alV Tryz.prog H 111 = some (.ptr H.n 0, H.new (.cells [.int .i64 0, .int .i64 0, .float .f64 0, .bool false])) := rfl
theorem app_nil {v : Int} {cs : List AV} {r : List (List (Nat × Blk))} : appendA Tryz.prog ⟨5, [(4, .cells [.int .i64 v]), (3, .cells cs)] :: r⟩ 3 .nilS (.slc 4 0 1 (.ex 1)) = some (.slc 5 0 1 (.rest 1), ⟨6, [(5, .cells [.int .i64 v]), (4, .cells [.int .i64 v]), (3, .cells cs)] :: r⟩) := rfl
theorem app_in {L : List Int} {v : Int} {cs : List AV} {LB : Blk} {P : List (Nat × Nat)} {s : List Bool} {r : List (Nat × Blk)} (hne : L ≠ []) (hl : L.length ≤ 1000000) :
    appendA Tryz.prog ⟨32, [[(31, .cells [.int .i64 v]), (30, .cells cs)], [(6, .cells (frs P)), (5, .cells (bls s))], (4, .cells (ints L)) :: (2, LB) :: r]⟩ 3 (.slc 4 0 L.length (.rest 1)) (.slc 31 0 1 (.ex 1)) =
      some (.slc 32 0 (L.length + 1) (.rest 1), ⟨33, [[(32, .cells (ints (L ++ [v]))), (31, .cells [.int .i64 v]), (30, .cells cs)], [(6, .cells (frs P)), (5, .cells (bls s))], (2, LB) :: r]⟩) := by
  have h := own_append (P := Tryz.prog) (H := ⟨32, [[(31, .cells [.int .i64 v]), (30, .cells cs)], [(6, .cells (frs P)), (5, .cells (bls s))], (4, .cells (ints L)) :: (2, LB) :: r]⟩) (elem := 3) (b := 4) (n := 0) (es := ints L) (cs := [.int .i64 v]) (x := .slc 31 0 1 (.ex 1)) szT3 byT3 zeT3 rfl (by omega) (by omega) rfl
    (by simp [srcCells, readCells, Heap.get, getFs, getF, Blk.rd, subL, takeL]) rfl rfl (el_int L) (by simp; omega) (fun _ => by simp [Heap.get, getFs, getF]) (fun he => absurd he (ints_ne hne)) (by intro cs; rfl)
  have hd : Heap.drop ⟨32, [[(31, .cells [.int .i64 v]), (30, .cells cs)], [(6, .cells (frs P)), (5, .cells (bls s))], (4, .cells (ints L)) :: (2, LB) :: r]⟩ 4 = ⟨32, [[(31, .cells [.int .i64 v]), (30, .cells cs)], [(6, .cells (frs P)), (5, .cells (bls s))], (2, LB) :: r]⟩ := by simp [Heap.drop, killFs, getF, killF]
  have e : ints L ++ [.int .i64 v] = ints (L ++ [v]) := by simp [ints, aInt]
  rw [hd, flat_ints, e, ownV_ne (ints_ne hne)] at h
  simpa [Heap.new, pushF] using h
theorem refs_ints (L : List Int) : refsB (.cells (ints L)) = [] := by
  show (L.map aInt).flatMap (refs 4) = []
  induction L with
  | nil => rfl
  | cons x r ih => rw [List.map_cons, List.flatMap_cons, ih]; rfl
theorem fit_round {n k m : Nat} {t : Tr} {top f : List (Nat × Blk)} {L : List Int} {P : List (Nat × Nat)} {s : List Bool} (hk : n ≤ k) (hn : 7 ≤ n) (ht : ∀ b, b < 7 → getF b top = none) (htk : getF k top = none) :
    FitH n [(k, n), (6, 6), (5, 5), (2, 2), (1, 1), (0, 0)] [] ⟨m, [top, [(6, .cells (frs P)), (5, .cells (bls s))], [(k, .cells (ints L)), (2, LBs .ready t), (1, .cells [.slc k 0 L.length (.rest 1)]), (0, .cells [aNodes t])]]⟩ (hR t (LBs .ready t) (n + 1) n (fR P s) L) where
  nd1 := by simp; omega
  nd2 := by simp; omega
  nd3 := by simp [hR, fR, Heap.ents]; omega
  lt := by simp [hR]; omega
  idn := by simp; omega
  num := by simp [hR]
  src := by
    have e6 : Nat.beq k 6 = false := beqN_ne (by omega)
    have e5 : Nat.beq k 5 = false := beqN_ne (by omega)
    have e2 : Nat.beq k 2 = false := beqN_ne (by omega)
    have e1 : Nat.beq k 1 = false := beqN_ne (by omega)
    have e0 : Nat.beq k 0 = false := beqN_ne (by omega)
    have f6 : Nat.beq 6 k = false := beqN_ne (by omega)
    have f5 : Nat.beq 5 k = false := beqN_ne (by omega)
    have g0 : ¬ k = 0 := by omega
    have g1 : ¬ k = 1 := by omega
    intro e he
    simp [hR, fR, Heap.ents] at he
    rcases he with rfl | rfl | rfl | rfl | rfl | rfl
    · exact ⟨6, .cells (frs P), by simp, by simp [Heap.get, getFs, ht, getF], fitL_pure (pure_frs _)⟩
    · exact ⟨5, .cells (bls s), by simp, by simp [Heap.get, getFs, ht, getF], fitL_pure (pure_bls _)⟩
    · exact ⟨k, .cells (ints L), by simp, by simp [Heap.get, getFs, htk, getF, f6, f5], fitL_pure (pure_ints _)⟩
    · exact ⟨2, LBs .ready t, by simp, by simp [Heap.get, getFs, ht, getF, e2], LB_fit t _ (by simp [lookN, g0]) (by simp [lookN, g1])⟩
    · exact ⟨1, .cells [.slc k 0 L.length (.rest 1)], by simp, by simp [Heap.get, getFs, ht, getF, e1], by simp [fitB, fitL, fitV, lookN]⟩
    · exact ⟨0, .cells [aNodes t], by simp, by simp [Heap.get, getFs, ht, getF, e0], fitL_pure (by simp [pureL])⟩
  frz := fun x h => by cases h
theorem fit_first {t : Tr} {cs : List AV} : FitH 3 [(5, 3), (2, 2), (1, 1), (0, 0)] [] ⟨6, [[(4, .cells [.int .i64 0]), (3, .cells cs)], [], [(5, .cells (ints [0])), (2, LBs .ready t), (1, .cells [.slc 5 0 1 (.rest 1)]), (0, .cells [aNodes t])]]⟩
    ⟨4, [[], [(3, .cells (ints [0])), (2, LBs .ready t), (1, .cells [.slc 3 0 1 (.rest 1)]), (0, .cells [aNodes t])]]⟩ where
  nd1 := by simp
  nd2 := by simp
  nd3 := by simp [Heap.ents]
  lt := by simp
  idn := by simp
  num := by simp
  src := by
    intro e he
    simp only [Heap.ents, List.flatten_cons, List.flatten_nil, List.nil_append, List.append_nil, List.mem_cons, List.not_mem_nil, or_false] at he
    rcases he with rfl | rfl | rfl | rfl
    · exact ⟨5, .cells (ints [0]), by simp, rfl, fitL_pure (pure_ints _)⟩
    · exact ⟨2, LBs .ready t, by simp, rfl, LB_fit t _ (by simp [lookN]) (by simp [lookN])⟩
    · exact ⟨1, .cells [.slc 5 0 1 (.rest 1)], by simp, rfl, by simp [fitB, fitL, fitV, lookN]⟩
    · exact ⟨0, .cells [aNodes t], by simp, rfl, fitL_pure (by simp [pureL])⟩
  frz := fun x h => by cases h
theorem r_first {T : List (Entry Tryz.prog)} (t : Tr) : YieldAt (ctx T) 2 [stepV 0 (-1) 0 false] (h0R t (LBs .ready t)) (.bool true) ⟨4, [[], [(3, .cells (ints [0])), (2, LBs .ready t), (1, .cells [.slc 3 0 1 (.rest 1)]), (0, .cells [aNodes t])]]⟩ := by
  generalize hH' : (⟨4, [[], [(3, .cells (ints [0])), (2, LBs .ready t), (1, .cells [.slc 3 0 1 (.rest 1)]), (0, .cells [aNodes t])]]⟩ : Heap) = H'
  refine yieldAt_body (b := 2) (pend := none) (ks := [0, 1, 2, 3, 4, 6, 7]) (vs := [aTree t, .ptr 0 0, .nilS, .ptr 1 0, .undef, fW t, .undef]) (ts := []) (sz := 17) (ps := [7]) (assign := asL) (body := bdL) (s1 := ⟨[0, 1, 2, 3, 4, 6, 7], [aTree t, .ptr 0 0, .nilS, .ptr 1 0, .undef, fW t, stepV 0 (-1) 0 false], [], 17, ⟨3, [] :: (h0R t (LBs .ready t)).fs⟩⟩) rfl rfl fun l => ?_
  simp only [asL, rgOf, Tryz.f53, h0R, stepV]
  repeat refine wps_seq ?_
  refine wps_region callOK ?_
  simp [zS, LBs]
  refine ⟨_, _, _, _, _, _, _, _, ⟨rfl, rfl, rfl, rfl, rfl, rfl, rfl, rfl⟩, ?_⟩
  obtain ⟨LBb, hLBb⟩ : ∃ LBb, LBb = LBs .busy t := ⟨_, rfl⟩
  have hLBb' := hLBb
  unfold LBs at hLBb'
  rw [← hLBb']
  simp only [bdL, rgOf, Tryz.f53]
  repeat refine wps_seq ?_
  refine wps_block ?_
  repeat refine wps_seq ?_
  refine wps_region callOK ?_
  simp [zS]
  repeat refine wps_seq ?_
  refine wps_cond (t := true) rfl (fun _ => ?_) fun h => by cases h
  repeat refine wps_seq ?_
  refine wps_region callOK ?_
  simp [zS, app_nil, promote, reach, getF, refsB, refs, killF, ontoF, refsF]
  subst hH'
  exact ⟨_, _, _, _, _, _, _, _, _, hLBb', rfl, _, [], fit_first⟩
theorem fit_leave {t : Tr} {top : List (Nat × Blk)} {L : List Int} {P : List (Nat × Nat)} {s : List Bool} (ht : ∀ b, b < 7 → getF b top = none) :
    FitH 17 [(6, 6), (5, 5), (4, 4), (2, 2), (1, 1), (0, 0)] [] ⟨18, [top, [(6, .cells (frs P)), (5, .cells (bls s))], [(4, .cells (ints L)), (2, LBs .ready t), (1, .cells [.slc 4 0 L.length (.rest 1)]), (0, .cells [aNodes t])]]⟩ (hR t (LBs .ready t) 17 4 (fR P s) L) where
  nd1 := by simp
  nd2 := by simp
  nd3 := by simp [hR, fR, Heap.ents]
  lt := by simp [hR]
  idn := by simp
  num := by simp [hR]
  src := by
    intro e he
    simp [hR, fR, Heap.ents] at he
    rcases he with rfl | rfl | rfl | rfl | rfl | rfl
    · exact ⟨6, .cells (frs P), by simp, by simp [Heap.get, getFs, ht, getF], fitL_pure (pure_frs _)⟩
    · exact ⟨5, .cells (bls s), by simp, by simp [Heap.get, getFs, ht, getF], fitL_pure (pure_bls _)⟩
    · exact ⟨4, .cells (ints L), by simp, by simp [Heap.get, getFs, ht, getF], fitL_pure (pure_ints _)⟩
    · exact ⟨2, LBs .ready t, by simp, by simp [Heap.get, getFs, ht, getF], LB_fit t _ (by simp [lookN]) (by simp [lookN])⟩
    · exact ⟨1, .cells [.slc 4 0 L.length (.rest 1)], by simp, by simp [Heap.get, getFs, ht, getF], by simp [fitB, fitL, fitV, lookN]⟩
    · exact ⟨0, .cells [aNodes t], by simp, by simp [Heap.get, getFs, ht, getF], fitL_pure (by simp [pureL])⟩
  frz := fun x h => by cases h
theorem getF_one {b k : Nat} {x : Blk} (h : k ≠ b) : getF b [(k, x)] = none := by unfold getF; rw [beqN_ne h]; rfl
theorem r_leave {T : List (Entry Tryz.prog)} (t : Tr) (P : List (Nat × Nat)) (s : List Bool) (L : List Int) (node up : Int) (c : Nat) : YieldAt (ctx T) 2 [stepV node up c true] (hR t (LBs .ready t) 17 4 (fR P s) L) (.bool true) (hR t (LBs .ready t) 17 4 (fR P s) L) := by
  generalize hH' : (hR t (LBs .ready t) 17 4 (fR P s) L) = H'
  have hH := hH'
  simp only [hR, fR] at hH'
  rw [← hH']
  refine yieldAt_body (b := 2) (pend := none) (ks := [0, 1, 2, 3, 4, 6, 7]) (vs := [aTree t, .ptr 0 0, .nilS, .ptr 1 0, .undef, fW t, .undef]) (ts := []) (sz := 17) (ps := [7]) (assign := asL) (body := bdL) (s1 := ⟨[0, 1, 2, 3, 4, 6, 7], [aTree t, .ptr 0 0, .nilS, .ptr 1 0, .undef, fW t, stepV node up c true], [], 17, ⟨17, [] :: (hR t (LBs .ready t) 17 4 (fR P s) L).fs⟩⟩) rfl rfl fun l => ?_
  rw [hH']
  simp only [asL, rgOf, Tryz.f53, hR, fR, stepV]
  repeat refine wps_seq ?_
  refine wps_region callOK ?_
  simp [zS, LBs]
  refine ⟨_, _, _, _, _, _, _, _, ⟨rfl, rfl, rfl, rfl, rfl, rfl, rfl, rfl⟩, ?_⟩
  obtain ⟨LBb, hLBb⟩ : ∃ LBb, LBb = LBs .busy t := ⟨_, rfl⟩
  have hLBb' := hLBb
  unfold LBs at hLBb'
  rw [← hLBb']
  simp only [bdL, rgOf, Tryz.f53]
  repeat refine wps_seq ?_
  refine wps_block ?_
  repeat refine wps_seq ?_
  refine wps_region callOK ?_
  simp [zS]
  repeat refine wps_seq ?_
  refine wps_cond (t := false) rfl (fun h => by cases h) fun _ => ?_
  repeat refine wps_seq ?_
  refine wps_skip ?_
  simp [Heap.get, Heap.set, getFs, getF, setFs, setF]
  refine ⟨_, _, _, _, _, _, _, _, _, hLBb', rfl, ?_⟩
  subst hH
  exact ⟨_, [], fit_leave (t := t) (L := L) (P := P) (s := s) (top := [(17, .cells [.int .i64 node, .int .i64 up, .float .f64 c, .bool true])]) fun b hb => getF_one (by omega)⟩
theorem reach_one {n b : Nat} {k : Blk} {x : Nat × Blk} {f acc : List (Nat × Blk)} (h : getF b (x :: f) = some k) (hk : refsB k = []) : reach (Nat.succ (Nat.succ n)) [b] (x :: f) acc = ((b, k) :: acc, killF b (x :: f)) := by
  unfold reach
  simp only [h, hk, List.nil_append]
  unfold reach
  rfl
theorem reach_no {n b : Nat} {x : Nat × Blk} {f acc : List (Nat × Blk)} (h : getF b (x :: f) = none) : reach (Nat.succ (Nat.succ n)) [b] (x :: f) acc = (acc, x :: f) := by
  unfold reach
  simp only [h]
  unfold reach
  rfl
theorem prom_gen {b c : Nat} {k : Blk} {x y : Nat × Blk} {f1 f2 f3 : List (Nat × Blk)} {kb : Blk} (n1 : getF b (x :: f1) = none) (n2 : getF b (y :: f2) = none) (n3 : getF b f3 = some kb) (h1 : getF c (x :: f1) = some k) (hk : refsB k = []) (h2 : getF c (y :: f2) = none) :
    promote b [c] [] [x :: f1, y :: f2, f3] = [killF c (x :: f1), y :: f2, (c, k) :: f3] := by
  have r1 : reach 100000 [c] (x :: f1) [] = ([(c, k)], killF c (x :: f1)) := reach_one (n := 99998) h1 hk
  have r2 : reach 100000 [c] (y :: f2) [] = ([], y :: f2) := reach_no (n := 99998) h2
  have e1 : refsF [(c, k)] ++ [c] = [c] := by simp [refsF, hk]
  have e2 : refsF [] ++ [c] = [c] := rfl
  unfold promote
  rw [n1]
  simp only [r1, e1]
  unfold promote
  rw [n2]
  simp only [r2, e2]
  unfold promote
  rw [n3]
  rfl
theorem prom {A B C D X LB : Blk} {L : List Int} {r : List (Nat × Blk)} : promote 1 [32] [] [[(32, .cells (ints L)), (31, A), (30, B)], [(6, C), (5, D)], (2, LB) :: (1, X) :: r] = [[(31, A), (30, B)], [(6, C), (5, D)], (32, .cells (ints L)) :: (2, LB) :: (1, X) :: r] :=
  prom_gen (b := 1) (c := 32) (k := .cells (ints L)) (kb := X) rfl rfl rfl rfl (refs_ints L) rfl
theorem r_enter {T : List (Entry Tryz.prog)} (t : Tr) (P : List (Nat × Nat)) (s : List Bool) (L : List Int) (node up : Int) (c : Nat) (hl : L.length ≤ 1000000) (hne : L ≠ []) : YieldAt (ctx T) 2 [stepV node up c false] (hR t (LBs .ready t) 30 4 (fR P s) L) (.bool true) (hR t (LBs .ready t) 31 30 (fR P s) (L ++ [node])) := by
  generalize hH' : (hR t (LBs .ready t) 31 30 (fR P s) (L ++ [node])) = H'
  refine yieldAt_body (b := 2) (pend := none) (ks := [0, 1, 2, 3, 4, 6, 7]) (vs := [aTree t, .ptr 0 0, .nilS, .ptr 1 0, .undef, fW t, .undef]) (ts := []) (sz := 17) (ps := [7]) (assign := asL) (body := bdL) (s1 := ⟨[0, 1, 2, 3, 4, 6, 7], [aTree t, .ptr 0 0, .nilS, .ptr 1 0, .undef, fW t, stepV node up c false], [], 17, ⟨30, [] :: (hR t (LBs .ready t) 30 4 (fR P s) L).fs⟩⟩) rfl rfl fun l => ?_
  simp only [asL, rgOf, Tryz.f53, hR, fR, stepV]
  repeat refine wps_seq ?_
  refine wps_region callOK ?_
  simp [zS, LBs]
  refine ⟨_, _, _, _, _, _, _, _, ⟨rfl, rfl, rfl, rfl, rfl, rfl, rfl, rfl⟩, ?_⟩
  obtain ⟨LBb, hLBb⟩ : ∃ LBb, LBb = LBs .busy t := ⟨_, rfl⟩
  have hLBb' := hLBb
  unfold LBs at hLBb'
  rw [← hLBb']
  simp only [bdL, rgOf, Tryz.f53]
  repeat refine wps_seq ?_
  refine wps_block ?_
  repeat refine wps_seq ?_
  refine wps_region callOK ?_
  simp [zS]
  repeat refine wps_seq ?_
  refine wps_cond (t := true) rfl (fun _ => ?_) fun h => by cases h
  repeat refine wps_seq ?_
  refine wps_region callOK ?_
  simp [zS, app_in hne hl, prom, getF, refs]
  subst hH'
  refine ⟨_, _, _, _, _, _, _, _, _, hLBb', rfl, _, [], FitH.eqL (by simp [LBs, leaveA]) (fit_round (f := []) (n := 30) (k := 32) (m := 33) (t := t) (L := L ++ [node]) (P := P) (s := s) (top := [(31, .cells [.int .i64 node]), (30, .cells [.int .i64 node, .int .i64 up, .float .f64 c, .bool false])]) (by omega) (by omega) ?_ ?_)⟩
  · intro b hb; unfold getF; rw [beqN_ne (by omega)]; exact getF_one (by omega)
  · rfl
theorem rounds {T : List (Entry Tryz.prog)} (t : Tr) : Rounds T t (LBs .ready t) where
  fit := LB_fit t
  first := r_first t
  leave := fun m hm P s L node up c _ => by subst hm; exact r_leave t P s L node up c
  enter := fun m hm P s L node up c hl hne => by subst hm; exact r_enter t P s L node up c hl hne
noncomputable def LBx (t : Tr) : Blk := .loop .ready none [0, 1, 2, 3, 4, 6, 7] [aTree t, .ptr 0 0, .nilS, .ptr 1 0, .undef, fW t, .undef] [(5, aTree t)] 17 [7] asL bdL
theorem call_List {T : List (Entry Tryz.prog)} (t : Tr) (hn : t.length ≤ 50) (hpos : 0 < t.length) (hkd : ∀ x, x ∈ t → x.kids.length ≤ 1000) :
    CallAt (ctx T) 115 [.yld 2, .fptr [aNodes t] 0] ⟨3, [[(2, LBx t), (1, .cells [.nilS]), (0, .cells [aNodes t])]]⟩ (.tup [])
      ⟨4, [[(3, .cells (ints (orderOf t.length (kidsOf t)))), (2, LBs .ready t), (1, .cells [.slc 3 0 (orderOf t.length (kidsOf t)).length (.rest 1)]), (0, .cells [aNodes t])]]⟩ := by
  have h := c115 (T := T) t hn hpos hkd (LBs .ready t) (rounds t)
  have hf : FitH 0 [(2, 2), (1, 1), (0, 0)] [] ⟨3, [[(2, LBx t), (1, .cells [.nilS]), (0, .cells [aNodes t])]]⟩ ⟨3, [[(2, LBs .ready t), (1, .cells [.nilS]), (0, .cells [aNodes t])]]⟩ := {
    nd1 := by simp
    nd2 := by simp
    nd3 := by simp [Heap.ents]
    lt := by simp
    idn := by simp
    num := by simp
    src := by
      intro e he
      simp [Heap.ents] at he
      rcases he with rfl | rfl | rfl
      · refine ⟨2, LBx t, by simp, rfl, ?_⟩
        simp [LBx, LBs, fitB, fitL, fitV, lookN, fitV_pure, pure_fW]
      · exact ⟨1, .cells [.nilS], by simp, rfl, by simp [fitB, fitL, fitV]⟩
      · exact ⟨0, .cells [aNodes t], by simp, rfl, fitL_pure (by simp [pureL])⟩
    frz := fun x h => by cases h }
  have := h.framed (H := ⟨3, [[(2, LBx t), (1, .cells [.nilS]), (0, .cells [aNodes t])]]⟩) (σ := [(2, 2), (1, 1), (0, 0)]) (args := [.yld 2, .fptr [aNodes t] 0])
    (H' := ⟨4, [[(3, .cells (ints (orderOf t.length (kidsOf t)))), (2, LBs .ready t), (1, .cells [.slc 3 0 (orderOf t.length (kidsOf t)).length (.rest 1)]), (0, .cells [aNodes t])]]⟩) hf (by simp [fitL, fitV, lookN, fitV_pure, pureV, pureL]) ?_ (by simp)
  · simpa [renV, renL] using this
  · refine ⟨by simp, by simp [Heap.ents], ?_⟩
    intro e he
    have hI : renL (outN [(2, 2), (1, 1), (0, 0)] 3 3) (ints (orderOf t.length (kidsOf t))) = ints (orderOf t.length (kidsOf t)) := renL_pure _ (pure_ints _)
    have hT := renV_pure (outN [(2, 2), (1, 1), (0, 0)] 3 3) (pure_aTree t)
    have hN := renV_pure (outN [(2, 2), (1, 1), (0, 0)] 3 3) (pure_aNodes t)
    have hF := renV_pure (outN [(2, 2), (1, 1), (0, 0)] 3 3) (pure_fW t)
    refine .inl ⟨e, he, ?_⟩
    simp [Heap.ents] at he
    rcases he with rfl | rfl | rfl | rfl
    · simp [renB, hI]; simp [outN, lookR]
    · simp [LBs, renB, renL, renV, renT, hT, hF]; simp [outN, lookR]
    · simp [renB, renL, renV]; simp [outN, lookR]
    · simp [renB, renL, hN]; simp [outN, lookR]
def hE (t : Tr) : Heap := ⟨4, [[(3, .cells (ints (orderOf t.length (kidsOf t)))), (1, .cells [.slc 3 0 (orderOf t.length (kidsOf t)).length (.rest 1)]), (0, .cells [aNodes t])]]⟩
def sL (t : Tr) (H : Heap) : St := ⟨[0, 1, 2, 3, 4, 6, 7], [aTree t, .ptr 0 0, .nilS, .ptr 1 0, .undef, fW t, .undef], [(5, aTree t)], 17, H⟩
theorem range_List {T : List (Entry Tryz.prog)} (t : Tr) {call : CallE} (hc : call (.fn 115) [.yld 2, .fptr [aNodes t] 0] ⟨3, [[(2, LBx t), (1, .cells [.nilS]), (0, .cells [aNodes t])]]⟩ = some (.tup [], ⟨4, [[(3, .cells (ints (orderOf t.length (kidsOf t)))), (2, LBs .ready t), (1, .cells [.slc 3 0 (orderOf t.length (kidsOf t)).length (.rest 1)]), (0, .cells [aNodes t])]]⟩)) :
    evalRange (ctx T) call (.tmp 6) #[7] asL bdL (sL t ⟨2, [[(1, .cells [.nilS]), (0, .cells [aNodes t])]]⟩) = some (.normal, sL t (hE t)) := by
  have hent : entersF (ctx T) 115 = true := by kernel_rfl
  have ho : opnd (sL t ⟨2, [[(1, .cells [.nilS]), (0, .cells [aNodes t])]]⟩) (.tmp 6) = some (.func (.func 115) [] [.fptr [aNodes t] 0]) := rfl
  unfold evalRange
  rw [ho]
  simp only [Option.bind_some, hent]
  have e : call (.fn 115) ([] ++ [.yld (sL t ⟨2, [[(1, .cells [.nilS]), (0, .cells [aNodes t])]]⟩).H.n] ++ [.fptr [aNodes t] 0]) ((sL t ⟨2, [[(1, .cells [.nilS]), (0, .cells [aNodes t])]]⟩).H.new (.loop .ready none (sL t ⟨2, [[(1, .cells [.nilS]), (0, .cells [aNodes t])]]⟩).ks (sL t ⟨2, [[(1, .cells [.nilS]), (0, .cells [aNodes t])]]⟩).vs (sL t ⟨2, [[(1, .cells [.nilS]), (0, .cells [aNodes t])]]⟩).ts (sL t ⟨2, [[(1, .cells [.nilS]), (0, .cells [aNodes t])]]⟩).sz (#[7] : Array Nat).toList asL bdL)) = _ := hc
  rw [e]
  rfl
theorem c53p {T : List (Entry Tryz.prog)} (hW : findE 82 T = some e82.g) (t : Tr) (hn : t.length ≤ 50) (hpos : 0 < t.length) (hkd : ∀ x, x ∈ t → x.kids.length ≤ 1000) : CallAt (ctx T) 53 [aTree t] ⟨0, []⟩ (aInts (orderOf t.length (kidsOf t))) ⟨0, []⟩ := by
  have hk := fun H => k82 hW t H
  have hcall := call_List (T := T) t hn hpos hkd
  simp only [aTree] at hk
  refine callAt_body (fn := Tryz.f53) (s0 := ⟨[0, 1, 2, 3, 4, 6, 7], [aTree t, .undef, .undef, .undef, .undef, .undef, .undef], [], 17, ⟨0, [[]]⟩⟩) Tryz.func53 rfl rfl rfl ?_
  repeat refine wps_seq ?_
  refine wps_region callOK ?_
  simp [zS, aTree]
  repeat refine wps_seq ?_
  refine wps_region callOK ?_
  simp [zS]
  repeat refine wps_seq ?_
  refine wps_region callOK ?_
  simp [zS, hk]
  repeat refine wps_seq ?_
  refine wps_block ?_
  have hent : entersF (ctx T) 115 = true := by kernel_rfl
  refine wps_range (callOKF [⟨115, _, _, _, _, hcall⟩]) ⟨.normal, sL t (hE t), range_List (T := T) t (by simp [callF]), ?_⟩
  simp [sL, hE]
  repeat refine wps_seq ?_
  refine wps_region callOK ?_
  simp [zS]
  repeat refine wps_seq ?_
  refine wps_ret ?_
  simp [retVal, Tryz.f53, oneOr]
  refine ⟨[], [(3, ints (orderOf t.length (kidsOf t)))], fit_ints (by simp [lookC]) rfl, .froze (by simp) fun x hx => ?_⟩
  rw [List.mem_singleton] at hx
  subst hx
  exact ⟨_, by simp [Heap.get, getFs, getF], fitL_pure (pure_ints _), pure_ints _⟩
noncomputable def hN0 : Heap := ⟨3, [[(2, LBs .ready []), (1, .cells [.nilS]), (0, .cells [aNodes []])]]⟩
theorem fit_N0 : FitH 3 [(2, 2), (1, 1), (0, 0)] [] ⟨3, [[], [(2, LBx []), (1, .cells [.nilS]), (0, .cells [aNodes []])]]⟩ hN0 where
  nd1 := by simp
  nd2 := by simp
  nd3 := by simp [hN0, Heap.ents]
  lt := by simp [hN0]
  idn := by simp
  num := by simp [hN0]
  src := by
    intro e he
    simp [hN0, Heap.ents] at he
    rcases he with rfl | rfl | rfl
    · refine ⟨2, LBx [], by simp, rfl, ?_⟩
      simp [LBx, LBs, fitB, fitL, fitV, lookN, fitV_pure, pure_fW]
    · exact ⟨1, .cells [.nilS], by simp, rfl, by simp [fitB, fitL, fitV]⟩
    · exact ⟨0, .cells [aNodes []], by simp, rfl, fitL_pure (by simp [pureL])⟩
  frz := fun x h => by cases h
theorem walk0 {T : List (Entry Tryz.prog)} : CallAt (ctx T) 115 [.yld 2, .fptr [aNodes []] 0] ⟨3, [[(2, LBx []), (1, .cells [.nilS]), (0, .cells [aNodes []])]]⟩ (.tup []) hN0 := by
  refine callAt_body (fn := Tryz.f115) (s0 := ⟨[0, 1, 3, 4, 5, 6, 7, 8, 9], [.yld 2, .fptr [aNodes []] 0, .undef, .undef, .undef, .undef, .undef, .undef, .undef], [], 118, ⟨3, [] :: [[(2, LBx []), (1, .cells [.nilS]), (0, .cells [aNodes []])]]⟩⟩) Tryz.func115 rfl rfl rfl ?_
  repeat refine wps_seq ?_
  refine wps_region callOK ?_
  simp [zS, lenA]
  repeat refine wps_seq ?_
  refine wps_cond (t := true) rfl (fun _ => ?_) fun h => by cases h
  repeat refine wps_seq ?_
  refine wps_ret ?_
  simp [thenQ, blockQ]
  exact ⟨[], rfl, [(2, 2), (1, 1), (0, 0)], [], by simp [oneOr, fitV, fitL], fit_N0⟩
theorem range0 {T : List (Entry Tryz.prog)} {call : CallE} (hc : call (.fn 115) [.yld 2, .fptr [aNodes []] 0] ⟨3, [[(2, LBx []), (1, .cells [.nilS]), (0, .cells [aNodes []])]]⟩ = some (.tup [], hN0)) :
    evalRange (ctx T) call (.tmp 6) #[7] asL bdL (sL [] ⟨2, [[(1, .cells [.nilS]), (0, .cells [aNodes []])]]⟩) = some (.normal, sL [] ⟨3, [[(1, .cells [.nilS]), (0, .cells [aNodes []])]]⟩) := by
  have hent : entersF (ctx T) 115 = true := by kernel_rfl
  have ho : opnd (sL [] ⟨2, [[(1, .cells [.nilS]), (0, .cells [aNodes []])]]⟩) (.tmp 6) = some (.func (.func 115) [] [.fptr [aNodes []] 0]) := rfl
  unfold evalRange
  rw [ho]
  simp only [Option.bind_some, hent]
  have e : call (.fn 115) ([] ++ [.yld (sL [] ⟨2, [[(1, .cells [.nilS]), (0, .cells [aNodes []])]]⟩).H.n] ++ [.fptr [aNodes []] 0]) ((sL [] ⟨2, [[(1, .cells [.nilS]), (0, .cells [aNodes []])]]⟩).H.new (.loop .ready none (sL [] ⟨2, [[(1, .cells [.nilS]), (0, .cells [aNodes []])]]⟩).ks (sL [] ⟨2, [[(1, .cells [.nilS]), (0, .cells [aNodes []])]]⟩).vs (sL [] ⟨2, [[(1, .cells [.nilS]), (0, .cells [aNodes []])]]⟩).ts (sL [] ⟨2, [[(1, .cells [.nilS]), (0, .cells [aNodes []])]]⟩).sz (#[7] : Array Nat).toList asL bdL)) = _ := hc
  rw [e]
  rfl
theorem c530 {T : List (Entry Tryz.prog)} (hW : findE 82 T = some e82.g) : CallAt (ctx T) 53 [aTree []] ⟨0, []⟩ (aInts []) ⟨0, []⟩ := by
  have hk := fun H => k82 hW [] H
  have hcall := walk0 (T := T)
  simp only [aTree] at hk
  refine callAt_body (fn := Tryz.f53) (s0 := ⟨[0, 1, 2, 3, 4, 6, 7], [aTree [], .undef, .undef, .undef, .undef, .undef, .undef], [], 17, ⟨0, [[]]⟩⟩) Tryz.func53 rfl rfl rfl ?_
  repeat refine wps_seq ?_
  refine wps_region callOK ?_
  simp [zS, aTree]
  repeat refine wps_seq ?_
  refine wps_region callOK ?_
  simp [zS]
  repeat refine wps_seq ?_
  refine wps_region callOK ?_
  simp [zS, hk]
  repeat refine wps_seq ?_
  refine wps_block ?_
  refine wps_range (callOKF [⟨115, _, _, _, _, hcall⟩]) ⟨.normal, sL [] ⟨3, [[(1, .cells [.nilS]), (0, .cells [aNodes []])]]⟩, range0 (T := T) (by simp [callF]), ?_⟩
  simp [sL]
  repeat refine wps_seq ?_
  refine wps_region callOK ?_
  simp [zS]
  repeat refine wps_seq ?_
  refine wps_ret ?_
  simp [retVal, Tryz.f53, oneOr]
  exact ⟨[], [], by simp [fitV, aInts], FitH.empty⟩
theorem c53 {T : List (Entry Tryz.prog)} (hW : findE 82 T = some e82.g) (t : Tr) (ht : smallTr t) : CallAt (ctx T) 53 [aTree t] ⟨0, []⟩ (aInts (orderOf t.length (kidsOf t))) ⟨0, []⟩ := by
  by_cases h : 0 < t.length
  · exact c53p hW t ht.1 h fun x hx => (ht.2.2 x hx).1
  · have h0 : t = [] := List.length_eq_zero_iff.1 (by omega)
    subst h0
    exact c530 hW
noncomputable def e53 : Entry Tryz.prog := mkE 53 [[]] (fun t : Tr => [aTree t]) smallTr (fun t => aInts (orderOf t.length (kidsOf t))) fun t ht => c53 (T := [e82]) rfl t ht
theorem k53 {T : List (Entry Tryz.prog)} (hT : findE 53 T = some e53.g) {t : Tr} (ht : smallTr t) (H : Heap) : callL (ctx T) (.fn 53) [aTree t] H = some (aInts (orderOf t.length (kidsOf t)), H) :=
  mkE_pure hT injT t ht (by simp [pureL]) (by simp [thawL, th_aTree]) H
theorem kl_inv {n : Nat} {g : Nat → Wk → Wk} {P : Wk → Prop} (hg : ∀ i w, i < n → w.inn.getD i 0 < 0 → P w → P (g i w)) : ∀ (ks : List Int) (w : Wk), P w → P (kl n g ks w)
  | [], w, h => h
  | k :: r, w, h => by
    unfold kl
    split
    · rename_i hk
      exact kl_inv hg r _ (hg k.toNat w (by omega) hk.2.2 h)
    · exact kl_inv hg r w h
theorem vis_inv {n : Nat} {ks : Nat → List Int} {P : Wk → Prop} (hin : ∀ i w, i < n → w.inn.getD i 0 < 0 → P w → P (into i w)) (hout : ∀ i w, P w → P (outof i w)) : ∀ (f i : Nat) (w : Wk), i < n → w.inn.getD i 0 < 0 → P w → P (vis n ks f i w)
  | 0, i, w, _, _, h => h
  | f + 1, i, w, hi, hn, h => by
    unfold vis
    exact hout _ _ (kl_inv (fun i w hi hn h => vis_inv hin hout f i w hi hn h) _ _ (hin i w hi hn h))
structure LOK (n : Nat) (w : Wk) : Prop where
  li : w.inn.length = n
  c0 : 0 ≤ w.c
  rng : ∀ x, x ∈ w.l → 0 ≤ x ∧ x < (n : Int) ∧ 0 ≤ w.inn.getD x.toNat (-1)
  nd : w.l.Nodup
theorem LOK.into {n i : Nat} {w : Wk} (h : LOK n w) (hi : i < n) (hn : w.inn.getD i 0 < 0) : LOK n (into i w) where
  li := by simp [Go.Proofs.YthclkpplpdnffaaGreatDoor.into, h.li]
  c0 := by have := h.c0; simp only [Go.Proofs.YthclkpplpdnffaaGreatDoor.into]; omega
  rng := fun x hx => by
    have hl := h.li
    have hc := h.c0
    simp only [Go.Proofs.YthclkpplpdnffaaGreatDoor.into, List.mem_append, List.mem_singleton] at hx ⊢
    have hset : ∀ j, j < n → (w.inn.set i w.c).getD j (-1) = if i = j then w.c else w.inn.getD j (-1) := fun j hj => by
      simp only [List.getD_eq_getElem?_getD, List.getElem?_set]
      split <;> simp_all
    rcases hx with hx | rfl
    · obtain ⟨h1, h2, h3⟩ := h.rng x hx
      refine ⟨h1, h2, ?_⟩
      rw [hset _ (by omega)]
      split <;> omega
    · refine ⟨by omega, by omega, ?_⟩
      rw [hset _ (by omega)]
      simp [hc]
  nd := by
    simp only [Go.Proofs.YthclkpplpdnffaaGreatDoor.into]
    refine List.nodup_append.2 ⟨h.nd, by simp, ?_⟩
    intro a ha b hb
    simp at hb
    subst hb
    rintro rfl
    have h3 := (h.rng _ ha).2.2
    have hl := h.li
    simp only [List.getD_eq_getElem?_getD, Int.toNat_natCast] at h3 hn
    rw [List.getElem?_eq_getElem (by omega)] at h3 hn
    simp at h3 hn
    omega
theorem LOK.out {n i : Nat} {w : Wk} (h : LOK n w) : LOK n (outof i w) := ⟨h.li, by have := h.c0; simp only [outof]; omega, h.rng, h.nd⟩
theorem order_lok {n : Nat} {ks : Nat → List Int} (hn : 0 < n) : LOK n (vis n ks n 0 (w0 n)) :=
  vis_inv (fun i w hi h1 h2 => h2.into hi h1) (fun i w h => h.out) n 0 (w0 n) hn (by simp [w0, List.getD_eq_getElem?_getD, hn]) ⟨by simp [w0], by simp [w0], by simp [w0], by simp [w0]⟩
theorem order_mem {n : Nat} {ks : Nat → List Int} {x : Int} (h : x ∈ orderOf n ks) : 0 ≤ x ∧ x < (n : Int) := by
  unfold orderOf at h
  split at h
  · simp at h
  · obtain ⟨h1, h2, _⟩ := (order_lok (n := n) (by omega)).rng x h
    exact ⟨h1, h2⟩
theorem order_len {n : Nat} {ks : Nat → List Int} : (orderOf n ks).length ≤ n := by
  unfold orderOf
  split
  · simp
  · rename_i hz
    have hr : negs (w0 n).inn ≤ n := by simp [w0, negs_rep]
    have := (vis_ok (n := n) (ks := ks) n 0 0 (w0 n) (by omega) (w0_ok _) (by omega) (by simp [w0, List.getD_eq_getElem?_getD, Nat.pos_of_ne_zero hz]) hr).1.1.lb
    omega
theorem FitH.own1 {k b m' : Nat} {τ : List (Nat × Nat)} {es : List AV} {sz : Nat} {H : Heap} {g : List (Nat × Blk)} (he : Elems sz es) (hb : es ≠ [] → H.get b = some (.cells (flatAV es)))
    (n1 : (((b, k) :: τ).map (·.1)).Nodup) (n2 : (((b, k) :: τ).map (·.2)).Nodup) (n3 : (k :: g.map (·.1)).Nodup) (lt : ∀ x, x ∈ (b, k) :: τ → x.2 < m')
    (src : ∀ e, e ∈ g → ∃ b cs, (b, e.1) ∈ τ ∧ H.get b = some (.cells cs) ∧ e.2 = .cells cs ∧ pureL cs = true) : FitH 0 ((b, k) :: τ) [] H ⟨m', [ownF k es ++ g]⟩ := by
  refine .rows n1 n2 ?_ lt (by simp) (Nat.zero_le _) ?_
  · cases es with
    | nil => rw [List.nodup_cons] at n3; simpa [ownF, Heap.ents] using n3.2
    | cons x r => simpa [ownF, Heap.ents] using n3
  · intro e h
    cases hes : es with
    | nil =>
      rw [hes] at h
      simp [ownF, Heap.ents] at h
      obtain ⟨b', cs, h1, h2⟩ := src e h
      exact ⟨b', cs, List.mem_cons_of_mem _ h1, h2⟩
    | cons x r =>
      rw [hes] at h
      simp only [ownF, Heap.ents, List.flatten_cons, List.flatten_nil, List.append_nil, List.cons_append, List.nil_append, List.mem_cons] at h
      rcases h with rfl | h
      · exact ⟨b, _, List.mem_cons_self, by rw [hb (by simp [hes]), hes], rfl, by rw [← hes]; exact he.pure⟩
      · obtain ⟨b', cs, h1, h2⟩ := src e h
        exact ⟨b', cs, List.mem_cons_of_mem _ h1, h2⟩
def nd0 : Nd := ⟨0, 0, [], [], [], 0, []⟩
def nodeAt (t : Tr) (i : Int) : Nd := t.getD i.toNat nd0
theorem nodeAt_get {t : Tr} {i : Nat} (h : i < t.length) : nodeAt t (i : Int) = t[i] := by
  simp [nodeAt, List.getD_eq_getElem?_getD, List.getElem?_eq_getElem h]
theorem nodeAt_mem {t : Tr} {i : Int} (h0 : 0 ≤ i) (h : i < (t.length : Int)) : nodeAt t i ∈ t := by
  obtain ⟨j, rfl⟩ : ∃ j : Nat, i = j := ⟨i.toNat, by omega⟩
  rw [nodeAt_get (by omega)]
  exact List.getElem_mem _
theorem atX {t : Tr} {i : Int} (h0 : 0 ≤ i) (h : i < (t.length : Int)) : indexAddrA Tryz.prog 22 (aNodes t) (.int .i64 i) = some (.fptr (nodeAt t i).cs 0) := by
  obtain ⟨j, rfl⟩ : ∃ j : Nat, i = j := ⟨i.toNat, by omega⟩
  rw [atN (by omega), nodeAt_get (by omega)]
@[simp] theorem sub_cs (n : Nd) : subL 0 7 n.cs = some n.cs := rfl
theorem fold_node (n : Nd) : AV.agg n.cs = aNode n := rfl
def namedL (t : Tr) (x : Str) : List Int := if x = [] then [] else (orderOf t.length (kidsOf t)).filter fun i => toldB (nodeAt t i) x
def namedTo (t : Tr) (x : Str) (i : Nat) : List Int := if x = [] then [] else ((orderOf t.length (kidsOf t)).take i).filter fun i => toldB (nodeAt t i) x
theorem namedTo_at {t : Tr} {x : Str} {i : Nat} (h : i < (orderOf t.length (kidsOf t)).length) : namedTo t x (i + 1) = if x ≠ [] ∧ toldB (nodeAt t (orderOf t.length (kidsOf t))[i]) x = true then namedTo t x i ++ [(orderOf t.length (kidsOf t))[i]] else namedTo t x i := by
  unfold namedTo
  by_cases hx : x = []
  · simp [hx]
  · rw [List.take_succ_eq_append_getElem h, List.filter_append]
    by_cases ht : toldB (nodeAt t (orderOf t.length (kidsOf t))[i]) x = true
    · simp [hx, ht]
    · simp [hx, ht]
theorem namedTo_len {t : Tr} {x : Str} {i : Nat} : (namedTo t x i).length ≤ i := by
  unfold namedTo
  split
  · simp
  · refine Nat.le_trans (List.length_filter_le _ _) ?_
    simp; omega
theorem namedTo_end {t : Tr} {x : Str} {i : Nat} (h : (orderOf t.length (kidsOf t)).length ≤ i) : namedTo t x i = namedL t x := by
  unfold namedTo namedL
  rw [List.take_of_length_le h]
theorem ints_app {L : List Int} {v : Int} : ints (L ++ [v]) = ints L ++ [.int .i64 v] := by simp [ints, aInt]
theorem c62 {T : List (Entry Tryz.prog)} (hO : findE 53 T = some e53.g) (hT : findE 89 T = some e89.g) (t : Tr) (ht : smallTr t) (x : Str) :
    CallAt (ctx T) 62 [aTree t, .str x] ⟨0, []⟩ (ownV 0 1 (ints (namedL t x))) ⟨1, [ownF 0 (ints (namedL t x))]⟩ := by
  have hk := fun H => k53 hO ht H
  obtain ⟨L, hL⟩ : ∃ L, L = orderOf t.length (kidsOf t) := ⟨_, rfl⟩
  have hLn : L.length ≤ 50 := by have := order_len (n := t.length) (ks := kidsOf t); have := ht.1; rw [hL]; omega
  have hmem : ∀ y, y ∈ L → 0 ≤ y ∧ y < (t.length : Int) := fun y hy => order_mem (hL ▸ hy)
  rw [← hL] at hk
  simp only [aTree] at hk
  refine callAt_body (fn := Tryz.f62) (s0 := ⟨[0, 1, 2, 4, 5, 7, 9, 10, 11], [aTree t, .str x, .undef, .undef, .undef, .undef, .undef, .undef, .undef], [], 32, ⟨0, [[]]⟩⟩) Tryz.func62 rfl rfl rfl ?_
  repeat refine wps_seq ?_
  refine wps_region callOK ?_
  simp [zS, aTree]
  repeat refine wps_seq ?_
  refine wps_region callOK ?_
  simp [zS]
  repeat refine wps_seq ?_
  refine wps_region callOK ?_
  simp [zS, hk, lenI]
  repeat refine wps_seq ?_
  refine wps_block (wps_loop' (fun i : Nat => (⟨[0, 1, 2, 4, 5, 7, 9, 10, 11], [.undef, .str x, .ptr 0 0, .undef, ownV 1 1 (ints (namedTo t x i)), .undef, aInts L, .int .i64 (L.length : Nat), .int .i64 i], [], 32, ⟨2, [ownF 1 (ints (namedTo t x i)) ++ [(0, .cells [aNodes t])]]⟩⟩ : St))
    (fun i => i ≤ L.length) (fun i => L.length - i) [(1, 1), (0, 0)] [] 0 (Nat.zero_le _)
    ⟨rfl, rfl, rfl, by simp [fitL, fitV, lookN, pureV, namedTo, ownV, aInts], .own1 (el_int _) (by simp [namedTo]) (by simp) (by simp) (by simp) (by simp) (by simp [Heap.get, getFs, getF, pureL])⟩ ?_)
  rintro i hi B hB
  have hlen := namedTo_len (t := t) (x := x) (i := i)
  repeat refine wps_seq ?_
  refine wps_region callOK ?_
  simp [zS]
  repeat refine wps_seq ?_
  refine wps_cond rfl (fun h => ?_) fun h => ?_
  · simp at h
    repeat refine wps_seq ?_
    refine wps_skip ?_
    simp
    repeat refine wps_seq ?_
    refine wps_block ?_
    obtain ⟨y0, y1⟩ := hmem L[i] (List.getElem_mem _)
    have hnx := namedTo_at (t := t) (x := x) (i := i) (hL ▸ h)
    simp only [← hL] at hnx
    have ha := (ht.2.2 _ (nodeAt_mem y0 y1)).2
    repeat refine wps_seq ?_
    refine wps_region callOK ?_
    simp [zS, atI h]
    have hne : (1 : Nat) ≠ 0 := by omega
    by_cases hx : x = []
    · subst hx
      rw [if_neg (by simp)] at hnx
      repeat refine wps_seq ?_
      refine wps_region callOK ?_
      simp [zS, own_skip]
      repeat refine wps_seq ?_
      refine wps_cond (t := false) rfl (fun h => by cases h) fun _ => ?_
      repeat refine wps_seq ?_
      refine wps_skip ?_
      simp
      repeat refine wps_seq ?_
      refine wps_region callOK ?_
      simp [zS, add_one (show i ≤ 1000000000 by omega)]
      refine hB _ (i + 1) (by omega) (by omega) ⟨[(1, 1), (0, 0)], [], rfl, rfl, rfl, by rw [hnx]; simp [fitL, fitV, lookN, fitV_own, pureV, aInts], by rw [hnx]; exact .own1 (el_int _) (fun h => by simp [Heap.get, getFs, own_get h]) (by simp) (by simp) (by simp) (by simp) (by simp [Heap.get, getFs, getF, own_skip, pureL])⟩
    · cases hb : toldB (nodeAt t L[i]) x with
      | false =>
        rw [if_neg (by simp [hb])] at hnx
        repeat refine wps_seq ?_
        refine wps_region callOK ?_
        simp [zS, hx, own_skip, getF, atX y0 y1, fold_node, k89 hT x ha, hb]
        repeat refine wps_seq ?_
        refine wps_cond (t := false) rfl (fun h => by cases h) fun _ => ?_
        repeat refine wps_seq ?_
        refine wps_skip ?_
        simp
        repeat refine wps_seq ?_
        refine wps_region callOK ?_
        simp [zS, add_one (show i ≤ 1000000000 by omega)]
        refine hB _ (i + 1) (by omega) (by omega) ⟨[(1, 1), (0, 0)], [], rfl, rfl, rfl, by rw [hnx]; simp [fitL, fitV, lookN, fitV_own, pureV, aInts], by rw [hnx]; exact .own1 (el_int _) (fun h => by simp [Heap.get, getFs, own_get h]) (by simp) (by simp) (by simp) (by simp) (by simp [Heap.get, getFs, getF, own_skip, pureL])⟩
      | true =>
        rw [if_pos ⟨hx, hb⟩] at hnx
        have happ := own_app1 (P := Tryz.prog) (elem := 3) (b := 1) (t := 2) (m := 3) (es := ints (namedTo t x i)) (cs := [.int .i64 L[i]]) (g := [(0, .cells [aNodes t])]) (fs := []) szT3 byT3 zeT3 rfl (by omega) (by omega) rfl rfl (el_int _) (by simp; omega) (by omega) (by simp) (by simp)
        repeat refine wps_seq ?_
        refine wps_region callOK ?_
        simp [zS, hx, own_skip, getF, atX y0 y1, fold_node, k89 hT x ha, hb]
        repeat refine wps_seq ?_
        refine wps_cond (t := true) rfl (fun _ => ?_) fun h => by cases h
        repeat refine wps_seq ?_
        refine wps_region callOK ?_
        simp [zS, happ]
        repeat refine wps_seq ?_
        refine wps_region callOK ?_
        simp [zS, add_one (show i ≤ 1000000000 by omega)]
        have hnn : ints (namedTo t x (i + 1)) ≠ [] := by rw [hnx]; simp [ints]
        refine hB _ (i + 1) (by omega) (by omega) ⟨[(3, 1), (0, 0)], [], rfl, rfl, rfl, ?_, .own1 (el_int _) (fun _ => ?_) (by simp) (by simp) (by simp) (by simp) (by simp [Heap.get, getFs, getF, pureL])⟩
        · rw [ownV_ne hnn, hnx]; simp [fitL, fitV, lookN, pureV, aInts]
        · rw [hnx, flat_ints, ints_app]; simp [Heap.get, getFs, getF]
  · simp at h
    repeat refine wps_seq ?_
    refine wps_exit ?_
    simp
    repeat refine wps_seq ?_
    refine wps_region callOK ?_
    simp [zS]
    repeat refine wps_seq ?_
    refine wps_ret ?_
    simp [retVal, Tryz.f62, oneOr]
    rw [namedTo_end (by rw [← hL]; omega)]
    exact ⟨[(1, 0)], [], fitV_own (by simp [lookN]), by have := FitH.own1 (k := 0) (b := 1) (m' := 1) (τ := []) (g := []) (H := ⟨2, [ownF 1 (ints (namedL t x)) ++ [(0, .cells [aNodes t])]]⟩) (el_int (namedL t x)) (fun h => by simp [Heap.get, getFs, getF, own_get h]) (by simp) (by simp) (by simp) (by simp) (by simp); simpa using this⟩
theorem injTS (x y : Tr × Str) (h : [aTree x.1, .str x.2] = [aTree y.1, .str y.2]) : x = y := by
  simp at h; exact Prod.ext (inj_aTree h.1) h.2
noncomputable def e62 : Entry Tryz.prog := mkE 62 [[], []] (fun x : Tr × Str => [aTree x.1, .str x.2]) (fun x => smallTr x.1) (fun x => aInts (namedL x.1 x.2)) fun x hx => (c62 (T := [e53, e89]) rfl rfl x.1 hx x.2).froze (el_int _)
theorem k62 {T : List (Entry Tryz.prog)} (hT : findE 62 T = some e62.g) {t : Tr} (ht : smallTr t) (x : Str) (H : Heap) : callL (ctx T) (.fn 62) [aTree t, .str x] H = some (aInts (namedL t x), H) :=
  mkE_pure hT injTS (t, x) ht (by simp [pureL, pureV]) (by simp [thawL, th_aTree]) H
theorem c18 {T : List (Entry Tryz.prog)} (L M : List Int) (hl : L.length ≤ 1000000) : CallAt (ctx T) 18 [aInts L, aInts M] ⟨0, []⟩ (.bool (decide (L = M))) ⟨0, []⟩ := by
  refine callAt_body (fn := Tryz.f18) (s0 := ⟨[0, 1, 4, 5, 12, 13], [aInts L, aInts M, .undef, .undef, .undef, .undef], [], 26, ⟨0, [[]]⟩⟩) Tryz.func18 rfl rfl rfl ?_
  repeat refine wps_seq ?_
  refine wps_region callOK ?_
  simp [zS]
  by_cases hlen : L.length = M.length
  · repeat refine wps_seq ?_
    refine wps_region callOK ?_
    simp [zS, lenI, hlen]
    repeat refine wps_seq ?_
    refine wps_cond (t := false) rfl (fun h => by cases h) fun _ => ?_
    repeat refine wps_seq ?_
    refine wps_skip ?_
    simp
    repeat refine wps_seq ?_
    refine wps_region callOK ?_
    simp [zS, lenI]
    repeat refine wps_seq ?_
    refine wps_block (wps_loop' (fun i : Nat => (⟨[0, 1, 4, 5, 12, 13], [aInts L, aInts M, .undef, .undef, .int .i64 (L.length : Nat), .int .i64 i], [], 26, ⟨0, [[]]⟩⟩ : St))
      (fun i => i ≤ L.length ∧ L.take i = M.take i) (fun i => L.length - i) [] [] 0 ⟨Nat.zero_le _, by simp⟩ ⟨rfl, rfl, rfl, by simp [fitL, fitV, pureV, pureL, aInts, hlen], FitH.nothing⟩ ?_)
    rintro i ⟨hi, he⟩ B hB
    repeat refine wps_seq ?_
    refine wps_region callOK ?_
    simp [zS]
    repeat refine wps_seq ?_
    refine wps_cond rfl (fun h => ?_) fun h => ?_
    · simp at h
      repeat refine wps_seq ?_
      refine wps_skip ?_
      simp
      repeat refine wps_seq ?_
      refine wps_block ?_
      repeat refine wps_seq ?_
      refine wps_region callOK ?_
      simp [zS]
      by_cases hv : L[i] = M[i]'(by omega)
      · repeat refine wps_seq ?_
        refine wps_drawK mixed callOK (by decide +kernel) (by decide +kernel) ?_
        simp [zS, evalK_c, evalK_nil, thenK_some, atI h, atI (show i < M.length by omega), hv]
        repeat refine wps_seq ?_
        refine wps_cond (t := false) rfl (fun h => by cases h) fun _ => ?_
        repeat refine wps_seq ?_
        refine wps_skip ?_
        simp
        repeat refine wps_seq ?_
        refine wps_region callOK ?_
        simp [zS, add_one (show i ≤ 1000000000 by omega)]
        exact hB _ (i + 1) (by omega) ⟨by omega, by rw [List.take_succ_eq_append_getElem h, List.take_succ_eq_append_getElem (show i < M.length by omega), he, hv]⟩ ⟨[], [], ⟨rfl, rfl, rfl, by simp [fitL, fitV, pureV, pureL, aInts], FitH.nothing⟩⟩
      · repeat refine wps_seq ?_
        refine wps_drawK mixed callOK (by decide +kernel) (by decide +kernel) ?_
        simp [zS, evalK_c, evalK_nil, thenK_some, atI h, atI (show i < M.length by omega), hv]
        repeat refine wps_seq ?_
        refine wps_cond (t := true) rfl (fun _ => ?_) fun h => by cases h
        repeat refine wps_seq ?_
        refine wps_region callOK ?_
        simp [zS]
        repeat refine wps_seq ?_
        refine wps_ret ?_
        simp [retVal, Tryz.f18, oneOr, thenQ, blockQ]
        exact ends_pure rfl (by simp; rintro rfl; exact hv rfl)
    · simp at h
      repeat refine wps_seq ?_
      refine wps_exit ?_
      simp
      repeat refine wps_seq ?_
      refine wps_region callOK ?_
      simp [zS]
      repeat refine wps_seq ?_
      refine wps_ret ?_
      simp [retVal, Tryz.f18, oneOr, thenQ, blockQ]
      exact ends_pure rfl (by rw [List.take_of_length_le (by omega), List.take_of_length_le (by omega)] at he; simp [he])
  · have hlen' : ¬ (L.length : Int) = (M.length : Int) := by omega
    repeat refine wps_seq ?_
    refine wps_region callOK ?_
    simp [zS, lenI, hlen']
    repeat refine wps_seq ?_
    refine wps_cond (t := true) (by simp [opnd, St.get, lookK_c, look_c, hlen']) (fun _ => ?_) fun h => by cases h
    repeat refine wps_seq ?_
    refine wps_region callOK ?_
    simp [zS]
    repeat refine wps_seq ?_
    refine wps_ret ?_
    simp [retVal, Tryz.f18, oneOr, thenQ, blockQ]
    exact ends_pure rfl (by simp; rintro rfl; exact hlen rfl)
theorem injII (x y : List Int × List Int) (h : [aInts x.1, aInts x.2] = [aInts y.1, aInts y.2]) : x = y := by
  simp only [List.cons.injEq] at h
  exact Prod.ext (inj_aInts h.1) (inj_aInts h.2.1)
noncomputable def e18 : Entry Tryz.prog := mkE 18 [[1], [1]] (fun x : List Int × List Int => [aInts x.1, aInts x.2]) (fun x => x.1.length ≤ 1000000) (fun x => .bool (decide (x.1 = x.2))) fun x hx => c18 (T := []) x.1 x.2 hx
theorem k18 {T : List (Entry Tryz.prog)} (hT : findE 18 T = some e18.g) {L M : List Int} (hl : L.length ≤ 1000000) (H : Heap) : callL (ctx T) (.fn 18) [aInts L, aInts M] H = some (.bool (decide (L = M)), H) :=
  mkE_scalar hT injII (L, M) hl rfl (by simp [aInts])
def fewAt (a : At1) : Bool := decide (a.1.length ≤ 40 ∧ a.2.length ≤ 150)
def fewAts (L : List At1) : Bool := decide (L.length ≤ 14) && L.all fewAt
def fewNd (n : Nd) : Bool := decide (n.name.length ≤ 40) && (decide (n.data.length ≤ 300) && (decide (n.kids.length ≤ 60) && fewAts n.attrs))
def fewTr (t : Tr) (m : Int) : Bool := decide ((t.length : Int) ≤ m) && t.all fewNd
theorem c60 {T : List (Entry Tryz.prog)} (L : List At1) : CallAt (ctx T) 60 [aAttrs L] ⟨0, []⟩ (.bool (fewAts L)) ⟨0, []⟩ := by
  refine callAt_body (fn := Tryz.f60) (s0 := ⟨[0, 2, 4, 8, 9, 10], [aAttrs L, .undef, .undef, .undef, .undef, .undef], [], 25, ⟨0, [[]]⟩⟩) Tryz.func60 rfl rfl rfl ?_
  repeat refine wps_seq ?_
  refine wps_region callOK ?_
  simp [zS]
  by_cases hl : 14 < L.length
  · have hl' : (14 : Int) < (L.length : Int) := by omega
    repeat refine wps_seq ?_
    refine wps_region callOK ?_
    simp [zS, lenA1, hl']
    repeat refine wps_seq ?_
    refine wps_cond (t := true) rfl (fun _ => ?_) fun h => by cases h
    repeat refine wps_seq ?_
    refine wps_region callOK ?_
    simp [zS]
    repeat refine wps_seq ?_
    refine wps_ret ?_
    simp [retVal, Tryz.f60, oneOr, thenQ, blockQ]
    exact ends_pure rfl (by simp [fewAts]; omega)
  · have hl' : ¬ (14 : Int) < (L.length : Int) := by omega
    repeat refine wps_seq ?_
    refine wps_region callOK ?_
    simp [zS, lenA1, hl']
    repeat refine wps_seq ?_
    refine wps_cond (t := false) rfl (fun h => by cases h) fun _ => ?_
    repeat refine wps_seq ?_
    refine wps_skip ?_
    simp
    repeat refine wps_seq ?_
    refine wps_region callOK ?_
    simp [zS, lenA1]
    repeat refine wps_seq ?_
    refine wps_block (wps_loop' (fun i : Nat => (⟨[0, 2, 4, 8, 9, 10], [aAttrs L, .undef, .undef, aAttrs L, .int .i64 (L.length : Nat), .int .i64 i], [], 25, ⟨0, [[]]⟩⟩ : St))
      (fun i => i ≤ L.length ∧ L.all fewAt = (L.drop i).all fewAt) (fun i => L.length - i) [] [] 0 ⟨Nat.zero_le _, by simp⟩ ⟨rfl, rfl, rfl, by simp [fitL, fitV, pureV, pureL, aAttrs], FitH.nothing⟩ ?_)
    rintro i ⟨hi, he⟩ B hB
    repeat refine wps_seq ?_
    refine wps_region callOK ?_
    simp [zS]
    repeat refine wps_seq ?_
    refine wps_cond rfl (fun h => ?_) fun h => ?_
    · simp at h
      rw [List.drop_eq_getElem_cons h, List.all_cons] at he
      repeat refine wps_seq ?_
      refine wps_skip ?_
      simp
      repeat refine wps_seq ?_
      refine wps_block ?_
      repeat refine wps_seq ?_
      refine wps_region callOK ?_
      simp [zS, atA h, rdA1]
      by_cases h1 : 40 < L[i].1.length
      · have h1' : (40 : Int) < (L[i].1.length : Int) := by omega
        have hf : fewAt L[i] = false := by simp [fewAt]; omega
        repeat refine wps_seq ?_
        refine wps_region callOK ?_
        simp [zS, h1']
        repeat refine wps_seq ?_
        refine wps_cond (t := true) rfl (fun _ => ?_) fun h => by cases h
        repeat refine wps_seq ?_
        refine wps_region callOK ?_
        simp [zS]
        repeat refine wps_seq ?_
        refine wps_ret ?_
        simp [retVal, Tryz.f60, oneOr, thenQ, blockQ]
        exact ends_pure rfl (by simp only [fewAts, he, hf]; simp)
      · have h1' : ¬ (40 : Int) < (L[i].1.length : Int) := by omega
        by_cases h2 : 150 < L[i].2.length
        · have h2' : (150 : Int) < (L[i].2.length : Int) := by omega
          have hf : fewAt L[i] = false := by simp [fewAt]; omega
          repeat refine wps_seq ?_
          refine wps_region callOK ?_
          simp [zS, h1', h2']
          repeat refine wps_seq ?_
          refine wps_cond (t := true) rfl (fun _ => ?_) fun h => by cases h
          repeat refine wps_seq ?_
          refine wps_region callOK ?_
          simp [zS]
          repeat refine wps_seq ?_
          refine wps_ret ?_
          simp [retVal, Tryz.f60, oneOr, thenQ, blockQ]
          exact ends_pure rfl (by simp only [fewAts, he, hf]; simp)
        · have h2' : ¬ (150 : Int) < (L[i].2.length : Int) := by omega
          have hf : fewAt L[i] = true := by simp [fewAt]; omega
          repeat refine wps_seq ?_
          refine wps_region callOK ?_
          simp [zS, h1', h2']
          repeat refine wps_seq ?_
          refine wps_cond (t := false) rfl (fun h => by cases h) fun _ => ?_
          repeat refine wps_seq ?_
          refine wps_skip ?_
          simp
          repeat refine wps_seq ?_
          refine wps_region callOK ?_
          simp [zS, add_one (show i ≤ 1000000000 by omega)]
          refine hB _ (i + 1) (by omega) ⟨by omega, by rw [he, hf, Bool.true_and]⟩ ⟨[], [], ⟨rfl, rfl, rfl, by simp [fitL, fitV, pureV, pureL, aAttrs], FitH.nothing⟩⟩
    · simp at h
      rw [List.drop_eq_nil_of_le h] at he
      repeat refine wps_seq ?_
      refine wps_exit ?_
      simp
      repeat refine wps_seq ?_
      refine wps_region callOK ?_
      simp [zS]
      repeat refine wps_seq ?_
      refine wps_ret ?_
      simp [retVal, Tryz.f60, oneOr, thenQ, blockQ]
      exact ends_pure rfl (by simp only [fewAts, he]; simp; omega)
noncomputable def e60 : Entry Tryz.prog := mkE 60 [[2]] (fun x : List At1 => [aAttrs x]) (fun _ => True) (fun x => .bool (fewAts x)) fun x _ => c60 (T := []) x
theorem injAs (x y : List At1) (h : [aAttrs x] = [aAttrs y]) : x = y := by simp only [List.cons.injEq] at h; exact inj_aAttrs h.1
theorem k60 {T : List (Entry Tryz.prog)} (hT : findE 60 T = some e60.g) (L : List At1) (H : Heap) : callL (ctx T) (.fn 60) [aAttrs L] H = some (.bool (fewAts L), H) :=
  mkE_scalar hT injAs L trivial rfl (by simp [th_aAttrs])
theorem c36 {T : List (Entry Tryz.prog)} (hA : findE 60 T = some e60.g) (n : Nd) : CallAt (ctx T) 36 [aNode n] ⟨0, []⟩ (.bool (fewNd n)) ⟨0, []⟩ := by
  have hk := fun H => k60 hA n.attrs H
  obtain ⟨kind, space, name, attrs, data, up, kids⟩ := n
  simp only [aAttrs] at hk
  rcases Bool.eq_false_or_eq_true (decide ((name.length : Int) ≤ 40)) with b1 | b1 <;> rcases Bool.eq_false_or_eq_true (decide ((data.length : Int) ≤ 300)) with b2 | b2 <;> rcases Bool.eq_false_or_eq_true (decide ((kids.length : Int) ≤ 60)) with b3 | b3
  all_goals
    have c1 := b1
    have c2 := b2
    have c3 := b3
    simp only [decide_eq_true_eq, decide_eq_false_iff_not] at c1 c2 c3
    refine callAt_body (fn := Tryz.f36) (s0 := ⟨[0, 1, 2], [aNode ⟨kind, space, name, attrs, data, up, kids⟩, .undef, .undef], [], 24, ⟨0, [[]]⟩⟩) Tryz.func36 rfl rfl rfl ?_
    (repeat (first
      | (refine wps_seq ?_)
      | (refine wps_block ?_)
      | (refine wps_label ?_; simp only [thenQ, blockQ])
      | ((refine wps_region callOK ?_); simp [zS, aNode, Nd.cs, aInt, aAttrs, aInts, lenA, c1, c2, c3, hk])
      | (refine wps_cond (t := true) rfl (fun _ => ?_) (fun h => by cases h))
      | (refine wps_cond (t := false) rfl (fun h => by cases h) (fun _ => ?_))
      | ((refine wps_skip ?_); simp only [thenQ, blockQ])
      | ((refine wps_exit ?_); simp [thenQ, blockQ])))
    have e1 : (name.length ≤ 40) ↔ ((name.length : Int) ≤ 40) := by omega
    have e2 : (data.length ≤ 300) ↔ ((data.length : Int) ≤ 300) := by omega
    have e3 : (kids.length ≤ 60) ↔ ((kids.length : Int) ≤ 60) := by omega
    repeat refine wps_seq ?_
    refine wps_ret ?_
    simp [retVal, Tryz.f36, oneOr, thenQ, blockQ]
    exact ends_pure rfl (by simp only [fewNd, e1, e2, e3, b1, b2, b3]; simp)
theorem injN1 (x y : Nd) (h : [aNode x] = [aNode y]) : x = y := by simp only [List.cons.injEq] at h; exact inj_aNode h.1
noncomputable def e36 : Entry Tryz.prog := mkE 36 [[]] (fun x : Nd => [aNode x]) (fun _ => True) (fun x => .bool (fewNd x)) fun x _ => c36 (T := [e60]) rfl x
theorem k36 {T : List (Entry Tryz.prog)} (hT : findE 36 T = some e36.g) (n : Nd) (H : Heap) : callL (ctx T) (.fn 36) [aNode n] H = some (.bool (fewNd n), H) :=
  mkE_scalar hT injN1 n trivial rfl (by simp [th_aNode])
@[simp] theorem len_cs (n : Nd) : n.cs.length = 7 := rfl
@[simp] theorem sng_cs (n : Nd) : allSingle n.cs = true := rfl
@[simp] theorem lay_cs (n : Nd) (a b c d e f g : AV) : overL n.cs [a, b, c, d, e, f, g] = some n.cs := rfl
@[simp 5000] theorem ready_cs (H : Heap) (b : Nat) (n : Nd) : H.ready b n.cs = H := rfl
theorem c14 {T : List (Entry Tryz.prog)} (hN : findE 36 T = some e36.g) (t : Tr) (m : Int) (hl : m ≤ 1000000) : CallAt (ctx T) 14 [aTree t, .int .i64 m] ⟨0, []⟩ (.bool (fewTr t m)) ⟨0, []⟩ := by
  refine callAt_body (fn := Tryz.f14) (s0 := ⟨[0, 1, 2, 4, 6, 13, 14, 15], [aTree t, .int .i64 m, .undef, .undef, .undef, .undef, .undef, .undef], [], 23, ⟨0, [[]]⟩⟩) Tryz.func14 rfl rfl rfl ?_
  repeat refine wps_seq ?_
  refine wps_region callOK ?_
  simp [zS, aTree]
  by_cases hm : m < (t.length : Int)
  · repeat refine wps_seq ?_
    refine wps_region callOK ?_
    simp [zS, lenN, hm]
    repeat refine wps_seq ?_
    refine wps_cond (t := true) rfl (fun _ => ?_) fun h => by cases h
    repeat refine wps_seq ?_
    refine wps_region callOK ?_
    simp [zS]
    repeat refine wps_seq ?_
    refine wps_ret ?_
    simp [retVal, Tryz.f14, oneOr, thenQ, blockQ]
    exact ends_pure rfl (by simp [fewTr]; omega)
  · repeat refine wps_seq ?_
    refine wps_region callOK ?_
    simp [zS, lenN, hm]
    repeat refine wps_seq ?_
    refine wps_cond (t := false) rfl (fun h => by cases h) fun _ => ?_
    repeat refine wps_seq ?_
    refine wps_skip ?_
    simp
    repeat refine wps_seq ?_
    refine wps_region callOK ?_
    simp [zS, lenN]
    repeat refine wps_seq ?_
    refine wps_block (wps_loop' (fun i : Nat => (⟨[0, 1, 2, 4, 6, 13, 14, 15], [.undef, .int .i64 m, .undef, .undef, .undef, aNodes t, .int .i64 (t.length : Nat), .int .i64 i], [], 23, ⟨0, [[]]⟩⟩ : St))
      (fun i => i ≤ t.length ∧ t.all fewNd = (t.drop i).all fewNd) (fun i => t.length - i) [] [] 0 ⟨Nat.zero_le _, by simp⟩ ⟨rfl, rfl, rfl, by simp [fitL, fitV, pureV, pureL, aNodes], FitH.nothing⟩ ?_)
    rintro i ⟨hi, he⟩ B hB
    repeat refine wps_seq ?_
    refine wps_region callOK ?_
    simp [zS]
    repeat refine wps_seq ?_
    refine wps_cond rfl (fun h => ?_) fun h => ?_
    · simp at h
      rw [List.drop_eq_getElem_cons h, List.all_cons] at he
      repeat refine wps_seq ?_
      refine wps_skip ?_
      simp
      repeat refine wps_seq ?_
      refine wps_block ?_
      repeat refine wps_seq ?_
      refine wps_region callOK ?_
      simp [zN, atN h]
      cases hf : fewNd t[i] with
      | false =>
        repeat refine wps_seq ?_
        refine wps_region callOK ?_
        simp [zS, fold_node, k36 hN, hf]
        repeat refine wps_seq ?_
        refine wps_cond (t := true) rfl (fun _ => ?_) fun h => by cases h
        repeat refine wps_seq ?_
        refine wps_region callOK ?_
        simp [zS]
        repeat refine wps_seq ?_
        refine wps_ret ?_
        simp [retVal, Tryz.f14, oneOr, thenQ, blockQ]
        exact ends_pure rfl (by simp only [fewTr, he, hf]; simp)
      | true =>
        repeat refine wps_seq ?_
        refine wps_region callOK ?_
        simp [zS, fold_node, k36 hN, hf]
        repeat refine wps_seq ?_
        refine wps_cond (t := false) rfl (fun h => by cases h) fun _ => ?_
        repeat refine wps_seq ?_
        refine wps_skip ?_
        simp
        repeat refine wps_seq ?_
        refine wps_region callOK ?_
        simp [zS, add_one (show i ≤ 1000000000 by omega)]
        refine hB _ (i + 1) (by omega) ⟨by omega, by rw [he, hf, Bool.true_and]⟩ ⟨[], [], ⟨rfl, rfl, rfl, by simp [fitL, fitV, pureV, pureL, aNodes], FitH.nothing⟩⟩
    · simp at h
      rw [List.drop_eq_nil_of_le h] at he
      repeat refine wps_seq ?_
      refine wps_exit ?_
      simp
      repeat refine wps_seq ?_
      refine wps_region callOK ?_
      simp [zS]
      repeat refine wps_seq ?_
      refine wps_ret ?_
      simp [retVal, Tryz.f14, oneOr, thenQ, blockQ]
      exact ends_pure rfl (by simp only [fewTr, he]; simp; omega)
theorem injTI (x y : Tr × Int) (h : [aTree x.1, .int .i64 x.2] = [aTree y.1, .int .i64 y.2]) : x = y := by
  simp at h; exact Prod.ext (inj_aTree h.1) h.2
noncomputable def e14 : Entry Tryz.prog := mkE 14 [[], []] (fun x : Tr × Int => [aTree x.1, .int .i64 x.2]) (fun x => x.2 ≤ 1000000) (fun x => .bool (fewTr x.1 x.2)) fun x hx => c14 (T := [e36]) rfl x.1 x.2 hx
theorem k14 {T : List (Entry Tryz.prog)} (hT : findE 14 T = some e14.g) (t : Tr) {m : Int} (hm : m ≤ 1000000) (H : Heap) : callL (ctx T) (.fn 14) [aTree t, .int .i64 m] H = some (.bool (fewTr t m), H) :=
  mkE_scalar hT injTI (t, m) hm rfl (by simp [th_aTree])
theorem few_small {t : Tr} {m : Int} (hm : m ≤ 50) (h : fewTr t m = true) : smallTr t := by
  simp only [fewTr, Bool.and_eq_true, decide_eq_true_eq, List.all_eq_true] at h
  refine ⟨by omega, by omega, fun x hx => ?_⟩
  have := h.2 x hx
  simp only [fewNd, fewAts, Bool.and_eq_true, decide_eq_true_eq] at this
  omega
theorem FitH.id1 {m' : Nat} {H : Heap} {g : List (Nat × Blk)} (nd : (g.map (·.1)).Nodup) (lt : ∀ e, e ∈ g → e.1 < m') (src : ∀ e, e ∈ g → ∃ cs, H.get e.1 = some (.cells cs) ∧ e.2 = .cells cs ∧ pureL cs = true) : FitH 0 (g.map fun e => (e.1, e.1)) [] H ⟨m', [g]⟩ := by
  refine .rows (by simpa [Function.comp_def] using nd) (by simpa [Function.comp_def] using nd) (by simpa [Heap.ents] using nd) ?_ (by simp) (Nat.zero_le _) ?_
  · intro x hx
    obtain ⟨e, he, rfl⟩ := List.mem_map.1 hx
    exact lt e he
  · intro e he
    have he : e ∈ g := by simpa [Heap.ents] using he
    obtain ⟨cs, h1, h2, h3⟩ := src e he
    exact ⟨e.1, cs, List.mem_map.2 ⟨e, he, rfl⟩, h1, h2, h3⟩
section
variable (n : Nd)
@[simp] theorem gcs0 : getL n.cs 0 = some (.int .i64 n.kind) := rfl
@[simp] theorem gcs1 : getL n.cs 1 = some (.int .i64 n.space) := rfl
@[simp] theorem gcs2 : getL n.cs 2 = some (.str n.name) := rfl
@[simp] theorem gcs3 : getL n.cs 3 = some (aAttrs n.attrs) := rfl
@[simp] theorem gcs4 : getL n.cs 4 = some (.str n.data) := rfl
@[simp] theorem gcs5 : getL n.cs 5 = some (.int .i64 n.up) := rfl
@[simp] theorem gcs6 : getL n.cs 6 = some (aInts n.kids) := rfl
@[simp] theorem pure_cs : pureL n.cs = true := by simp [Nd.cs, pureL, aInt, pureV]
end
def timesB (L : List Int) (n : Int) : Nat := L.countP fun x => decide (x = n)
theorem c42 {T : List (Entry Tryz.prog)} (L : List Int) (n : Int) (hl : L.length ≤ 1000000) : CallAt (ctx T) 42 [aInts L, .int .i64 n] ⟨0, []⟩ (.int .i64 (timesB L n : Nat)) ⟨0, []⟩ := by
  refine callAt_body (fn := Tryz.f42) (s0 := ⟨[0, 1, 4, 5, 6], [aInts L, .int .i64 n, .undef, .undef, .undef], [], 22, ⟨0, [[]]⟩⟩) Tryz.func42 rfl rfl rfl ?_
  repeat refine wps_seq ?_
  refine wps_region callOK ?_
  simp [zS]
  repeat refine wps_seq ?_
  refine wps_region callOK ?_
  simp [zS]
  repeat refine wps_seq ?_
  refine wps_region callOK ?_
  simp [zS]
  repeat refine wps_seq ?_
  refine wps_block (wps_loop' (fun i : Nat => (⟨[0, 1, 4, 5, 6], [aInts L, .int .i64 n, .undef, .int .i64 (timesB (L.take i) n : Nat), .int .i64 i], [], 22, ⟨0, [[]]⟩⟩ : St))
    (fun i => i ≤ L.length) (fun i => L.length - i) [] [] 0 (Nat.zero_le _) ⟨rfl, rfl, rfl, by simp [fitL, fitV, pureV, pureL, aInts, timesB], FitH.nothing⟩ ?_)
  rintro i hi B hB
  have hc : timesB (L.take i) n ≤ i := Nat.le_trans List.countP_le_length (by simp; omega)
  repeat refine wps_seq ?_
  refine wps_region callOK ?_
  simp [zS, lenI]
  repeat refine wps_seq ?_
  refine wps_cond rfl (fun h => ?_) fun h => ?_
  · simp at h
    repeat refine wps_seq ?_
    refine wps_skip ?_
    simp
    repeat refine wps_seq ?_
    refine wps_block ?_
    by_cases hv : L[i] = n
    · have hn : timesB (L.take (i + 1)) n = timesB (L.take i) n + 1 := by rw [List.take_succ_eq_append_getElem h]; simp [timesB, hv]
      repeat refine wps_seq ?_
      refine wps_region callOK ?_
      simp [zS, atI h, hv]
      repeat refine wps_seq ?_
      refine wps_cond (t := true) rfl (fun _ => ?_) fun h => by cases h
      repeat refine wps_seq ?_
      refine wps_region callOK ?_
      simp [zS, add_one (show timesB (L.take i) n ≤ 1000000000 by omega)]
      repeat refine wps_seq ?_
      refine wps_region callOK ?_
      simp [zS, add_one (show i ≤ 1000000000 by omega)]
      exact hB _ (i + 1) (by omega) (by omega) ⟨[], [], ⟨rfl, rfl, rfl, by simp [fitL, fitV, pureV, pureL, aInts, hn], FitH.nothing⟩⟩
    · have hn : timesB (L.take (i + 1)) n = timesB (L.take i) n := by rw [List.take_succ_eq_append_getElem h]; simp only [timesB, List.countP_append, List.countP_cons, List.countP_nil]; simp [hv]
      repeat refine wps_seq ?_
      refine wps_region callOK ?_
      simp [zS, atI h, hv]
      repeat refine wps_seq ?_
      refine wps_cond (t := false) rfl (fun h => by cases h) fun _ => ?_
      repeat refine wps_seq ?_
      refine wps_skip ?_
      simp
      repeat refine wps_seq ?_
      refine wps_region callOK ?_
      simp [zS, add_one (show i ≤ 1000000000 by omega)]
      exact hB _ (i + 1) (by omega) (by omega) ⟨[], [], ⟨rfl, rfl, rfl, by simp [fitL, fitV, pureV, pureL, aInts, hn], FitH.nothing⟩⟩
  · simp at h
    repeat refine wps_seq ?_
    refine wps_exit ?_
    simp
    repeat refine wps_seq ?_
    refine wps_region callOK ?_
    simp [zS]
    repeat refine wps_seq ?_
    refine wps_ret ?_
    simp [retVal, Tryz.f42, oneOr, thenQ, blockQ]
    exact ends_pure rfl (by rw [List.take_of_length_le h])
theorem injLI (x y : List Int × Int) (h : [aInts x.1, .int .i64 x.2] = [aInts y.1, .int .i64 y.2]) : x = y := by
  simp only [List.cons.injEq] at h
  obtain ⟨h1, h2, _⟩ := h
  simp at h2
  exact Prod.ext (inj_aInts h1) h2
noncomputable def e42 : Entry Tryz.prog := mkE 42 [[1], []] (fun x : List Int × Int => [aInts x.1, .int .i64 x.2]) (fun x => x.1.length ≤ 1000000) (fun x => .int .i64 (timesB x.1 x.2 : Nat)) fun x hx => c42 (T := []) x.1 x.2 hx
theorem k42 {T : List (Entry Tryz.prog)} (hT : findE 42 T = some e42.g) {L : List Int} (n : Int) (hl : L.length ≤ 1000000) (H : Heap) : callL (ctx T) (.fn 42) [aInts L, .int .i64 n] H = some (.int .i64 (timesB L n : Nat), H) :=
  mkE_scalar hT injLI (L, n) hl rfl (by simp [aInts])
def heldF (t : Tr) : Nat → Int → Bool
  | 0, _ => false
  | f + 1, i => if (nodeAt t i).up = -1 then true else heldF t f (nodeAt t i).up
def upsOK (t : Tr) : Prop := ∀ x, x ∈ t → x.up = -1 ∨ (0 ≤ x.up ∧ x.up < (t.length : Int))
theorem c43 {T : List (Entry Tryz.prog)} (t : Tr) (hl : t.length ≤ 1000000) (hu : upsOK t) (i0 : Int) (h0 : 0 ≤ i0) (h1 : i0 < (t.length : Int)) : CallAt (ctx T) 43 [aTree t, .int .i64 i0] ⟨0, []⟩ (.bool (heldF t (t.length + 1) i0)) ⟨0, []⟩ := by
  refine callAt_body (fn := Tryz.f43) (s0 := ⟨[0, 1, 2, 4, 5], [aTree t, .int .i64 i0, .undef, .undef, .undef], [], 26, ⟨0, [[]]⟩⟩) Tryz.func43 rfl rfl rfl ?_
  repeat refine wps_seq ?_
  refine wps_region callOK ?_
  simp [zS, aTree]
  repeat refine wps_seq ?_
  refine wps_region callOK ?_
  simp [zS]
  repeat refine wps_seq ?_
  refine wps_block (wps_loop' (fun x : Nat × Int => (⟨[0, 1, 2, 4, 5], [.undef, .int .i64 x.2, .ptr 0 0, .undef, .int .i64 x.1], [], 26, ⟨1, [[(0, .cells [aNodes t])]]⟩⟩ : St))
    (fun x => x.1 ≤ t.length + 1 ∧ 0 ≤ x.2 ∧ x.2 < (t.length : Int) ∧ heldF t (t.length + 1) i0 = heldF t (t.length + 1 - x.1) x.2) (fun x => t.length + 1 - x.1) [(0, 0)] [] (0, i0) ⟨Nat.zero_le _, h0, h1, rfl⟩
    ⟨rfl, rfl, rfl, by simp [fitL, fitV, lookN, pureV], .id1 (g := [(0, .cells [aNodes t])]) (by simp) (by simp) (by simp [Heap.get, getFs, getF, pureL])⟩ ?_)
  rintro ⟨k, i⟩ ⟨hk, j0, j1, he⟩ B hB
  simp only at hk j0 j1 he
  repeat refine wps_seq ?_
  refine wps_region callOK ?_
  simp [zS, lenN]
  repeat refine wps_seq ?_
  refine wps_cond rfl (fun h => ?_) fun h => ?_
  · simp at h
    repeat refine wps_seq ?_
    refine wps_skip ?_
    simp
    repeat refine wps_seq ?_
    refine wps_block ?_
    rw [show t.length + 1 - k = (t.length - k) + 1 by omega, show heldF t (t.length - k + 1) i = if (nodeAt t i).up = -1 then true else heldF t (t.length - k) (nodeAt t i).up from rfl] at he
    by_cases hv : (nodeAt t i).up = -1
    · rw [if_pos hv] at he
      repeat refine wps_seq ?_
      refine wps_region callOK ?_
      simp [zS, atX j0 j1, hv]
      repeat refine wps_seq ?_
      refine wps_cond (t := true) rfl (fun _ => ?_) fun h => by cases h
      repeat refine wps_seq ?_
      refine wps_region callOK ?_
      simp [zS]
      repeat refine wps_seq ?_
      refine wps_ret ?_
      simp [retVal, Tryz.f43, oneOr, thenQ, blockQ]
      exact ends_pure rfl (by rw [he])
    · rw [if_neg hv] at he
      repeat refine wps_seq ?_
      refine wps_region callOK ?_
      simp [zS, atX j0 j1, hv]
      repeat refine wps_seq ?_
      refine wps_cond (t := false) rfl (fun h => by cases h) fun _ => ?_
      repeat refine wps_seq ?_
      refine wps_skip ?_
      simp
      repeat refine wps_seq ?_
      refine wps_region callOK ?_
      simp [zS, atX j0 j1]
      repeat refine wps_seq ?_
      refine wps_region callOK ?_
      simp [zS, add_one (show k ≤ 1000000000 by omega)]
      have hup := (hu _ (nodeAt_mem j0 j1)).resolve_left hv
      exact hB _ (k + 1, (nodeAt t i).up) (by simp; omega) ⟨by simp; omega, hup.1, hup.2, by simp only; rw [he]; congr 1; omega⟩ ⟨[(0, 0)], [], rfl, rfl, rfl, by simp [fitL, fitV, lookN, pureV], .id1 (g := [(0, .cells [aNodes t])]) (by simp) (by simp) (by simp [Heap.get, getFs, getF, pureL])⟩
  · simp at h
    repeat refine wps_seq ?_
    refine wps_exit ?_
    simp
    repeat refine wps_seq ?_
    refine wps_region callOK ?_
    simp [zS]
    repeat refine wps_seq ?_
    refine wps_ret ?_
    simp [retVal, Tryz.f43, oneOr, thenQ, blockQ]
    exact ends_pure rfl (by rw [he, show t.length + 1 - k = 0 by omega]; rfl)
noncomputable def e43 : Entry Tryz.prog := mkE 43 [[], []] (fun x : Tr × Int => [aTree x.1, .int .i64 x.2]) (fun x => x.1.length ≤ 1000000 ∧ upsOK x.1 ∧ 0 ≤ x.2 ∧ x.2 < (x.1.length : Int)) (fun x => .bool (heldF x.1 (x.1.length + 1) x.2)) fun x hx => c43 (T := []) x.1 hx.1 hx.2.1 x.2 hx.2.2.1 hx.2.2.2
theorem k43 {T : List (Entry Tryz.prog)} (hT : findE 43 T = some e43.g) {t : Tr} (hl : t.length ≤ 1000000) (hu : upsOK t) {i : Int} (h0 : 0 ≤ i) (h1 : i < (t.length : Int)) (H : Heap) : callL (ctx T) (.fn 43) [aTree t, .int .i64 i] H = some (.bool (heldF t (t.length + 1) i), H) :=
  mkE_scalar hT injTI (t, i) ⟨hl, hu, h0, h1⟩ rfl (by simp [th_aTree])
theorem wps_join {C : Ctx} {n : Nat} {r : Option Nat} {c d : Code} {s : St} {Q : Out → St → Prop} (φ : Prop) (s0 : St) (h1 : φ → WpSr C n r d s0 Q) (h2 : (∀ s', φ → s'.wT = s0 → WpSr C n r d s' Q) → WpSr C n r c s (thenQ (fun s => WpSr C n r d s Q) Q)) : WpSr C n r (.seq c d) s Q :=
  wps_seq (h2 fun s' hφ e b a w hb ha K hK => h1 hφ b a w hb (by have := ha.fresh; rw [← e]; exact this) K hK)
def badA (t : Tr) (i : Nat) : Bool := decide (0 < i) && (decide ((nodeAt t i).kind < 1) || (decide (4 < (nodeAt t i).kind) || (decide ((nodeAt t i).up < -1) || decide ((t.length : Int) ≤ (nodeAt t i).up))))
def badB (t : Tr) (i : Nat) : Bool := decide (0 ≤ (nodeAt t i).up) && (decide (1 < (nodeAt t (nodeAt t i).up).kind) || decide ((timesB (nodeAt t (nodeAt t i).up).kids i : Int) ≠ 1))
def badC (t : Tr) (i : Nat) (k : Int) : Bool := decide (k < 0) || (decide ((t.length : Int) ≤ k) || decide ((nodeAt t k).up ≠ (i : Int)))
def okNd (t : Tr) (i : Nat) : Bool := !badA t i && (!badB t i && !(nodeAt t i).kids.any (badC t i))
def rightB (t : Tr) : Bool := decide (t ≠ []) && (decide ((nodeAt t 0).kind = 0) && (decide ((nodeAt t 0).up = -1) && ((List.range t.length).all (okNd t) && (List.range t.length).all fun i => heldF t (t.length + 1) (i : Int))))
theorem rightB_no {t : Tr} {i : Nat} (h : i < t.length) (hb : okNd t i = false) : rightB t = false := by
  have : (List.range t.length).all (okNd t) = false := List.all_eq_false.2 ⟨i, by simpa using h, by simp [hb]⟩
  simp [rightB, this]
theorem rightB_not {t : Tr} {i : Nat} (h : i < t.length) (hb : heldF t (t.length + 1) (i : Int) = false) : rightB t = false := by
  have : ((List.range t.length).all fun i => heldF t (t.length + 1) (i : Int)) = false := List.all_eq_false.2 ⟨i, by simpa using h, by simp [hb]⟩
  simp [rightB, this]
theorem rightB_yes {t : Tr} (h : t ≠ []) (h0 : (nodeAt t 0).kind = 0) (h1 : (nodeAt t 0).up = -1) (h2 : ∀ j, j < t.length → okNd t j = true) (h3 : ∀ j, j < t.length → heldF t (t.length + 1) (j : Int) = true) : rightB t = true := by
  have e1 : (List.range t.length).all (okNd t) = true := List.all_eq_true.2 fun j hj => h2 j (by simpa using hj)
  have e2 : ((List.range t.length).all fun i => heldF t (t.length + 1) (i : Int)) = true := List.all_eq_true.2 fun j hj => h3 j (by simpa using hj)
  simp [rightB, h, h0, h1, e1, e2]
theorem ups_of {t : Tr} (h1 : (nodeAt t 0).up = -1) (h2 : ∀ j, j < t.length → okNd t j = true) : upsOK t := by
  intro x hx
  obtain ⟨j, hj, rfl⟩ := List.getElem_of_mem hx
  have := h2 j hj
  rw [← nodeAt_get hj]
  by_cases hz : j = 0
  · subst hz
    exact .inl h1
  · simp only [okNd, badA, Bool.and_eq_true, Bool.not_eq_true', Bool.and_eq_false_iff, Bool.or_eq_false_iff, decide_eq_false_iff_not] at this
    rcases this.1 with h | h
    · omega
    · omega
theorem c22 {T : List (Entry Tryz.prog)} (hT : findE 42 T = some e42.g) (hH : findE 43 T = some e43.g) (t : Tr) (ht : okTr t) :
    CallAt (ctx T) 22 [aTree t] ⟨0, []⟩ (.bool (rightB t)) ⟨0, []⟩ := by
  have htl := ht.1
  have g0 : ∀ (m : Nat), FitH 0 [(0, 0)] [] ⟨m, [[(0, .cells [aNodes t])]]⟩ ⟨1, [[(0, .cells [aNodes t])]]⟩ := fun m => .id1 (g := [(0, .cells [aNodes t])]) (by simp) (by simp) (by simp [Heap.get, getFs, getF, pureL])
  refine callAt_body (fn := Tryz.f22) (s0 := ⟨[0, 1, 2, 3, 4, 5, 6], [aTree t, .undef, .undef, .undef, .undef, .undef, .undef], [], 138, ⟨0, [[]]⟩⟩) Tryz.func22 rfl rfl rfl ?_
  repeat refine wps_seq ?_
  refine wps_region callOK ?_
  simp [zS, aTree]
  by_cases z0 : t = []
  · repeat refine wps_seq ?_
    refine wps_region callOK ?_
    simp [zS, lenN, z0]
    repeat refine wps_seq ?_
    refine wps_cond (t := true) rfl (fun _ => ?_) fun h => by cases h
    repeat refine wps_seq ?_
    refine wps_region callOK ?_
    simp [zS]
    repeat refine wps_seq ?_
    refine wps_ret ?_
    simp [retVal, Tryz.f22, oneOr, thenQ, blockQ]
    exact ends_pure rfl (by simp [rightB, z0])
  have zl : 0 < t.length := List.length_pos_iff.2 z0
  have a0 := atX (t := t) (i := 0) (by omega) (by omega)
  by_cases z1 : (nodeAt t 0).kind = 0
  case neg =>
    repeat refine wps_seq ?_
    refine wps_region callOK ?_
    simp [zS, lenN, z0, a0, z1]
    repeat refine wps_seq ?_
    refine wps_cond (t := true) rfl (fun _ => ?_) fun h => by cases h
    repeat refine wps_seq ?_
    refine wps_region callOK ?_
    simp [zS]
    repeat refine wps_seq ?_
    refine wps_ret ?_
    simp [retVal, Tryz.f22, oneOr, thenQ, blockQ]
    exact ends_pure rfl (by simp [rightB, z1])
  by_cases z2 : (nodeAt t 0).up = -1
  case neg =>
    repeat refine wps_seq ?_
    refine wps_region callOK ?_
    simp [zS, lenN, z0, a0, z1, z2]
    repeat refine wps_seq ?_
    refine wps_cond (t := true) rfl (fun _ => ?_) fun h => by cases h
    repeat refine wps_seq ?_
    refine wps_region callOK ?_
    simp [zS]
    repeat refine wps_seq ?_
    refine wps_ret ?_
    simp [retVal, Tryz.f22, oneOr, thenQ, blockQ]
    exact ends_pure rfl (by simp [rightB, z2])
  repeat refine wps_seq ?_
  refine wps_region callOK ?_
  simp [zS, lenN, z0, a0, z1, z2]
  repeat refine wps_seq ?_
  refine wps_cond (t := false) rfl (fun h => by cases h) fun _ => ?_
  repeat refine wps_seq ?_
  refine wps_skip ?_
  simp
  repeat refine wps_seq ?_
  refine wps_region callOK ?_
  simp [zS]
  repeat refine wps_seq ?_
  refine wps_block (wps_loop' (fun i : Nat => (⟨[0, 1, 2, 3, 4, 5, 6], [.undef, .ptr 0 0, .undef, .int .i64 i, .undef, .undef, .undef], [], 138, ⟨1, [[(0, .cells [aNodes t])]]⟩⟩ : St))
    (fun i => i ≤ t.length ∧ ∀ j, j < i → okNd t j = true) (fun i => t.length - i) [(0, 0)] [] 0 ⟨Nat.zero_le _, fun j hj => absurd hj (Nat.not_lt_zero j)⟩ ⟨rfl, rfl, rfl, by simp [fitL, fitV, lookN, pureV], g0 1⟩ ?_)
  rintro i ⟨hi, hall⟩ B hB
  repeat refine wps_seq ?_
  refine wps_region callOK ?_
  simp [zS, lenN]
  repeat refine wps_seq ?_
  refine wps_cond rfl (fun h => ?_) fun h => ?_
  · simp at h
    repeat refine wps_seq ?_
    refine wps_skip ?_
    simp
    repeat refine wps_seq ?_
    refine wps_block ?_
    refine wps_seq ?_
    have hkd := (ht.2 _ (nodeAt_mem (t := t) (i := (i : Int)) (by omega) (by omega))).1
    obtain ⟨n, hn⟩ : ∃ n, n = nodeAt t i := ⟨_, rfl⟩
    repeat refine wps_seq ?_
    refine wps_region callOK ?_
    simp [zN, atX (t := t) (i := (i : Int)) (by omega) (by omega)]
    rw [← hn] at hkd ⊢
    refine wps_join (badA t i = false) ((⟨[0, 1, 2, 3, 4, 5, 6], [.undef, .ptr 0 0, .undef, .int .i64 i, .ptr 1 0, .undef, .undef], [], 138, ⟨2, [[(1, .cells n.cs), (0, .cells [aNodes t])]]⟩⟩ : St)) (fun hbA => ?_) fun hj => ?_
    rotate_left
    · by_cases c0 : 0 < i
      · by_cases c1 : n.kind < 1
        · repeat refine wps_seq ?_
          refine wps_region callOK ?_
          simp [zS, lenN, c0, c1]
          repeat refine wps_seq ?_
          refine wps_cond (t := true) rfl (fun _ => ?_) fun h => by cases h
          repeat refine wps_seq ?_
          refine wps_region callOK ?_
          simp [zS]
          repeat refine wps_seq ?_
          refine wps_ret ?_
          simp [retVal, Tryz.f22, oneOr, thenQ, blockQ]
          exact ends_pure rfl (by rw [rightB_no h (by simp [okNd, badA, c0, ← hn, c1])])
        · by_cases c2 : 4 < n.kind
          · repeat refine wps_seq ?_
            refine wps_region callOK ?_
            simp [zS, lenN, c0, c1, c2]
            repeat refine wps_seq ?_
            refine wps_cond (t := true) rfl (fun _ => ?_) fun h => by cases h
            repeat refine wps_seq ?_
            refine wps_region callOK ?_
            simp [zS]
            repeat refine wps_seq ?_
            refine wps_ret ?_
            simp [retVal, Tryz.f22, oneOr, thenQ, blockQ]
            exact ends_pure rfl (by rw [rightB_no h (by simp [okNd, badA, c0, ← hn, c1, c2])])
          · by_cases c3 : n.up < -1
            · repeat refine wps_seq ?_
              refine wps_region callOK ?_
              simp [zS, lenN, c0, c1, c2, c3]
              repeat refine wps_seq ?_
              refine wps_cond (t := true) rfl (fun _ => ?_) fun h => by cases h
              repeat refine wps_seq ?_
              refine wps_region callOK ?_
              simp [zS]
              repeat refine wps_seq ?_
              refine wps_ret ?_
              simp [retVal, Tryz.f22, oneOr, thenQ, blockQ]
              exact ends_pure rfl (by rw [rightB_no h (by simp [okNd, badA, c0, ← hn, c1, c2, c3])])
            · by_cases c4 : (t.length : Int) ≤ n.up
              · repeat refine wps_seq ?_
                refine wps_region callOK ?_
                simp [zS, lenN, c0, c1, c2, c3, c4]
                repeat refine wps_seq ?_
                refine wps_cond (t := true) rfl (fun _ => ?_) fun h => by cases h
                repeat refine wps_seq ?_
                refine wps_region callOK ?_
                simp [zS]
                repeat refine wps_seq ?_
                refine wps_ret ?_
                simp [retVal, Tryz.f22, oneOr, thenQ, blockQ]
                exact ends_pure rfl (by rw [rightB_no h (by simp [okNd, badA, c0, ← hn, c1, c2, c3, c4])])
              · repeat refine wps_seq ?_
                refine wps_region callOK ?_
                simp [zS, lenN, c0, c1, c2, c3, c4]
                repeat refine wps_seq ?_
                refine wps_cond (t := false) rfl (fun h => by cases h) fun _ => ?_
                repeat refine wps_seq ?_
                refine wps_skip ?_
                simp
                exact hj _ (by simp [badA, ← hn, c1, c2, c3, c4]) rfl
      · repeat refine wps_seq ?_
        refine wps_region callOK ?_
        simp [zS, lenN, c0]
        repeat refine wps_seq ?_
        refine wps_cond (t := false) rfl (fun h => by cases h) fun _ => ?_
        repeat refine wps_seq ?_
        refine wps_skip ?_
        simp
        exact hj _ (by simp [badA, c0]) rfl
    have hup : n.up < (t.length : Int) := by
      by_cases hz : i = 0
      · subst hz; rw [hn]; simp only [Int.natCast_zero, z2]; omega
      · simp only [badA, ← hn, Bool.and_eq_false_iff, Bool.or_eq_false_iff, decide_eq_false_iff_not] at hbA
        omega
    refine wps_join (badB t i = false) ((⟨[0, 1, 2, 3, 4, 5, 6], [.undef, .ptr 0 0, .undef, .int .i64 i, .ptr 1 0, .undef, .undef], [], 138, ⟨2, [[(1, .cells n.cs), (0, .cells [aNodes t])]]⟩⟩ : St)) (fun hbB => ?_) fun hj => ?_
    rotate_left
    · by_cases c5 : 0 ≤ n.up
      · have hkt := k42 hT (L := (nodeAt t n.up).kids) (i : Int) (by have := (ht.2 _ (nodeAt_mem c5 hup)).1; omega)
        generalize hv : timesB (nodeAt t n.up).kids (i : Int) = v at hkt
        by_cases c6 : 1 < (nodeAt t n.up).kind
        · repeat refine wps_seq ?_
          refine wps_region callOK ?_
          simp [zS, c5, atX c5 hup, hkt, c6]
          repeat refine wps_seq ?_
          refine wps_cond (t := true) rfl (fun _ => ?_) fun h => by cases h
          repeat refine wps_seq ?_
          refine wps_region callOK ?_
          simp [zS]
          repeat refine wps_seq ?_
          refine wps_ret ?_
          simp [retVal, Tryz.f22, oneOr, thenQ, blockQ]
          exact ends_pure rfl (by rw [rightB_no h (by simp [okNd, badB, ← hn, hv, c5, c6]; try (intro _ ; omega))])
        · by_cases c7 : ¬ (v : Int) = 1
          · repeat refine wps_seq ?_
            refine wps_region callOK ?_
            simp [zS, c5, atX c5 hup, hkt, c6, c7]
            repeat refine wps_seq ?_
            refine wps_cond (t := true) rfl (fun _ => ?_) fun h => by cases h
            repeat refine wps_seq ?_
            refine wps_region callOK ?_
            simp [zS]
            repeat refine wps_seq ?_
            refine wps_ret ?_
            simp [retVal, Tryz.f22, oneOr, thenQ, blockQ]
            exact ends_pure rfl (by rw [rightB_no h (by simp [okNd, badB, ← hn, hv, c5, c6, c7]; try (intro _ ; omega))])
          · have c7 := Decidable.not_not.1 c7
            repeat refine wps_seq ?_
            refine wps_region callOK ?_
            simp [zS, c5, atX c5 hup, hkt, c6, c7]
            repeat refine wps_seq ?_
            refine wps_cond (t := false) rfl (fun h => by cases h) fun _ => ?_
            repeat refine wps_seq ?_
            refine wps_skip ?_
            simp
            exact hj _ (by simp [badB, ← hn, hv, c6, c7]; try omega) rfl
      · repeat refine wps_seq ?_
        refine wps_region callOK ?_
        simp [zS, c5]
        repeat refine wps_seq ?_
        refine wps_cond (t := false) rfl (fun h => by cases h) fun _ => ?_
        repeat refine wps_seq ?_
        refine wps_skip ?_
        simp
        exact hj _ (by simp [badB, ← hn, c5]) rfl
    repeat refine wps_seq ?_
    refine wps_region callOK ?_
    simp [zS]
    have g1 : ∀ (m : Nat), FitH 0 [(1, 1), (0, 0)] [] ⟨m, [[(1, .cells n.cs), (0, .cells [aNodes t])]]⟩ ⟨2, [[(1, .cells n.cs), (0, .cells [aNodes t])]]⟩ := fun m => .id1 (g := [(1, .cells n.cs), (0, .cells [aNodes t])]) (by simp) (by simp) (by simp [Heap.get, getFs, getF, pureL])
    repeat refine wps_seq ?_
    refine wps_block (wps_loop' (fun k : Nat => (⟨[0, 1, 2, 3, 4, 5, 6], [.undef, .ptr 0 0, .undef, .int .i64 i, .ptr 1 0, .int .i64 k, .undef], [], 138, ⟨2, [[(1, .cells n.cs), (0, .cells [aNodes t])]]⟩⟩ : St))
      (fun k => k ≤ n.kids.length ∧ n.kids.any (badC t i) = (n.kids.drop k).any (badC t i)) (fun k => n.kids.length - k) [(1, 1), (0, 0)] [] 0 ⟨Nat.zero_le _, rfl⟩ ⟨rfl, rfl, rfl, by simp [fitL, fitV, lookN, pureV], g1 2⟩ ?_)
    rintro k ⟨hk, hany⟩ B2 hB2
    repeat refine wps_seq ?_
    refine wps_region callOK ?_
    simp [zS, lenI]
    repeat refine wps_seq ?_
    refine wps_cond rfl (fun h2 => ?_) fun h2 => ?_
    · simp at h2
      rw [List.drop_eq_getElem_cons h2, List.any_cons] at hany
      repeat refine wps_seq ?_
      refine wps_skip ?_
      simp
      repeat refine wps_seq ?_
      refine wps_block ?_
      by_cases d1 : n.kids[k] < 0
      · repeat refine wps_seq ?_
        refine wps_drawK mixed callOK (by decide +kernel) (by decide +kernel) ?_
        simp [zS, evalK_c, evalK_nil, thenK_some, atI h2, d1]
        repeat refine wps_seq ?_
        refine wps_cond (t := true) rfl (fun _ => ?_) fun h => by cases h
        repeat refine wps_seq ?_
        refine wps_region callOK ?_
        simp [zS]
        repeat refine wps_seq ?_
        refine wps_ret ?_
        simp [retVal, Tryz.f22, oneOr, thenQ, blockQ]
        exact ends_pure rfl (by rw [rightB_no h (by simp only [okNd, ← hn, hany]; simp [badC, d1])])
      · by_cases d2 : (t.length : Int) ≤ n.kids[k]
        · repeat refine wps_seq ?_
          refine wps_drawK mixed callOK (by decide +kernel) (by decide +kernel) ?_
          simp [zS, evalK_c, evalK_nil, thenK_some, atI h2, lenN, d1, d2]
          repeat refine wps_seq ?_
          refine wps_cond (t := true) rfl (fun _ => ?_) fun h => by cases h
          repeat refine wps_seq ?_
          refine wps_region callOK ?_
          simp [zS]
          repeat refine wps_seq ?_
          refine wps_ret ?_
          simp [retVal, Tryz.f22, oneOr, thenQ, blockQ]
          exact ends_pure rfl (by rw [rightB_no h (by simp only [okNd, ← hn, hany]; simp [badC, d1, d2])])
        · have ak := atX (t := t) (i := n.kids[k]) (by omega) (by omega)
          by_cases d3 : (nodeAt t n.kids[k]).up = (i : Int)
          · repeat refine wps_seq ?_
            refine wps_drawK mixed callOK (by decide +kernel) (by decide +kernel) ?_
            simp [zS, evalK_c, evalK_nil, thenK_some, atI h2, lenN, ak, d1, d2, d3]
            repeat refine wps_seq ?_
            refine wps_cond (t := false) rfl (fun h => by cases h) fun _ => ?_
            repeat refine wps_seq ?_
            refine wps_skip ?_
            simp
            repeat refine wps_seq ?_
            refine wps_region callOK ?_
            simp [zS, add_one (show k ≤ 1000000000 by omega)]
            refine hB2 _ (k + 1) (by omega) ⟨by omega, ?_⟩ ⟨[(1, 1), (0, 0)], [], rfl, rfl, rfl, by simp [fitL, fitV, lookN, pureV], g1 _⟩
            rw [hany]
            simp [badC, d1, d2, d3]
          · repeat refine wps_seq ?_
            refine wps_drawK mixed callOK (by decide +kernel) (by decide +kernel) ?_
            simp [zS, evalK_c, evalK_nil, thenK_some, atI h2, lenN, ak, d1, d2, d3]
            repeat refine wps_seq ?_
            refine wps_cond (t := true) rfl (fun _ => ?_) fun h => by cases h
            repeat refine wps_seq ?_
            refine wps_region callOK ?_
            simp [zS]
            repeat refine wps_seq ?_
            refine wps_ret ?_
            simp [retVal, Tryz.f22, oneOr, thenQ, blockQ]
            exact ends_pure rfl (by rw [rightB_no h (by simp only [okNd, ← hn, hany]; simp [badC, d1, d2, d3])])
    · simp at h2
      rw [List.drop_eq_nil_of_le h2] at hany
      repeat refine wps_seq ?_
      refine wps_exit ?_
      simp
      repeat refine wps_seq ?_
      refine wps_region callOK ?_
      simp [zS, add_one (show i ≤ 1000000000 by omega)]
      refine hB _ (i + 1) (by omega) ⟨by omega, fun j hj => ?_⟩ ⟨[(0, 0)], [], rfl, rfl, rfl, by simp [fitL, fitV, lookN, pureV], .id1 (g := [(0, .cells [aNodes t])]) (by simp) (by simp) (by simp [Heap.get, getFs, getF, pureL])⟩
      by_cases hji : j = i
      · subst hji
        simp [okNd, hbA, hbB, ← hn, hany]
      · exact hall j (by omega)
  · simp at h
    have hin : i = t.length := by omega
    subst hin
    have hups := ups_of z2 hall
    repeat refine wps_seq ?_
    refine wps_exit ?_
    simp
    repeat refine wps_seq ?_
    refine wps_region callOK ?_
    simp [zS]
    repeat refine wps_seq ?_
    refine wps_block (wps_loop' (fun i : Nat => (⟨[0, 1, 2, 3, 4, 5, 6], [.undef, .ptr 0 0, .undef, .undef, .undef, .undef, .int .i64 i], [], 138, ⟨1, [[(0, .cells [aNodes t])]]⟩⟩ : St))
      (fun i => i ≤ t.length ∧ ∀ j, j < i → heldF t (t.length + 1) (j : Int) = true) (fun i => t.length - i) [(0, 0)] [] 0 ⟨Nat.zero_le _, fun j hj => absurd hj (Nat.not_lt_zero j)⟩ ⟨rfl, rfl, rfl, by simp [fitL, fitV, lookN, pureV], g0 1⟩ ?_)
    rintro i ⟨hi, hh⟩ B hB
    repeat refine wps_seq ?_
    refine wps_region callOK ?_
    simp [zS, lenN]
    repeat refine wps_seq ?_
    refine wps_cond rfl (fun h => ?_) fun h => ?_
    · simp at h
      repeat refine wps_seq ?_
      refine wps_skip ?_
      simp
      repeat refine wps_seq ?_
      refine wps_block ?_
      have kh := fun H => k43 hH (t := t) (by have := ht.1; omega) hups (i := (i : Int)) (by omega) (by omega) H
      simp only [aTree] at kh
      cases hv : heldF t (t.length + 1) (i : Int) with
      | false =>
        rw [hv] at kh
        repeat refine wps_seq ?_
        refine wps_region callOK ?_
        simp [zS, kh]
        repeat refine wps_seq ?_
        refine wps_cond (t := true) rfl (fun _ => ?_) fun h => by cases h
        repeat refine wps_seq ?_
        refine wps_region callOK ?_
        simp [zS]
        repeat refine wps_seq ?_
        refine wps_ret ?_
        simp [retVal, Tryz.f22, oneOr, thenQ, blockQ]
        exact ends_pure rfl (by rw [rightB_not h hv])
      | true =>
        rw [hv] at kh
        repeat refine wps_seq ?_
        refine wps_region callOK ?_
        simp [zS, kh]
        repeat refine wps_seq ?_
        refine wps_cond (t := false) rfl (fun h => by cases h) fun _ => ?_
        repeat refine wps_seq ?_
        refine wps_skip ?_
        simp
        repeat refine wps_seq ?_
        refine wps_region callOK ?_
        simp [zS, add_one (show i ≤ 1000000000 by omega)]
        refine hB _ (i + 1) (by omega) ⟨by omega, fun j hj => ?_⟩ ⟨[(0, 0)], [], rfl, rfl, rfl, by simp [fitL, fitV, lookN, pureV], g0 _⟩
        by_cases hji : j = i
        · subst hji; exact hv
        · exact hh j (by omega)
    · simp at h
      have hin : i = t.length := by omega
      subst hin
      repeat refine wps_seq ?_
      refine wps_exit ?_
      simp
      repeat refine wps_seq ?_
      refine wps_region callOK ?_
      simp [zS]
      repeat refine wps_seq ?_
      refine wps_ret ?_
      simp [retVal, Tryz.f22, oneOr, thenQ, blockQ]
      exact ends_pure rfl (by rw [rightB_yes z0 z1 z2 hall hh])
noncomputable def e22 : Entry Tryz.prog := mkE 22 [[]] (fun t : Tr => [aTree t]) okTr (fun t => .bool (rightB t)) fun t ht => c22 (T := [e42, e43]) rfl rfl t ht
theorem k22 {T : List (Entry Tryz.prog)} (hT : findE 22 T = some e22.g) {t : Tr} (ht : okTr t) (H : Heap) : callL (ctx T) (.fn 22) [aTree t] H = some (.bool (rightB t), H) :=
  mkE_scalar hT injT t ht rfl (by simp [th_aTree])
def mayTr (t : Tr) (m : Int) : Bool := fewTr t m && rightB t
theorem c6 {T : List (Entry Tryz.prog)} (hF : findE 14 T = some e14.g) (hR : findE 22 T = some e22.g) (t : Tr) (m : Int) (hm : m ≤ 50) : CallAt (ctx T) 6 [aTree t, .int .i64 m] ⟨0, []⟩ (.bool (mayTr t m)) ⟨0, []⟩ := by
  have kf := fun H => k14 hF t (m := m) (by omega) H
  simp only [aTree] at kf
  cases hf : fewTr t m with
  | false =>
    rw [hf] at kf
    refine callAt_body (fn := Tryz.f6) (s0 := ⟨[0, 1, 2, 4], [aTree t, .int .i64 m, .undef, .undef], [], 12, ⟨0, [[]]⟩⟩) Tryz.func6 rfl rfl rfl ?_
    (repeat (first
      | (refine wps_seq ?_)
      | (refine wps_block ?_)
      | (refine wps_label ?_; simp only [thenQ, blockQ])
      | ((refine wps_region callOK ?_); simp [zS, aTree, kf])
      | (refine wps_cond (t := true) rfl (fun _ => ?_) (fun h => by cases h))
      | (refine wps_cond (t := false) rfl (fun h => by cases h) (fun _ => ?_))
      | ((refine wps_skip ?_); simp only [thenQ, blockQ])
      | ((refine wps_exit ?_); simp [thenQ, blockQ])))
    repeat refine wps_seq ?_
    refine wps_ret ?_
    simp [retVal, Tryz.f6, oneOr, thenQ, blockQ]
    exact ends_pure rfl (by simp [mayTr, hf])
  | true =>
    have kr := fun H => k22 hR (few_small hm hf).2 H
    simp only [aTree] at kr
    rw [hf] at kf
    refine callAt_body (fn := Tryz.f6) (s0 := ⟨[0, 1, 2, 4], [aTree t, .int .i64 m, .undef, .undef], [], 12, ⟨0, [[]]⟩⟩) Tryz.func6 rfl rfl rfl ?_
    (repeat (first
      | (refine wps_seq ?_)
      | (refine wps_block ?_)
      | (refine wps_label ?_; simp only [thenQ, blockQ])
      | ((refine wps_region callOK ?_); simp [zS, aTree, kf, kr])
      | (refine wps_cond (t := true) rfl (fun _ => ?_) (fun h => by cases h))
      | (refine wps_cond (t := false) rfl (fun h => by cases h) (fun _ => ?_))
      | ((refine wps_skip ?_); simp only [thenQ, blockQ])
      | ((refine wps_exit ?_); simp [thenQ, blockQ])))
    repeat refine wps_seq ?_
    refine wps_ret ?_
    simp [retVal, Tryz.f6, oneOr, thenQ, blockQ]
    exact ends_pure rfl (by simp [mayTr, hf])
noncomputable def e6 : Entry Tryz.prog := mkE 6 [[], []] (fun x : Tr × Int => [aTree x.1, .int .i64 x.2]) (fun x => x.2 ≤ 50) (fun x => .bool (mayTr x.1 x.2)) fun x hx => c6 (T := [e14, e22]) rfl rfl x.1 x.2 hx
theorem k6 {T : List (Entry Tryz.prog)} (hT : findE 6 T = some e6.g) (t : Tr) {m : Int} (hm : m ≤ 50) (H : Heap) : callL (ctx T) (.fn 6) [aTree t, .int .i64 m] H = some (.bool (mayTr t m), H) :=
  mkE_scalar hT injTI (t, m) hm rfl (by simp [th_aTree])
end Go.Proofs.YthclkpplpdnffaaGreatDoor
namespace Go.Proofs.YthclkpplpdnffaaGreatDoor
set_option linter.unusedSimpArgs false
set_option linter.unusedVariables false
open Go Go.RowKit Go.ChangeShapes Go.WideShapes Go.ChangeAt
set_option maxRecDepth 100000
theorem shape_slice {α : Type} {n : Nat} {t e : TypeId} {enc : α → AV} {ag : Bool} (hu : Tryz.prog.underlying t = some (.slice e)) (hag : aggT Tryz.prog e = some ag) (h : ∀ cs x, ShapeT Tryz.prog n e cs → wrapA ag cs = some x → ∃ a, x = enc a) {qs : List AV} (hs : ShapeT Tryz.prog (n + 1) t qs) :
    ∃ L : List α, qs = [.fslc (Tryz.prog.cellsOf e) (L.map enc)] := by
  unfold ShapeT at hs
  simp only [hu] at hs
  obtain ⟨es, rfl, _, hes⟩ := hs
  have key : ∀ l : List AV, (∀ x, x ∈ l → ∃ ag cs, aggT Tryz.prog e = some ag ∧ wrapA ag cs = some x ∧ ShapeT Tryz.prog n e cs) → ∃ L : List α, l = L.map enc := by
    intro l
    induction l with
    | nil => intro _; exact ⟨[], rfl⟩
    | cons x r ih =>
      intro hx
      obtain ⟨ag', cs, h1, h2, h3⟩ := hx x (by simp)
      rw [hag, Option.some.injEq] at h1
      subst h1
      obtain ⟨a, ha⟩ := h cs x h3 h2
      obtain ⟨L, hL⟩ := ih fun y hy => hx y (by simp [hy])
      exact ⟨a :: L, by rw [ha, hL]; rfl⟩
  obtain ⟨L, rfl⟩ := key es hes
  exact ⟨L, rfl⟩
theorem shape_str {n : Nat} {qs : List AV} (h : ShapeT Tryz.prog (n + 1) 9 qs) : ∃ s : Str, qs = [.str s] := by
  unfold ShapeT at h
  simp only [Tryz.underlying9] at h
  obtain ⟨s, rfl, _⟩ := h
  exact ⟨s, rfl⟩
theorem shape_int {n : Nat} {qs : List AV} (h : ShapeT Tryz.prog (n + 1) 3 qs) : ∃ i : Int, qs = [aInt i] := by
  unfold ShapeT at h
  simp only [Tryz.underlying3] at h
  obtain ⟨s, rfl, _⟩ := h
  exact ⟨s, rfl⟩
theorem cellsO_attr : Tryz.prog.cellsOf 35 = 2 := by kernel_rfl
theorem cellsO_int : Tryz.prog.cellsOf 3 = 1 := by kernel_rfl
theorem cellsO_node : Tryz.prog.cellsOf 33 = 7 := by kernel_rfl
theorem cells_str1 : Tryz.prog.cellsOf 9 = 1 := by kernel_rfl
theorem shape_attr {n : Nat} {qs : List AV} (h : ShapeT Tryz.prog (n + 2) 35 qs) : ∃ a : At1, AV.agg qs = aAttr a := by
  unfold ShapeT at h
  simp only [Tryz.underlying35] at h
  cases h with
  | cons f r x y h1 h2 =>
    cases h2 with
    | cons f2 r2 x2 y2 h3 h4 =>
      cases h4
      obtain ⟨s1, rfl⟩ := shape_str h1
      obtain ⟨s2, rfl⟩ := shape_str h3
      exact ⟨(s1, s2), rfl⟩
theorem shape_attrs {n : Nat} {qs : List AV} (h : ShapeT Tryz.prog (n + 3) 31 qs) : ∃ L : List At1, qs = [aAttrs L] := by
  obtain ⟨L, rfl⟩ := shape_slice (enc := aAttr) (ag := true) Tryz.underlying31 agT35 (fun cs x h hw => by
    simp only [wrapA, Option.some.injEq] at hw
    obtain ⟨a, ha⟩ := shape_attr h
    exact ⟨a, by rw [← hw, ha]⟩) h
  exact ⟨L, by rw [cellsO_attr]; rfl⟩
theorem shape_ints {n : Nat} {qs : List AV} (h : ShapeT Tryz.prog (n + 2) 27 qs) : ∃ L : List Int, qs = [aInts L] := by
  obtain ⟨L, rfl⟩ := shape_slice (enc := aInt) (ag := false) Tryz.underlying27 agT3 (fun cs x h hw => by
    obtain ⟨a, rfl⟩ := shape_int h
    simp only [wrapA, aInt, AV.single, Option.some.injEq] at hw
    exact ⟨a, hw.symm⟩) h
  exact ⟨L, by rw [cellsO_int]⟩
theorem shape_node {n : Nat} {qs : List AV} (h : ShapeT Tryz.prog (n + 4) 33 qs) : ∃ a : Nd, AV.agg qs = aNode a := by
  unfold ShapeT at h
  simp only [Tryz.underlying33] at h
  obtain _ | ⟨_, _, _, _, h1, h⟩ := h
  obtain _ | ⟨_, _, _, _, h2, h⟩ := h
  obtain _ | ⟨_, _, _, _, h3, h⟩ := h
  obtain _ | ⟨_, _, _, _, h4, h⟩ := h
  obtain _ | ⟨_, _, _, _, h5, h⟩ := h
  obtain _ | ⟨_, _, _, _, h6, h⟩ := h
  obtain _ | ⟨_, _, _, _, h7, h⟩ := h
  cases h
  obtain ⟨x1, rfl⟩ := shape_int h1
  obtain ⟨x2, rfl⟩ := shape_int h2
  obtain ⟨x3, rfl⟩ := shape_str h3
  obtain ⟨x4, rfl⟩ := shape_attrs (n := n) h4
  obtain ⟨x5, rfl⟩ := shape_str h5
  obtain ⟨x6, rfl⟩ := shape_int h6
  obtain ⟨x7, rfl⟩ := shape_ints (n := n + 1) h7
  exact ⟨⟨x1, x2, x3, x4, x5, x6, x7⟩, rfl⟩
theorem shape_tree {n : Nat} {qs : List AV} (h : ShapeT Tryz.prog (n + 6) 24 qs) : ∃ t : Tr, AV.agg qs = aTree t := by
  unfold ShapeT at h
  simp only [Tryz.underlying24] at h
  obtain _ | ⟨_, _, _, _, h1, h⟩ := h
  cases h
  obtain ⟨L, rfl⟩ := shape_slice (n := n + 4) (enc := aNode) (ag := true) Tryz.underlying22 agT33 (fun cs x h hw => by
    simp only [wrapA, Option.some.injEq] at hw
    obtain ⟨a, ha⟩ := shape_node h
    exact ⟨a, by rw [← hw, ha]⟩) h1
  exact ⟨L, by rw [cellsO_node]; rfl⟩
theorem okTree : okTy Tryz.prog 6 24 = true := by kernel_rfl
section
variable {H : Type} {enc : TypeId × Value → H} {W : World} {hg : GlobsIn W}
theorem argTree {b0 base : Nat} {sp : Nat → Bool} {held : Bool} {v : Value} {d : DataW H} {ps : List MemPlace} (ht : DataW.Trod enc Tryz.prog W base sp held 24 v d ps) (hv : Value.okWide Tryz.prog W .any b0 24 v) : ∃ t, VR (start W hg) (aTree t) v := by
  obtain ⟨qs, a, h1, h2, h3⟩ := arg_shape (hg := hg) okTree (ag := true) agT24 (fun h => by cases h) ht hv
  obtain ⟨x, hx⟩ := shape_tree (n := 0) h1
  have : a = aTree x := by
    simp only [wrapA, Option.some.injEq] at h2
    rw [← h2, hx]
  exact ⟨x, this ▸ h3⟩
theorem vr_str (s : ByteArray) : VR (start W hg) (.str s.data.toList) (.string s) := by
  have := VR.str (ρ := start W hg) s.data.toList
  rwa [Array.toArray_toList] at this
end
end Go.Proofs.YthclkpplpdnffaaGreatDoor
namespace Go.Proofs.YthclkpplpdnffaaGreatDoor
set_option linter.unusedSimpArgs false
set_option linter.unusedVariables false
open Go Go.RowKit
set_option maxRecDepth 100000
def valueB (t : Tr) (i : Int) (nm : Str) : Str := if i < 0 ∨ (t.length : Int) ≤ i then [] else valOf (nodeAt t i) nm
theorem c110 {T : List (Entry Tryz.prog)} (hG : findE 49 T = some e49.g) (t : Tr) (ht : okTr t) (i : Int) (nm : Str) : CallAt (ctx T) 110 [aTree t, .int .i64 i, .str nm] ⟨0, []⟩ (.str (valueB t i nm)) ⟨0, []⟩ := by
  refine callAt_body (fn := Tryz.f110) (s0 := ⟨[0, 1, 2, 3, 6, 7], [aTree t, .int .i64 i, .str nm, .undef, .undef, .undef], [], 30, ⟨0, [[]]⟩⟩) Tryz.func110 rfl rfl rfl ?_
  repeat refine wps_seq ?_
  refine wps_region callOK ?_
  simp [zS, aTree]
  by_cases c1 : i < 0
  · repeat refine wps_seq ?_
    refine wps_region callOK ?_
    simp [zS, lenN, c1]
    repeat refine wps_seq ?_
    refine wps_cond (t := true) rfl (fun _ => ?_) fun h => by cases h
    repeat refine wps_seq ?_
    refine wps_region callOK ?_
    simp [zS]
    repeat refine wps_seq ?_
    refine wps_ret ?_
    simp [retVal, Tryz.f110, oneOr, thenQ, blockQ]
    exact ends_pure rfl (by simp [valueB, c1])
  · by_cases c2 : (t.length : Int) ≤ i
    · repeat refine wps_seq ?_
      refine wps_region callOK ?_
      simp [zS, lenN, c1, c2]
      repeat refine wps_seq ?_
      refine wps_cond (t := true) rfl (fun _ => ?_) fun h => by cases h
      repeat refine wps_seq ?_
      refine wps_region callOK ?_
      simp [zS]
      repeat refine wps_seq ?_
      refine wps_ret ?_
      simp [retVal, Tryz.f110, oneOr, thenQ, blockQ]
      exact ends_pure rfl (by simp [valueB, c1, c2])
    · have hl := (ht.2 _ (nodeAt_mem (t := t) (i := i) (by omega) (by omega))).2
      have hk := fun H => k49 hG nm hl (th_aAttrs H _)
      repeat refine wps_seq ?_
      refine wps_region callOK ?_
      simp [zS, lenN, c1, c2]
      repeat refine wps_seq ?_
      refine wps_cond (t := false) rfl (fun h => by cases h) fun _ => ?_
      repeat refine wps_seq ?_
      refine wps_skip ?_
      simp
      repeat refine wps_seq ?_
      refine wps_region callOK ?_
      simp [zS, atX (t := t) (i := i) (by omega) (by omega), hk, gotA]
      repeat refine wps_seq ?_
      refine wps_region callOK ?_
      simp [zS]
      repeat refine wps_seq ?_
      refine wps_ret ?_
      simp [retVal, Tryz.f110, oneOr, thenQ, blockQ]
      exact ends_pure rfl (by simp [valueB, valOf, c1, c2])
theorem injTIS (x y : Tr × Int × Str) (h : [aTree x.1, .int .i64 x.2.1, .str x.2.2] = [aTree y.1, .int .i64 y.2.1, .str y.2.2]) : x = y := by
  simp at h; exact Prod.ext (inj_aTree h.1) (Prod.ext h.2.1 h.2.2)
noncomputable def e110 : Entry Tryz.prog := mkE 110 [[], [], []] (fun x : Tr × Int × Str => [aTree x.1, .int .i64 x.2.1, .str x.2.2]) (fun x => okTr x.1) (fun x => .str (valueB x.1 x.2.1 x.2.2)) fun x hx => c110 (T := [e49]) rfl x.1 hx x.2.1 x.2.2
theorem k110 {T : List (Entry Tryz.prog)} (hT : findE 110 T = some e110.g) {t : Tr} (ht : okTr t) (i : Int) (nm : Str) (H : Heap) : callL (ctx T) (.fn 110) [aTree t, .int .i64 i, .str nm] H = some (.str (valueB t i nm), H) :=
  mkE_scalar hT injTIS (t, i, nm) ht rfl (by simp [th_aTree])
theorem named_len {t : Tr} {x : Str} : (namedL t x).length ≤ t.length := by
  unfold namedL
  split
  · simp
  · exact Nat.le_trans (List.length_filter_le _ _) order_len
theorem right_root {t : Tr} (h : rightB t = true) : (nodeAt t 0).kind = 0 ∧ t ≠ [] := by
  simp only [rightB, Bool.and_eq_true, decide_eq_true_eq] at h
  exact ⟨h.2.1, h.1⟩
end Go.Proofs.YthclkpplpdnffaaGreatDoor
