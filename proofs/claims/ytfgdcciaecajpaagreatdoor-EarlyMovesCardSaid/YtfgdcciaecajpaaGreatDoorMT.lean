/- What is handed in is a list of tokens. No condition. -/
import Derived.Test.YtfgdcciaecajpaaGreatDoorML
import Derived.Test.YtfgdcciaecajpaaGreatDoorMG
import Derived.Test.YtfgdcciaecajpaaGreatDoorMN
import Derived.Test.YtfgdcciaecajpaaGreatDoorMQ
import Derived.Test.YtfgdcciaecajpaaGreatDoorMS
import Derived.Test.YtfgdcciaecajpaaGreatDoorRows
import Derived.Test.YtfgdcciaecajpaaGreatDoorTie
import Derived.Test.YtfgdcciaecajpaaGreatDoorCards
import Derived.Test.YtfgdcciaecajpaaGreatDoorMF
import Derived.HandedShaped
import Derived.Shelf.Vars
import Derived.ChangeMaps5
import Derived.LaidMore
import Derived.Stop.LaidErr
import Derived.SevenTiedAt
import Derived.Lib.LaidU8
namespace Go.Proofs.YtfgdcciaecajpaaGreatDoor
set_option linter.unusedSimpArgs false
set_option linter.unusedVariables false
open Go Go.RowKit
set_option maxRecDepth 100000
def fewTk (t : Tk) : Bool := decide (t.name.length ≤ 40) && (decide (t.data.length ≤ 200) && fewAts t.attrs)
theorem c5 {T : List (Entry Tryz.prog)} (hc0 : findE 13 T = some e13.g) (t : Tk) : CallAt (ctx T) 5 [aTok t] ⟨0, []⟩ (.bool (fewTk t)) ⟨0, []⟩ := by
 have kc0 := @k13 T hc0
 have hk := fun H => k13 hc0 t.attrs H
 obtain ⟨kd, nm, L, sf, dt⟩ := t
 rcases Bool.eq_false_or_eq_true (decide ((nm.length : Int) ≤ 40)) with b1 | b1 <;> rcases Bool.eq_false_or_eq_true (decide ((dt.length : Int) ≤ 200)) with b2 | b2
 all_goals
  have c1 := b1
  have c2 := b2
  simp only [decide_eq_true_eq, decide_eq_false_iff_not] at c1 c2
  refine callAt_body (fn := Tryz.f5) (s0 := ⟨[0, 1, 2], [aTok ⟨kd, nm, L, sf, dt⟩, .undef, .undef], [], 18, ⟨0, [[]]⟩⟩) Tryz.func5 rfl rfl rfl ?_
  (repeat (first
   | (refine wps_seq ?_)
   | (refine wps_block ?_)
   | (refine wps_label ?_; simp only [thenQ, blockQ])
   | ((refine wps_region callOK ?_); simp [zS, aTok, Tk.cs, c1, c2, hk])
   | (refine wps_ct rfl ?_)
   | (refine wps_cf rfl ?_)
   | ((refine wps_skip ?_); simp only [thenQ, blockQ])
   | ((refine wps_exit ?_); simp [thenQ, blockQ])))
  have e1 : (nm.length ≤ 40) ↔ ((nm.length : Int) ≤ 40) := by omega
  have e2 : (dt.length ≤ 200) ↔ ((dt.length : Int) ≤ 200) := by omega
  repeat apply wq
  refine wps_ret ?_
  simp [retVal, Tryz.f5, oneOr, thenQ, blockQ]
  exact ends_pure rfl (by simp only [fewTk, e1, e2, b1, b2]; simp)
theorem inj_5 (x y : Tk) (h : (fun z : Tk => ([aTok z] : List AV)) x = (fun z : Tk => ([aTok z] : List AV)) y) : x = y := by
 simp only [List.cons.injEq, and_true] at h
 exact inj_aTok h
noncomputable def e5 : Entry Tryz.prog := mkE 5 [[0, 0, 2, 0, 0]] (fun z : Tk => [aTok z]) (fun z => True) (fun z => .bool (fewTk z)) fun z h => c5 (T := [e13]) rfl z 
theorem k5 {T : List (Entry Tryz.prog)} (hT : findE 5 T = some e5.g) (t : Tk) (H : Heap) : callL (ctx T) (.fn 5) [aTok t] H = some (.bool (fewTk t), H) :=
 mkE_scalar hT inj_5 (t) trivial rfl (by simp [thawA_ok])
theorem wps_joinI {C : Ctx} {n : Nat} {r : Option Nat} {c d : Code} {s : St} {Q : Out → St → Prop} {ι : Type} (inv : ι → St) (φ : ι → Prop) (h1 : ∀ x, φ x → WpSr C n r d (inv x) Q) (h2 : (∀ s' x, φ x → (∃ σ Φ, Fit n σ Φ s' (inv x)) → WpSr C n r d s' Q) → WpSr C n r c s (thenQ (fun s' => WpSr C n r d s' Q) Q)) : WpSr C n r (.seq c d) s Q :=
 wps_seq (h2 fun s' x hx ⟨σ, Φ, f⟩ => .fit σ Φ f (h1 x hx))
theorem atTk {l : List Tk} {i : Nat} (h : i < l.length) : indexAddrA Tryz.prog 22 (.fslc 5 (l.map aTok)) (.int .i64 (i : Int)) = some (.fptr l[i].cs 0) := by
 simp [indexAddrA, idx_nat h, getL_get, aTok, AV.cells, h]
theorem lenTk (H : Heap) (l : List Tk) : lenA Tryz.prog H 22 (.fslc 5 (l.map aTok)) = some l.length := by simp [lenA]
end Go.Proofs.YtfgdcciaecajpaaGreatDoor
namespace Go.Proofs.YtfgdcciaecajpaaGreatDoor
set_option linter.unusedSimpArgs false
set_option linter.unusedVariables false
open Go Go.RowKit
set_option maxRecDepth 100000
set_option maxHeartbeats 1000000
theorem VR.slcInv {ρ : Place} {b o n c : Nat} {x : Value} (h : VR ρ (.slc b o n (.ex c)) x) : ∃ l, ρ b = some l ∧ x = .slice (some ⟨l.cb, l.off + o, none⟩) n c ∧ n ≤ c := by
 cases h with
 | slcE b o len c l h hc => exact ⟨l, h, rfl, hc⟩
theorem VR.aggInv1 {ρ : Place} {v : AV} {x : Value} (h : VR ρ (.agg [v]) x) : ∃ y, x = .agg #[y] ∧ VR ρ v y := by
 cases h with
 | agg cs vs hl hv =>
  have h0 : 0 < vs.size := by rw [hl]; simp
  refine ⟨vs[0], ?_, hv 0 (by simp) h0⟩
  congr 1
  apply Array.ext
  ·rw [hl]; rfl
  ·intro i h1 h2
   have : i = 0 := by simp at h2; omega
   subst this
   rfl
theorem CallAt.rest {C : Ctx} {f : FuncId} {args : List AV} {n sz : Nat} {cs : List AV} (h : CallAt C f args ⟨0, []⟩ (.agg [.slc 0 0 n (.ex n)]) ⟨1, [[(0, .cells cs)]]⟩) (hc : cs.length = n * sz) (hp : pureL cs = true) (hn : n ≤ 9223372036854775807) :
  CallAt C f args ⟨0, []⟩ (.agg [.slc 0 0 n (.rest sz)]) ⟨1, [[(0, .cells cs)]]⟩ := by
 intro ρ w xs sm hx
 have key : ∀ {x : Value} {ρ' : Place} {w' : World}, VR ρ' (.agg [.slc 0 0 n (.ex n)]) x → Sim ρ' ⟨1, [[(0, .cells cs)]]⟩ w' → Step ρ ⟨0, []⟩ w ρ' ⟨1, [[(0, .cells cs)]]⟩ w' → ∃ ρ'', VR ρ'' (.agg [.slc 0 0 n (.rest sz)]) x ∧ Sim ρ'' ⟨1, [[(0, .cells cs)]]⟩ w' ∧ Step ρ ⟨0, []⟩ w ρ'' ⟨1, [[(0, .cells cs)]]⟩ w' := fun {x ρ' w'} h1 h2 h3 => by
  obtain ⟨y, rfl, hy⟩ := h1.aggInv1
  obtain ⟨l, hl, rfl, _⟩ := hy.slcInv
  obtain ⟨l', hl', g2, g3, g4⟩ := h2.live (0, .cells cs) (by simp [Heap.ents])
  rw [hl] at hl'
  cases hl'
  obtain ⟨r1, r2, r3⟩ := g4
  obtain ⟨ρ'', e⟩ : ∃ ρ'' : Place, ρ'' = ρ'.upd 0 ⟨l.cb, l.off, l.off + cs.length⟩ := ⟨_, rfl⟩
  have u0 : ρ'' 0 = some ⟨l.cb, l.off, l.off + cs.length⟩ := by rw [e]; exact Place.upd_same
  have uo : ∀ b, b ≠ 0 → ρ'' b = ρ' b := fun b hb => by rw [e]; exact Place.upd_other hb
  have eB : ρ''.B = ρ'.B := by rw [e]; rfl
  have eW : ρ''.W = ρ'.W := by rw [e]; rfl
  have ebare : ρ''.bare = ρ'.bare := by rw [e]; rfl
  have hd : ∀ b, ρ b = none := fun b => sm.dom b (Nat.zero_le _)
  have only : ∀ e, e ∈ (⟨1, [[(0, .cells cs)]]⟩ : Heap).ents → e = (0, .cells cs) := fun e he => by simpa [Heap.ents] using he
  refine ⟨ρ'', ?_, ⟨?_, ?_, ?_, ?_, ?_, ?_, ?_, ?_, ?_⟩, ⟨⟨?_, ?_, ?_, ?_, ?_⟩, h3.size, ?_, ?_, h3.num, ?_, ?_⟩⟩
  ·refine .agg _ _ (by simp) fun i hi hi' => ?_
   have : i = 0 := by simp at hi; omega
   subst this
   exact .slcR 0 0 n sz n ⟨l.cb, l.off, l.off + cs.length⟩ u0 (Nat.le_refl _) ⟨by simp [hc], hn⟩
  ·rw [eB]; exact h2.base
  ·rw [eB, eW]; exact h2.below
  ·rw [eW]; exact h2.os
  ·rw [eW]; exact h2.tape
  ·rw [eW]; exact h2.output
  ·intro b hb
   rw [uo b (by simp at hb; omega)]
   exact h2.dom b hb
  ·exact h2.nodup
  ·intro e he
   rw [only e he]
   refine ⟨_, u0, by rw [eB]; exact g2, g3, ⟨by simp, fun i hi => r2 i (by simp at hi; omega), fun i hi => ?_⟩⟩
   obtain ⟨x, hx1, hx2⟩ := r3 i hi
   refine ⟨x, hx1, ?_⟩
   have := hx2.pure (pureL_get hp i hi)
   rw [← ebare] at this
   exact this.mono ρ''.bare_le
  ·intro e e' he he' _ _ _ _ _
   rw [only e he, only e' he']
  ·intro b l0 hb
   rw [hd b] at hb; cases hb
  ·intro k hk
   rw [eB, eW]; exact h3.le.fz k hk
  ·rw [eW]; exact h3.le.os
  ·rw [eW]; exact h3.le.tape
  ·rw [eW]; exact h3.le.output
  ·exact h3.keeps
  ·intro e he l0 hl0
   rw [only e he] at hl0
   rw [u0] at hl0
   cases hl0
   exact h3.rows (0, .cells cs) (by simp [Heap.ents]) l hl
  ·intro b hb
   exact absurd hb (Nat.not_lt_zero b)
  ·intro k hk
   rw [eB] at hk
   exact h3.cold k hk
 rcases h ρ w xs sm hx with ⟨x, ρ', w', h0, h1, h2, h3⟩ | ⟨g, ys, h0, h1⟩
 ·obtain ⟨ρ'', k1, k2, k3⟩ := key h1 h2 h3
  exact .inl ⟨x, ρ'', w', h0, k1, k2, k3⟩
 ·refine .inr ⟨g, ys, h0, h1.mono ?_⟩
  rintro e w' ⟨x, ρ', rfl, m1, m2, m3⟩
  obtain ⟨ρ'', k1, k2, k3⟩ := key m1 m2 m3
  exact ⟨x, ρ'', rfl, k1, k2, k3⟩
def root0 : Nd := ⟨0, 0, [], [], [], -1, []⟩
theorem c8 {T : List (Entry Tryz.prog)} : CallAt (ctx T) 8 [] ⟨0, []⟩ (.agg [.slc 0 0 1 (.rest 7)]) ⟨1, [[(0, .cells root0.cs)]]⟩ := by
 refine CallAt.rest ?_ rfl (by simp [root0, Nd.cs, aInt, aAttrs, pureL, pureV]) (by omega)
 have b5 : buildA Tryz.prog 43 [(5, .int .i64 (-1))] = some (.agg [.int .i64 0, .int .i64 0, .str [], .nilS, .str [], .int .i64 (-1), .nilS]) := rfl
 refine callAt_body (fn := Tryz.f8) (s0 := ⟨[0], [.undef], [], 4, ⟨0, [[]]⟩⟩) Tryz.func8 rfl rfl rfl ?_
 have bt : ∀ b n c, buildA Tryz.prog 31 [(0, .slc b 0 n c)] = some (.agg [.slc b 0 n c]) := fun b n c => rfl
 have pr : promote 0 [1] [] [[(1, .cells [.int .i64 0, .int .i64 0, .str [], .nilS, .str [], .int .i64 (-1), .nilS]), (0, .cells [.nilS])]] = [[(1, .cells [.int .i64 0, .int .i64 0, .str [], .nilS, .str [], .int .i64 (-1), .nilS]), (0, .cells [.nilS])]] := rfl
 repeat apply wq
 refine wps_region callOK ?_
 simp [zS, b5, bt, pr]
 repeat apply wq
 refine wps_region callOK ?_
 simp [zS, b5, bt, pr]
 repeat apply wq
 refine wps_ret ?_
 simp [retVal, Tryz.f8, oneOr]
 refine ⟨_, rfl, [(1, 0)], [], ?_, ⟨by simp, by simp, by simp [Heap.ents], by simp, fun x hx h => absurd h (Nat.not_lt_zero _), by simp, fun e he => ?_, fun x hx => by cases hx⟩⟩
 ·simp [fitV, fitL, lookN, readCells]
 ·simp only [Heap.ents, List.flatten_cons, List.flatten_nil, List.append_nil, List.mem_singleton] at he
  subst he
  exact ⟨1, _, by simp, rfl, by simp [fitB, fitL, fitV, root0, Nd.cs, aInt, aAttrs, pureV]⟩
theorem new_at {T : List (Entry Tryz.prog)} (m : Nat) (f : List (Nat × Blk)) (fs : List (List (Nat × Blk))) : CallAt (ctx T) 8 [] ⟨m, f :: fs⟩ (.agg [.slc m 0 1 (.rest 7)]) ⟨m + 1, ((m, .cells root0.cs) :: f) :: fs⟩ := by
 have fh : FitH 0 [] [] ⟨m, f :: fs⟩ ⟨0, []⟩ := ⟨by simp, by simp, by simp [Heap.ents], fun x h => (by cases h), fun x h => (by cases h), Nat.zero_le _, fun e he => by simp [Heap.ents] at he, fun x h => by cases h⟩
 have pr : pureL root0.cs = true := by simp [root0, Nd.cs, aInt, aAttrs, pureL, pureV]
 have := (c8 (T := T)).framed (args := []) (H := ⟨m, f :: fs⟩) (H' := ⟨m + 1, ((m, .cells root0.cs) :: f) :: fs⟩) fh (by simp [fitL]) ⟨by simp, fun nd lt => ?_, fun e he => ?_⟩ (by simp)
 ·simpa [renV, renL, outN, lookR] using this
 ·simp only [Heap.ents, List.flatten_cons, List.cons_append, List.map_cons, List.nodup_cons] at nd ⊢
  refine ⟨fun hx => ?_, nd⟩
  obtain ⟨e, he, hx⟩ := List.mem_map.1 hx
  have := lt e (by simpa [Heap.ents] using he)
  simp only at this
  omega
 ·simp only [Heap.ents, List.flatten_cons, List.cons_append, List.mem_cons] at he
  rcases he with rfl | he
  ·refine .inl ⟨(0, .cells root0.cs), by simp [Heap.ents], ?_⟩
   simp [outN, lookR, renB, renL_pure _ pr]
  ·exact .inr ⟨by simpa [Heap.ents] using he, fun x hx => by cases hx⟩
end Go.Proofs.YtfgdcciaecajpaaGreatDoor
namespace Go.Proofs.YtfgdcciaecajpaaGreatDoor
set_option linter.unusedSimpArgs false
set_option linter.unusedVariables false
open Go Go.RowKit
set_option maxRecDepth 100000
set_option maxHeartbeats 4000000
theorem few_tke {t : Tk} (h : fewTk t = true) : TkE t := by
 simp only [fewTk, fewAts, Bool.and_eq_true, decide_eq_true_eq] at h
 exact ⟨h.1, h.2.2.1, h.2.1⟩
theorem c4e {T : List (Entry Tryz.prog)} : CallAt (ctx T) 4 [.str []] ⟨0, []⟩ (.ptr 0 0) ⟨2, [VS 1 z0]⟩ := by
 have hnew := new_at (T := T) 0 [] []
 have bS : ∀ b, buildA Tryz.prog 34 [(0, .agg [.slc b 0 1 (.rest 7)]), (10, .str [])] = some (.agg [.slc b 0 1 (.rest 7), .nilS, .nilS, .int .i64 0, .int .i64 0, .int .i64 0, .int .i64 0, .int .i64 0, .bool false, .bool false, .str []]) := fun _ => rfl
 refine callAt_body (fn := Tryz.f4) (s0 := ⟨[0, 2, 3, 4], [.str [], .undef, .undef, .undef], [], 40, ⟨0, [[]]⟩⟩) Tryz.func4 rfl rfl rfl ?_
 repeat apply wq
 refine wps_region callOK ?_
 simp [zS]
 repeat apply wq
 refine wps_region (callOKF [⟨8, _, _, _, _, hnew⟩]) ?_
 simp [zS, callF, bS]
 repeat apply wq
 refine wps_region callOK ?_
 simp [zS]
 repeat apply wq
 refine wps_ct rfl ?_
 repeat apply wq
 refine wps_region callOK ?_
 simp [zS]
 repeat apply wq
 refine wps_ret ?_
 simp [retVal, Tryz.f4, oneOr]
 refine ⟨[(1, 0), (0, 1)], [], by simp [fitV, lookN], ⟨by simp, by simp, by simp [Heap.ents, VS, VE, z0, ownF], by simp, by simp, by simp, fun e he => ?_, fun x hx => by cases hx⟩⟩
 rw [VS_eq (by simp [z0])] at he
 simp [Heap.ents] at he
 rcases he with rfl | rfl
 ·exact ⟨1, _, by simp, rfl, by simp [fitB, fitL, fitV, lookN, z0, SS.post, aInts, pureV]⟩
 ·exact ⟨0, _, by simp, rfl, by simp [fitB, fitL, fitV, flatAV, AV.cells, z0, aNode, root0, Nd.cs, aInt, aInts, aAttrs, pureV]⟩
theorem c3 {T : List (Entry Tryz.prog)} (hA : findE 7 T = some e7.g) (hS : findE 6 T = some e6.g) (hP : findE 5 T = some e5.g) (l : List Tk) : CallAt (ctx T) 3 [.fslc 5 (l.map aTok)] ⟨0, []⟩ (.bool true) ⟨0, []⟩ := by
 have hnew := (c4e (T := T)).perm (H2 := ⟨0, [[]]⟩) (H2' := ⟨2, [[], VS 1 z0]⟩) rfl rfl (by simp [Heap.ents]) (by simp [Heap.ents])
 have ka := fun H => k7 hA H
 have bN : binA Tryz.prog .eql 23 (.ptr 0 0) .nilP = some (.bool false) := rfl
 have htk := fun i (h : i < l.length) => @atTk l i h
 have hlk := fun H => lenTk H l
 have g0 := @vg0
 have nez : z0.tree ≠ [] := by simp [z0]
 have z0o := z0_ok
 refine callAt_body (fn := Tryz.f3) (s0 := ⟨[0, 2, 3, 4, 5, 6, 7, 11, 12, 13], [.fslc 5 (l.map aTok), .undef, .undef, .undef, .undef, .undef, .undef, .undef, .undef, .undef], [], 58, ⟨0, [[]]⟩⟩) Tryz.func3 rfl rfl rfl ?_
 repeat apply wq
 refine wps_region callOK ?_
 simp [zS]
 repeat apply wq
 refine wps_region (callOKF [⟨4, _, _, _, _, hnew⟩]) ?_
 simp [zS, callF]
 repeat apply wq
 refine wps_region callOK ?_
 simp [zS, bN]
 repeat apply wq
 refine wps_cf rfl ?_
 repeat apply wq
 refine wps_skip ?_
 simp
 generalize z0 = z at z0o nez ⊢
 refine wps_joinI (fun _ : Unit => (⟨[0, 2, 3, 4, 5, 6, 7, 11, 12, 13], [.undef, .undef, .undef, .undef, .undef, .undef, .undef, .undef, .undef, .undef], [], 58, ⟨0, [[]]⟩⟩ : St)) (fun _ => True) ?rest fun hE => ?_
 case rest =>
  intro _ _
  repeat apply wq
  refine wps_region callOK ?_
  simp [zS, ka]
  repeat apply wq
  refine wps_ret ?_
  simp [retVal, Tryz.f3, oneOr, thenQ, blockQ]
  exact ends_pure rfl (by rfl)
 repeat apply wq
 refine wps_region callOK ?_
 simp [zS, hlk]
 repeat apply wq
 refine wps_block ?_
 repeat apply wq
 refine wps_loop' (fun x : Nat × SS => (⟨[0, 2, 3, 4, 5, 6, 7, 11, 12, 13], [.undef, .undef, .ptr 0 0, .undef, .undef, .undef, .undef, .fslc 5 (l.map aTok), .int .i64 (l.length : Int), .int .i64 (x.1 : Int)], [], 58, ⟨3, [[], VS 2 x.2]⟩⟩ : St)) (fun x => x.1 ≤ l.length ∧ x.1 ≤ 40 ∧ SE (1 + 2 * x.1) (200 * (x.1 + 1)) (14 * (x.1 + 1)) x.2 ∧ MI x.2) (fun x => l.length - x.1) [(1, 2), (0, 0)] [] (0, z) ⟨Nat.zero_le _, by simp, z0o.1, z0o.2⟩
  ⟨rfl, rfl, rfl, by simp [fitL, fitV, lookN, pureV], fitS1 ⟨by omega, by omega, by omega⟩ (by omega) (by omega) nez (by simp [getF]) (by simp [getF])⟩ ?_
 clear z0o nez hnew z
 rintro ⟨j, s⟩ ⟨hj, hj4, hs, hm⟩ B hB
 simp only at hj hj4 hs hm
 have ne := hs.ne
 repeat apply wq
 refine wps_region callOK ?_
 simp [zS]
 repeat apply wq
 refine wps_cond rfl (fun h => ?_) fun h => ?_
 ·simp at h
  repeat apply wq
  refine wps_skip ?_
  simp
  repeat apply wq
  refine wps_block ?_
  obtain ⟨t, ht⟩ : ∃ t, t = l[j] := ⟨_, rfl⟩
  have hix := htk j h
  rw [← ht] at hix
  have kP := fun H => k5 hP t H
  repeat apply wq
  refine wps_region callOK ?_
  simp [zS, hix, Tk.cs]
  simp only [aTok, Tk.cs] at kP
  by_cases c1 : (40 : Int) ≤ (j : Int)
  ·have c1' : 40 ≤ j := by omega
   repeat apply wq
   refine wps_region callOK ?_
   simp [zS, c1, c1']
   repeat apply wq
   refine wps_ct rfl ?_
   repeat apply wq
   refine wps_exit ?_
   simp
   exact hE _ () trivial ⟨[], [], ⟨rfl, rfl, rfl, by simp [fitL, fitV, pureV, pureL], FitH.nothing⟩⟩
  have c1' : ¬ 40 ≤ j := by omega
  cases hf : fewTk t with
  | false =>
   rw [hf] at kP
   repeat apply wq
   refine wps_region callOK ?_
   simp [zS, c1, c1', kP]
   repeat apply wq
   refine wps_ct rfl ?_
   repeat apply wq
   refine wps_exit ?_
   simp
   exact hE _ () trivial ⟨[], [], ⟨rfl, rfl, rfl, by simp [fitL, fitV, pureV, pureL], FitH.nothing⟩⟩
  | true =>
   rw [hf] at kP
   by_cases hm5 : s.mode = 5
   ·repeat apply wq
    refine wps_region callOK ?_
    simp [zS, c1, c1', kP, g0, ne, SS.post, hm5]
    repeat apply wq
    refine wps_ct rfl ?_
    repeat apply wq
    refine wps_exit ?_
    simp
    exact hE _ () trivial ⟨[], [], ⟨rfl, rfl, rfl, by simp [fitL, fitV, pureV, pureL], FitH.nothing⟩⟩
   have htk2 := few_tke hf
   have kS := fun n k tb fr => @k6 T hS s t ne (st_ok hs hm hm5 htk2 (by omega) (by omega) (by omega)) n k tb fr
   have wn := went hs hm hm5 htk2 (by omega) (by omega)
   obtain ⟨w1, w2, w3⟩ := wn
   have ne2 := w1.ne
   have w1' := w1.mono (n' := 1 + 2 * (j + 1)) (d' := 200 * (j + 1 + 1)) (a' := 14 * (j + 1 + 1)) (by omega) (by omega) (by omega)
   repeat apply wq
   refine wps_region callOK ?_
   simp [zS, c1, c1', kP, g0, ne, SS.post, hm5]
   repeat apply wq
   refine wps_cf rfl ?_
   repeat apply wq
   refine wps_skip ?_
   simp
   repeat apply wq
   refine wps_drawK mixed callOK (by decide +kernel) (by decide +kernel) ?_
   simp [zS, evalK_c, evalK_nil, thenK_some, g0, ne, SS.post]
   simp only [Tk.cs] at kS
   generalize stR s t = r at kS w1' w2 w3 ne2
   generalize stT s t = t2 at kS
   obtain ⟨kd2, nm2, L2, sf2, dt2⟩ := t2
   obtain ⟨rb, rs⟩ := r
   simp only at kS w1' w2 w3 ne2
   cases rb with
   | false =>
    repeat apply wq
    refine wps_region callOK ?_
    simp [zS, kS, g0, ne2, SS.post]
    repeat apply wq
    refine wps_cf rfl ?_
    repeat apply wq
    refine wps_skip ?_
    simp
    repeat apply wq
    refine wps_region callOK ?_
    simp [zS, add_one (show j ≤ 1000000000 by omega)]
    exact hB _ (j + 1, rs) (by simp only; omega) ⟨by simp only; omega, by simp only; omega, w1', w2⟩ ⟨[(13, 2), (0, 0)], [], rfl, rfl, rfl, by simp [fitL, fitV, lookN, pureV], fitS1 ⟨by omega, by omega, by omega⟩ (by omega) (by omega) ne2 (by simp [getF]) (by simp [getF])⟩
   | true =>
    have w4 := w3 rfl
    repeat apply wq
    refine wps_region callOK ?_
    simp [zS, kS, g0, ne2, SS.post, w4]
    repeat apply wq
    refine wps_cf rfl ?_
    repeat apply wq
    refine wps_skip ?_
    simp
    repeat apply wq
    refine wps_region callOK ?_
    simp [zS, add_one (show j ≤ 1000000000 by omega)]
    exact hB _ (j + 1, rs) (by simp only; omega) ⟨by simp only; omega, by simp only; omega, w1', w2⟩ ⟨[(13, 2), (0, 0)], [], rfl, rfl, rfl, by simp [fitL, fitV, lookN, pureV], fitS1 ⟨by omega, by omega, by omega⟩ (by omega) (by omega) ne2 (by simp [getF]) (by simp [getF])⟩
 ·simp at h
  repeat apply wq
  refine wps_exit ?_
  simp
  exact hE _ () trivial ⟨[], [], ⟨rfl, rfl, rfl, by simp [fitL, fitV, pureV, pureL], FitH.nothing⟩⟩
end Go.Proofs.YtfgdcciaecajpaaGreatDoor
namespace Go.Proofs.YtfgdcciaecajpaaGreatDoor
set_option linter.unusedSimpArgs false
set_option linter.unusedVariables false
open Go Go.RowKit Go.ChangeShapes Go.WideShapes Go.ChangeAt
set_option maxRecDepth 100000
theorem own_ : ownKnob Tryz.prog.godebug = none := by kernel_rfl
theorem laid_ : laidOutB Tryz.prog = true := by kernel_rfl
abbrev laid5 : List (String × DataW Unit) := [("unicode/utf8.acceptRanges", Rows.laid_unicode_utf8_acceptRanges), ("unicode/utf8.first", Rows.laid_unicode_utf8_first)]
theorem first_data : (Rows.laid_unicode_utf8_first : DataW Unit) = Lib.tabData .u8 utfFirst := by kernel_rfl
theorem accept_data : (Rows.laid_unicode_utf8_acceptRanges : DataW Unit) = .agg ((List.range 16).map fun i => .agg ([utfAcc.getD (2 * i) 0, utfAcc.getD (2 * i + 1) 0].map fun z => .lit (.int .u8 z))) := by kernel_rfl
theorem acc_len : utfAcc.length = 32 := by decide +kernel
theorem gFirst : Tryz.prog.globalNamed "unicode/utf8.first" = some (1) := by kernel_rfl
theorem gAcc : Tryz.prog.globalNamed "unicode/utf8.acceptRanges" = some (2) := by kernel_rfl
theorem tFirst : (Tryz.prog.globals[1]?).map (·.type) = some 162 := by kernel_rfl
theorem tAcc : (Tryz.prog.globals[2]?).map (·.type) = some 165 := by kernel_rfl
theorem cells_u8 : Tryz.prog.cellsOf 5 = 1 := by kernel_rfl
theorem cells_256 : Tryz.prog.cellsOf 162 = 256 := by kernel_rfl
theorem cells_acc : Tryz.prog.cellsOf 164 = 2 := by kernel_rfl
theorem pins_met {W : World} (hL : laidMetH Tryz.prog laid5 W) : ∀ x, x ∈ pins → ∀ i n, x.2[i]? = some n → W.cell? ⟨x.1, i, none⟩ = some (.int .u8 n) := by
 rw [MakeChecks.laidMetH_plain _ _ _ (by kernel_rfl)] at hL
 have r1 := Lib.laidMet.reads hL (n := "unicode/utf8.first") (d := Rows.laid_unicode_utf8_first) (by simp)
 have r2 := Lib.laidMet.reads hL (n := "unicode/utf8.acceptRanges") (d := Rows.laid_unicode_utf8_acceptRanges) (by simp)
 rw [first_data] at r1
 rw [accept_data] at r2
 intro x hx i n hn
 simp only [pins, List.mem_cons, List.not_mem_nil, or_false] at hx
 rcases hx with rfl | rfl
 ·obtain ⟨g, t, cs, fuel, p, hg, hty, hvar, hd⟩ := r1
  obtain rfl := Option.some.inj (gFirst.symm.trans hg)
  obtain rfl := Option.some.inj (tFirst.symm.trans hty)
  have hcs := Lib.cells_of_tab Tryz.underlying162 Tryz.underlying5 cells_u8 cells_256 hd
  rw [World.var?_cell hg hvar i, ← Array.getElem?_toList, hcs, List.getElem?_map, hn]
  rfl
 ·obtain ⟨g, t, cs, fuel, p, hg, hty, hvar, hd⟩ := r2
  obtain rfl := Option.some.inj (gAcc.symm.trans hg)
  obtain rfl := Option.some.inj (tAcc.symm.trans hty)
  have hi : i < 32 := by
   have := (List.getElem?_eq_some_iff.1 hn).1
   rw [acc_len] at this; exact this
  obtain ⟨fuel', d, q, hdi, he⟩ := Lib.array_elem Tryz.underlying165 hd (i / 2) (by omega)
  simp only [List.getElem?_map, List.getElem?_range (show i / 2 < 16 by omega), Option.map_some, Option.some.injEq] at hdi
  subst hdi
  rw [cells_acc] at he
  have hcs := Lib.ints_of_struct Tryz.underlying164 (fun j f hj => by
   match j, hj with
   | 0, hj => simp at hj; subst hj; exact ⟨Tryz.underlying5, rfl, cells_u8⟩
   | 1, hj => simp at hj; subst hj; exact ⟨Tryz.underlying5, rfl, cells_u8⟩
   | j + 2, hj => simp at hj) (by rw [cells_acc]; rfl) he
  have hn' : utfAcc.getD i 0 = n := by simp [List.getD_eq_getElem?_getD, hn]
  rw [World.var?_cell hg hvar i, ← Array.getElem?_toList]
  rcases Nat.mod_two_eq_zero_or_one i with h2 | h2
  ·have e0 := congrArg (·[0]?) hcs
   simp only [List.getElem?_take, List.getElem?_drop] at e0
   have hidx : i / 2 * 2 + 0 = i := by omega
   have hidx2 : 2 * (i / 2) = i := by omega
   rw [hidx] at e0
   simpa [hidx2, hn', ← List.getD_eq_getElem?_getD] using e0
  ·have e1 := congrArg (·[1]?) hcs
   simp only [List.getElem?_take, List.getElem?_drop] at e1
   have hidx : i / 2 * 2 + 1 = i := by omega
   have hidx2 : 2 * (i / 2) + 1 = i := by omega
   rw [hidx] at e1
   simpa [hidx2, hn', ← List.getD_eq_getElem?_getD] using e1
theorem hgs {W : World} (hsh : W.ShapedOpen Tryz.prog) (hL : laidMetH Tryz.prog laid5 W) : GlobsIn W where
 gl := by
  intro g h
  simp [globs] at h
  subst h
  exact cell_of_shapedOpen_int (P := Tryz.prog) (g := 0) (t := 3) (zero := #[.int .i64 0]) hsh (of_decide_eq_true (by kernel_rfl)) (by kernel_rfl) rfl (by kernel_rfl) (by kernel_rfl) Tryz.underlying3
 gi := by
  intro g h
  simp [ivars] at h
 gp := pins_met hL
 gx := by
  intro x h
  simp [tabs] at h
noncomputable def doorW (os : Os) : World :=
 let w0 := World.doorLaid Tryz.prog 4000 os
 { w0 with heap := w0.heap.modify 1 fun
  | .cells _ t frozen => .cells (Lib.firstTab.map fun z => Value.int .u8 z).toArray t frozen
  | o => o }
theorem door_met (os : Os) (args : Array Value) : laidMetH Tryz.prog laid5 ((doorW os).forCall (fun _ _ => 0) ⟨#[], args, []⟩).memory :=
 laidMetH_of_parts3 (fuel := 8) (laidMet_of_run' 8 (by kernel_rfl) (by kernel_rfl)) (by kernel_rfl) (by kernel_rfl)
theorem door_shaped (os : Os) (args : Array Value) : ((doorW os).forCall (fun _ _ => 0) ⟨#[], args, []⟩).Shaped Tryz.prog := World.shaped_of_RefB (by kernel_rfl) (by kernel_rfl)
theorem returns_and_shaped {H : Type} {enc : TypeId × Value → H} {a : Assume} {C : Checked} {os : Os} {f : FuncId} {fn : Func} {s : ChangeSpec} {conds : List PathCond} {apart fresh handsOn again : Bool} {X : World → Array Value → Prop}
  (hX : ∀ (w w' : World) (args : Array Value), w.heap = w'.heap → X w args → X w' args)
  (own : ownKnob C.prog.godebug = none) (started : os.Started) (noInit : C.prog.inits.idxOf? f = none) (hfn : C.prog.funcs[f]? = some fn)
  (witness : ∃ (w : World) (tape : Tape) (i : Input), w.os = os ∧ (w.forCall tape i).Shaped C.prog ∧ i.vars = [] ∧ Input.okWide C.prog (w.forCall tape i) .any w.heap.size f i ∧
   ((s.pre enc C.prog fn conds apart (w.forCall tape i).memory i.args ∧ X (w.forCall tape i).memory i.args) ∧ sizedMet enc C.prog fn (OpenSpec.ofChange s) apart (w.forCall tape i).memory i.args) ∧ a.holds C.prog (lone (Frame.enter C.prog f i.args .normal) [] (w.forCall tape i)))
  (contract : ∀ (W : World) (base : Nat) (args : Array Value) (ds gs : List (DataW H)) (before : List MemPlace),
   (∀ (j : Nat) t v, fn.params[j]? = some t → args[j]? = some v → Value.okWide C.prog W .any base t v) →
   DataW.Whole enc C.prog fn.params.toList s.vars apart W args.toList ds gs before → W.ShapedOpen C.prog → X W args →
   Calls C.prog f args W fun e W' => ∃ v, e = .returned v ∧ s.post enc C.prog fn apart fresh handsOn again W args v W') :
  ReturnsInHanded a C os f .any (fun w args => (s.pre enc C.prog fn conds apart w args ∧ X w args) ∧ sizedMet enc C.prog fn (OpenSpec.ofChange s) apart w args) (s.post enc C.prog fn apart fresh handsOn again) := by
 refine returnsInHanded_of_calls own started noInit witness ?_
 intro w tape i _ hsh _ hok hpre hholds
 obtain ⟨_, _, _, fn', hfn', _, _, _, _, hval⟩ := hok
 have e : fn' = fn := Option.some.inj (hfn'.symm.trans hfn)
 subst e
 obtain ⟨⟨⟨ds, gs, before, hw, hc⟩, hx⟩, hz⟩ := hpre
 have hw' := DataW.Whole.of_heap (w' := w.forCall tape i) (by rfl) hw
 refine (contract (w.forCall tape i) w.heap.size i.args ds gs before hval hw' hsh (hX _ _ _ (by rfl) hx)).mono fun e W' ⟨v, he, hp⟩ => ?_
 subst he
 exact ChangeSpec.post_blind hp
theorem cellsO_tok : Tryz.prog.cellsOf 27 = 5 := by kernel_rfl
theorem shape_bool {n : Nat} {qs : List AV} (h : ShapeT Tryz.prog (n + 1) 4 qs) : ∃ s : Bool, qs = [.bool s] := by
 unfold ShapeT at h
 simp only [Tryz.underlying4] at h
 obtain ⟨s, rfl, _⟩ := h
 exact ⟨s, rfl⟩
theorem shape_token {n : Nat} {qs : List AV} (h : ShapeT Tryz.prog (n + 4) 27 qs) : ∃ a : Tk, AV.agg qs = aTok a := by
 unfold ShapeT at h
 simp only [Tryz.underlying27] at h
 obtain _ | ⟨_, _, _, _, h1, h⟩ := h
 obtain _ | ⟨_, _, _, _, h2, h⟩ := h
 obtain _ | ⟨_, _, _, _, h3, h⟩ := h
 obtain _ | ⟨_, _, _, _, h4, h⟩ := h
 obtain _ | ⟨_, _, _, _, h5, h⟩ := h
 cases h
 obtain ⟨x1, rfl⟩ := shape_int h1
 obtain ⟨x2, rfl⟩ := shape_str h2
 obtain ⟨x3, rfl⟩ := shape_attrs (n := n) h3
 obtain ⟨x4, rfl⟩ := shape_bool h4
 obtain ⟨x5, rfl⟩ := shape_str h5
 exact ⟨⟨x1, x2, x3, x4, x5⟩, rfl⟩
theorem okTokens : okTy Tryz.prog 5 22 = true := by kernel_rfl
theorem agTok : aggT Tryz.prog 27 = some true := rfl
theorem agToks : aggT Tryz.prog 22 = some false := rfl
section
variable {H : Type} {enc : TypeId × Value → H} {W : World} {hg : GlobsIn W}
theorem argTokens {b0 base : Nat} {sp : Nat → Bool} {held : Bool} {v : Value} {d : DataW H} {ps : List MemPlace} (ht : DataW.Trod enc Tryz.prog W base sp held 22 v d ps) (hv : Value.okWide Tryz.prog W .any b0 22 v) : ∃ l : List Tk, VR (start W hg) (.fslc 5 (l.map aTok)) v := by
 obtain ⟨qs, a, h1, h2, h3⟩ := arg_shape (hg := hg) okTokens (ag := false) agToks (fun _ => by kernel_rfl) ht hv
 obtain ⟨L, rfl⟩ := shape_slice (n := 4) (enc := aTok) (ag := true) Tryz.underlying22 agTok (fun cs x h hw => by
  simp only [wrapA, Option.some.injEq] at hw
  obtain ⟨a, ha⟩ := shape_token (n := 0) h
  exact ⟨a, by rw [← hw, ha]⟩) h1
 simp only [wrapA, AV.single, Option.some.injEq] at h2
 exact ⟨L, by rw [← cellsO_tok, h2]; exact h3⟩
end
end Go.Proofs.YtfgdcciaecajpaaGreatDoor