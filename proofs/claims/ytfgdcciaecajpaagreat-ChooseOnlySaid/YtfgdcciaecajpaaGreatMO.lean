/- Closed runs that answer a value written out. No condition. -/
import Derived.Test.YtfgdcciaecajpaaGreatMN
import Derived.Test.YtfgdcciaecajpaaGreatMG
import Derived.Test.YtfgdcciaecajpaaGreatMH
namespace Go.Proofs.YtfgdcciaecajpaaGreat
set_option linter.unusedSimpArgs false
set_option linter.unusedVariables false
open Go Go.RowKit
set_option maxRecDepth 100000
set_option maxHeartbeats 1000000
theorem c18n {T : List (Entry Tryz.prog)} {s : SS} (ne : s.tree ≠ [])  (ha : s.act = []) : SC T 18 [] s (.tup []) (s) := by
 have g0 := @vg0
 have v0 := @vset
 have fits : ∀ (f : List (Nat × Blk)) (n : Nat), getF 0 f = none → getF 1 f = none → FitH 2 [(1, 1), (0, 0)] [] ⟨n, [f, VS 1 s]⟩ ⟨2, [[], VS 1 s]⟩ := fun f n h1 h2 => fitS1 ⟨by omega, by omega, by omega⟩ (by omega) (by omega) ne h1 h2
 have lI : ∀ H, lenA Tryz.prog H 32 (aInts []) = some 0 := fun H => lenI (L := [])
 have sl : ∀ H, sliceA Tryz.prog H 32 (aInts []) (some (.int .i64 0)) none none = some (aInts []) := fun H => rfl
 refine callAt_body (fn := Tryz.f18) (s0 := ⟨[0, 2, 4, 5, 6, 33, 34, 35], [.ptr 0 0, .undef, .undef, .undef, .undef, .undef, .undef, .undef], [], 65, ⟨2, [] :: [VS 1 s]⟩⟩) Tryz.func18 rfl rfl rfl ?_
 (repeat' (first
  | with_reducible refine wps_seq ?_
  | with_reducible refine wps_block ?_
  | (with_reducible refine wps_label ?_; simp only [thenQ, blockQ])
  | (with_reducible refine wps_region callOK ?_; apply runE; simp [zS, *, SS.post]; exact rfl)
  | (with_reducible refine run_end ?_; simp only [thenQ, blockQ])
  | (refine wps_drawQ mixed callOK (by decide +kernel) (by decide +kernel) rfl ?_; apply runQ; simp [zS, zW, clsOf, mkBlk, guardA, Heap.lay, ontoF, *, SS.post]; exact rfl)
  | (with_reducible refine run_endQ ?_; refine ⟨by repeat first | exact okC_n | refine okC_c (by decide +kernel) ?_, ?_⟩; simp only [thenQ, blockQ, allPend, Heap.lay, ontoF])
  | (with_reducible refine gate_splitQ (fun hc => ?_) (fun hc => ?_) <;> ((have hd := hc); (try simp at hd); (try subst hd); apply runQ; simp [zS, zW, clsOf, mkBlk, guardA, Heap.lay, ontoF, *, SS.post]; exact rfl))
  | (with_reducible refine gate_splitX (fun hc => ?_) (fun hc => ?_) <;> ((have hd := hc); (try simp at hd); (try subst hd); apply runQ; simp [zS, zW, clsOf, mkBlk, guardA, Heap.lay, ontoF, *, SS.post]; exact rfl))
  | (with_reducible refine pick_splitQ (fun hc => ?_) (fun hc => ?_) <;> ((have hd := hc); (try simp at hd); (try subst hd); apply runQ; simp [zS, zW, clsOf, mkBlk, guardA, Heap.lay, ontoF, *, SS.post]; exact rfl))
  | (with_reducible refine gate_split (fun hc => ?_) (fun hc => ?_) <;> ((have hd := hc); (try simp at hd); (try subst hd); apply runE; simp [zS, *, SS.post]; exact rfl))
  | (with_reducible refine pick_split (fun hc => ?_) (fun hc => ?_) <;> ((have hd := hc); (try simp at hd); (try subst hd); apply runE; simp [zS, *, SS.post]; exact rfl))
  | (refine wps_ct rfl ?_)
  | (refine wps_cf rfl ?_)
  | (refine wps_cond rfl (fun hc => ?_) (fun hc => ?_) <;> ((have hd := hc); (try simp at hd); (try subst hd)))
  | (with_reducible refine wps_skip ?_; simp only [thenQ, blockQ])
  | (with_reducible refine wps_exit ?_; simp [thenQ, blockQ])
  | (with_reducible refine wps_ret ?_; simp [retVal, Tryz.f18, oneOr, thenQ, blockQ])))
 all_goals first | (skip) | (exfalso; omega) | (trace_state; fail)
 repeat apply wq
 refine wps_loop' (fun _ : Unit => (⟨[0, 2, 4, 5, 6, 33, 34, 35], [.ptr 0 0, .int .i64 0, .undef, .undef, .undef, .undef, .undef, .undef], [], 65, ⟨2, [[], VS 1 s]⟩⟩ : St)) (fun _ => True) (fun _ => 0) [(1, 1), (0, 0)] [] () trivial ⟨rfl, rfl, rfl, by simp [fitL, fitV, lookN, pureV], fits _ _ rfl rfl⟩ ?_
 rintro - - B hB
 (repeat' (first
  | with_reducible refine wps_seq ?_
  | with_reducible refine wps_block ?_
  | (with_reducible refine wps_label ?_; simp only [thenQ, blockQ])
  | (with_reducible refine wps_region callOK ?_; apply runE; simp [zS, *, SS.post]; exact rfl)
  | (with_reducible refine run_end ?_; simp only [thenQ, blockQ])
  | (refine wps_drawQ mixed callOK (by decide +kernel) (by decide +kernel) rfl ?_; apply runQ; simp [zS, zW, clsOf, mkBlk, guardA, Heap.lay, ontoF, *, SS.post]; exact rfl)
  | (with_reducible refine run_endQ ?_; refine ⟨by repeat first | exact okC_n | refine okC_c (by decide +kernel) ?_, ?_⟩; simp only [thenQ, blockQ, allPend, Heap.lay, ontoF])
  | (with_reducible refine gate_splitQ (fun hc => ?_) (fun hc => ?_) <;> ((have hd := hc); (try simp at hd); (try subst hd); apply runQ; simp [zS, zW, clsOf, mkBlk, guardA, Heap.lay, ontoF, *, SS.post]; exact rfl))
  | (with_reducible refine gate_splitX (fun hc => ?_) (fun hc => ?_) <;> ((have hd := hc); (try simp at hd); (try subst hd); apply runQ; simp [zS, zW, clsOf, mkBlk, guardA, Heap.lay, ontoF, *, SS.post]; exact rfl))
  | (with_reducible refine pick_splitQ (fun hc => ?_) (fun hc => ?_) <;> ((have hd := hc); (try simp at hd); (try subst hd); apply runQ; simp [zS, zW, clsOf, mkBlk, guardA, Heap.lay, ontoF, *, SS.post]; exact rfl))
  | (with_reducible refine gate_split (fun hc => ?_) (fun hc => ?_) <;> ((have hd := hc); (try simp at hd); (try subst hd); apply runE; simp [zS, *, SS.post]; exact rfl))
  | (with_reducible refine pick_split (fun hc => ?_) (fun hc => ?_) <;> ((have hd := hc); (try simp at hd); (try subst hd); apply runE; simp [zS, *, SS.post]; exact rfl))
  | (refine wps_ct rfl ?_)
  | (refine wps_cf rfl ?_)
  | (refine wps_cond rfl (fun hc => ?_) (fun hc => ?_) <;> ((have hd := hc); (try simp at hd); (try subst hd)))
  | (with_reducible refine wps_skip ?_; simp only [thenQ, blockQ])
  | (with_reducible refine wps_exit ?_; simp [thenQ, blockQ])
  | (with_reducible refine wps_ret ?_; simp [retVal, Tryz.f18, oneOr, thenQ, blockQ])))
 all_goals first | (skip) | (exfalso; omega) | (trace_state; fail)
 repeat apply wq
 refine wps_loop' (fun _ : Unit => (⟨[0, 2, 4, 5, 6, 33, 34, 35], [.ptr 0 0, .undef, .undef, .undef, .undef, aInts [], .int .i64 0, .int .i64 0], [], 65, ⟨2, [[], VS 1 s]⟩⟩ : St)) (fun _ => True) (fun _ => 0) [(1, 1), (0, 0)] [] () trivial ⟨rfl, rfl, rfl, by simp [fitL, fitV, lookN, pureV], fits _ _ rfl rfl⟩ ?_
 rintro - - B hB
 (repeat' (first
  | with_reducible refine wps_seq ?_
  | with_reducible refine wps_block ?_
  | (with_reducible refine wps_label ?_; simp only [thenQ, blockQ])
  | (with_reducible refine wps_region callOK ?_; apply runE; simp [zS, *, SS.post]; exact rfl)
  | (with_reducible refine run_end ?_; simp only [thenQ, blockQ])
  | (refine wps_drawQ mixed callOK (by decide +kernel) (by decide +kernel) rfl ?_; apply runQ; simp [zS, zW, clsOf, mkBlk, guardA, Heap.lay, ontoF, *, SS.post]; exact rfl)
  | (with_reducible refine run_endQ ?_; refine ⟨by repeat first | exact okC_n | refine okC_c (by decide +kernel) ?_, ?_⟩; simp only [thenQ, blockQ, allPend, Heap.lay, ontoF])
  | (with_reducible refine gate_splitQ (fun hc => ?_) (fun hc => ?_) <;> ((have hd := hc); (try simp at hd); (try subst hd); apply runQ; simp [zS, zW, clsOf, mkBlk, guardA, Heap.lay, ontoF, *, SS.post]; exact rfl))
  | (with_reducible refine gate_splitX (fun hc => ?_) (fun hc => ?_) <;> ((have hd := hc); (try simp at hd); (try subst hd); apply runQ; simp [zS, zW, clsOf, mkBlk, guardA, Heap.lay, ontoF, *, SS.post]; exact rfl))
  | (with_reducible refine pick_splitQ (fun hc => ?_) (fun hc => ?_) <;> ((have hd := hc); (try simp at hd); (try subst hd); apply runQ; simp [zS, zW, clsOf, mkBlk, guardA, Heap.lay, ontoF, *, SS.post]; exact rfl))
  | (with_reducible refine gate_split (fun hc => ?_) (fun hc => ?_) <;> ((have hd := hc); (try simp at hd); (try subst hd); apply runE; simp [zS, *, SS.post]; exact rfl))
  | (with_reducible refine pick_split (fun hc => ?_) (fun hc => ?_) <;> ((have hd := hc); (try simp at hd); (try subst hd); apply runE; simp [zS, *, SS.post]; exact rfl))
  | (refine wps_ct rfl ?_)
  | (refine wps_cf rfl ?_)
  | (refine wps_cond rfl (fun hc => ?_) (fun hc => ?_) <;> ((have hd := hc); (try simp at hd); (try subst hd)))
  | (with_reducible refine wps_skip ?_; simp only [thenQ, blockQ])
  | (with_reducible refine wps_exit ?_; simp [thenQ, blockQ])
  | (with_reducible refine wps_ret ?_; simp [retVal, Tryz.f18, oneOr, thenQ, blockQ])))
 all_goals first | (((try simp [retVal, Tryz.f18, oneOr]); exact ends_S rfl rfl rfl (by decide) ne rfl rfl)) | (exfalso; omega) | (trace_state; fail)
theorem inj_18n (x y : Unit) (h : (fun z : Unit => ([] : List AV)) x = (fun z : Unit => ([] : List AV)) y) : x = y := by
 rfl
noncomputable def e18n : Entry Tryz.prog := mkS 18 [] (fun z : Unit => []) (fun z s => (s.act = [])) (fun z s => .tup []) (fun z s => s) fun z s ne h => ⟨c18n (T := [])  ne  h, by simp [pureL, pureV], by simp [pureV, pureL], ne⟩
theorem k18n {T : List (Entry Tryz.prog)} (hT : findE 18 T = some e18n.g) {s : SS} (ne : s.tree ≠ [])  (ha : s.act = []) {n k : Nat} {fr : List (Nat × Blk)} (k0 : 0 < k) (kn : k < n) (of : offS k fr) : callL (ctx T) (.fn 18) [.ptr 0 0] ⟨n, [fr, VS k s]⟩ = some (.tup [], ⟨n + 1, [fr, VS n (s)]⟩) :=
 mkS_eq hT inj_18n () ne ha (by simp [pureL, pureV]) (by simp [thawL, thawA_ok]) k0 kn of
theorem c87n {T : List (Entry Tryz.prog)} (hc0 : findE 18 T = some e18n.g) (hc1 : findE 37 T = some e37.g) {s : SS} (ne : s.tree ≠ []) (t : Tk) (ha : s.act = []) (hf : s.foster = false) (ok : SOk s) (hl : t.attrs.length ≤ 1000000) : SC T 87 [.fptr (Tk.cs t) 0] s (.int .i64 (s.tree.length : Int)) (elS s 0 t.name t.attrs) := by
 have kc0 := @k18n T hc0
 have kc1 := @k37 T hc1
 have g0 := @vg0
 have v0 := @vset
 have kR := fun n k fr => @kc0 s ne ha n k fr
 have kE := fun n k fr => @kc1 s ne t 0 hf ok hl n k fr
 simp only [aTok, Tk.cs] at kE
 have n1 : (elS s 0 t.name t.attrs).tree ≠ [] := newT_ne _ _ _ _
 clear kc0 kc1
 generalize elS s 0 t.name t.attrs = s1 at *
 refine callAt_body (fn := Tryz.f87) (s0 := ⟨[0, 1, 4], [.ptr 0 0, .fptr (Tk.cs t) 0, .undef], [], 12, ⟨2, [] :: [VS 1 s]⟩⟩) Tryz.func87 rfl rfl rfl ?_
 (repeat' (first
  | with_reducible refine wps_seq ?_
  | with_reducible refine wps_block ?_
  | (with_reducible refine wps_label ?_; simp only [thenQ, blockQ])
  | (with_reducible refine wps_region callOK ?_; apply runE; simp [zS, *, SS.post, Tk.cs]; exact rfl)
  | (with_reducible refine run_end ?_; simp only [thenQ, blockQ])
  | (refine wps_drawQ mixed callOK (by decide +kernel) (by decide +kernel) rfl ?_; apply runQ; simp [zS, zW, clsOf, mkBlk, guardA, Heap.lay, ontoF, *, SS.post, Tk.cs]; exact rfl)
  | (with_reducible refine run_endQ ?_; refine ⟨by repeat first | exact okC_n | refine okC_c (by decide +kernel) ?_, ?_⟩; simp only [thenQ, blockQ, allPend, Heap.lay, ontoF])
  | (with_reducible refine gate_splitQ (fun hc => ?_) (fun hc => ?_) <;> ((have hd := hc); (try simp at hd); (try subst hd); apply runQ; simp [zS, zW, clsOf, mkBlk, guardA, Heap.lay, ontoF, *, SS.post, Tk.cs]; exact rfl))
  | (with_reducible refine gate_splitX (fun hc => ?_) (fun hc => ?_) <;> ((have hd := hc); (try simp at hd); (try subst hd); apply runQ; simp [zS, zW, clsOf, mkBlk, guardA, Heap.lay, ontoF, *, SS.post, Tk.cs]; exact rfl))
  | (with_reducible refine pick_splitQ (fun hc => ?_) (fun hc => ?_) <;> ((have hd := hc); (try simp at hd); (try subst hd); apply runQ; simp [zS, zW, clsOf, mkBlk, guardA, Heap.lay, ontoF, *, SS.post, Tk.cs]; exact rfl))
  | (with_reducible refine gate_split (fun hc => ?_) (fun hc => ?_) <;> ((have hd := hc); (try simp at hd); (try subst hd); apply runE; simp [zS, *, SS.post, Tk.cs]; exact rfl))
  | (with_reducible refine pick_split (fun hc => ?_) (fun hc => ?_) <;> ((have hd := hc); (try simp at hd); (try subst hd); apply runE; simp [zS, *, SS.post, Tk.cs]; exact rfl))
  | (refine wps_ct rfl ?_)
  | (refine wps_cf rfl ?_)
  | (refine wps_cond rfl (fun hc => ?_) (fun hc => ?_) <;> ((have hd := hc); (try simp at hd); (try subst hd)))
  | (with_reducible refine wps_skip ?_; simp only [thenQ, blockQ])
  | (with_reducible refine wps_exit ?_; simp [thenQ, blockQ])
  | (with_reducible refine wps_ret ?_; simp [retVal, Tryz.f87, oneOr, thenQ, blockQ])))
 all_goals first | ((try simp [retVal, Tryz.f87, oneOr]); exact ends_S (by simp [*]) (by first | rfl | (simp [*]; done)) (by simp [pureV, pureL]) (by decide) (by (try exact n1); (all_goals exact newT_ne _ _ _ _)) rfl rfl) | (exfalso; omega) | (trace_state; fail)
theorem inj_87n (x y : Tk) (h : (fun z : Tk => ([.fptr (Tk.cs z) 0] : List AV)) x = (fun z : Tk => ([.fptr (Tk.cs z) 0] : List AV)) y) : x = y := by
 simp only [List.cons.injEq, and_true] at h
 exact inj_ftok h
noncomputable def e87n : Entry Tryz.prog := mkS 87 [[]] (fun z : Tk => [.fptr (Tk.cs z) 0]) (fun z s => (s.act = []) ∧ (s.foster = false) ∧ (SOk s) ∧ (z.attrs.length ≤ 1000000)) (fun z s => .int .i64 (s.tree.length : Int)) (fun z s => elS s 0 z.name z.attrs) fun z s ne h => ⟨c87n (T := [e18n, e37]) rfl rfl ne z h.1 h.2.1 h.2.2.1 h.2.2.2, by simp [pureL, pureV], by simp [pureV, pureL], by (try exact n1); (all_goals exact newT_ne _ _ _ _)⟩
theorem k87n {T : List (Entry Tryz.prog)} (hT : findE 87 T = some e87n.g) {s : SS} (ne : s.tree ≠ []) (t : Tk) (ha : s.act = []) (hf : s.foster = false) (ok : SOk s) (hl : t.attrs.length ≤ 1000000) {n k : Nat} {fr : List (Nat × Blk)} (k0 : 0 < k) (kn : k < n) (of : offS k fr) : callL (ctx T) (.fn 87) [.ptr 0 0, .fptr (Tk.cs t) 0] ⟨n, [fr, VS k s]⟩ = some (.int .i64 (s.tree.length : Int), ⟨n + 1, [fr, VS n (elS s 0 t.name t.attrs)]⟩) :=
 mkS_eq hT inj_87n (t) ne ⟨ha, hf, ok, hl⟩ (by simp [pureL, pureV]) (by simp [thawL, thawA_ok]) k0 kn of
def selS (s : SS) (t : Tk) : SS := { elS s 0 t.name t.attrs with mode := 13 }
theorem c54n {T : List (Entry Tryz.prog)} (hc0 : findE 87 T = some e87n.g) {s : SS} (ne : s.tree ≠ []) (t : Tk) (ha : s.act = []) (hf : s.foster = false) (ok : SOk s) (hl : t.attrs.length ≤ 1000000) (hm : s.mode = 5) : SC T 54 [.fptr (Tk.cs t) 0] s (.tup []) (selS s t) := by
 have kc0 := @k87n T hc0
 have g0 := @vg0
 have v0 := @vset
 have kE := fun n k fr => @kc0 s ne t ha hf ok hl n k fr
 simp only [Tk.cs] at kE
 have n1 : (elS s 0 t.name t.attrs).tree ≠ [] := newT_ne _ _ _ _
 have m1 : (elS s 0 t.name t.attrs).mode = 5 := hm
 have e : selS s t = { elS s 0 t.name t.attrs with mode := 13 } := rfl
 rw [e]
 clear kc0 e
 generalize elS s 0 t.name t.attrs = s1 at *
 refine callAt_body (fn := Tryz.f54) (s0 := ⟨[0, 1, 10, 14], [.ptr 0 0, .fptr (Tk.cs t) 0, .undef, .undef], [], 23, ⟨2, [] :: [VS 1 s]⟩⟩) Tryz.func54 rfl rfl rfl ?_
 (repeat' (first
  | with_reducible refine wps_seq ?_
  | with_reducible refine wps_block ?_
  | (with_reducible refine wps_label ?_; simp only [thenQ, blockQ])
  | (with_reducible refine wps_region callOK ?_; apply runE; simp [zS, *, SS.post, Tk.cs]; exact rfl)
  | (with_reducible refine run_end ?_; simp only [thenQ, blockQ])
  | (refine wps_drawQ mixed callOK (by decide +kernel) (by decide +kernel) rfl ?_; apply runQ; simp [zS, zW, clsOf, mkBlk, guardA, Heap.lay, ontoF, *, SS.post, Tk.cs]; exact rfl)
  | (with_reducible refine run_endQ ?_; refine ⟨by repeat first | exact okC_n | refine okC_c (by decide +kernel) ?_, ?_⟩; simp only [thenQ, blockQ, allPend, Heap.lay, ontoF])
  | (with_reducible refine gate_splitQ (fun hc => ?_) (fun hc => ?_) <;> ((have hd := hc); (try simp at hd); (try subst hd); apply runQ; simp [zS, zW, clsOf, mkBlk, guardA, Heap.lay, ontoF, *, SS.post, Tk.cs]; exact rfl))
  | (with_reducible refine gate_splitX (fun hc => ?_) (fun hc => ?_) <;> ((have hd := hc); (try simp at hd); (try subst hd); apply runQ; simp [zS, zW, clsOf, mkBlk, guardA, Heap.lay, ontoF, *, SS.post, Tk.cs]; exact rfl))
  | (with_reducible refine pick_splitQ (fun hc => ?_) (fun hc => ?_) <;> ((have hd := hc); (try simp at hd); (try subst hd); apply runQ; simp [zS, zW, clsOf, mkBlk, guardA, Heap.lay, ontoF, *, SS.post, Tk.cs]; exact rfl))
  | (with_reducible refine gate_split (fun hc => ?_) (fun hc => ?_) <;> ((have hd := hc); (try simp at hd); (try subst hd); apply runE; simp [zS, *, SS.post, Tk.cs]; exact rfl))
  | (with_reducible refine pick_split (fun hc => ?_) (fun hc => ?_) <;> ((have hd := hc); (try simp at hd); (try subst hd); apply runE; simp [zS, *, SS.post, Tk.cs]; exact rfl))
  | (refine wps_ct rfl ?_)
  | (refine wps_cf rfl ?_)
  | (refine wps_cond rfl (fun hc => ?_) (fun hc => ?_) <;> ((have hd := hc); (try simp at hd); (try subst hd)))
  | (with_reducible refine wps_skip ?_; simp only [thenQ, blockQ])
  | (with_reducible refine wps_exit ?_; simp [thenQ, blockQ])
  | (with_reducible refine wps_ret ?_; simp [retVal, Tryz.f54, oneOr, thenQ, blockQ])))
 all_goals first | ((try simp [retVal, Tryz.f54, oneOr]); exact ends_S (by simp [*]) (by first | rfl | (simp [*]; done)) (by simp [pureV, pureL]) (by decide) (by (try exact n1); (all_goals exact newT_ne _ _ _ _)) rfl rfl) | (exfalso; omega) | (trace_state; fail)
theorem inj_54n (x y : Tk) (h : (fun z : Tk => ([.fptr (Tk.cs z) 0] : List AV)) x = (fun z : Tk => ([.fptr (Tk.cs z) 0] : List AV)) y) : x = y := by
 simp only [List.cons.injEq, and_true] at h
 exact inj_ftok h
noncomputable def e54n : Entry Tryz.prog := mkS 54 [[]] (fun z : Tk => [.fptr (Tk.cs z) 0]) (fun z s => (s.act = []) ∧ (s.foster = false) ∧ (SOk s) ∧ (z.attrs.length ≤ 1000000) ∧ (s.mode = 5)) (fun z s => .tup []) (fun z s => selS s z) fun z s ne h => ⟨c54n (T := [e87n]) rfl ne z h.1 h.2.1 h.2.2.1 h.2.2.2.1 h.2.2.2.2, by simp [pureL, pureV], by simp [pureV, pureL], by (try exact n1); (all_goals exact newT_ne _ _ _ _)⟩
theorem k54n {T : List (Entry Tryz.prog)} (hT : findE 54 T = some e54n.g) {s : SS} (ne : s.tree ≠ []) (t : Tk) (ha : s.act = []) (hf : s.foster = false) (ok : SOk s) (hl : t.attrs.length ≤ 1000000) (hm : s.mode = 5) {n k : Nat} {fr : List (Nat × Blk)} (k0 : 0 < k) (kn : k < n) (of : offS k fr) : callL (ctx T) (.fn 54) [.ptr 0 0, .fptr (Tk.cs t) 0] ⟨n, [fr, VS k s]⟩ = some (.tup [], ⟨n + 1, [fr, VS n (selS s t)]⟩) :=
 mkS_eq hT inj_54n (t) ne ⟨ha, hf, ok, hl, hm⟩ (by simp [pureL, pureV]) (by simp [thawL, thawA_ok]) k0 kn of
theorem c22s {T : List (Entry Tryz.prog)} (hc0 : findE 54 T = some e54n.g) {s : SS} (ne : s.tree ≠ []) (t : Tk) (ha : s.act = []) (hf : s.foster = false) (ok : SOk s) (hl : t.attrs.length ≤ 1000000) (hm : s.mode = 5) (hn : t.name = [115, 101, 108, 101, 99, 116]) : SC T 22 [.fptr (Tk.cs t) 0] s (.bool false) (selS s t) := by
 have kc0 := @k54n T hc0
 have g0 := @vg0
 have v0 := @vset
 have kE := fun n k fr => @kc0 s ne t ha hf ok hl hm n k fr
 have n1 : (selS s t).tree ≠ [] := newT_ne _ _ _ _
 rw [show t.cs = [.int .i64 t.kind, .str [115, 101, 108, 101, 99, 116], aAttrs t.attrs, .bool t.self, .str t.data] by rw [← hn]; rfl] at kE
 clear kc0
 generalize selS s t = s1 at *
 refine callAt_body (fn := Tryz.f22) (s0 := ⟨[0, 1, 4, 8, 48, 83, 104, 110, 116], [.ptr 0 0, .fptr (Tk.cs t) 0, .undef, .undef, .undef, .undef, .undef, .undef, .undef], [], 123, ⟨2, [] :: [VS 1 s]⟩⟩) Tryz.func22 rfl rfl rfl ?_
 (repeat' (first
  | with_reducible refine wps_seq ?_
  | with_reducible refine wps_block ?_
  | (with_reducible refine wps_label ?_; simp only [thenQ, blockQ])
  | (with_reducible refine wps_region callOK ?_; apply runE; simp [zS, *, SS.post, Tk.cs]; exact rfl)
  | (with_reducible refine run_end ?_; simp only [thenQ, blockQ])
  | (refine wps_drawQ mixed callOK (by decide +kernel) (by decide +kernel) rfl ?_; apply runQ; simp [zS, zW, clsOf, mkBlk, guardA, Heap.lay, ontoF, *, SS.post, Tk.cs]; exact rfl)
  | (with_reducible refine run_endQ ?_; refine ⟨by repeat first | exact okC_n | refine okC_c (by decide +kernel) ?_, ?_⟩; simp only [thenQ, blockQ, allPend, Heap.lay, ontoF])
  | (with_reducible refine gate_splitQ (fun hc => ?_) (fun hc => ?_) <;> ((have hd := hc); (try simp at hd); (try subst hd); apply runQ; simp [zS, zW, clsOf, mkBlk, guardA, Heap.lay, ontoF, *, SS.post, Tk.cs]; exact rfl))
  | (with_reducible refine gate_splitX (fun hc => ?_) (fun hc => ?_) <;> ((have hd := hc); (try simp at hd); (try subst hd); apply runQ; simp [zS, zW, clsOf, mkBlk, guardA, Heap.lay, ontoF, *, SS.post, Tk.cs]; exact rfl))
  | (with_reducible refine pick_splitQ (fun hc => ?_) (fun hc => ?_) <;> ((have hd := hc); (try simp at hd); (try subst hd); apply runQ; simp [zS, zW, clsOf, mkBlk, guardA, Heap.lay, ontoF, *, SS.post, Tk.cs]; exact rfl))
  | (with_reducible refine gate_split (fun hc => ?_) (fun hc => ?_) <;> ((have hd := hc); (try simp at hd); (try subst hd); apply runE; simp [zS, *, SS.post, Tk.cs]; exact rfl))
  | (with_reducible refine pick_split (fun hc => ?_) (fun hc => ?_) <;> ((have hd := hc); (try simp at hd); (try subst hd); apply runE; simp [zS, *, SS.post, Tk.cs]; exact rfl))
  | (refine wps_ct rfl ?_)
  | (refine wps_cf rfl ?_)
  | (refine wps_cond rfl (fun hc => ?_) (fun hc => ?_) <;> ((have hd := hc); (try simp at hd); (try subst hd)))
  | (with_reducible refine wps_skip ?_; simp only [thenQ, blockQ])
  | (with_reducible refine wps_exit ?_; simp [thenQ, blockQ])
  | (with_reducible refine wps_ret ?_; simp [retVal, Tryz.f22, oneOr, thenQ, blockQ])))
 all_goals first | ((try simp [retVal, Tryz.f22, oneOr]); exact ends_S (by simp [*]) (by first | rfl | (simp [*]; done)) (by simp [pureV, pureL]) (by decide) (by (try exact n1); (all_goals exact newT_ne _ _ _ _)) rfl rfl) | (exfalso; omega) | (trace_state; fail)
theorem inj_22s (x y : Tk) (h : (fun z : Tk => ([.fptr (Tk.cs z) 0] : List AV)) x = (fun z : Tk => ([.fptr (Tk.cs z) 0] : List AV)) y) : x = y := by
 simp only [List.cons.injEq, and_true] at h
 exact inj_ftok h
noncomputable def e22s : Entry Tryz.prog := mkS 22 [[]] (fun z : Tk => [.fptr (Tk.cs z) 0]) (fun z s => (s.act = []) ∧ (s.foster = false) ∧ (SOk s) ∧ (z.attrs.length ≤ 1000000) ∧ (s.mode = 5) ∧ (z.name = [115, 101, 108, 101, 99, 116])) (fun z s => .bool false) (fun z s => selS s z) fun z s ne h => ⟨c22s (T := [e54n]) rfl ne z h.1 h.2.1 h.2.2.1 h.2.2.2.1 h.2.2.2.2.1 h.2.2.2.2.2, by simp [pureL, pureV], by simp [pureV, pureL], by (try exact n1); (all_goals exact newT_ne _ _ _ _)⟩
theorem k22s {T : List (Entry Tryz.prog)} (hT : findE 22 T = some e22s.g) {s : SS} (ne : s.tree ≠ []) (t : Tk) (ha : s.act = []) (hf : s.foster = false) (ok : SOk s) (hl : t.attrs.length ≤ 1000000) (hm : s.mode = 5) (hn : t.name = [115, 101, 108, 101, 99, 116]) {n k : Nat} {fr : List (Nat × Blk)} (k0 : 0 < k) (kn : k < n) (of : offS k fr) : callL (ctx T) (.fn 22) [.ptr 0 0, .fptr (Tk.cs t) 0] ⟨n, [fr, VS k s]⟩ = some (.bool false, ⟨n + 1, [fr, VS n (selS s t)]⟩) :=
 mkS_eq hT inj_22s (t) ne ⟨ha, hf, ok, hl, hm, hn⟩ (by simp [pureL, pureV]) (by simp [thawL, thawA_ok]) k0 kn of
theorem c7s {T : List (Entry Tryz.prog)} (hc0 : findE 22 T = some e22s.g) {s : SS} (ne : s.tree ≠ []) (t : Tk) (ha : s.act = []) (hf : s.foster = false) (ok : SOk s) (hl : t.attrs.length ≤ 1000000) (hm : s.mode = 5) (hn : t.name = [115, 101, 108, 101, 99, 116]) (hk : t.kind = 1) : SC T 7 [.fptr (Tk.cs t) 0] s (.bool false) (selS s t) := by
 have kc0 := @k22s T hc0
 have g0 := @vg0
 have v0 := @vset
 have kE := fun n k fr => @kc0 s ne t ha hf ok hl hm hn n k fr
 have n1 : (selS s t).tree ≠ [] := newT_ne _ _ _ _
 rw [show t.cs = [.int .i64 1, .str [115, 101, 108, 101, 99, 116], aAttrs t.attrs, .bool t.self, .str t.data] by rw [← hn, ← hk]; rfl] at kE
 clear kc0
 generalize selS s t = s1 at *
 refine callAt_body (fn := Tryz.f7) (s0 := ⟨[0, 1, 4, 8], [.ptr 0 0, .fptr (Tk.cs t) 0, .undef, .undef], [], 37, ⟨2, [] :: [VS 1 s]⟩⟩) Tryz.func7 rfl rfl rfl ?_
 (repeat' (first
  | with_reducible refine wps_seq ?_
  | with_reducible refine wps_block ?_
  | (with_reducible refine wps_label ?_; simp only [thenQ, blockQ])
  | (with_reducible refine wps_region callOK ?_; apply runE; simp [zS, *, SS.post, Tk.cs]; exact rfl)
  | (with_reducible refine run_end ?_; simp only [thenQ, blockQ])
  | (refine wps_drawQ mixed callOK (by decide +kernel) (by decide +kernel) rfl ?_; apply runQ; simp [zS, zW, clsOf, mkBlk, guardA, Heap.lay, ontoF, *, SS.post, Tk.cs]; exact rfl)
  | (with_reducible refine run_endQ ?_; refine ⟨by repeat first | exact okC_n | refine okC_c (by decide +kernel) ?_, ?_⟩; simp only [thenQ, blockQ, allPend, Heap.lay, ontoF])
  | (with_reducible refine gate_splitQ (fun hc => ?_) (fun hc => ?_) <;> ((have hd := hc); (try simp at hd); (try subst hd); apply runQ; simp [zS, zW, clsOf, mkBlk, guardA, Heap.lay, ontoF, *, SS.post, Tk.cs]; exact rfl))
  | (with_reducible refine gate_splitX (fun hc => ?_) (fun hc => ?_) <;> ((have hd := hc); (try simp at hd); (try subst hd); apply runQ; simp [zS, zW, clsOf, mkBlk, guardA, Heap.lay, ontoF, *, SS.post, Tk.cs]; exact rfl))
  | (with_reducible refine pick_splitQ (fun hc => ?_) (fun hc => ?_) <;> ((have hd := hc); (try simp at hd); (try subst hd); apply runQ; simp [zS, zW, clsOf, mkBlk, guardA, Heap.lay, ontoF, *, SS.post, Tk.cs]; exact rfl))
  | (with_reducible refine gate_split (fun hc => ?_) (fun hc => ?_) <;> ((have hd := hc); (try simp at hd); (try subst hd); apply runE; simp [zS, *, SS.post, Tk.cs]; exact rfl))
  | (with_reducible refine pick_split (fun hc => ?_) (fun hc => ?_) <;> ((have hd := hc); (try simp at hd); (try subst hd); apply runE; simp [zS, *, SS.post, Tk.cs]; exact rfl))
  | (refine wps_ct rfl ?_)
  | (refine wps_cf rfl ?_)
  | (refine wps_cond rfl (fun hc => ?_) (fun hc => ?_) <;> ((have hd := hc); (try simp at hd); (try subst hd)))
  | (with_reducible refine wps_skip ?_; simp only [thenQ, blockQ])
  | (with_reducible refine wps_exit ?_; simp [thenQ, blockQ])
  | (with_reducible refine wps_ret ?_; simp [retVal, Tryz.f7, oneOr, thenQ, blockQ])))
 all_goals first | ((try simp [retVal, Tryz.f7, oneOr]); exact ends_S (by simp [*]) (by first | rfl | (simp [*]; done)) (by simp [pureV, pureL]) (by decide) (by (try exact n1); (all_goals exact newT_ne _ _ _ _)) rfl rfl) | (exfalso; omega) | (trace_state; fail)
theorem inj_7s (x y : Tk) (h : (fun z : Tk => ([.fptr (Tk.cs z) 0] : List AV)) x = (fun z : Tk => ([.fptr (Tk.cs z) 0] : List AV)) y) : x = y := by
 simp only [List.cons.injEq, and_true] at h
 exact inj_ftok h
noncomputable def e7s : Entry Tryz.prog := mkS 7 [[]] (fun z : Tk => [.fptr (Tk.cs z) 0]) (fun z s => (s.act = []) ∧ (s.foster = false) ∧ (SOk s) ∧ (z.attrs.length ≤ 1000000) ∧ (s.mode = 5) ∧ (z.name = [115, 101, 108, 101, 99, 116]) ∧ (z.kind = 1)) (fun z s => .bool false) (fun z s => selS s z) fun z s ne h => ⟨c7s (T := [e22s]) rfl ne z h.1 h.2.1 h.2.2.1 h.2.2.2.1 h.2.2.2.2.1 h.2.2.2.2.2.1 h.2.2.2.2.2.2, by simp [pureL, pureV], by simp [pureV, pureL], by (try exact n1); (all_goals exact newT_ne _ _ _ _)⟩
theorem k7s {T : List (Entry Tryz.prog)} (hT : findE 7 T = some e7s.g) {s : SS} (ne : s.tree ≠ []) (t : Tk) (ha : s.act = []) (hf : s.foster = false) (ok : SOk s) (hl : t.attrs.length ≤ 1000000) (hm : s.mode = 5) (hn : t.name = [115, 101, 108, 101, 99, 116]) (hk : t.kind = 1) {n k : Nat} {fr : List (Nat × Blk)} (k0 : 0 < k) (kn : k < n) (of : offS k fr) : callL (ctx T) (.fn 7) [.ptr 0 0, .fptr (Tk.cs t) 0] ⟨n, [fr, VS k s]⟩ = some (.bool false, ⟨n + 1, [fr, VS n (selS s t)]⟩) :=
 mkS_eq hT inj_7s (t) ne ⟨ha, hf, ok, hl, hm, hn, hk⟩ (by simp [pureL, pureV]) (by simp [thawL, thawA_ok]) k0 kn of
end Go.Proofs.YtfgdcciaecajpaaGreat
namespace Go.Proofs.YtfgdcciaecajpaaGreat
set_option linter.unusedSimpArgs false
set_option linter.unusedVariables false
open Go Go.RowKit
set_option maxRecDepth 100000
theorem nd_set {t : Tr} {i : Nat} (h : i < t.length) (x : Nd) (j : Int) : nodeAt (t.take i ++ x :: t.drop (i + 1)) j = if j.toNat = i then x else nodeAt t j := by
 unfold nodeAt
 rw [List.getD_eq_getElem?_getD, List.getD_eq_getElem?_getD]
 have hl : (t.take i).length = i := by simp; omega
 by_cases h1 : j.toNat < i
 ·rw [List.getElem?_append_left (by omega), List.getElem?_take, if_pos h1, if_neg (by omega)]
 ·by_cases h2 : j.toNat = i
  ·rw [List.getElem?_append_right (by omega), hl, h2, if_pos rfl]; simp
  ·rw [List.getElem?_append_right (by omega), hl, if_neg h2]
   obtain ⟨d, hd⟩ : ∃ d, j.toNat - i = d + 1 := ⟨j.toNat - i - 1, by omega⟩
   rw [hd, List.getElem?_cons_succ, List.getElem?_drop, show i + 1 + d = j.toNat by omega]
theorem set_len {t : Tr} {i : Nat} (h : i < t.length) (x : Nd) : (t.take i ++ x :: t.drop (i + 1)).length = t.length := by simp; omega
theorem nd_add (t : Tr) (nd : Nd) (j : Int) : nodeAt (addT t nd) j = if j.toNat = t.length then fresh nd else nodeAt t j := by
 unfold nodeAt addT
 rw [List.getD_eq_getElem?_getD, List.getD_eq_getElem?_getD]
 by_cases h1 : j.toNat < t.length
 ·rw [List.getElem?_append_left h1, if_neg (by omega)]
 ·rw [List.getElem?_append_right (by omega)]
  by_cases h2 : j.toNat = t.length
  ·simp [h2]
  ·rw [if_neg h2, List.getElem?_eq_none (by simp; omega), List.getElem?_eq_none (by omega)]
theorem holdsF_last {t : Tr} {x : Int} (hup : ∀ i : Int, isB t i = true → i < x → (nodeAt t i).up < x) : ∀ (n : Nat) (kid : Int), kid < x → holdsF t x n kid = false
 | 0, kid, _ => rfl
 | n + 1, kid, h => by
  unfold holdsF
  cases hb : isB t kid with
  | false => simp
  | true =>
   have h1 : ¬ kid = x := by omega
   simp only [if_true, if_neg h1]
   exact holdsF_last hup n _ (hup kid hb h)
theorem holdsB_last {t : Tr} {x kid : Int} (hup : ∀ i : Int, isB t i = true → i < x → (nodeAt t i).up < x) (h : kid < x) : holdsB t x kid = false := by
 unfold holdsB
 rw [holdsF_last hup _ _ h, Bool.and_false]
theorem ins_end (K : List Int) (x : Int) : insP K (K.length : Int) x = K ++ [x] := by
 unfold insP insAt
 have : (min (max (K.length : Int) 0) (K.length : Int)).toNat = K.length := by omega
 rw [this]
 simp
structure Grew (t t' : Tr) (u : Nat) (nd : Nd) : Prop where
 len : t'.length = t.length + 1
 new : nodeAt t' (t.length : Nat) = { nd with up := u, kids := [] }
 at_ : nodeAt t' u = { nodeAt t u with kids := (nodeAt t u).kids ++ [(t.length : Int)] }
 old : ∀ j : Nat, j < t.length → j ≠ u → nodeAt t' j = nodeAt t j
theorem newT_grew {t : Tr} {u : Nat} (hu : u < t.length) (hup : ∀ j : Nat, j < t.length → (nodeAt t j).up < (t.length : Int)) (nd : Nd) : Grew t (newT t u ((nodeAt t u).kids.length : Int) nd) u nd := by
 have la : (addT t nd).length = t.length + 1 := by simp [addT]
 have nu : nodeAt (addT t nd) (u : Int) = nodeAt t u := by rw [nd_add, if_neg (by simp; omega)]
 have nn : nodeAt (addT t nd) (t.length : Int) = fresh nd := by rw [nd_add, if_pos (by simp)]
 have pl : placeT (addT t nd) (t.length : Int) = -1 := by
  unfold placeT; rw [nn]; simp [fresh, isB]
 have ck : cutK (addT t nd) t.length = addT t nd := by unfold cutK; rw [pl]; simp
 have b2 : isB (addT t nd) (t.length : Int) = true := by simp [isB, la]; omega
 have b1 : isB (addT t nd) (u : Int) = true := by simp [isB, la]; omega
 have ct : cutT (addT t nd) t.length = setUp (addT t nd) t.length (-1) := by
  unfold cutT; rw [ck, if_pos ⟨by omega, b2⟩]; simp
 have hold : holdsB (addT t nd) (t.length : Int) (u : Int) = false := holdsB_last (fun i hi hl => by
  simp only [isB, Bool.and_eq_true, decide_eq_true_eq] at hi
  obtain ⟨j, rfl⟩ : ∃ j : Nat, i = j := ⟨i.toNat, by omega⟩
  rw [nd_add, if_neg (by simp; omega)]
  exact hup j (by omega)) (by omega)
 have ok : putOK (addT t nd) u t.length = true := by
  unfold putOK
  rw [b1, b2, hold]
  have : ¬ ((t.length : Int) = 0) := by omega
  simp only [this, decide_false, Bool.not_false, Bool.and_true]
 obtain ⟨A, hA⟩ : ∃ A, A = addT t nd := ⟨_, rfl⟩
 obtain ⟨B, hB⟩ : ∃ B, B = setUp A t.length (-1) := ⟨_, rfl⟩
 have lB : B.length = t.length + 1 := by rw [hB, hA]; unfold setUp; rw [set_len (by omega), la]
 have nB : ∀ j : Int, nodeAt B j = if j.toNat = t.length then fresh nd else nodeAt t j := fun j => by
  rw [hB]
  unfold setUp
  rw [nd_set (show t.length < A.length by rw [hA, la]; omega), hA, nn, nd_add]
  by_cases h : j.toNat = t.length
  ·simp [h, fresh]
  ·simp [h]
 have nBu : nodeAt B (u : Int) = nodeAt t u := by rw [nB, if_neg (by simp; omega)]
 obtain ⟨C, hC⟩ : ∃ C, C = setKids B u ((nodeAt t u).kids ++ [(t.length : Int)]) := ⟨_, rfl⟩
 have lC : C.length = t.length + 1 := by rw [hC]; unfold setKids; rw [set_len (by omega), lB]
 have nC : ∀ j : Int, nodeAt C j = if j.toNat = u then { nodeAt t u with kids := (nodeAt t u).kids ++ [(t.length : Int)] } else nodeAt B j := fun j => by
  rw [hC]
  unfold setKids
  rw [nd_set (by omega), nBu]
 have e : newT t u ((nodeAt t u).kids.length : Int) nd = setUp C t.length u := by
  unfold newT putT
  rw [if_pos ok, ct, ← hA, ← hB, nBu, ins_end, Int.toNat_natCast, Int.toNat_natCast, ← hC]
 have nE : ∀ j : Int, nodeAt (setUp C t.length u) j = if j.toNat = t.length then { nodeAt C t.length with up := u } else nodeAt C j := fun j => by
  unfold setUp
  rw [nd_set (by omega)]
 have nCl : nodeAt C (t.length : Int) = fresh nd := by
  rw [nC, if_neg (by simp; omega), nB, if_pos (by simp)]
 rw [e]
 refine ⟨?_, ?_, ?_, fun j hj hne => ?_⟩
 ·unfold setUp; rw [set_len (by omega), lC]
 ·rw [nE, if_pos (by simp), nCl]; rfl
 ·rw [nE, if_neg (by simp; omega), nC, if_pos (by simp)]
 ·rw [nE, if_neg (by simp; omega), nC, if_neg (by simp; omega), nB, if_neg (by simp; omega)]
def nmB (x : Str) : Bool := decide (x = [111, 112, 116, 105, 111, 110] ∨ x = [111, 112, 116, 103, 114, 111, 117, 112] ∨ x = [115, 99, 114, 105, 112, 116])
structure TI (j : Nat) (t : Tr) : Prop where
 n0 : 3 ≤ t.length
 n1 : t.length ≤ 3 + j
 k0 : (nodeAt t 0).kind = 0
 u0 : (nodeAt t 0).up = -1
 u1 : (nodeAt t 1).up = 0
 u2 : (nodeAt t 2).up = 1
 k2 : (nodeAt t 2).kind = 1
 s2 : (nodeAt t 2).space = 0
 m2 : (nodeAt t 2).name = [115, 101, 108, 101, 99, 116]
 up : ∀ i : Nat, 0 < i → i < t.length → 0 ≤ (nodeAt t i).up ∧ (nodeAt t i).up < (i : Int) ∧ 1 ≤ (nodeAt t i).kind ∧ (nodeAt t i).kind ≤ 4 ∧ (nodeAt t (nodeAt t i).up).kind ≤ 1 ∧ timesB (nodeAt t (nodeAt t i).up).kids i = 1
 kid : ∀ i : Nat, i < t.length → ∀ k, k ∈ (nodeAt t i).kids → 0 ≤ k ∧ k < (t.length : Int) ∧ (nodeAt t k).up = (i : Int)
 kl : ∀ i : Nat, i < t.length → (nodeAt t i).kids.length ≤ j + 1
 dl : ∀ i : Nat, i < t.length → (nodeAt t i).data.length ≤ 200 * j
 nl : ∀ i : Nat, i < t.length → (nodeAt t i).name.length ≤ 40
 al : ∀ i : Nat, i < t.length → (nodeAt t i).attrs.length ≤ 14 * (j + 1)
 nm : ∀ i : Nat, 3 ≤ i → i < t.length → 2 ≤ (nodeAt t i).up ∧ ((nodeAt t i).kind = 1 → nmB (nodeAt t i).name = true)
theorem TI.upl {j : Nat} {t : Tr} (h : TI j t) (i : Nat) (hi : i < t.length) : (nodeAt t i).up < (t.length : Int) := by
 by_cases h0 : i = 0
 ·subst h0; have := h.u0; simp only [Int.natCast_zero]; omega
 ·have := (h.up i (by omega) hi).2.1; omega
theorem timesB_app (K : List Int) (x y : Int) : timesB (K ++ [x]) y = timesB K y + if x = y then 1 else 0 := by
 unfold timesB
 rw [List.countP_append]
 by_cases h : x = y <;> simp [h]
theorem times_no {K : List Int} {y : Int} (h : ∀ k, k ∈ K → k < y) : timesB K y = 0 := by
 unfold timesB
 rw [List.countP_eq_zero]
 intro a ha
 have := h a ha
 simp
 omega
theorem TI.grow {j : Nat} {t t' : Tr} {u : Nat} {nd : Nd} (h : TI j t) (g : Grew t t' u nd) (u2 : 2 ≤ u) (hu : u < t.length) (hk : (nodeAt t u).kind = 1) (h1 : 1 ≤ nd.kind) (h4 : nd.kind ≤ 4) (hn : nd.kind = 1 → nmB nd.name = true) (hnl : nd.name.length ≤ 40) (hdl : nd.data.length ≤ 200) (hal : nd.attrs.length ≤ 14) : TI (j + 1) t' := by
 have sm : ∀ i : Nat, i < t.length → nodeAt t' i = { nodeAt t i with kids := if i = u then (nodeAt t u).kids ++ [(t.length : Int)] else (nodeAt t i).kids } := fun i hi => by
  by_cases e : i = u
  ·subst e; rw [g.at_, if_pos rfl]
  ·rw [g.old i hi e, if_neg e]
 have n0 := h.n0
 have n1 := h.n1
 have gl := g.len
 have e0 := sm 0 (by omega)
 have e1 := sm 1 (by omega)
 have e2 := sm 2 (by omega)
 simp only [Int.natCast_zero, show ((1 : Nat) : Int) = 1 from rfl, show ((2 : Nat) : Int) = 2 from rfl] at e0 e1 e2
 have cs : ∀ i : Nat, i < t'.length → i < t.length ∨ i = t.length := fun i hi => by omega
 refine ⟨by omega, by omega, by rw [e0]; exact h.k0, by rw [e0]; exact h.u0, by rw [e1]; exact h.u1, by rw [e2]; exact h.u2, by rw [e2]; exact h.k2, by rw [e2]; exact h.s2, by rw [e2]; exact h.m2, fun i hi hl => ?_, fun i hl => ?_, fun i hl => ?_, fun i hl => ?_, fun i hl => ?_, fun i hl => ?_, fun i hi hl => ?_⟩
 ·rcases cs i hl with hl | rfl
  ·obtain ⟨a1, a2, a3, a4, a5, a6⟩ := h.up i hi hl
   rw [sm i hl]
   obtain ⟨p, hp⟩ : ∃ p : Nat, (nodeAt t i).up = p := ⟨(nodeAt t i).up.toNat, by omega⟩
   simp only [hp] at *
   refine ⟨a1, a2, a3, a4, ?_, ?_⟩
   ·rw [sm p (by omega)]; exact a5
   ·rw [sm p (by omega)]
    simp only
    by_cases e : p = u
    ·subst e
     rw [if_pos rfl, timesB_app, a6, if_neg (by omega)]
    ·rw [if_neg e, a6]
  ·rw [g.new]
   simp only
   refine ⟨by omega, by omega, h1, h4, ?_, ?_⟩
   ·rw [g.at_]; simp only; omega
   ·rw [g.at_]
    simp only
    rw [timesB_app, if_pos rfl, times_no fun k hk => (h.kid u hu k hk).2.1]
 ·rcases cs i hl with hl | rfl
  ·rw [sm i hl]
   simp only
   intro k hk
   have : k ∈ (nodeAt t i).kids ∨ (i = u ∧ k = (t.length : Int)) := by
    by_cases e : i = u
    ·subst e
     rw [if_pos rfl] at hk
     rcases List.mem_append.1 hk with hk | hk
     ·exact .inl hk
     ·exact .inr ⟨rfl, by simpa using hk⟩
    ·rw [if_neg e] at hk; exact .inl hk
   rcases this with hk | ⟨rfl, rfl⟩
   ·obtain ⟨b1, b2, b3⟩ := h.kid i hl k hk
    obtain ⟨q, rfl⟩ : ∃ q : Nat, k = q := ⟨k.toNat, by omega⟩
    refine ⟨b1, by omega, ?_⟩
    rw [sm q (by omega)]
    exact b3
   ·exact ⟨by omega, by omega, by rw [g.new]⟩
  ·rw [g.new]
   intro k hk
   cases hk
 ·rcases cs i hl with hl | rfl
  ·rw [sm i hl]
   simp only
   have := h.kl i hl
   have := h.kl u hu
   split
   ·simp; omega
   ·omega
  ·rw [g.new]; simp
 ·rcases cs i hl with hl | rfl
  ·rw [sm i hl]
   have := h.dl i hl
   simp only; omega
  ·rw [g.new]; simp only; omega
 ·rcases cs i hl with hl | rfl
  ·rw [sm i hl]
   exact h.nl i hl
  ·rw [g.new]; exact hnl
 ·rcases cs i hl with hl | rfl
  ·rw [sm i hl]
   have := h.al i hl
   simp only; omega
  ·rw [g.new]; simp only; omega
 ·rcases cs i hl with hl | rfl
  ·rw [sm i hl]
   exact h.nm i hi hl
  ·rw [g.new]
   exact ⟨by simp only; omega, hn⟩
theorem TI.set {j : Nat} {t : Tr} (h : TI j t) {u : Nat} (hu : u < t.length) (D : Str) (A : List At1) (hD : D.length ≤ 200 * (j + 1)) (hA : A.length ≤ 14 * (j + 2)) : TI (j + 1) (t.take u ++ { nodeAt t u with data := D, attrs := A } :: t.drop (u + 1)) := by
 obtain ⟨t', ht⟩ : ∃ t', t' = t.take u ++ { nodeAt t u with data := D, attrs := A } :: t.drop (u + 1) := ⟨_, rfl⟩
 have hl : t'.length = t.length := by rw [ht, set_len hu]
 have sm : ∀ i : Int, ∃ D' A', nodeAt t' i = { nodeAt t i with data := D', attrs := A' } ∧ (D'.length ≤ (nodeAt t i).data.length ∨ D'.length ≤ 200 * (j + 1)) ∧ (A'.length ≤ (nodeAt t i).attrs.length ∨ A'.length ≤ 14 * (j + 2)) := fun i => by
  rw [ht, nd_set hu]
  by_cases e : i.toNat = u
  ·have e' : nodeAt t i = nodeAt t u := by unfold nodeAt; rw [e]; rfl
   rw [if_pos e, e']
   exact ⟨D, A, rfl, .inr hD, .inr hA⟩
  ·rw [if_neg e]
   exact ⟨_, _, rfl, .inl (Nat.le_refl _), .inl (Nat.le_refl _)⟩
 rw [← ht]
 clear ht
 have ek : ∀ i : Int, (nodeAt t' i).kind = (nodeAt t i).kind := fun i => by obtain ⟨_, _, e, _⟩ := sm i; rw [e]
 have eu : ∀ i : Int, (nodeAt t' i).up = (nodeAt t i).up := fun i => by obtain ⟨_, _, e, _⟩ := sm i; rw [e]
 have es : ∀ i : Int, (nodeAt t' i).space = (nodeAt t i).space := fun i => by obtain ⟨_, _, e, _⟩ := sm i; rw [e]
 have en : ∀ i : Int, (nodeAt t' i).name = (nodeAt t i).name := fun i => by obtain ⟨_, _, e, _⟩ := sm i; rw [e]
 have eK : ∀ i : Int, (nodeAt t' i).kids = (nodeAt t i).kids := fun i => by obtain ⟨_, _, e, _⟩ := sm i; rw [e]
 have n0 := h.n0
 have n1 := h.n1
 refine ⟨by omega, by omega, by rw [ek]; exact h.k0, by rw [eu]; exact h.u0, by rw [eu]; exact h.u1, by rw [eu]; exact h.u2, by rw [ek]; exact h.k2, by rw [es]; exact h.s2, by rw [en]; exact h.m2, fun i hi hl2 => ?_, fun i hl2 k hk => ?_, fun i hl2 => ?_, fun i hl2 => ?_, fun i hl2 => ?_, fun i hl2 => ?_, fun i hi hl2 => ?_⟩
 ·rw [eu, ek, ek, eK]; exact h.up i hi (by omega)
 ·rw [eK] at hk; rw [hl, eu]; exact h.kid i (by omega) k hk
 ·rw [eK]; have := h.kl i (by omega); omega
 ·have := h.dl i (by omega)
  obtain ⟨_, _, e, b, _⟩ := sm i
  rw [e]; simp only; omega
 ·rw [en]; exact h.nl i (by omega)
 ·have := h.al i (by omega)
  obtain ⟨_, _, e, _, b⟩ := sm i
  rw [e]; simp only; omega
 ·rw [eu, ek, en]; exact h.nm i hi (by omega)
theorem TI.mono {j : Nat} {t : Tr} (h : TI j t) : TI (j + 1) t :=
 ⟨h.n0, by have := h.n1; omega, h.k0, h.u0, h.u1, h.u2, h.k2, h.s2, h.m2, h.up, h.kid, fun i hi => by have := h.kl i hi; omega, fun i hi => by have := h.dl i hi; omega, h.nl, fun i hi => by have := h.al i hi; omega, h.nm⟩
theorem TI.held {j : Nat} {t : Tr} (h : TI j t) : ∀ (f i : Nat), i < f → i < t.length → heldF t f (i : Int) = true
 | 0, i, hf, _ => by omega
 | f + 1, i, hf, hi => by
  unfold heldF
  by_cases e : i = 0
  ·subst e; rw [if_pos (by exact h.u0)]
  ·obtain ⟨a1, a2, _⟩ := h.up i (by omega) hi
   rw [if_neg (by omega)]
   obtain ⟨p, hp⟩ : ∃ p : Nat, (nodeAt t i).up = p := ⟨(nodeAt t i).up.toNat, by omega⟩
   rw [hp]
   exact TI.held h f p (by omega) (by omega)
theorem TI.right {j : Nat} {t : Tr} (h : TI j t) : rightB t = true := by
 have n0 := h.n0
 refine rightB_yes (fun e => by rw [e] at n0; simp at n0) h.k0 h.u0 (fun i hi => ?_) fun i hi => h.held _ i (by omega) hi
 have hc : (nodeAt t i).kids.any (badC t i) = false := by
  rw [List.any_eq_false]
  intro k hk
  obtain ⟨b1, b2, b3⟩ := h.kid i hi k hk
  simp [badC, b3]
  omega
 unfold okNd
 rw [hc]
 by_cases e : i = 0
 ·subst e
  have h1 : badB t 0 = false := by
   have := h.u0
   unfold badB
   rw [show ((0 : Nat) : Int) = 0 from rfl, this]
   simp
  rw [h1]
  simp [badA]
 ·obtain ⟨a1, a2, a3, a4, a5, a6⟩ := h.up i (by omega) hi
  have h1 : badA t i = false := by
   simp only [badA, Bool.and_eq_false_iff, Bool.or_eq_false_iff, decide_eq_false_iff_not]
   omega
  have h2 : badB t i = false := by
   simp only [badB, Bool.and_eq_false_iff, Bool.or_eq_false_iff, decide_eq_false_iff_not]
   rw [a6]
   omega
  rw [h1, h2]
  rfl
structure SI (j : Nat) (s : SS) : Prop where
 ti : TI j s.tree
 fo : s.foster = false
 ins : s.inside = [100, 105, 118]
 op : ∃ P : List Int, s.opn = 1 :: 2 :: P ∧ P.length ≤ j ∧ ∀ i, i ∈ P → 3 ≤ i ∧ i < (s.tree.length : Int) ∧ (nodeAt s.tree i).kind = 1
theorem top_last (a : Int) (P : List Int) (x : Int) : topI (a :: (P ++ [x])) = x := by
 unfold topI
 rw [show a :: (P ++ [x]) = (a :: P) ++ [x] from rfl, List.getLast?_concat]
 rfl
theorem SI.top {j : Nat} {s : SS} (h : SI j s) : 2 ≤ topI s.opn ∧ topI s.opn < (s.tree.length : Int) ∧ (nodeAt s.tree (topI s.opn)).kind = 1 := by
 obtain ⟨P, e, _, hp⟩ := h.op
 have n0 := h.ti.n0
 rw [e]
 rcases List.eq_nil_or_concat P with rfl | ⟨Q, x, rfl⟩
 ·exact ⟨by decide, by show (2 : Int) < _; omega, h.ti.k2⟩
 ·have : topI (1 :: 2 :: Q.concat x) = x := by rw [List.concat_eq_append]; exact top_last 1 (2 :: Q) x
  rw [this]
  have := hp x (by simp)
  exact ⟨by omega, this.2.1, this.2.2⟩
theorem nm_sel {x : Str} (h : nmB x = true) : inW [115, 101, 108, 101, 99, 116] x = false := by
 simp only [nmB, decide_eq_true_eq] at h
 rcases h with rfl | rfl | rfl <;> decide
theorem nodeS_at {t : Tr} {i : Int} (h0 : 0 ≤ i) (h : i < (t.length : Int)) : nodeS t i = nodeAt t i := by
 unfold nodeS
 rw [if_pos (by simp [isB, h0, h])]
theorem SI.sel {j : Nat} {s : SS} (h : SI j s) {i : Int} (h0 : 3 ≤ i) (h1 : i < (s.tree.length : Int)) : namedS (nodeS s.tree i) [115, 101, 108, 101, 99, 116] = false := by
 rw [nodeS_at (by omega) h1]
 obtain ⟨p, rfl⟩ : ∃ p : Nat, i = p := ⟨i.toNat, by omega⟩
 have := (h.ti.nm p (by omega) (by omega)).2
 unfold namedS
 by_cases hk : (nodeAt s.tree p).kind = 1
 ·rw [nm_sel (this hk)]; simp
 ·simp [hk]
theorem SI.sel2 {j : Nat} {s : SS} (h : SI j s) : nodeS s.tree 2 = nodeAt s.tree 2 := nodeS_at (by decide) (by have := h.ti.n0; omega)
theorem cutR_step {X : Type} (goes : X → Int → Bool) (nx : X → Int → X) (x : X) (i : Int) {r : List Int} (hr : r ≠ []) : cutR goes nx x (i :: r) = if goes x i = true then cutR goes nx (nx x i) r else (i :: r, nx x i) := by
 cases r with
 | nil => exact absurd rfl hr
 | cons a b => rfl
theorem cut_sel {t : Tr} {W : Str} (h2 : namedS (nodeS t 2) W = true) : ∀ Q : List Int, (∀ i, i ∈ Q → namedS (nodeS t i) W = false) → (cutR (fun (b : Bool) _ => !b) (fun b i => if b = true then true else namedS (nodeS t i) W) false (Q ++ [2, 1])).1 = [1]
 | [], _ => by
  rw [List.nil_append, cutR_step _ _ _ _ (by simp)]
  simp [h2, cutR]
 | q :: Q, hq => by
  rw [List.cons_append, cutR_step _ _ _ _ (by simp)]
  simp only [Bool.not_false, if_true, hq q (by simp)]
  exact cut_sel h2 Q fun i hi => hq i (by simp [hi])
theorem SI.pop {j : Nat} {s : SS} (h : SI j s) : popL s.tree s.opn [115, 101, 108, 101, 99, 116] = [1] := by
 obtain ⟨P, e, _, hp⟩ := h.op
 have hn : namedS (nodeS s.tree 2) [115, 101, 108, 101, 99, 116] = true := by
  rw [h.sel2]
  unfold namedS
  rw [h.ti.k2, h.ti.s2, h.ti.m2]
  decide
 unfold popL
 rw [e, show (1 :: 2 :: P).reverse = P.reverse ++ [2, 1] by simp, cut_sel hn]
 ·rfl
 ·intro i hi
  have := hp i (by simpa using hi)
  exact h.sel this.1 this.2.1
theorem SI.nm {j : Nat} {s : SS} (h : SI j s) : nmOk s.tree := fun i => by
 unfold nodeS
 split
 ·rename_i hb
  simp only [isB, Bool.and_eq_true, decide_eq_true_eq] at hb
  obtain ⟨p, rfl⟩ : ∃ p : Nat, i = p := ⟨i.toNat, by omega⟩
  have := h.ti.nl p (by omega)
  omega
 ·simp
theorem all_nd {t : Tr} {p : Nd → Prop} (h : ∀ i : Nat, i < t.length → p (nodeAt t i)) : ∀ n, n ∈ t → p n := fun n hn => by
 obtain ⟨i, hi, rfl⟩ := List.getElem_of_mem hn
 rw [← nodeAt_get hi]
 exact h i hi
theorem SI.rg {j : Nat} {s : SS} (h : SI j s) : ∀ i, i ∈ s.opn → 1 ≤ i ∧ i < (s.tree.length : Int) := fun i hi => by
 obtain ⟨P, e, _, hp⟩ := h.op
 have n0 := h.ti.n0
 rw [e] at hi
 simp only [List.mem_cons] at hi
 rcases hi with rfl | rfl | hi
 ·omega
 ·omega
 ·have := hp i hi; omega
theorem SI.ch {j : Nat} {s : SS} (h : SI j s) (hj : j ≤ 45) : ChOk s := by
 obtain ⟨P, e, hl, hp⟩ := h.op
 have n0 := h.ti.n0
 have n1 := h.ti.n1
 have hnm := h.nm
 have hol : s.opn.length ≤ 100 := by rw [e]; simp; omega
 refine ⟨h.fo, ⟨by omega, all_nd fun i hi => by have := h.ti.kl i hi; omega, by omega⟩, ⟨all_nd fun i hi k hk => ?_, all_nd fun i hi => by have := h.ti.dl i hi; omega⟩, hnm, fun i hi => by have := h.rg i hi; omega, ⟨hnm, by omega, by rw [h.pop]; rfl, fun i hi => ?_, h.ins⟩, ?_⟩
 ·have := h.ti.kid i hi k hk; exact ⟨this.1, this.2.1⟩
 ·rw [h.pop] at hi
  simp only [List.mem_singleton] at hi
  omega
 ·rw [e]
  have := h.ti.al 1 (by omega)
  show (nodeAt s.tree 1).attrs.length ≤ 850
  rw [show ((1 : Nat) : Int) = 1 from rfl] at this
  omega
theorem fold_len : ∀ (l A : List At1), (l.foldl addA A).length ≤ A.length + l.length
 | [], A => by simp
 | a :: l, A => by
  have := fold_len l (addA A a)
  have h1 : (addA A a).length ≤ A.length + 1 := by unfold addA; split <;> simp
  simp only [List.foldl_cons, List.length_cons]
  omega
theorem SI.mono {j : Nat} {s : SS} (h : SI j s) : SI (j + 1) s := ⟨h.ti.mono, h.fo, h.ins, by obtain ⟨P, e, hl, hp⟩ := h.op; exact ⟨P, e, by omega, hp⟩⟩
theorem SI.shut {j : Nat} {s : SS} (h : SI j s) {W : Str} (hW : inW W [115, 101, 108, 101, 99, 116] = false) : SI j (shutC s W) := by
 unfold shutC
 split
 ·rename_i hc
  obtain ⟨P, e, hl, hp⟩ := h.op
  refine ⟨h.ti, h.fo, h.ins, ?_⟩
  rcases List.eq_nil_or_concat P with rfl | ⟨Q, x, rfl⟩
  ·rw [e] at hc
   have e2 : topI [1, 2] = 2 := rfl
   rw [e2, h.sel2] at hc
   unfold namedS at hc
   rw [h.ti.m2, hW] at hc
   simp at hc
  ·refine ⟨Q, by simp only [e, List.concat_eq_append]; rw [show (1 :: 2 :: (Q ++ [x]) : List Int) = (1 :: 2 :: Q) ++ [x] from rfl, List.dropLast_concat], by simp at hl; omega, fun i hi => hp i (by simp [hi])⟩
 ·exact h
theorem SI.place {j : Nat} {s : SS} (h : SI j s) : whP s.tree (topI s.opn) = topI s.opn := by
 obtain ⟨a, b, _⟩ := h.top
 unfold whP
 rw [if_pos (by simp [isB]; omega)]
theorem SI.new {j : Nat} {s : SS} (h : SI j s) (nd : Nd) (h1 : 1 ≤ nd.kind) (h4 : nd.kind ≤ 4) (hn : nd.kind = 1 → nmB nd.name = true) (hnl : nd.name.length ≤ 40) (hdl : nd.data.length ≤ 200) (hal : nd.attrs.length ≤ 14) :
  ∃ u : Nat, topI s.opn = (u : Int) ∧ Grew s.tree (newT s.tree (topI s.opn) ((nodeAt s.tree (topI s.opn)).kids.length : Int) nd) u nd ∧ TI (j + 1) (newT s.tree (topI s.opn) ((nodeAt s.tree (topI s.opn)).kids.length : Int) nd) := by
 obtain ⟨a, b, c⟩ := h.top
 obtain ⟨u, hu⟩ : ∃ u : Nat, topI s.opn = (u : Int) := ⟨(topI s.opn).toNat, by omega⟩
 rw [hu] at a b c ⊢
 have g := newT_grew (t := s.tree) (u := u) (by omega) (fun i hi => h.ti.upl i hi) nd
 exact ⟨u, rfl, g, h.ti.grow g (by omega) (by omega) c h1 h4 hn hnl hdl hal⟩
theorem SI.el {j : Nat} {s : SS} (h : SI j s) {nm : Str} {L : List At1} (hn : nmB nm = true) (hnl : nm.length ≤ 40) (hal : L.length ≤ 14) : SI (j + 1) (elS s 0 nm L) := by
 obtain ⟨u, hu, g, ht⟩ := h.new ⟨1, 0, nm, L, [], 0, []⟩ (by simp) (by simp) (fun _ => hn) hnl (by simp) hal
 obtain ⟨P, e, hl, hp⟩ := h.op
 have et : elT s.tree (topI s.opn) 0 nm L = newT s.tree (topI s.opn) ((nodeAt s.tree (topI s.opn)).kids.length : Int) ⟨1, 0, nm, L, [], 0, []⟩ := by unfold elT; rw [h.place]
 unfold elS
 rw [et]
 refine ⟨ht, h.fo, h.ins, P ++ [(s.tree.length : Int)], by simp [e], by simp; omega, fun i hi => ?_⟩
 have n0 := h.ti.n0
 have gl := g.len
 simp only
 rcases List.mem_append.1 hi with hi | hi
 ·obtain ⟨a, b, c⟩ := hp i hi
  obtain ⟨p, rfl⟩ : ∃ p : Nat, i = p := ⟨i.toNat, by omega⟩
  refine ⟨a, by omega, ?_⟩
  by_cases hpu : p = u
  ·subst hpu; rw [g.at_]; exact c
  ·rw [g.old p (by omega) hpu]; exact c
 ·simp only [List.mem_singleton] at hi
  subst hi
  exact ⟨by omega, by omega, by rw [g.new]⟩
def LI (j : Nat) (s : SS) : Prop := TI j s.tree ∧ (s.mode = 13 → SI j s)
theorem SI.li {j : Nat} {s : SS} (h : SI j s) : LI j s := ⟨h.ti, fun _ => h⟩
theorem SI.over {j : Nat} {s : SS} (h : SI j s) : LI (j + 1) (overS s) := by
 unfold overS
 split
 ·exact ⟨h.ti.mono, fun hm => by simp [leaveS] at hm⟩
 ·exact h.mono.li
theorem SI.begins {j : Nat} {s : SS} (h : SI j s) {t : Tk} (ht : TkOk t) (hk : t.kind = 1) : LI (j + 1) (beginsS s t) := by
 have a1 := ht.nm
 have a2 := ht.at_
 unfold beginsS
 split
 ·rename_i hn
  exact (((h.shut (W := [111, 112, 116, 105, 111, 110]) (by decide)).shut (W := [111, 112, 116, 103, 114, 111, 117, 112]) (by decide)).el (by rw [hn]; decide) a1 a2).li
 split
 ·rename_i hn
  exact ((h.shut (W := [111, 112, 116, 105, 111, 110]) (by decide)).el (by rw [hn]; decide) a1 a2).li
 split
 ·exact h.over
 split
 ·rename_i hn
  have e : metaS s t = textsS s t.name t.attrs := by
   unfold metaS
   rw [if_pos hk, hn, if_neg (by decide), if_pos (by decide)]
  rw [e]
  exact ⟨(h.el (by rw [hn]; decide) a1 a2).ti, fun hm => by simp [textsS] at hm⟩
 split
 ·obtain ⟨P, e, hl, hp⟩ := h.op
  unfold htmlS
  rw [if_pos hk]
  unfold lendS
  split
  ·have n0 := h.ti.n0
   have e1 : s.opn.getD 0 0 = 1 := by rw [e]; rfl
   rw [e1]
   have hal := h.ti.al 1 (by omega)
   have hdl := h.ti.dl 1 (by omega)
   rw [show ((1 : Nat) : Int) = 1 from rfl] at hal hdl
   obtain ⟨A, hA⟩ : ∃ A, A = t.attrs.foldl addA (nodeAt s.tree 1).attrs := ⟨_, rfl⟩
   have hAl : A.length ≤ (nodeAt s.tree 1).attrs.length + t.attrs.length := by rw [hA]; exact fold_len _ _
   rw [← hA]
   have hs := h.ti.set (u := 1) (by omega) (nodeAt s.tree 1).data A (by omega) (by omega)
   refine SI.li ⟨hs, h.fo, h.ins, P, e, by omega, fun i hi => ?_⟩
   obtain ⟨b1, b2, b3⟩ := hp i hi
   show 3 ≤ i ∧ i < ((setAts s.tree 1 A).length : Int) ∧ (nodeAt (setAts s.tree 1 A) i).kind = 1
   refine ⟨b1, by rw [setAts_len (by omega)]; exact b2, ?_⟩
   unfold setAts
   rw [nd_set (by omega), if_neg (by omega)]
   exact b3
  ·exact h.mono.li
 ·exact h.mono.li
theorem SI.closes {j : Nat} {s : SS} (h : SI j s) (nm : Str) : LI (j + 1) (closesS s nm) := by
 have h1 := h.shut (W := [111, 112, 116, 105, 111, 110]) (by decide)
 unfold closesS
 split
 ·exact h.over
 split
 ·unfold groupS
  split
  ·exact (h1.shut (W := [111, 112, 116, 103, 114, 111, 117, 112]) (by decide)).mono.li
  ·exact (h.shut (W := [111, 112, 116, 103, 114, 111, 117, 112]) (by decide)).mono.li
 split
 ·exact h1.mono.li
 ·exact h.mono.li
theorem SI.chars {j : Nat} {s : SS} (h : SI j s) {x : Str} (hx : x.length ≤ 200) : SI (j + 1) { s with tree := chT s.tree (topI s.opn) x } := by
 have n0 := h.ti.n0
 have hop := h.op
 have keep : ∀ t' : Tr, TI (j + 1) t' → (∀ i : Nat, i < s.tree.length → i < t'.length ∧ (nodeAt t' i).kind = (nodeAt s.tree i).kind) → SI (j + 1) { s with tree := t' } := fun t' ht hk => by
  obtain ⟨P, e, hl, hp⟩ := hop
  refine ⟨ht, h.fo, h.ins, P, e, by omega, fun i hi => ?_⟩
  obtain ⟨b1, b2, b3⟩ := hp i hi
  obtain ⟨p, rfl⟩ : ∃ p : Nat, i = p := ⟨i.toNat, by omega⟩
  have := hk p (by omega)
  exact ⟨b1, by have := this.1; simp only; omega, by rw [this.2]; exact b3⟩
 have new : SI (j + 1) { s with tree := chN s.tree (topI s.opn) x } := by
  obtain ⟨u, hu, g, ht⟩ := h.new ⟨2, 0, [], [], x, 0, []⟩ (by simp) (by simp) (fun e => by simp at e) (by simp) hx (by simp)
  refine keep _ ht fun i hi => ⟨by have := g.len; unfold chN; omega, ?_⟩
  unfold chN
  by_cases e : i = u
  ·subst e; rw [g.at_]
  ·rw [g.old i hi e]
 unfold chT
 rw [h.place]
 split
 ·exact h.mono
 split
 ·rename_i k hk
  split
  ·obtain ⟨a, b, _⟩ := h.top
   obtain ⟨u, hu⟩ : ∃ u : Nat, topI s.opn = (u : Int) := ⟨(topI s.opn).toNat, by omega⟩
   rw [hu] at hk b
   obtain ⟨c1, c2, _⟩ := h.ti.kid u (by omega) k (List.mem_of_getLast? hk)
   obtain ⟨q, rfl⟩ : ∃ q : Nat, k = q := ⟨k.toNat, by omega⟩
   have hd := h.ti.dl q (by omega)
   have ha := h.ti.al q (by omega)
   have hs := h.ti.set (u := q) (by omega) ((nodeAt s.tree q).data ++ x) (nodeAt s.tree q).attrs (by rw [List.length_append]; omega) (by omega)
   refine keep _ hs fun i hi => ?_
   show i < (setDt s.tree ((q : Int).toNat) ((nodeAt s.tree q).data ++ x)).length ∧ _
   rw [Int.toNat_natCast]
   refine ⟨by rw [setDt_len (by omega)]; exact hi, ?_⟩
   unfold setDt
   rw [nd_set (by omega)]
   split
   ·rename_i e
    rw [Int.toNat_natCast] at e
    subst e
    rfl
   ·rfl
  ·exact new
 ·exact new
theorem SI.note {j : Nat} {s : SS} (h : SI j s) {x : Str} (hx : x.length ≤ 200) : SI (j + 1) { s with tree := ntT s.tree (ntP s (-1)) x } := by
 have e : ntP s (-1) = topI s.opn := by unfold ntP; rw [if_neg (by simp [isB]), h.place]
 rw [e]
 obtain ⟨u, hu, g, ht⟩ := h.new ⟨3, 0, [], [], x, 0, []⟩ (by simp) (by simp) (fun e => by simp at e) (by simp) hx (by simp)
 obtain ⟨P, e, hl, hp⟩ := h.op
 refine ⟨ht, h.fo, h.ins, P, e, by omega, fun i hi => ?_⟩
 obtain ⟨b1, b2, b3⟩ := hp i hi
 obtain ⟨p, rfl⟩ : ∃ p : Nat, i = p := ⟨i.toNat, by omega⟩
 have gl := g.len
 refine ⟨b1, by simp only [ntT]; omega, ?_⟩
 simp only [ntT]
 by_cases e : p = u
 ·subst e; rw [g.at_]; exact b3
 ·rw [g.old p (by omega) e]; exact b3
theorem SI.step {j : Nat} {s : SS} (h : SI j s) {t : Tk} (ht : TkOk t) : LI (j + 1) (stepC s t) := by
 unfold stepC
 split
 ·exact (h.chars ht.dt).li
 split
 ·exact (h.note ht.dt).li
 split
 ·rename_i hk
  exact h.begins ht hk
 split
 ·exact h.closes _
 ·exact h.mono.li
def s1 : SS := selS s0 ⟨1, [115, 101, 108, 101, 99, 116], [], false, []⟩
theorem s1_tree : s1.tree = [⟨0, 0, [], [], [], -1, [1]⟩, ⟨1, 0, [104, 116, 109, 108], [], [], 0, [2]⟩, ⟨1, 0, [115, 101, 108, 101, 99, 116], [], [], 1, []⟩] := rfl
theorem s1_li : LI 0 s1 := by
 have ht : TI 0 s1.tree := by
  rw [s1_tree]
  refine ⟨by decide, by decide, rfl, rfl, rfl, rfl, rfl, rfl, rfl, fun i h1 h2 => ?_, fun i h2 => ?_, fun i h2 => ?_, fun i h2 => ?_, fun i h2 => ?_, fun i h2 => ?_, fun i h1 h2 => ?_⟩
  ·have h2 : i < 3 := h2
   obtain rfl | rfl : i = 1 ∨ i = 2 := by omega
   ·decide
   ·decide
  ·have h2 : i < 3 := h2
   obtain rfl | rfl | rfl : i = 0 ∨ i = 1 ∨ i = 2 := by omega
   ·decide
   ·decide
   ·decide
  ·have h2 : i < 3 := h2
   obtain rfl | rfl | rfl : i = 0 ∨ i = 1 ∨ i = 2 := by omega
   ·decide
   ·decide
   ·decide
  ·have h2 : i < 3 := h2
   obtain rfl | rfl | rfl : i = 0 ∨ i = 1 ∨ i = 2 := by omega
   ·decide
   ·decide
   ·decide
  ·have h2 : i < 3 := h2
   obtain rfl | rfl | rfl : i = 0 ∨ i = 1 ∨ i = 2 := by omega
   ·decide
   ·decide
   ·decide
  ·have h2 : i < 3 := h2
   obtain rfl | rfl | rfl : i = 0 ∨ i = 1 ∨ i = 2 := by omega
   ·decide
   ·decide
   ·decide
  ·exact absurd h2 (by simp; omega)
 refine ⟨ht, fun _ => ⟨ht, rfl, rfl, [], rfl, by decide, fun i hi => by cases hi⟩⟩
end Go.Proofs.YtfgdcciaecajpaaGreat
namespace Go.Proofs.YtfgdcciaecajpaaGreat
noncomputable section
set_option linter.unusedSimpArgs false
set_option linter.unusedVariables false
open Go Go.RowKit
set_option maxRecDepth 100000
theorem closedCall {T : List (Entry Tryz.prog)} {f : FuncId} (h : isTrueE (callN (ctx T) 100000 (.fn f) [] ⟨0, []⟩) = true) : CallAt (ctx T) f [] ⟨0, []⟩ (.bool true) ⟨0, []⟩ := by
 revert h
 cases hr : callN (ctx T) 100000 (.fn f) [] ⟨0, []⟩ with
 | none => intro h; cases h
 | some r =>
  obtain ⟨v, H'⟩ := r
  intro h
  cases v <;> simp only [isTrueE] at h <;> first | (cases h; done) | skip
  subst h
  exact ((call_ok mixed (mkC_ok _ _ _) 100000).fn f [] ⟨0, []⟩ _ _ hr).freeze (Φ := []) (by simp [fitV, pureV]) FitH.empty
def noneL : List AV → Bool
 | [] => true
 | _ :: _ => false
mutual
def fitVb (Φ : List (Nat × List AV)) : AV → AV → Bool
 | .slc b o len cap, v' => match v' with
  | .undef => true
  | .fslc sz es => (match lookC b Φ with
   | some cs => (match subL o (len * sz) cs with
    | some x => AV.beqL x (flatAV es) && Nat.beq es.length len && allSize sz es
    | none => false)
   | none => false) || (Nat.beq len 0 && noneL es)
  | _ => false
 | .ptr b o, v' => match v' with
  | .undef => true
  | .fptr cs o' => (match lookC b Φ with
   | some c => AV.beqL c cs
   | none => false) && Nat.beq o' o
  | _ => false
 | .nilS, v' => match v' with
  | .undef => true
  | .nilS => true
  | .fslc _ es => noneL es
  | _ => false
 | .fslc sz es, v' => match v' with
  | .undef => true
  | .fslc sz' es' => Nat.beq sz sz' && AV.beqL es es'
  | _ => false
 | .agg cs, v' => match v' with
  | .undef => true
  | .agg cs' => fitLb Φ cs cs'
  | _ => false
 | .tup cs, v' => match v' with
  | .undef => true
  | .tup cs' => fitLb Φ cs cs'
  | _ => false
 | .int k n, v' => match v' with
  | .undef => true
  | .int k' n' => decide (k' = k) && decide (n' = n)
  | _ => false
 | .str s, v' => match v' with
  | .undef => true
  | .str s' => eqN s' s
  | _ => false
 | .bool s, v' => match v' with
  | .undef => true
  | .bool s' => s' == s
  | _ => false
 | _, v' => match v' with
  | .undef => true
  | _ => false
def fitLb (Φ : List (Nat × List AV)) : List AV → List AV → Bool
 | [], l' => noneL l'
 | a :: r, l' => match l' with
  | [] => false
  | a' :: r' => fitVb Φ a a' && fitLb Φ r r'
end
theorem noneL_eq {l : List AV} (h : noneL l = true) : l = [] := by cases l <;> first | rfl | cases h
mutual
theorem fitVb_ok {Φ : List (Nat × List AV)} : ∀ {v v' : AV}, fitVb Φ v v' = true → fitV [] Φ v v' := by
 intro v v' h
 cases v with
 | slc b o len cap =>
  unfold fitVb at h
  unfold fitV
  cases v' <;> simp only [Bool.false_eq_true] at h ⊢
  rename_i sz es
  simp only [Bool.or_eq_true, Bool.and_eq_true] at h
  rcases h with h | h
  ·left
   cases hl : lookC b Φ with
   | none => rw [hl] at h; cases h
   | some cs =>
    rw [hl] at h
    simp only at h
    cases hs : subL o (len * sz) cs with
    | none => rw [hs] at h; cases h
    | some x =>
     rw [hs] at h
     simp only [Bool.and_eq_true] at h
     exact ⟨cs, rfl, by rw [hs, AV.eqL_of_beq _ _ h.1.1], Nat.eq_of_beq_eq_true h.1.2, h.2⟩
  ·exact .inr ⟨Nat.eq_of_beq_eq_true h.1, noneL_eq h.2⟩
 | fslc sz es =>
  cases v' with
  | undef => simp [fitV]
  | fslc sz' es' =>
   unfold fitVb at h
   simp only [Bool.and_eq_true] at h
   have h1 := Nat.eq_of_beq_eq_true h.1
   have h2 := AV.eqL_of_beq _ _ h.2
   subst h1; subst h2
   exact fitV_pure rfl
  | _ => simp [fitVb] at h
 | ptr b o =>
  unfold fitVb at h
  unfold fitV
  cases v' <;> simp only [Bool.false_eq_true] at h ⊢
  simp only [Bool.and_eq_true] at h
  cases hl : lookC b Φ with
  | none => rw [hl] at h; cases h.1
  | some cs =>
   rw [hl] at h
   exact ⟨by rw [AV.eqL_of_beq _ _ h.1], Nat.eq_of_beq_eq_true h.2⟩
 | nilS =>
  unfold fitVb at h
  unfold fitV
  cases v' <;> simp only [Bool.false_eq_true] at h ⊢
  exact noneL_eq h
 | agg cs =>
  unfold fitVb at h
  unfold fitV
  cases v' <;> simp only [Bool.false_eq_true] at h ⊢
  exact .inl (fitLb_ok h)
 | tup cs =>
  unfold fitVb at h
  unfold fitV
  cases v' <;> simp only [Bool.false_eq_true] at h ⊢
  exact .inl (fitLb_ok h)
 | int k n =>
  unfold fitVb at h
  unfold fitV
  cases v' <;> simp only [Bool.false_eq_true] at h ⊢
  ·simp
  ·simp only [Bool.and_eq_true, decide_eq_true_eq] at h
   obtain ⟨rfl, rfl⟩ := h
   exact .inr ⟨rfl, rfl⟩
 | str s =>
  unfold fitVb at h
  unfold fitV
  cases v' <;> simp only [Bool.false_eq_true] at h ⊢
  ·simp
  ·rw [eqN_eq, decide_eq_true_eq] at h
   subst h
   exact .inr ⟨rfl, rfl⟩
 | bool s =>
  unfold fitVb at h
  unfold fitV
  cases v' <;> simp only [Bool.false_eq_true] at h ⊢
  ·simp
  ·simp only [beq_iff_eq] at h
   subst h
   exact .inr ⟨rfl, rfl⟩
 | _ =>
  unfold fitVb at h
  cases v' <;> simp only [Bool.false_eq_true] at h
  simp [fitV]
theorem fitLb_ok {Φ : List (Nat × List AV)} : ∀ {l l' : List AV}, fitLb Φ l l' = true → fitL [] Φ l l' := by
 intro l l' h
 cases l with
 | nil =>
  unfold fitLb at h
  unfold fitL
  exact noneL_eq h
 | cons a r =>
  unfold fitLb at h
  unfold fitL
  cases l' with
  | nil => cases h
  | cons a' r' =>
   simp only [Bool.and_eq_true] at h
   exact ⟨fitVb_ok h.1, fitLb_ok h.2⟩
end
end
end Go.Proofs.YtfgdcciaecajpaaGreat