/- early: ahead of the head. No condition. -/
import Derived.Test.YtfgdcciaecajpaaGreatDoorMO
namespace Go.Proofs.YtfgdcciaecajpaaGreatDoor
set_option linter.unusedSimpArgs false
set_option linter.unusedVariables false
open Go Go.RowKit
set_option maxRecDepth 100000
theorem in_headw (x : Str) : inW [104, 101, 97, 100] x = decide (x = [104, 101, 97, 100]) := by
 have : wsplit [104, 101, 97, 100] = [[104, 101, 97, 100]] := by decide
 simp [inW, this]
theorem comS_no {s : SS} {t : Tk} (h : ¬ (t.kind = 4 ∨ t.kind = 5 ∨ (t.kind = 1 ∧ t.name = [104, 116, 109, 108]))) : comS s t = s := by
 unfold comS
 rw [if_neg (fun e => h (.inl e)), if_neg (fun e => h (.inr (.inl e))), if_neg (fun e => h (.inr (.inr e)))]
def m3S (s : SS) : SS := ⟨s.tree, s.opn, s.act, 3, s.back, s.lex, s.form, s.head, s.foster, s.skip, s.inside⟩
def hdS (s : SS) (nm : Str) (L : List At1) : SS := ⟨(elS (m3S s) 0 nm L).tree, (elS (m3S s) 0 nm L).opn, s.act, 3, s.back, s.lex, s.form, s.tree.length, s.foster, s.skip, s.inside⟩
def bdR (s : SS) (t : Tk) : Bool × SS :=
 if t.kind = 3 ∧ t.data.dropWhile sp = [] then (false, s)
 else if t.kind = 2 ∧ inW [104, 101, 97, 100, 32, 98, 111, 100, 121, 32, 104, 116, 109, 108, 32, 98, 114] t.name = false then (false, s)
 else if t.kind = 4 ∨ t.kind = 5 ∨ (t.kind = 1 ∧ t.name = [104, 116, 109, 108]) then (false, comS s t)
 else if t.kind = 1 ∧ t.name = [104, 101, 97, 100] then (false, hdS s t.name t.attrs)
 else (true, hdS s [104, 101, 97, 100] [])
theorem bdR_ne {s : SS} (ne : s.tree ≠ []) (t : Tk) : (bdR s t).2.tree ≠ [] := by
 unfold bdR
 split
 ·exact ne
 split
 ·exact ne
 split
 ·exact comS_ne ne _
 split
 ·exact newT_ne _ _ _ _
 ·exact newT_ne _ _ _ _
def inX (s : SS) (t : Tk) : SS :=
 if t.kind = 3 then { s with tree := chT s.tree (topI s.opn) t.data }
 else if t.kind = 0 ∨ t.kind = 2 then { shutJ s with mode := s.back, lex := 0 }
 else s
theorem inX_ne {s : SS} (ne : s.tree ≠ []) (t : Tk) : (inX s t).tree ≠ [] := by
 unfold inX
 split
 ·exact chT_ne ne _ _
 split
 ·unfold shutJ; split <;> exact ne
 ·exact ne
theorem c19 {T : List (Entry Tryz.prog)} (hc0 : findE 36 T = some e36.g) (hc1 : findE 38 T = some e38.g) {s : SS} {t : Tk} {b : Str} (ne : s.tree ≠ [])  (hf : s.foster = false) (ok : SOk s) (kk : KOk s.tree) (hl : t.data.length ≤ 1000000) : JC T 19 [] ⟨s, t, b⟩ (.bool (decide (t.kind = 0))) ⟨inX s t, t, b⟩ := by
 have kc0 := @k36 T hc0
 have kc1 := @k38 T hc1
 have g0 := @vg0
 have v0 := @vset
 obtain ⟨kd, nm, L, sf, dt⟩ := t
 have kC := fun n k fr => @kc0 s ne dt hf ok kk (by simp only at hl; omega) n k fr
 have kS := fun n k jb tb fr => @kc1 s ⟨kd, nm, L, sf, dt⟩ b ne (by have := ok.op; omega) n k jb tb fr
 have h9 := inX_ne ne ⟨kd, nm, L, sf, dt⟩
 have q1 := chT_ne ne (topI s.opn) dt
 have e1 : shutJ s = ⟨s.tree, (shutJ s).opn, s.act, s.mode, s.back, s.lex, s.form, s.head, s.foster, s.skip, s.inside⟩ := by unfold shutJ; split <;> rfl
 clear kc0 kc1 hf ok kk hl
 simp only [inX] at h9 ⊢
 rw [e1] at kS h9 ⊢
 clear e1
 simp only [Tk.cs] at kS
 generalize (shutJ s).opn = o1 at kS h9 ⊢
 generalize chT s.tree (topI s.opn) dt = t1 at kC h9 q1 ⊢
 by_cases k3 : kd = 3
 subst k3
 rotate_left
 by_cases k0 : kd = 0
 subst k0
 rotate_left
 by_cases k2 : kd = 2
 subst k2
 all_goals
  (try simp only [Tk.cs] at *)
  refine callAt_body (fn := Tryz.f19) (s0 := ⟨[0, 2, 9, 24], [.ptr 1 0, .undef, .undef, .undef], [], 56, ⟨4, [] :: [_]⟩⟩) Tryz.func19 rfl rfl rfl ?_
  refine permJ ?_
  try simp only [Tk.cs]
  (repeat' (first
   | with_reducible refine wps_seq ?_
   | with_reducible refine wps_block ?_
   | (with_reducible refine wps_label ?_; simp only [thenQ, blockQ])
   | (with_reducible refine wps_region callOK ?_; apply runE; simp [zS, *, SS.post]; exact rfl)
   | (with_reducible refine run_end ?_; simp only [thenQ, blockQ])
   | (refine wps_drawQ mixed callOK (by decide +kernel) (by decide +kernel) rfl ?_; apply runQ; simp [zS, zW, clsOf, mkBlk, guardA, Heap.lay, ontoF, *, SS.post]; exact rfl)
   | (with_reducible refine run_endQ ?_; refine ⟨by repeat first | exact okC_n | refine okC_c (by decide +kernel) ?_, ?_⟩; simp only [thenQ, blockQ, allPend, Heap.lay, ontoF])
   | (with_reducible refine gate_splitQ (fun hc => ?_) (fun hc => ?_) <;> ((have hd := hc); (try simp at hd); (try subst hd); apply runQ; simp [zS, zW, clsOf, mkBlk, guardA, Heap.lay, ontoF, *, SS.post]; exact rfl))
   | (with_reducible refine gate_splitX (fun hc => ?_) (fun hc => ?_) <;> ((have hd := hc); (try simp at hd); (try subst hd); apply runQ; simp [zS, zW, clsOf, mkBlk, guardA, Heap.lay, ontoF, *, SS.post]; exact rfl))
   | (with_reducible refine pick_splitQ (fun hc => ?_) (fun hc => ?_) <;> ((have hd := hc); (try simp at hd); (try subst hd); apply runQ; simp [zS, zW, clsOf, mkBlk, guardA, Heap.lay, ontoF, *, SS.post]; exact rfl))
   | (with_reducible refine gate_split (fun hc => ?_) (fun hc => ?_) <;> ((have hd := hc); (try simp at hd); (try subst hd); apply runE; simp [zS, *, SS.post]; exact rfl))
   | (with_reducible refine pick_split (fun hc => ?_) (fun hc => ?_) <;> ((have hd := hc); (try simp at hd); (try subst hd); apply runE; simp [zS, *, SS.post]; exact rfl))
   | (refine wps_ct rfl ?_)
   | (refine wps_cf rfl ?_)
   | (refine wps_cond rfl (fun hc => ?_) (fun hc => ?_) <;> ((have hd := hc); (try simp at hd); (try subst hd)))
   | (with_reducible refine wps_skip ?_; simp only [thenQ, blockQ])
   | (with_reducible refine wps_exit ?_; simp [thenQ, blockQ])
   | (with_reducible refine wps_ret ?_; simp [retVal, Tryz.f19, oneOr, thenQ, blockQ])))
  all_goals first | (((try simp [retVal, Tryz.f19, oneOr]); clear kC kS g0 v0; refine ends_J2 (by simp [*]) (by first | rfl | (simp [*]; done)) (by simp [pureV, pureL]) (by omega) (by first | (simp [*]; done) | (simp [*] at h9 ⊢; exact h9) | exact h9) (by simp [getF]) (by simp [getF]) (by first | (simp [getF]; done) | (simp [getF, *]; done)) (by first | (simp [getF, Tk.cs]; done) | (simp [getF, Tk.cs, *]; done)))) | (exfalso; omega) | (trace_state; fail)
theorem inj_19 (x y : Unit) (h : (fun z : Unit => ([] : List AV)) x = (fun z : Unit => ([] : List AV)) y) : x = y := by
 rfl
noncomputable def e19 : Entry Tryz.prog := mkJ 19 [] (fun z : Unit => []) (fun z x => (x.s.foster = false) ∧ (SOk x.s) ∧ (KOk x.s.tree) ∧ (x.t.data.length ≤ 1000000)) (fun z x => .bool (decide (x.t.kind = 0))) (fun z x => ⟨inX x.s x.t, x.t, x.b⟩) fun z x ne h => ⟨c19 (T := [e36, e38]) rfl rfl ne  h.1 h.2.1 h.2.2.1 h.2.2.2, by simp [pureL, pureV], by simp [pureV, pureL], by (try exact h9); (all_goals exact inX_ne ne _)⟩
theorem k19 {T : List (Entry Tryz.prog)} (hT : findE 19 T = some e19.g) {s : SS} {t : Tk} {b : Str} (ne : s.tree ≠ [])  (hf : s.foster = false) (ok : SOk s) (kk : KOk s.tree) (hl : t.data.length ≤ 1000000) {n k jb tb : Nat} {fr : List (Nat × Blk)} (d : dJ n k jb tb) (of : offJ k jb tb fr) : callL (ctx T) (.fn 19) [.ptr jb 0] ⟨n, [(jb, .cells [.ptr 0 0, .ptr tb 0, .str b]) :: (tb, .cells t.cs) :: fr, VS k s]⟩ = some (.bool (decide (t.kind = 0)), ⟨n + 1, [(jb, .cells [.ptr 0 0, .ptr tb 0, .str (b)]) :: (tb, .cells (Tk.cs (t))) :: fr, VS n (inX s t)]⟩) :=
 mkJ_eq (x := ⟨s, t, b⟩) hT inj_19 () ne ⟨hf, ok, kk, hl⟩ (by simp [pureL, pureV]) (by simp [thawL, thawA_ok]) d of
end Go.Proofs.YtfgdcciaecajpaaGreatDoor
namespace Go.Proofs.YtfgdcciaecajpaaGreatDoor
set_option linter.unusedSimpArgs false
set_option linter.unusedVariables false
end Go.Proofs.YtfgdcciaecajpaaGreatDoor
namespace Go.Proofs.YtfgdcciaecajpaaGreatDoor
set_option linter.unusedSimpArgs false
set_option linter.unusedVariables false
open Go Go.RowKit
set_option maxRecDepth 100000
set_option maxHeartbeats 4000000
def chS (s : SS) (x : Str) : SS := { s with tree := chT s.tree (topI s.opn) x }
theorem metaS_no {s : SS} {t : Tk} (h : ¬ (t.kind = 1 ∧ (metaA t.name || metaT t.name) = true)) : metaS s t = s := by
 unfold metaS
 by_cases h1 : t.kind = 1
 ·rw [if_pos h1]
  have h2 : ¬ (metaA t.name || metaT t.name) = true := fun e => h ⟨h1, e⟩
  simp only [Bool.or_eq_true, not_or] at h2
  rw [if_neg h2.1, if_neg h2.2]
 ·rw [if_neg h1]
theorem meta_names {x : Str} (h : (metaA x || metaT x) = true) : ¬ x = [104, 116, 109, 108] ∧ ¬ x = [104, 101, 97, 100] := by
 refine ⟨fun e => ?_, fun e => ?_⟩ <;> subst e <;> exact absurd h (by decide)
def m4S (s : SS) : SS := ⟨s.tree, (shutJ s).opn, s.act, 4, s.back, s.lex, s.form, s.head, s.foster, s.skip, s.inside⟩
def ihR (c : SS) (t : Tk) : Bool × SS :=
 if t.kind = 3 ∧ t.data.dropWhile sp = [] then (false, c)
 else if t.kind = 1 ∧ t.name = [104, 101, 97, 100] then (false, c)
 else if t.kind = 2 ∧ inW [104, 101, 97, 100, 32, 98, 111, 100, 121, 32, 104, 116, 109, 108, 32, 98, 114] t.name = false then (false, c)
 else if t.kind = 4 ∨ t.kind = 5 ∨ (t.kind = 1 ∧ t.name = [104, 116, 109, 108]) then (false, comS c t)
 else if t.kind = 1 ∧ (metaA t.name || metaT t.name) = true then (false, metaS c t)
 else (decide (t.kind ≠ 2 ∨ t.name ≠ [104, 101, 97, 100]), m4S c)
theorem ihR_ne {s : SS} (ne : s.tree ≠ []) (t : Tk) : (ihR s t).2.tree ≠ [] := by
 unfold ihR
 split
 ·exact ne
 split
 ·exact ne
 split
 ·exact ne
 split
 ·exact comS_ne ne _
 split
 ·exact metaS_ne ne _
 ·exact ne
theorem chS_ne {s : SS} (ne : s.tree ≠ []) (x : Str) : (chS s x).tree ≠ [] := chT_ne ne _ _
theorem c17 {T : List (Entry Tryz.prog)} (hc0 : findE 29 T = some e29.g) (hc1 : findE 36 T = some e36.g) (hc2 : findE 32 T = some e32.g) (hc3 : findE 31 T = some e31.g) (hc4 : findE 35 T = some e35.g) (hc5 : findE 37 T = some e37t.g) (hc6 : findE 38 T = some e38.g) {s : SS} {t : Tk} {b : Str} (ne : s.tree ≠ [])  (hf : s.foster = false) (ok : SOk s) (kk : KOk s.tree) (hx : (blS t b).length ≤ 1000000000) (okc : SOk (chS s (blS t b))) (hc : HtOk (chS s (blS t b))) (hl : t.data.length ≤ 1000000) (ha : t.attrs.length ≤ 14) (hn : t.name.length ≤ 1000000000) : JC T 17 [] ⟨s, t, b⟩ (.bool (ihR (chS s (blS t b)) t).1) ⟨(ihR (chS s (blS t b)) t).2, blT t, blS t b⟩ := by
 have kc0 := @k29 T hc0
 have kc1 := @k36 T hc1
 have kc2 := @k32 T hc2
 have kc3 := @k31 T hc3
 have kc4 := @k35 T hc4
 have kc5 := @m37t T hc5
 have kc6 := @k38 T hc6
 have g0 := @vg0
 have v0 := @vset
 obtain ⟨kd, nm, L, sf, dt⟩ := t
 obtain ⟨c, hcc⟩ : ∃ c, c = chS s (blS ⟨kd, nm, L, sf, dt⟩ b) := ⟨_, rfl⟩
 have nc : c.tree ≠ [] := hcc ▸ chS_ne ne _
 have fc : c.foster = false := by rw [hcc]; exact hf
 have kB := fun n k jb tb fr => @kc0 s ⟨kd, nm, L, sf, dt⟩ b ne hl n k jb tb fr
 have kH := fun n k fr => @kc1 s ne (blS ⟨kd, nm, L, sf, dt⟩ b) hf ok kk hx n k fr
 rw [← hcc] at okc hc ⊢
 rw [show ({ s with tree := chT s.tree (topI s.opn) (blS ⟨kd, nm, L, sf, dt⟩ b) } : SS) = c from hcc.symm] at kH
 have kS := fun dt b n k jb tb fr => @kc2 c ⟨kd, nm, L, sf, dt⟩ b nc [104, 101, 97, 100] (ascB (by decide)) (by decide) hn n k jb tb fr
 have kP := fun dt b n k jb tb fr => @kc3 c ⟨kd, nm, L, sf, dt⟩ b nc [104, 101, 97, 100, 32, 98, 111, 100, 121, 32, 104, 116, 109, 108, 32, 98, 114] (ascB (by decide)) (by decide) hn n k jb tb fr
 have kC := fun dt b n k jb tb fr => @kc4 c ⟨kd, nm, L, sf, dt⟩ b nc fc okc hc ha hn n k jb tb fr
 have kM := fun dt n k tb x fr => @kc5 c ⟨kd, nm, L, sf, dt⟩ nc fc okc (by simp only at ha ⊢; omega) n k tb x fr
 have kJ := fun dt b n k jb tb fr => @kc6 c ⟨kd, nm, L, sf, dt⟩ b nc (by have := okc.op; omega) n k jb tb fr
 have h9 := ihR_ne nc ⟨kd, nm, L, sf, dt⟩
 have e1 : shutJ c = ⟨c.tree, (shutJ c).opn, c.act, c.mode, c.back, c.lex, c.form, c.head, c.foster, c.skip, c.inside⟩ := by unfold shutJ; split <;> rfl
 have n6 : ∀ dt, ¬ (kd = 1 ∧ (metaA nm || metaT nm) = true) → metaS c ⟨kd, nm, L, sf, dt⟩ = c := fun dt h => metaS_no h
 have n7 : (metaA nm || metaT nm) = true → ¬ nm = [104, 116, 109, 108] ∧ ¬ nm = [104, 101, 97, 100] := meta_names
 try simp only at kJ
 rw [e1] at kJ
 clear kc0 kc1 kc2 kc3 kc4 kc5 kc6 hf ok kk hx okc hc hl ha hn hcc fc e1
 simp only [ihR, m4S, blB, blT, blS, comB, metaB, Tk.cs, in_headw] at kB kH kS kP kC kM kJ h9 ⊢
 generalize (shutJ c).opn = o1 at kJ h9 ⊢
 generalize inW [104, 101, 97, 100, 32, 98, 111, 100, 121, 32, 104, 116, 109, 108, 32, 98, 114] nm = w at kP h9 ⊢
 generalize (metaA nm || metaT nm) = mB at kM h9 n6 n7 ⊢
 generalize dt.takeWhile sp = d1 at kB kH h9 ⊢
 generalize dt.dropWhile sp = d2 at kB h9 ⊢
 have cs : (kd = 4 ∨ kd = 5 ∨ (kd = 1 ∧ nm = [104, 116, 109, 108])) ∨ (¬ (kd = 4 ∨ kd = 5 ∨ (kd = 1 ∧ nm = [104, 116, 109, 108])) ∧ ((kd = 3 ∧ d2 = []) ∨ (kd = 3 ∧ ¬ d2 = []) ∨ (kd = 1 ∧ nm = [104, 101, 97, 100]) ∨ (kd = 1 ∧ ¬ nm = [104, 101, 97, 100] ∧ mB = true) ∨ (kd = 1 ∧ ¬ nm = [104, 101, 97, 100] ∧ mB = false) ∨ (kd = 2 ∧ w = false) ∨ (kd = 2 ∧ w = true ∧ nm = [104, 101, 97, 100]) ∨ (kd = 2 ∧ w = true ∧ ¬ nm = [104, 101, 97, 100]) ∨ (¬ kd = 3 ∧ ¬ kd = 1 ∧ ¬ kd = 2))) := by
  by_cases hc : kd = 4 ∨ kd = 5 ∨ (kd = 1 ∧ nm = [104, 116, 109, 108])
  ·exact .inl hc
  refine .inr ⟨hc, ?_⟩
  by_cases k3 : kd = 3
  ·by_cases k2 : d2 = []
   ·exact .inl ⟨k3, k2⟩
   ·exact .inr (.inl ⟨k3, k2⟩)
  by_cases k1 : kd = 1
  ·by_cases kn : nm = [104, 101, 97, 100]
   ·exact .inr (.inr (.inl ⟨k1, kn⟩))
   ·cases mB
    ·exact .inr (.inr (.inr (.inr (.inl ⟨k1, kn, rfl⟩))))
    ·exact .inr (.inr (.inr (.inl ⟨k1, kn, rfl⟩)))
  by_cases k6 : kd = 2
  ·cases w
   ·exact .inr (.inr (.inr (.inr (.inr (.inl ⟨k6, rfl⟩)))))
   ·by_cases kn : nm = [104, 101, 97, 100]
    ·exact .inr (.inr (.inr (.inr (.inr (.inr (.inl ⟨k6, rfl, kn⟩))))))
    ·exact .inr (.inr (.inr (.inr (.inr (.inr (.inr (.inl ⟨k6, rfl, kn⟩)))))))
  exact .inr (.inr (.inr (.inr (.inr (.inr (.inr (.inr (⟨k3, k1, k6⟩))))))))
 rcases cs with hc | ⟨hc, ⟨rfl, rfl⟩ | ⟨rfl, k2⟩ | ⟨rfl, rfl⟩ | ⟨rfl, kn, rfl⟩ | ⟨rfl, kn, rfl⟩ | ⟨rfl, rfl⟩ | ⟨rfl, rfl, rfl⟩ | ⟨rfl, rfl, kn⟩ | ⟨k3, k1, k6⟩⟩
 have k3 : ¬ kd = 3 := by omega
 have k2 : ¬ kd = 2 := by omega
 have kh : ¬ (kd = 1 ∧ nm = [104, 101, 97, 100]) := fun ⟨a, e⟩ => by
  rcases hc with h | h | ⟨_, h⟩
  ·omega
  ·omega
  ·rw [h] at e; exact absurd e (by decide)
 have kS' : (decide (kd = 1) && decide (nm = [104, 101, 97, 100])) = false := by simp; intro a e; exact kh ⟨a, e⟩
 simp only [kS'] at kS
 simp only [eq_true hc, decide_true] at kC
 simp only [if_neg k3] at kH
 rotate_left
 iterate 8
  have n5 : ∀ dt, comS c ⟨_, _, L, sf, dt⟩ = c := fun dt => comS_no hc
  simp only [n5, eq_false hc, decide_false] at kC
  simp at n6
  try simp only [n6] at kM
  simp at kH
  rotate_left
 have n8 : ∀ dt, metaS c ⟨kd, nm, L, sf, dt⟩ = c := fun dt => n6 dt fun h => k1 h.1
 simp only [n8] at kM
 simp only [if_neg k3] at kH
 have k4 : ¬ kd = 4 := fun e => hc (.inl e)
 have k5 : ¬ kd = 5 := fun e => hc (.inr (.inl e))
 have n5 : ∀ dt, comS c ⟨kd, nm, L, sf, dt⟩ = c := fun dt => comS_no hc
 simp only [n5, eq_false hc, decide_false] at kC
 rotate_left
 all_goals simp at kB
 all_goals
  (try simp only [Tk.cs] at *)
  refine callAt_body (fn := Tryz.f17) (s0 := ⟨[0, 2, 3, 4, 5], [.ptr 1 0, .undef, .undef, .undef, .undef], [], 68, ⟨4, [] :: [_]⟩⟩) Tryz.func17 rfl rfl rfl ?_
  refine permJ ?_
  try simp only [Tk.cs]
  (repeat' (first
   | with_reducible refine wps_seq ?_
   | with_reducible refine wps_block ?_
   | (with_reducible refine wps_label ?_; simp only [thenQ, blockQ])
   | (with_reducible refine wps_region callOK ?_; apply runE; simp [zS, *, SS.post]; exact rfl)
   | (with_reducible refine run_end ?_; simp only [thenQ, blockQ])
   | (refine wps_drawQ mixed callOK (by decide +kernel) (by decide +kernel) rfl ?_; apply runQ; simp [zS, zW, clsOf, mkBlk, guardA, Heap.lay, ontoF, *, SS.post]; exact rfl)
   | (with_reducible refine run_endQ ?_; refine ⟨by repeat first | exact okC_n | refine okC_c (by decide +kernel) ?_, ?_⟩; simp only [thenQ, blockQ, allPend, Heap.lay, ontoF])
   | (with_reducible refine gate_splitQ (fun hc => ?_) (fun hc => ?_) <;> ((have hd := hc); (try simp at hd); (try subst hd); apply runQ; simp [zS, zW, clsOf, mkBlk, guardA, Heap.lay, ontoF, *, SS.post]; exact rfl))
   | (with_reducible refine gate_splitX (fun hc => ?_) (fun hc => ?_) <;> ((have hd := hc); (try simp at hd); (try subst hd); apply runQ; simp [zS, zW, clsOf, mkBlk, guardA, Heap.lay, ontoF, *, SS.post]; exact rfl))
   | (with_reducible refine pick_splitQ (fun hc => ?_) (fun hc => ?_) <;> ((have hd := hc); (try simp at hd); (try subst hd); apply runQ; simp [zS, zW, clsOf, mkBlk, guardA, Heap.lay, ontoF, *, SS.post]; exact rfl))
   | (with_reducible refine gate_split (fun hc => ?_) (fun hc => ?_) <;> ((have hd := hc); (try simp at hd); (try subst hd); apply runE; simp [zS, *, SS.post]; exact rfl))
   | (with_reducible refine pick_split (fun hc => ?_) (fun hc => ?_) <;> ((have hd := hc); (try simp at hd); (try subst hd); apply runE; simp [zS, *, SS.post]; exact rfl))
   | (refine wps_ct rfl ?_)
   | (refine wps_cf rfl ?_)
   | (refine wps_cond rfl (fun hc => ?_) (fun hc => ?_) <;> ((have hd := hc); (try simp at hd); (try subst hd)))
   | (with_reducible refine wps_skip ?_; simp only [thenQ, blockQ])
   | (with_reducible refine wps_exit ?_; simp [thenQ, blockQ])
   | (with_reducible refine wps_ret ?_; simp [retVal, Tryz.f17, oneOr, thenQ, blockQ])))
  all_goals first | (((try simp [retVal, Tryz.f17, oneOr]); clear kB kH kS kP kC kM kJ g0 v0; refine ends_J2 (by simp [*]) (by first | rfl | (simp [*]; done)) (by simp [pureV, pureL]) (by omega) (by first | (simp [*]; done) | (simp [*] at h9 ⊢; exact h9) | exact h9) (by simp [getF]) (by simp [getF]) (by first | (simp [getF]; done) | (simp [getF, *]; done)) (by first | (simp [getF, Tk.cs]; done) | (simp [getF, Tk.cs, *]; done)))) | (exfalso; omega)
theorem inj_17 (x y : Unit) (h : (fun z : Unit => ([] : List AV)) x = (fun z : Unit => ([] : List AV)) y) : x = y := by
 rfl
noncomputable def e17 : Entry Tryz.prog := mkJ 17 [] (fun z : Unit => []) (fun z x => (x.s.foster = false) ∧ (SOk x.s) ∧ (KOk x.s.tree) ∧ ((blS x.t x.b).length ≤ 1000000000) ∧ (SOk (chS x.s (blS x.t x.b))) ∧ (HtOk (chS x.s (blS x.t x.b))) ∧ (x.t.data.length ≤ 1000000) ∧ (x.t.attrs.length ≤ 14) ∧ (x.t.name.length ≤ 1000000000)) (fun z x => .bool (ihR (chS x.s (blS x.t x.b)) x.t).1) (fun z x => ⟨(ihR (chS x.s (blS x.t x.b)) x.t).2, blT x.t, blS x.t x.b⟩) fun z x ne h => ⟨c17 (T := [e29, e36, e32, e31, e35, e37t, e38]) rfl rfl rfl rfl rfl rfl rfl ne  h.1 h.2.1 h.2.2.1 h.2.2.2.1 h.2.2.2.2.1 h.2.2.2.2.2.1 h.2.2.2.2.2.2.1 h.2.2.2.2.2.2.2.1 h.2.2.2.2.2.2.2.2, by simp [pureL, pureV], by simp [pureV, pureL], by (try exact h9); (all_goals exact ihR_ne (chS_ne ne _) _)⟩
theorem k17 {T : List (Entry Tryz.prog)} (hT : findE 17 T = some e17.g) {s : SS} {t : Tk} {b : Str} (ne : s.tree ≠ [])  (hf : s.foster = false) (ok : SOk s) (kk : KOk s.tree) (hx : (blS t b).length ≤ 1000000000) (okc : SOk (chS s (blS t b))) (hc : HtOk (chS s (blS t b))) (hl : t.data.length ≤ 1000000) (ha : t.attrs.length ≤ 14) (hn : t.name.length ≤ 1000000000) {n k jb tb : Nat} {fr : List (Nat × Blk)} (d : dJ n k jb tb) (of : offJ k jb tb fr) : callL (ctx T) (.fn 17) [.ptr jb 0] ⟨n, [(jb, .cells [.ptr 0 0, .ptr tb 0, .str b]) :: (tb, .cells t.cs) :: fr, VS k s]⟩ = some (.bool (ihR (chS s (blS t b)) t).1, ⟨n + 1, [(jb, .cells [.ptr 0 0, .ptr tb 0, .str (blS t b)]) :: (tb, .cells (Tk.cs (blT t))) :: fr, VS n ((ihR (chS s (blS t b)) t).2)]⟩) :=
 mkJ_eq (x := ⟨s, t, b⟩) hT inj_17 () ne ⟨hf, ok, kk, hx, okc, hc, hl, ha, hn⟩ (by simp [pureL, pureV]) (by simp [thawL, thawA_ok]) d of
end Go.Proofs.YtfgdcciaecajpaaGreatDoor
namespace Go.Proofs.YtfgdcciaecajpaaGreatDoor
set_option linter.unusedSimpArgs false
set_option linter.unusedVariables false
open Go Go.RowKit
set_option maxRecDepth 100000
theorem ap_own (H : Heap) (L : List Int) (a b : Nat) (i : Int) (hl : L.length ≤ 1000000) (ha : H.get a = some (.cells (L.map aInt))) (hb : H.get b = some (.cells [.int .i64 i])) : appendA Tryz.prog H 3 (.slc a 0 L.length (.rest 1)) (.slc b 0 1 (.ex 1)) = some (.slc H.n 0 (L.length + 1) (.rest 1), (H.drop a).new (.cells ((L ++ [i]).map aInt))) := by
 have hr : roomOK (L.length + 1) 8 = true := by unfold roomOK; rw [Nat.ble_eq]; omega
 have hx : srcCells H 1 1 (.slc b 0 1 (.ex 1)) = some [.int .i64 i] := by simp [srcCells, readCells, hb, Blk.rd]
 have ho : srcCells H 1 L.length (.slc a 0 L.length (.rest 1)) = some (L.map aInt) := by
  simp [srcCells, readCells, ha, Blk.rd]
  have := subL_app (a := []) (b := L.map aInt) (c := []) rfl rfl
  simpa using this
 have c0 : (Nat.beq 1 0 || !(Nat.beq 1 1 && Nat.blt 0 8)) = false := rfl
 have hrow : ∀ cs, rowA Tryz.prog 3 cs = .cells cs := fun _ => rfl
 have hb2 : Nat.beq ([(.int .i64 i : AV)].length) (1 * 1) = true := rfl
 have hb3 : Nat.beq (L.map aInt).length (L.length * 1) = true := by simp
 have hk : knownCells H a = some L.length := by unfold knownCells; simp only [ha, Option.bind_some, Blk.rd, List.length_map]
 have h1 : Nat.ble (L.length + 1) L.length = false := by rw [← Bool.not_eq_true, Nat.ble_eq]; omega
 have h2 : readCells H a 0 L.length = some (L.map aInt) := by
  simp [readCells, ha, Blk.rd]
  have := subL_app (a := []) (b := L.map aInt) (c := []) rfl rfl
  simpa using this
 simp only [appendA, szT3, byT3, zeT3, Option.bind_some, srcLen, hx, ho, AV.cells, List.length_singleton, c0, hr, hb2, hb3, hrow, List.map_append, List.map_cons, List.map_nil, aInt]
 simp [ha, hr, allSingle, AV.single, hk, h1, h2]
theorem fitJG {N k k' m' : Nat} {H : Heap} {c0 : List AV} {t : Tk} {b : Str} {s' : SS} {Φ : List (Nat × List AV)} (hN : (k' < N → k = k') ∧ 2 < k' ∧ k' < m' ∧ N ≤ m') (k0 : 2 < k) (hne : s'.tree ≠ []) (h0 : H.get 0 = some (.cells c0)) (hk : H.get k = some (.cells (flatAV (s'.tree.map aNode)))) (hj : H.get 1 = some (.cells [.ptr 0 0, .ptr 2 0, .str b])) (ht : H.get 2 = some (.cells t.cs)) (hc : fitL [(k, k'), (0, 0), (1, 1), (2, 2)] Φ c0 (nV k' s'.tree :: s'.post))
  (nd : (k :: 0 :: 1 :: 2 :: Φ.map (·.1)).Nodup) (hΦ : ∀ x, x ∈ Φ → H.get x.1 = some (.cells x.2) ∧ pureL x.2 = true) : FitH N [(k, k'), (0, 0), (1, 1), (2, 2)] Φ H ⟨m', [[(1, .cells [.ptr 0 0, .ptr 2 0, .str b]), (2, .cells t.cs)], VS k' s']⟩ where
 nd1 := by simpa using nd
 nd2 := by simp; omega
 nd3 := by rw [VS_eq hne]; simp [Heap.ents]; omega
 lt := by simp; omega
 idn := by simp; omega
 num := by simp; omega
 src := by
  intro e he
  rw [VS_eq hne] at he
  simp only [Heap.ents, List.flatten_cons, List.flatten_nil, List.append_nil, List.cons_append, List.nil_append, List.mem_cons, List.not_mem_nil, or_false] at he
  rcases he with rfl | rfl | rfl | rfl
  ·refine ⟨1, .cells [.ptr 0 0, .ptr 2 0, .str b], by simp, hj, ?_⟩
   simp only [fitB, fitL]
   have b1 : ¬ k = 0 := by omega
   have b2 : ¬ k = 2 := by omega
   exact ⟨by simp [fitV, lookN, b1], by simp [fitV, lookN, b2], fitV_pure (by simp [pureV]), trivial⟩
  ·exact ⟨2, .cells t.cs, by simp, ht, fitL_pure (pure_tcs _)⟩
  ·exact ⟨0, _, by simp, h0, by simpa only [fitB] using hc⟩
  ·exact ⟨k, _, by simp, hk, fitL_pure (el_node s'.tree).pure⟩
 frz := fun x h => ⟨x.2, (hΦ x h).1, fitL_pure (hΦ x h).2, (hΦ x h).2⟩
end Go.Proofs.YtfgdcciaecajpaaGreatDoor
namespace Go.Proofs.YtfgdcciaecajpaaGreatDoor
set_option linter.unusedSimpArgs false
set_option linter.unusedVariables false
end Go.Proofs.YtfgdcciaecajpaaGreatDoor
namespace Go.Proofs.YtfgdcciaecajpaaGreatDoor
set_option linter.unusedSimpArgs false
set_option linter.unusedVariables false
open Go Go.RowKit
set_option maxRecDepth 100000
set_option maxHeartbeats 4000000
theorem in_bodyw (x : Str) : inW [98, 111, 100, 121] x = decide (x = [98, 111, 100, 121]) := by
 have : wsplit [98, 111, 100, 121] = [[98, 111, 100, 121]] := by decide
 simp [inW, this]
def pushH (c : SS) : SS := ⟨c.tree, c.opn ++ [c.head], c.act, c.mode, c.back, c.lex, c.form, c.head, c.foster, c.skip, c.inside⟩
def dropH (c : SS) : SS := ⟨c.tree, dropL c.opn c.head, c.act, c.mode, c.back, c.lex, c.form, c.head, c.foster, c.skip, c.inside⟩
def m5S (s : SS) : SS := ⟨s.tree, s.opn, s.act, 5, s.back, s.lex, s.form, s.head, s.foster, s.skip, s.inside⟩
def ahR (c : SS) (t : Tk) : Bool × SS :=
 if t.kind = 3 ∧ t.data.dropWhile sp = [] then (false, c)
 else if t.kind = 1 ∧ inW [104, 101, 97, 100, 32, 102, 114, 97, 109, 101, 115, 101, 116] t.name = true then (false, c)
 else if t.kind = 2 ∧ inW [98, 111, 100, 121, 32, 104, 116, 109, 108, 32, 98, 114] t.name = false then (false, c)
 else if t.kind = 4 ∨ t.kind = 5 ∨ (t.kind = 1 ∧ t.name = [104, 116, 109, 108]) then (false, comS c t)
 else if t.kind = 1 ∧ inW [98, 97, 115, 101, 32, 98, 97, 115, 101, 102, 111, 110, 116, 32, 98, 103, 115, 111, 117, 110, 100, 32, 108, 105, 110, 107, 32, 109, 101, 116, 97, 32, 110, 111, 102, 114, 97, 109, 101, 115, 32, 115, 99, 114, 105, 112, 116, 32, 115, 116, 121, 108, 101, 32, 116, 105, 116, 108, 101] t.name = true then (false, dropH (metaS (pushH c) t))
 else if t.kind = 1 ∧ t.name = [98, 111, 100, 121] then (false, elS (m5S c) 0 t.name t.attrs)
 else (true, elS (m5S c) 0 [98, 111, 100, 121] [])
theorem ahR_ne {s : SS} (ne : s.tree ≠ []) (t : Tk) : (ahR s t).2.tree ≠ [] := by
 unfold ahR
 split
 ·exact ne
 split
 ·exact ne
 split
 ·exact ne
 split
 ·exact comS_ne ne _
 split
 ·exact metaS_ne (s := pushH s) ne _
 split
 ·exact newT_ne _ _ _ _
 ·exact newT_ne _ _ _ _
theorem metaS_op (s : SS) (t : Tk) : (metaS s t).opn.length ≤ s.opn.length + 1 := by
 unfold metaS
 split
 ·split
  ·simp [aloneS]
  ·split
   ·simp [textsS, elS]
   ·simp
 ·simp
theorem c18 {T : List (Entry Tryz.prog)} (hc0 : findE 29 T = some e29.g) (hc1 : findE 36 T = some e36.g) (hc2 : findE 32 T = some e32.g) (hc3 : findE 31 T = some e31.g) (hc4 : findE 35 T = some e35.g) (hc5 : findE 37 T = some e37t.g) (hc6 : findE 27 T = some e27.g) (hc7 : findE 39 T = some e39.g) (hc8 : findE 33 T = some e33.g) (hc9 : findE 34 T = some e34.g) {s : SS} {t : Tk} {b : Str} (ne : s.tree ≠ [])  (hf : s.foster = false) (ok : SOk s) (kk : KOk s.tree) (hx : (blS t b).length ≤ 1000000000) (okc : SOk (chS s (blS t b))) (hc : HtOk (chS s (blS t b))) (ho : s.opn.length ≤ 900 ∧ s.opn ≠ []) (hl : t.data.length ≤ 1000000) (ha : t.attrs.length ≤ 14) (hn : t.name.length ≤ 1000000000) : JC T 18 [] ⟨s, t, b⟩ (.bool (ahR (chS s (blS t b)) t).1) ⟨(ahR (chS s (blS t b)) t).2, blT t, blS t b⟩ := by
 have kc0 := @k29 T hc0
 have kc1 := @k36 T hc1
 have kc2 := @k32 T hc2
 have kc3 := @k31 T hc3
 have kc4 := @k35 T hc4
 have kc5 := @m37t T hc5
 have kc6 := @k27 T hc6
 have kc8 := @k33 T hc8
 have kc9 := @k34 T hc9
 have g0 := @vg0
 have v0 := @vset
 obtain ⟨kd, nm, L, sf, dt⟩ := t
 obtain ⟨c, hcc⟩ : ∃ c, c = chS s (blS ⟨kd, nm, L, sf, dt⟩ b) := ⟨_, rfl⟩
 have nc : c.tree ≠ [] := hcc ▸ chS_ne ne _
 have fc : c.foster = false := by rw [hcc]; exact hf
 have oc : c.opn.length ≤ 900 ∧ c.opn ≠ [] := by rw [hcc]; exact ho
 have kB := fun n k jb tb fr => @kc0 s ⟨kd, nm, L, sf, dt⟩ b ne hl n k jb tb fr
 have kH := fun n k fr => @kc1 s ne (blS ⟨kd, nm, L, sf, dt⟩ b) hf ok kk hx n k fr
 rw [← hcc] at okc hc ⊢
 rw [show ({ s with tree := chT s.tree (topI s.opn) (blS ⟨kd, nm, L, sf, dt⟩ b) } : SS) = c from hcc.symm] at kH
 have kS := fun dt b n k jb tb fr => @kc2 c ⟨kd, nm, L, sf, dt⟩ b nc [104, 101, 97, 100, 32, 102, 114, 97, 109, 101, 115, 101, 116] (ascB (by decide)) (by decide) hn n k jb tb fr
 have kW := fun dt b n k jb tb fr => @kc2 c ⟨kd, nm, L, sf, dt⟩ b nc [98, 97, 115, 101, 32, 98, 97, 115, 101, 102, 111, 110, 116, 32, 98, 103, 115, 111, 117, 110, 100, 32, 108, 105, 110, 107, 32, 109, 101, 116, 97, 32, 110, 111, 102, 114, 97, 109, 101, 115, 32, 115, 99, 114, 105, 112, 116, 32, 115, 116, 121, 108, 101, 32, 116, 105, 116, 108, 101] (ascB (by decide)) (by decide) hn n k jb tb fr
 have kD := fun dt b n k jb tb fr => @kc2 (m5S c) ⟨kd, nm, L, sf, dt⟩ b nc [98, 111, 100, 121] (ascB (by decide)) (by decide) hn n k jb tb fr
 have kP := fun dt b n k jb tb fr => @kc3 c ⟨kd, nm, L, sf, dt⟩ b nc [98, 111, 100, 121, 32, 104, 116, 109, 108, 32, 98, 114] (ascB (by decide)) (by decide) hn n k jb tb fr
 have kC := fun dt b n k jb tb fr => @kc4 c ⟨kd, nm, L, sf, dt⟩ b nc fc okc hc ha hn n k jb tb fr
 have kM := fun dt n k tb x fr => @kc5 (pushH c) ⟨kd, nm, L, sf, dt⟩ nc fc ⟨okc.ln, okc.kd, by have := oc.1; simp [pushH]; omega⟩ (by simp only at ha ⊢; omega) n k tb x fr
 have kL := fun H => kc6 (L := c.opn) (by omega) H
 have kR := fun H => k39 hc7 (L := (metaS (pushH c) ⟨kd, nm, L, sf, dt⟩).opn) (by have := metaS_op (pushH c) ⟨kd, nm, L, sf, dt⟩; have := oc.1; simp only [pushH, List.length_append, List.length_singleton] at this ⊢; simp only [pushH] at *; rename_i q; simp at q; omega) (metaS (pushH c) ⟨kd, nm, L, sf, dt⟩).head H
 have kO := fun dt b n k jb tb fr => @kc8 (m5S c) ⟨kd, nm, L, sf, dt⟩ b nc fc ⟨okc.ln, okc.kd, okc.op⟩ (by simp only at ha ⊢; omega) n k jb tb fr
 have kG := fun dt b n k jb tb fr => @kc9 (m5S c) ⟨kd, nm, L, sf, dt⟩ b nc [98, 111, 100, 121] fc ⟨okc.ln, okc.kd, okc.op⟩ n k jb tb fr
 have h9 := ahR_ne nc ⟨kd, nm, L, sf, dt⟩
 have n1 : nm = [104, 116, 109, 108] → inW [104, 101, 97, 100, 32, 102, 114, 97, 109, 101, 115, 101, 116] nm = false := fun e => by rw [e]; decide
 have qM : (metaS (pushH c) ⟨kd, nm, L, sf, dt⟩).tree ≠ [] := metaS_ne (s := pushH c) nc _
 clear kc0 kc1 kc2 kc3 kc4 kc5 kc6 kc8 kc9 hf ok kk hx okc hc hl ha hn hcc fc ho
 simp only [ahR, dropH, blB, blT, blS, comB, metaB, Tk.cs, in_bodyw] at kB kH kS kW kD kP kC kM kO kG h9 ⊢
 generalize elS (m5S c) 0 nm L = s1 at kO h9 ⊢
 generalize elS (m5S c) 0 [98, 111, 100, 121] [] = s2 at kG h9 ⊢
 generalize inW [104, 101, 97, 100, 32, 102, 114, 97, 109, 101, 115, 101, 116] nm = w1 at kS h9 n1 ⊢
 generalize inW [98, 111, 100, 121, 32, 104, 116, 109, 108, 32, 98, 114] nm = w2 at kP h9 ⊢
 generalize inW [98, 97, 115, 101, 32, 98, 97, 115, 101, 102, 111, 110, 116, 32, 98, 103, 115, 111, 117, 110, 100, 32, 108, 105, 110, 107, 32, 109, 101, 116, 97, 32, 110, 111, 102, 114, 97, 109, 101, 115, 32, 115, 99, 114, 105, 112, 116, 32, 115, 116, 121, 108, 101, 32, 116, 105, 116, 108, 101] nm = w3 at kW h9 ⊢
 generalize dt.takeWhile sp = d1 at kB kH h9 ⊢
 generalize dt.dropWhile sp = d2 at kB h9 ⊢
 simp only [m5S] at kD kO kG
 have cs : (kd = 4 ∨ kd = 5 ∨ (kd = 1 ∧ nm = [104, 116, 109, 108])) ∨ (¬ (kd = 4 ∨ kd = 5 ∨ (kd = 1 ∧ nm = [104, 116, 109, 108])) ∧ ((kd = 3 ∧ d2 = []) ∨ (kd = 3 ∧ ¬ d2 = []) ∨ (kd = 1 ∧ w1 = true) ∨ (kd = 1 ∧ w1 = false ∧ w3 = true) ∨ (kd = 1 ∧ w1 = false ∧ w3 = false ∧ nm = [98, 111, 100, 121]) ∨ (kd = 1 ∧ w1 = false ∧ w3 = false ∧ ¬ nm = [98, 111, 100, 121]) ∨ (kd = 2 ∧ w2 = false) ∨ (kd = 2 ∧ w2 = true) ∨ (¬ kd = 3 ∧ ¬ kd = 1 ∧ ¬ kd = 2))) := by
  by_cases hc : kd = 4 ∨ kd = 5 ∨ (kd = 1 ∧ nm = [104, 116, 109, 108])
  ·exact .inl hc
  refine .inr ⟨hc, ?_⟩
  by_cases k3 : kd = 3
  ·by_cases k2 : d2 = []
   ·exact .inl ⟨k3, k2⟩
   ·exact .inr (.inl ⟨k3, k2⟩)
  by_cases k1 : kd = 1
  ·cases w1
   ·cases w3
    ·by_cases kn : nm = [98, 111, 100, 121]
     ·exact .inr (.inr (.inr (.inr (.inl ⟨k1, rfl, rfl, kn⟩))))
     ·exact .inr (.inr (.inr (.inr (.inr (.inl ⟨k1, rfl, rfl, kn⟩)))))
    ·exact .inr (.inr (.inr (.inl ⟨k1, rfl, rfl⟩)))
   ·exact .inr (.inr (.inl ⟨k1, rfl⟩))
  by_cases k6 : kd = 2
  ·cases w2
   ·exact .inr (.inr (.inr (.inr (.inr (.inr (.inl ⟨k6, rfl⟩))))))
   ·exact .inr (.inr (.inr (.inr (.inr (.inr (.inr (.inl ⟨k6, rfl⟩)))))))
  exact .inr (.inr (.inr (.inr (.inr (.inr (.inr (.inr (⟨k3, k1, k6⟩))))))))
 rcases cs with hc | ⟨hc, ⟨rfl, rfl⟩ | ⟨rfl, k2⟩ | ⟨rfl, rfl⟩ | ⟨rfl, rfl, rfl⟩ | ⟨rfl, rfl, rfl, rfl⟩ | ⟨rfl, rfl, rfl, kn⟩ | ⟨rfl, rfl⟩ | ⟨rfl, rfl⟩ | ⟨k3, k1, k6⟩⟩
 have k3 : ¬ kd = 3 := by omega
 have k2 : ¬ kd = 2 := by omega
 have kS' : (decide (kd = 1) && w1) = false := by
  rcases hc with h | h | ⟨_, h⟩
  ·simp [h]
  ·simp [h]
  ·rw [n1 h]; simp
 have kS2 : ¬ (kd = 1 ∧ w1 = true) := by simpa using kS'
 simp only [kS'] at kS
 simp only [eq_true hc, decide_true] at kC
 simp only [if_neg k3] at kH
 rotate_left
 iterate 8
  have n5 : ∀ dt, comS c ⟨_, _, L, sf, dt⟩ = c := fun dt => comS_no hc
  simp only [n5, eq_false hc, decide_false] at kC
  have hc4 := fun e => hc (.inl e)
  have hc6 := fun e => hc (.inr (.inr e))
  simp at hc6
  simp at kH
  rotate_left
 simp only [if_neg k3] at kH
 have k4 : ¬ kd = 4 := fun e => hc (.inl e)
 have k5 : ¬ kd = 5 := fun e => hc (.inr (.inl e))
 have n5 : ∀ dt, comS c ⟨kd, nm, L, sf, dt⟩ = c := fun dt => comS_no hc
 simp only [n5, eq_false hc, decide_false] at kC
 rotate_left
 all_goals simp at kB
 all_goals
  (try simp only [Tk.cs] at *)
  refine callAt_body (fn := Tryz.f18) (s0 := ⟨[0, 2, 3, 4, 5], [.ptr 1 0, .undef, .undef, .undef, .undef], [], 100, ⟨4, [] :: [_]⟩⟩) Tryz.func18 rfl rfl rfl ?_
  refine permJ ?_
  try simp only [Tk.cs]
  (repeat' (first
   | with_reducible refine wps_seq ?_
   | with_reducible refine wps_block ?_
   | (with_reducible refine wps_label ?_; simp only [thenQ, blockQ])
   | (with_reducible refine wps_region callOK ?_; apply runE; simp [zS, *, SS.post]; exact rfl)
   | (with_reducible refine run_end ?_; simp only [thenQ, blockQ])
   | (with_reducible refine gate_splitK (fun hc => ?_) (fun hc => ?_) <;> ((have hd := hc); (try simp at hd); (try subst hd); apply runE; simp [zS, evalK_c, evalK_nil, thenK_some, *, SS.post]; exact rfl))
   | (with_reducible refine pick_splitK (fun hc => ?_) (fun hc => ?_) <;> ((have hd := hc); (try simp at hd); (try subst hd); apply runE; simp [zS, evalK_c, evalK_nil, thenK_some, *, SS.post]; exact rfl))
   | (with_reducible refine gate_split (fun hc => ?_) (fun hc => ?_) <;> ((have hd := hc); (try simp at hd); (try subst hd); apply runE; simp [zS, *, SS.post]; exact rfl))
   | (with_reducible refine pick_split (fun hc => ?_) (fun hc => ?_) <;> ((have hd := hc); (try simp at hd); (try subst hd); apply runE; simp [zS, *, SS.post]; exact rfl))
   | (refine wps_ct rfl ?_)
   | (refine wps_cf rfl ?_)
   | (refine wps_cond rfl (fun hc => ?_) (fun hc => ?_) <;> ((have hd := hc); (try simp at hd); (try subst hd)))
   | (with_reducible refine wps_skip ?_; simp only [thenQ, blockQ])
   | (with_reducible refine wps_exit ?_; simp [thenQ, blockQ])
   | (with_reducible refine wps_ret ?_; simp [retVal, Tryz.f18, oneOr, thenQ, blockQ])))
  all_goals first | (first | (((try simp [retVal, Tryz.f18, oneOr]); clear kB kH kS kW kD kP kC kM kL kR kO kG g0 v0; refine ends_J2 (by simp [*]) (by first | rfl | (simp [*]; done)) (by simp [pureV, pureL]) (by omega) (by first | (simp [*]; done) | (simp [*] at h9 ⊢; exact h9) | exact h9) (by simp [getF]) (by simp [getF]) (by first | (simp [getF]; done) | (simp [getF, *]; done)) (by first | (simp [getF, Tk.cs]; done) | (simp [getF, Tk.cs, *]; done))); done) | skip) | (exfalso; omega) | (trace_state; fail)
  all_goals
   repeat apply wq
   refine wps_drawn mixed callOK (by decide +kernel) fun B_ hB_ => ?_
   have d_3_8 : ahead B_ 3 8 = true := by rw [hB_]; decide +kernel
   have d_7_8 : ahead B_ 7 8 = true := by rw [hB_]; decide +kernel
   have d_8_3 : ahead B_ 8 3 = false := by rw [hB_]; decide +kernel
   have d_8_7 : ahead B_ 8 7 = false := by rw [hB_]; decide +kernel
   apply drawE B_
   simp [zS, mkBlk, guardA, clsOf, reserve, freshenAll, wantedBy, unwantedBy, Heap.lay, ontoF, evE_c, evE_n, putE_s, putX_s, valE_s, redE_s, actE_s, layE_s, gateE_t, gateE_f, clsF_a, clsF_l, clsF_r, clsF_p, clsE_l, clsE_a, clsE_p, clsE_r, d_3_8, d_7_8, d_8_3, d_8_7, kH, g0, v0, ne, nc, SS.post]
   exact rfl
   refine ⟨_, rfl, ?_, ?_⟩
   simp [zS, reserve, freshenAll, sameRecs, sameAll, sameAt, d_3_8, d_7_8, d_8_3, d_8_7, kH, g0, v0, ne, nc, SS.post]
   try simp [allPend, Heap.lay, ontoF, thenQ]
  all_goals
   (repeat' (first
    | with_reducible refine wps_seq ?_
    | with_reducible refine wps_block ?_
    | (with_reducible refine wps_label ?_; simp only [thenQ, blockQ])
    | (with_reducible refine wps_region callOK ?_; apply runE; simp [zS, *, SS.post]; exact rfl)
    | (with_reducible refine run_end ?_; simp only [thenQ, blockQ])
    | (with_reducible refine gate_splitK (fun hc => ?_) (fun hc => ?_) <;> ((have hd := hc); (try simp at hd); (try subst hd); apply runE; simp [zS, evalK_c, evalK_nil, thenK_some, *, SS.post]; exact rfl))
    | (with_reducible refine pick_splitK (fun hc => ?_) (fun hc => ?_) <;> ((have hd := hc); (try simp at hd); (try subst hd); apply runE; simp [zS, evalK_c, evalK_nil, thenK_some, *, SS.post]; exact rfl))
    | (with_reducible refine gate_split (fun hc => ?_) (fun hc => ?_) <;> ((have hd := hc); (try simp at hd); (try subst hd); apply runE; simp [zS, *, SS.post]; exact rfl))
    | (with_reducible refine pick_split (fun hc => ?_) (fun hc => ?_) <;> ((have hd := hc); (try simp at hd); (try subst hd); apply runE; simp [zS, *, SS.post]; exact rfl))
    | (refine wps_ct rfl ?_)
    | (refine wps_cf rfl ?_)
    | (refine wps_cond rfl (fun hc => ?_) (fun hc => ?_) <;> ((have hd := hc); (try simp at hd); (try subst hd)))
    | (with_reducible refine wps_skip ?_; simp only [thenQ, blockQ])
    | (with_reducible refine wps_exit ?_; simp [thenQ, blockQ])
    | (with_reducible refine wps_ret ?_; simp [retVal, Tryz.f18, oneOr, thenQ, blockQ])))
   all_goals first | (first | (((try simp [retVal, Tryz.f18, oneOr]); clear kB kH kS kW kD kP kC kM kL kR kO kG g0 v0; refine ends_J2 (by simp [*]) (by first | rfl | (simp [*]; done)) (by simp [pureV, pureL]) (by omega) (by first | (simp [*]; done) | (simp [*] at h9 ⊢; exact h9) | exact h9) (by simp [getF]) (by simp [getF]) (by first | (simp [getF]; done) | (simp [getF, *]; done)) (by first | (simp [getF, Tk.cs]; done) | (simp [getF, Tk.cs, *]; done))); done) | skip) | (exfalso; omega) | (trace_state; fail)
  all_goals
   have hf : ∀ n, ownF n (c.opn.map aInt) = [(n, .cells (c.opn.map aInt))] := fun n => by
    obtain ⟨x, r, e⟩ : ∃ x r, c.opn = x :: r := List.exists_cons_of_ne_nil oc.2
    rw [e]
    show [(n, Blk.cells (flatAV ((x :: r).map aInt)))] = _
    rw [fl_ints]
   have kL2 : ∀ n f fs, callL (ctx T) (.fn 27) [aInts c.opn] ⟨n, f :: fs⟩ = some (.slc n 0 c.opn.length (.rest 1), ⟨n + 1, ((n, .cells (c.opn.map aInt)) :: f) :: fs⟩) := fun n f fs => by
    rw [kL, ownV_ne (by simpa using oc.2), own_heapA, if_neg (by simpa using oc.2), hf]
    simp
   have aX := fun H a b ha hb => ap_own H c.opn a b c.head (by have := oc.1; omega) ha hb
   have pA : pureL (c.opn.map aInt ++ [aInt c.head]) = true := by have := pureI (c.opn ++ [c.head]); rwa [List.map_append] at this
   have pS := @prom_S
   have sR := @setR
   repeat apply wq
   refine wps_drawn mixed callOK (by decide +kernel) fun B_ hB_ => ?_
   have d_3_11 : ahead B_ 3 11 = false := by rw [hB_]; decide +kernel
   have d_3_20 : ahead B_ 3 20 = false := by rw [hB_]; decide +kernel
   have d_3_23 : ahead B_ 3 23 = true := by rw [hB_]; decide +kernel
   have d_7_11 : ahead B_ 7 11 = true := by rw [hB_]; decide +kernel
   have d_7_20 : ahead B_ 7 20 = true := by rw [hB_]; decide +kernel
   have d_7_23 : ahead B_ 7 23 = true := by rw [hB_]; decide +kernel
   have d_10_11 : ahead B_ 10 11 = true := by rw [hB_]; decide +kernel
   have d_10_20 : ahead B_ 10 20 = true := by rw [hB_]; decide +kernel
   have d_10_23 : ahead B_ 10 23 = true := by rw [hB_]; decide +kernel
   have d_11_3 : ahead B_ 11 3 = false := by rw [hB_]; decide +kernel
   have d_11_7 : ahead B_ 11 7 = false := by rw [hB_]; decide +kernel
   have d_11_10 : ahead B_ 11 10 = false := by rw [hB_]; decide +kernel
   have d_11_15 : ahead B_ 11 15 = false := by rw [hB_]; decide +kernel
   have d_11_18 : ahead B_ 11 18 = false := by rw [hB_]; decide +kernel
   have d_15_11 : ahead B_ 15 11 = false := by rw [hB_]; decide +kernel
   have d_15_20 : ahead B_ 15 20 = true := by rw [hB_]; decide +kernel
   have d_15_23 : ahead B_ 15 23 = true := by rw [hB_]; decide +kernel
   have d_18_11 : ahead B_ 18 11 = false := by rw [hB_]; decide +kernel
   have d_18_20 : ahead B_ 18 20 = true := by rw [hB_]; decide +kernel
   have d_18_23 : ahead B_ 18 23 = true := by rw [hB_]; decide +kernel
   have d_19_11 : ahead B_ 19 11 = false := by rw [hB_]; decide +kernel
   have d_19_20 : ahead B_ 19 20 = true := by rw [hB_]; decide +kernel
   have d_19_23 : ahead B_ 19 23 = true := by rw [hB_]; decide +kernel
   have d_20_3 : ahead B_ 20 3 = false := by rw [hB_]; decide +kernel
   have d_20_7 : ahead B_ 20 7 = false := by rw [hB_]; decide +kernel
   have d_20_10 : ahead B_ 20 10 = false := by rw [hB_]; decide +kernel
   have d_20_15 : ahead B_ 20 15 = false := by rw [hB_]; decide +kernel
   have d_20_18 : ahead B_ 20 18 = false := by rw [hB_]; decide +kernel
   have d_23_3 : ahead B_ 23 3 = false := by rw [hB_]; decide +kernel
   have d_23_7 : ahead B_ 23 7 = false := by rw [hB_]; decide +kernel
   have d_23_10 : ahead B_ 23 10 = false := by rw [hB_]; decide +kernel
   have d_23_15 : ahead B_ 23 15 = false := by rw [hB_]; decide +kernel
   have d_23_18 : ahead B_ 23 18 = false := by rw [hB_]; decide +kernel
   apply drawE B_
   simp [zS, mkBlk, guardA, clsOf, reserve, freshenAll, wantedBy, unwantedBy, Heap.lay, ontoF, evE_c, evE_n, putE_s, putX_s, valE_s, redE_s, actE_s, layE_s, gateE_t, gateE_f, clsF_a, clsF_l, clsF_r, clsF_p, clsE_l, clsE_a, clsE_p, clsE_r, d_3_11, d_3_20, d_3_23, d_7_11, d_7_20, d_7_23, d_10_11, d_10_20, d_10_23, d_11_3, d_11_7, d_11_10, d_11_15, d_11_18, d_15_11, d_15_20, d_15_23, d_18_11, d_18_20, d_18_23, d_19_11, d_19_20, d_19_23, d_20_3, d_20_7, d_20_10, d_20_15, d_20_18, d_23_3, d_23_7, d_23_10, d_23_15, d_23_18, kL2, aX, pA, pS, sR, g0, nc, SS.post, Heap.drop, killFs, killF, pushF, pureL, pureV]
   exact rfl
   refine ⟨_, rfl, ?_, ?_⟩
   simp [zS, reserve, freshenAll, sameRecs, sameAll, sameAt, d_3_11, d_3_20, d_3_23, d_7_11, d_7_20, d_7_23, d_10_11, d_10_20, d_10_23, d_11_3, d_11_7, d_11_10, d_11_15, d_11_18, d_15_11, d_15_20, d_15_23, d_18_11, d_18_20, d_18_23, d_19_11, d_19_20, d_19_23, d_20_3, d_20_7, d_20_10, d_20_15, d_20_18, d_23_3, d_23_7, d_23_10, d_23_15, d_23_18, kL2, aX, pA, pS, sR, g0, nc, SS.post, Heap.drop, killFs, killF, pushF, pureL, pureV]
   try simp [allPend, Heap.lay, ontoF, thenQ]
   repeat apply wq
   refine .fit (s' := (⟨[0, 2, 3, 4, 5], [.ptr 1 0, .undef, .undef, .undef, .undef], [], 100, ⟨19, [[(1, .cells [.ptr 0 0, .ptr 2 0, .str b]), (2, .cells (Tk.cs ⟨1, nm, L, sf, dt⟩))], VS 18 (pushH c)]⟩⟩ : St)) [(18, 18), (0, 0), (1, 1), (2, 2)] [(44, (c.opn ++ [c.head]).map aInt)] ⟨rfl, rfl, rfl, by simp [fitL, fitV, lookN, pureV], ?_⟩ ?_
   ·refine fitJG (s' := pushH c) ⟨by omega, by omega, by omega, by omega⟩ (by omega) nc (by simp [Heap.get, getFs, getF]; rfl) (by simp [Heap.get, getFs, getF, pushH]) (by simp [Heap.get, getFs, getF]) (by simp [Heap.get, getFs, getF, Tk.cs]) ?_ (by simp) (fun x hx => ?_)
    ·simp only [fitL, SS.post, pushH]
     refine ⟨by simp [fitV, lookN], ?_, fitV_pure (by simp [aInts, pureV]), by simp [fitV, fitL, pureV]⟩
     rw [show c.opn.length + 1 = (c.opn ++ [c.head]).length by simp]
     exact fitV_ints (by simp [lookC])
    ·simp only [List.mem_singleton] at hx
     subst hx
     exact ⟨by simp [Heap.get, getFs, getF], pureI _⟩
   simp only [Tk.cs]
   repeat apply wq
   refine wps_drawn mixed callOK (by decide +kernel) fun B_ hB_ => ?_
   have d_3_8 : ahead B_ 3 8 = true := by rw [hB_]; decide +kernel
   have d_7_8 : ahead B_ 7 8 = true := by rw [hB_]; decide +kernel
   have d_8_3 : ahead B_ 8 3 = false := by rw [hB_]; decide +kernel
   have d_8_7 : ahead B_ 8 7 = false := by rw [hB_]; decide +kernel
   apply drawE B_
   simp [zS, mkBlk, guardA, clsOf, reserve, freshenAll, wantedBy, unwantedBy, Heap.lay, ontoF, evE_c, evE_n, putE_s, putX_s, valE_s, redE_s, actE_s, layE_s, gateE_t, gateE_f, clsF_a, clsF_l, clsF_r, clsF_p, clsE_l, clsE_a, clsE_p, clsE_r, d_3_8, d_7_8, d_8_3, d_8_7, kM, g0, SS.post]
   exact rfl
   refine ⟨_, rfl, ?_, ?_⟩
   simp [zS, reserve, freshenAll, sameRecs, sameAll, sameAt, d_3_8, d_7_8, d_8_3, d_8_7, kM, g0, SS.post]
   try simp [allPend, Heap.lay, ontoF, thenQ]
   repeat apply wq
   refine wps_drawn mixed callOK (by decide +kernel) fun B_ hB_ => ?_
   have d_3_18 : ahead B_ 3 18 = false := by rw [hB_]; decide +kernel
   have d_3_21 : ahead B_ 3 21 = true := by rw [hB_]; decide +kernel
   have d_7_18 : ahead B_ 7 18 = true := by rw [hB_]; decide +kernel
   have d_7_21 : ahead B_ 7 21 = true := by rw [hB_]; decide +kernel
   have d_10_18 : ahead B_ 10 18 = true := by rw [hB_]; decide +kernel
   have d_10_21 : ahead B_ 10 21 = true := by rw [hB_]; decide +kernel
   have d_14_18 : ahead B_ 14 18 = true := by rw [hB_]; decide +kernel
   have d_14_21 : ahead B_ 14 21 = true := by rw [hB_]; decide +kernel
   have d_17_18 : ahead B_ 17 18 = true := by rw [hB_]; decide +kernel
   have d_17_21 : ahead B_ 17 21 = true := by rw [hB_]; decide +kernel
   have d_18_3 : ahead B_ 18 3 = false := by rw [hB_]; decide +kernel
   have d_18_7 : ahead B_ 18 7 = false := by rw [hB_]; decide +kernel
   have d_18_10 : ahead B_ 18 10 = false := by rw [hB_]; decide +kernel
   have d_18_14 : ahead B_ 18 14 = false := by rw [hB_]; decide +kernel
   have d_18_17 : ahead B_ 18 17 = false := by rw [hB_]; decide +kernel
   have d_21_3 : ahead B_ 21 3 = false := by rw [hB_]; decide +kernel
   have d_21_7 : ahead B_ 21 7 = false := by rw [hB_]; decide +kernel
   have d_21_10 : ahead B_ 21 10 = false := by rw [hB_]; decide +kernel
   have d_21_14 : ahead B_ 21 14 = false := by rw [hB_]; decide +kernel
   have d_21_17 : ahead B_ 21 17 = false := by rw [hB_]; decide +kernel
   apply drawE B_
   simp [zS, mkBlk, guardA, clsOf, reserve, freshenAll, wantedBy, unwantedBy, Heap.lay, ontoF, evE_c, evE_n, putE_s, putX_s, valE_s, redE_s, actE_s, layE_s, gateE_t, gateE_f, clsF_a, clsF_l, clsF_r, clsF_p, clsE_l, clsE_a, clsE_p, clsE_r, d_3_18, d_3_21, d_7_18, d_7_21, d_10_18, d_10_21, d_14_18, d_14_21, d_17_18, d_17_21, d_18_3, d_18_7, d_18_10, d_18_14, d_18_17, d_21_3, d_21_7, d_21_10, d_21_14, d_21_17, kR, g0, v0, qM, SS.post]
   exact rfl
   refine ⟨_, rfl, ?_, ?_⟩
   simp [zS, reserve, freshenAll, sameRecs, sameAll, sameAt, d_3_18, d_3_21, d_7_18, d_7_21, d_10_18, d_10_21, d_14_18, d_14_21, d_17_18, d_17_21, d_18_3, d_18_7, d_18_10, d_18_14, d_18_17, d_21_3, d_21_7, d_21_10, d_21_14, d_21_17, kR, g0, v0, qM, SS.post]
   try simp [allPend, Heap.lay, ontoF, thenQ]
   (repeat' (first
    | with_reducible refine wps_seq ?_
    | with_reducible refine wps_block ?_
    | (with_reducible refine wps_label ?_; simp only [thenQ, blockQ])
    | (with_reducible refine wps_region callOK ?_; apply runE; simp [zS, *, SS.post]; exact rfl)
    | (with_reducible refine run_end ?_; simp only [thenQ, blockQ])
    | (with_reducible refine gate_splitK (fun hc => ?_) (fun hc => ?_) <;> ((have hd := hc); (try simp at hd); (try subst hd); apply runE; simp [zS, evalK_c, evalK_nil, thenK_some, *, SS.post]; exact rfl))
    | (with_reducible refine pick_splitK (fun hc => ?_) (fun hc => ?_) <;> ((have hd := hc); (try simp at hd); (try subst hd); apply runE; simp [zS, evalK_c, evalK_nil, thenK_some, *, SS.post]; exact rfl))
    | (with_reducible refine gate_split (fun hc => ?_) (fun hc => ?_) <;> ((have hd := hc); (try simp at hd); (try subst hd); apply runE; simp [zS, *, SS.post]; exact rfl))
    | (with_reducible refine pick_split (fun hc => ?_) (fun hc => ?_) <;> ((have hd := hc); (try simp at hd); (try subst hd); apply runE; simp [zS, *, SS.post]; exact rfl))
    | (refine wps_ct rfl ?_)
    | (refine wps_cf rfl ?_)
    | (refine wps_cond rfl (fun hc => ?_) (fun hc => ?_) <;> ((have hd := hc); (try simp at hd); (try subst hd)))
    | (with_reducible refine wps_skip ?_; simp only [thenQ, blockQ])
    | (with_reducible refine wps_exit ?_; simp [thenQ, blockQ])
    | (with_reducible refine wps_ret ?_; simp [retVal, Tryz.f18, oneOr, thenQ, blockQ])))
   all_goals first | (((try simp [retVal, Tryz.f18, oneOr]); clear kB kH kS kW kD kP kC kM kL kR kO kG g0 v0; refine ends_J2 (by simp [*]) (by first | rfl | (simp [*]; done)) (by simp [pureV, pureL]) (by omega) (by first | (simp [*]; done) | (simp [*] at h9 ⊢; exact h9) | exact h9) (by simp [getF]) (by simp [getF]) (by first | (simp [getF]; done) | (simp [getF, *]; done)) (by first | (simp [getF, Tk.cs]; done) | (simp [getF, Tk.cs, *]; done)))) | (exfalso; omega) | (trace_state; fail)
theorem inj_18 (x y : Unit) (h : (fun z : Unit => ([] : List AV)) x = (fun z : Unit => ([] : List AV)) y) : x = y := by
 rfl
noncomputable def e18 : Entry Tryz.prog := mkJ 18 [] (fun z : Unit => []) (fun z x => (x.s.foster = false) ∧ (SOk x.s) ∧ (KOk x.s.tree) ∧ ((blS x.t x.b).length ≤ 1000000000) ∧ (SOk (chS x.s (blS x.t x.b))) ∧ (HtOk (chS x.s (blS x.t x.b))) ∧ (x.s.opn.length ≤ 900 ∧ x.s.opn ≠ []) ∧ (x.t.data.length ≤ 1000000) ∧ (x.t.attrs.length ≤ 14) ∧ (x.t.name.length ≤ 1000000000)) (fun z x => .bool (ahR (chS x.s (blS x.t x.b)) x.t).1) (fun z x => ⟨(ahR (chS x.s (blS x.t x.b)) x.t).2, blT x.t, blS x.t x.b⟩) fun z x ne h => ⟨c18 (T := [e29, e36, e32, e31, e35, e37t, e27, e39, e33, e34]) rfl rfl rfl rfl rfl rfl rfl rfl rfl rfl ne  h.1 h.2.1 h.2.2.1 h.2.2.2.1 h.2.2.2.2.1 h.2.2.2.2.2.1 h.2.2.2.2.2.2.1 h.2.2.2.2.2.2.2.1 h.2.2.2.2.2.2.2.2.1 h.2.2.2.2.2.2.2.2.2, by simp [pureL, pureV], by simp [pureV, pureL], by (try exact h9); (all_goals exact ahR_ne (chS_ne ne _) _)⟩
theorem k18 {T : List (Entry Tryz.prog)} (hT : findE 18 T = some e18.g) {s : SS} {t : Tk} {b : Str} (ne : s.tree ≠ [])  (hf : s.foster = false) (ok : SOk s) (kk : KOk s.tree) (hx : (blS t b).length ≤ 1000000000) (okc : SOk (chS s (blS t b))) (hc : HtOk (chS s (blS t b))) (ho : s.opn.length ≤ 900 ∧ s.opn ≠ []) (hl : t.data.length ≤ 1000000) (ha : t.attrs.length ≤ 14) (hn : t.name.length ≤ 1000000000) {n k jb tb : Nat} {fr : List (Nat × Blk)} (d : dJ n k jb tb) (of : offJ k jb tb fr) : callL (ctx T) (.fn 18) [.ptr jb 0] ⟨n, [(jb, .cells [.ptr 0 0, .ptr tb 0, .str b]) :: (tb, .cells t.cs) :: fr, VS k s]⟩ = some (.bool (ahR (chS s (blS t b)) t).1, ⟨n + 1, [(jb, .cells [.ptr 0 0, .ptr tb 0, .str (blS t b)]) :: (tb, .cells (Tk.cs (blT t))) :: fr, VS n ((ahR (chS s (blS t b)) t).2)]⟩) :=
 mkJ_eq (x := ⟨s, t, b⟩) hT inj_18 () ne ⟨hf, ok, kk, hx, okc, hc, ho, hl, ha, hn⟩ (by simp [pureL, pureV]) (by simp [thawL, thawA_ok]) d of
end Go.Proofs.YtfgdcciaecajpaaGreatDoor
namespace Go.Proofs.YtfgdcciaecajpaaGreatDoor
set_option linter.unusedSimpArgs false
set_option linter.unusedVariables false
open Go Go.RowKit
set_option maxRecDepth 100000
theorem c16 {T : List (Entry Tryz.prog)} (hc0 : findE 29 T = some e29.g) (hc1 : findE 31 T = some e31.g) (hc2 : findE 35 T = some e35.g) (hc3 : findE 32 T = some e32.g) (hc4 : findE 33 T = some e33.g) (hc5 : findE 34 T = some e34.g) {s : SS} {t : Tk} {b : Str} (ne : s.tree ≠ [])  (hf : s.foster = false) (ok : SOk s) (h : HtOk s) (hl : t.data.length ≤ 1000000) (ha : t.attrs.length ≤ 14) (hn : t.name.length ≤ 1000000000) : JC T 16 [] ⟨s, t, b⟩ (.bool (bdR s t).1) ⟨(bdR s t).2, blT t, blS t b⟩ := by
 have kc0 := @k29 T hc0
 have kc1 := @k31 T hc1
 have kc2 := @k35 T hc2
 have kc3 := @k32 T hc3
 have kc4 := @k33 T hc4
 have kc5 := @k34 T hc5
 have g0 := @vg0
 have v0 := @vset
 obtain ⟨kd, nm, L, sf, dt⟩ := t
 have kB := fun n k jb tb fr => @kc0 s ⟨kd, nm, L, sf, dt⟩ b ne hl n k jb tb fr
 have kP := fun dt b n k jb tb fr => @kc1 s ⟨kd, nm, L, sf, dt⟩ b ne [104, 101, 97, 100, 32, 98, 111, 100, 121, 32, 104, 116, 109, 108, 32, 98, 114] (ascB (by decide)) (by decide) hn n k jb tb fr
 have kC := fun dt b n k jb tb fr => @kc2 s ⟨kd, nm, L, sf, dt⟩ b ne hf ok h ha hn n k jb tb fr
 have kS := fun dt b n k jb tb fr => @kc3 (m3S s) ⟨kd, nm, L, sf, dt⟩ b ne [104, 101, 97, 100] (ascB (by decide)) (by decide) hn n k jb tb fr
 have kO := fun dt b n k jb tb fr => @kc4 (m3S s) ⟨kd, nm, L, sf, dt⟩ b ne hf ⟨ok.ln, ok.kd, ok.op⟩ (by simp only at ha ⊢; omega) n k jb tb fr
 have kG := fun dt b n k jb tb fr => @kc5 (m3S s) ⟨kd, nm, L, sf, dt⟩ b ne [104, 101, 97, 100] hf ⟨ok.ln, ok.kd, ok.op⟩ n k jb tb fr
 have h9 := bdR_ne ne ⟨kd, nm, L, sf, dt⟩
 have e1 : ∀ x l, elS (m3S s) 0 x l = ⟨(elS (m3S s) 0 x l).tree, (elS (m3S s) 0 x l).opn, s.act, 3, s.back, s.lex, s.form, s.head, s.foster, s.skip, s.inside⟩ := fun _ _ => rfl
 have q1 : (elS (m3S s) 0 nm L).tree ≠ [] := newT_ne _ _ _ _
 have q2 : (elS (m3S s) 0 [104, 101, 97, 100] []).tree ≠ [] := newT_ne _ _ _ _
 clear kc0 kc1 kc2 kc3 kc4 kc5 hf ok hl ha hn h
 simp only at kO kG
 rw [e1] at kO kG
 clear e1
 simp only [bdR, hdS, blB, blT, blS, comB, Tk.cs, in_headw] at kB kP kC kS kO kG h9 ⊢
 generalize (elS (m3S s) 0 nm L).tree = t1 at kO h9 q1 ⊢
 generalize (elS (m3S s) 0 nm L).opn = o1 at kO h9 ⊢
 generalize (elS (m3S s) 0 [104, 101, 97, 100] []).tree = t2 at kG h9 q2 ⊢
 generalize (elS (m3S s) 0 [104, 101, 97, 100] []).opn = o2 at kG h9 ⊢
 generalize inW [104, 101, 97, 100, 32, 98, 111, 100, 121, 32, 104, 116, 109, 108, 32, 98, 114] nm = w at kP h9 ⊢
 generalize dt.takeWhile sp = d1 at kB h9 ⊢
 generalize dt.dropWhile sp = d2 at kB h9 ⊢
 simp only [m3S] at kS kO kG
 by_cases hc : kd = 4 ∨ kd = 5 ∨ (kd = 1 ∧ nm = [104, 116, 109, 108])
 have k3 : ¬ kd = 3 := by omega
 have k2 : ¬ kd = 2 := by omega
 simp only [eq_true hc, decide_true] at kC
 rotate_left
 have n5 : ∀ dt, comS s ⟨kd, nm, L, sf, dt⟩ = s := fun dt => comS_no hc
 simp only [n5, eq_false hc, decide_false] at kC
 have k4 : ¬ kd = 4 := fun e => hc (.inl e)
 have k5 : ¬ kd = 5 := fun e => hc (.inr (.inl e))
 by_cases k3 : kd = 3
 subst k3
 by_cases k2 : d2 = []
 subst k2
 rotate_left 2
 by_cases k1 : kd = 1
 subst k1
 have kh : ¬ nm = [104, 116, 109, 108] := fun e => hc (.inr (.inr ⟨rfl, e⟩))
 by_cases kn : nm = [104, 101, 97, 100]
 subst kn
 rotate_left 2
 by_cases k6 : kd = 2
 subst k6
 cases w
 all_goals simp at kB
 all_goals
  (try simp only [Tk.cs] at *)
  refine callAt_body (fn := Tryz.f16) (s0 := ⟨[0, 2, 3, 4], [.ptr 1 0, .undef, .undef, .undef], [], 42, ⟨4, [] :: [_]⟩⟩) Tryz.func16 rfl rfl rfl ?_
  refine permJ ?_
  try simp only [Tk.cs]
  (repeat' (first
   | with_reducible refine wps_seq ?_
   | with_reducible refine wps_block ?_
   | (with_reducible refine wps_label ?_; simp only [thenQ, blockQ])
   | (with_reducible refine wps_region callOK ?_; apply runE; simp [zS, *, SS.post]; exact rfl)
   | (with_reducible refine run_end ?_; simp only [thenQ, blockQ])
   | (with_reducible refine gate_splitK (fun hc => ?_) (fun hc => ?_) <;> ((have hd := hc); (try simp at hd); (try subst hd); apply runE; simp [zS, evalK_c, evalK_nil, thenK_some, *, SS.post]; exact rfl))
   | (with_reducible refine pick_splitK (fun hc => ?_) (fun hc => ?_) <;> ((have hd := hc); (try simp at hd); (try subst hd); apply runE; simp [zS, evalK_c, evalK_nil, thenK_some, *, SS.post]; exact rfl))
   | (with_reducible refine gate_split (fun hc => ?_) (fun hc => ?_) <;> ((have hd := hc); (try simp at hd); (try subst hd); apply runE; simp [zS, *, SS.post]; exact rfl))
   | (with_reducible refine pick_split (fun hc => ?_) (fun hc => ?_) <;> ((have hd := hc); (try simp at hd); (try subst hd); apply runE; simp [zS, *, SS.post]; exact rfl))
   | (refine wps_ct rfl ?_)
   | (refine wps_cf rfl ?_)
   | (refine wps_cond rfl (fun hc => ?_) (fun hc => ?_) <;> ((have hd := hc); (try simp at hd); (try subst hd)))
   | (with_reducible refine wps_skip ?_; simp only [thenQ, blockQ])
   | (with_reducible refine wps_exit ?_; simp [thenQ, blockQ])
   | (with_reducible refine wps_ret ?_; simp [retVal, Tryz.f16, oneOr, thenQ, blockQ])))
  all_goals first | (first | (((try simp [retVal, Tryz.f16, oneOr]); clear kB kP kC kS kO kG g0 v0; refine ends_J2 (by simp [*]) (by first | rfl | (simp [*]; done)) (by simp [pureV, pureL]) (by omega) (by first | (simp [*]; done) | (simp [*] at h9 ⊢; exact h9) | exact h9) (by simp [getF]) (by simp [getF]) (by first | (simp [getF]; done) | (simp [getF, *]; done)) (by first | (simp [getF, Tk.cs]; done) | (simp [getF, Tk.cs, *]; done))); done) | skip) | (exfalso; omega) | (trace_state; fail)
  all_goals
   repeat apply wq
   refine wps_drawn mixed callOK (by decide +kernel) fun B_ hB_ => ?_
   have d_3_5 : ahead B_ 3 5 = false := by rw [hB_]; decide +kernel
   have d_3_8 : ahead B_ 3 8 = true := by rw [hB_]; decide +kernel
   have d_5_3 : ahead B_ 5 3 = false := by rw [hB_]; decide +kernel
   have d_8_3 : ahead B_ 8 3 = false := by rw [hB_]; decide +kernel
   apply drawE B_
   simp [zS, mkBlk, guardA, clsOf, reserve, freshenAll, wantedBy, unwantedBy, Heap.lay, ontoF, evE_c, evE_n, putE_s, putX_s, valE_s, redE_s, actE_s, layE_s, gateE_t, gateE_f, clsF_a, clsF_l, clsF_r, clsF_p, clsE_l, clsE_a, clsE_p, clsE_r, d_3_5, d_3_8, d_5_3, d_8_3, kO, kG, g0, v0, ne, q1, q2, SS.post]
   exact rfl
   refine ⟨_, rfl, ?_, ?_⟩
   simp [zS, reserve, freshenAll, sameRecs, sameAll, sameAt, d_3_5, d_3_8, d_5_3, d_8_3, kO, kG, g0, v0, ne, q1, q2, SS.post]
   try simp [allPend, Heap.lay, ontoF, thenQ]
  all_goals
   (repeat' (first
    | with_reducible refine wps_seq ?_
    | with_reducible refine wps_block ?_
    | (with_reducible refine wps_label ?_; simp only [thenQ, blockQ])
    | (with_reducible refine wps_region callOK ?_; apply runE; simp [zS, *, SS.post]; exact rfl)
    | (with_reducible refine run_end ?_; simp only [thenQ, blockQ])
    | (with_reducible refine gate_splitK (fun hc => ?_) (fun hc => ?_) <;> ((have hd := hc); (try simp at hd); (try subst hd); apply runE; simp [zS, evalK_c, evalK_nil, thenK_some, *, SS.post]; exact rfl))
    | (with_reducible refine pick_splitK (fun hc => ?_) (fun hc => ?_) <;> ((have hd := hc); (try simp at hd); (try subst hd); apply runE; simp [zS, evalK_c, evalK_nil, thenK_some, *, SS.post]; exact rfl))
    | (with_reducible refine gate_split (fun hc => ?_) (fun hc => ?_) <;> ((have hd := hc); (try simp at hd); (try subst hd); apply runE; simp [zS, *, SS.post]; exact rfl))
    | (with_reducible refine pick_split (fun hc => ?_) (fun hc => ?_) <;> ((have hd := hc); (try simp at hd); (try subst hd); apply runE; simp [zS, *, SS.post]; exact rfl))
    | (refine wps_ct rfl ?_)
    | (refine wps_cf rfl ?_)
    | (refine wps_cond rfl (fun hc => ?_) (fun hc => ?_) <;> ((have hd := hc); (try simp at hd); (try subst hd)))
    | (with_reducible refine wps_skip ?_; simp only [thenQ, blockQ])
    | (with_reducible refine wps_exit ?_; simp [thenQ, blockQ])
    | (with_reducible refine wps_ret ?_; simp [retVal, Tryz.f16, oneOr, thenQ, blockQ])))
   all_goals first | (((try simp [retVal, Tryz.f16, oneOr]); clear kB kP kC kS kO kG g0 v0; refine ends_J2 (by simp [*]) (by first | rfl | (simp [*]; done)) (by simp [pureV, pureL]) (by omega) (by first | (simp [*]; done) | (simp [*] at h9 ⊢; exact h9) | exact h9) (by simp [getF]) (by simp [getF]) (by first | (simp [getF]; done) | (simp [getF, *]; done)) (by first | (simp [getF, Tk.cs]; done) | (simp [getF, Tk.cs, *]; done)))) | (exfalso; omega) | (trace_state; fail)
theorem inj_16 (x y : Unit) (h : (fun z : Unit => ([] : List AV)) x = (fun z : Unit => ([] : List AV)) y) : x = y := by
 rfl
noncomputable def e16 : Entry Tryz.prog := mkJ 16 [] (fun z : Unit => []) (fun z x => (x.s.foster = false) ∧ (SOk x.s) ∧ (HtOk x.s) ∧ (x.t.data.length ≤ 1000000) ∧ (x.t.attrs.length ≤ 14) ∧ (x.t.name.length ≤ 1000000000)) (fun z x => .bool (bdR x.s x.t).1) (fun z x => ⟨(bdR x.s x.t).2, blT x.t, blS x.t x.b⟩) fun z x ne h => ⟨c16 (T := [e29, e31, e35, e32, e33, e34]) rfl rfl rfl rfl rfl rfl ne  h.1 h.2.1 h.2.2.1 h.2.2.2.1 h.2.2.2.2.1 h.2.2.2.2.2, by simp [pureL, pureV], by simp [pureV, pureL], by (try exact h9); (all_goals exact bdR_ne ne _)⟩
theorem k16 {T : List (Entry Tryz.prog)} (hT : findE 16 T = some e16.g) {s : SS} {t : Tk} {b : Str} (ne : s.tree ≠ [])  (hf : s.foster = false) (ok : SOk s) (h : HtOk s) (hl : t.data.length ≤ 1000000) (ha : t.attrs.length ≤ 14) (hn : t.name.length ≤ 1000000000) {n k jb tb : Nat} {fr : List (Nat × Blk)} (d : dJ n k jb tb) (of : offJ k jb tb fr) : callL (ctx T) (.fn 16) [.ptr jb 0] ⟨n, [(jb, .cells [.ptr 0 0, .ptr tb 0, .str b]) :: (tb, .cells t.cs) :: fr, VS k s]⟩ = some (.bool (bdR s t).1, ⟨n + 1, [(jb, .cells [.ptr 0 0, .ptr tb 0, .str (blS t b)]) :: (tb, .cells (Tk.cs (blT t))) :: fr, VS n ((bdR s t).2)]⟩) :=
 mkJ_eq (x := ⟨s, t, b⟩) hT inj_16 () ne ⟨hf, ok, h, hl, ha, hn⟩ (by simp [pureL, pureV]) (by simp [thawL, thawA_ok]) d of
end Go.Proofs.YtfgdcciaecajpaaGreatDoor