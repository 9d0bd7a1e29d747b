/- steady: ends, free, strict, May, the program's code. No condition. -/
import Derived.Test.YtgpjifeeneeiaaaGreatDoorNO
namespace Go.Proofs.YtgpjifeeneeiaaaGreatDoor
set_option linter.unusedSimpArgs false
set_option linter.unusedVariables false
open Go Go.RowKit
set_option maxRecDepth 100000
def endsB (x : Str) : Bool := decide (x = [104, 114] ∨ x = [116, 97, 98, 108, 101] ∨ x = [102, 111, 114, 109] ∨ x = [108, 105] ∨ x = [100, 100] ∨ x = [100, 116]) || inW [97, 100, 100, 114, 101, 115, 115, 32, 97, 114, 116, 105, 99, 108, 101, 32, 97, 115, 105, 100, 101, 32, 98, 108, 111, 99, 107, 113, 117, 111, 116, 101, 32, 99, 101, 110, 116, 101, 114, 32, 100, 101, 116, 97, 105, 108, 115, 32, 100, 105, 97, 108, 111, 103, 32, 100, 105, 114, 32, 100, 105, 118, 32, 100, 108, 32, 102, 105, 101, 108, 100, 115, 101, 116, 32, 102, 105, 103, 99, 97, 112, 116, 105, 111, 110, 32, 102, 105, 103, 117, 114, 101, 32, 102, 111, 111, 116, 101, 114, 32, 104, 101, 97, 100, 101, 114, 32, 104, 103, 114, 111, 117, 112, 32, 108, 105, 115, 116, 105, 110, 103, 32, 109, 97, 105, 110, 32, 109, 101, 110, 117, 32, 110, 97, 118, 32, 111, 108, 32, 112, 32, 112, 114, 101, 32, 115, 101, 97, 114, 99, 104, 32, 115, 101, 99, 116, 105, 111, 110, 32, 115, 117, 109, 109, 97, 114, 121, 32, 117, 108] x || headingB 0 x
theorem c72 {T : List (Entry Tryz.prog)} (hc0 : findE 109 T = some e109.g) (hc1 : findE 73 T = some e73.g) (x : Str) (hx : x.length ≤ 1000000000) : CallAt (ctx T) 72 [.str x] ⟨0, []⟩ (.bool (endsB x)) ⟨0, []⟩ := by
 have kc0 := @k109 T hc0
 have kc1 := @k73 T hc1
 refine callAt_body (fn := Tryz.f72) (s0 := ⟨[0, 2, 3, 4], [.str x, .undef, .undef, .undef], [], 17, ⟨0, [[]]⟩⟩) Tryz.func72 rfl rfl rfl ?_
 (repeat' (first
  | with_reducible refine wps_seq ?_
  | with_reducible refine wps_block ?_
  | (with_reducible refine wps_region callOK ?_; apply runE; simp [zS, *]; exact rfl)
  | (with_reducible refine run_end ?_; simp only [thenQ, blockQ])
  | (with_reducible refine gate_split (fun hc => ?_) (fun hc => ?_) <;> ((have hd := hc); (try simp at hd); (try subst hd); apply runE; simp [zS, *]; exact rfl))
  | (refine wps_ct rfl ?_)
  | (refine wps_cond rfl (fun hc => ?_) (fun hc => ?_) <;> ((have hd := hc); (try simp at hd); (try subst hd)))
  | (with_reducible refine wps_skip ?_; simp only [thenQ, blockQ])
  | (with_reducible refine wps_ret ?_; simp [retVal, Tryz.f72, oneOr, thenQ, blockQ])))
 all_goals first | exact ends_pure rfl (by first | (simp [endsB, *]; done) | (simp_all [endsB]; done)) | (exfalso; omega)
theorem inj_72 (x y : Str) (h : (fun z : Str => ([.str z] : List AV)) x = (fun z : Str => ([.str z] : List AV)) y) : x = y := by
 simp only [List.cons.injEq, and_true] at h
 exact AV.str.inj h
noncomputable def e72 : Entry Tryz.prog := mkE 72 [[]] (fun z : Str => [.str z]) (fun z => (z.length ≤ 1000000000)) (fun z => .bool (endsB z)) fun z h => c72 (T := [e109, e73]) rfl rfl z h
theorem k72 {T : List (Entry Tryz.prog)} (hT : findE 72 T = some e72.g) (x : Str) (hx : x.length ≤ 1000000000) (H : Heap) : callL (ctx T) (.fn 72) [.str x] H = some (.bool (endsB x), H) :=
 mkE_scalar hT inj_72 (x) hx rfl (by simp [thawA_ok])
def formB (L : List Nd) : Bool := L.any fun n => elB n [102, 111, 114, 109]
def freeN (L : List Nd) (x : Str) : Bool :=
 if (endsB x && scopeB L [112] 2) = true then false
 else if x = [99, 97, 112, 116, 105, 111, 110] ∨ x = [99, 111, 108] ∨ x = [99, 111, 108, 103, 114, 111, 117, 112] ∨ x = [116, 98, 111, 100, 121] ∨ x = [116, 100] ∨ x = [116, 102, 111, 111, 116] ∨ x = [116, 104] ∨ x = [116, 104, 101, 97, 100] ∨ x = [116, 114] then false
 else if x = [104, 49] ∨ x = [104, 50] ∨ x = [104, 51] ∨ x = [104, 52] ∨ x = [104, 53] ∨ x = [104, 54] then !(decide ((parentN L).kind = 1) && headingB (parentN L).space (parentN L).name)
 else if x = [102, 111, 114, 109] then !formB L
 else if x = [98, 117, 116, 116, 111, 110] ∨ x = [110, 111, 98, 114] then !scopeB L x 0
 else if x = [108, 105] then !listedB L x
 else if x = [100, 100] ∨ x = [100, 116] then !listedB L [100, 100, 32, 100, 116]
 else if x = [97] then !linkedB L
 else if x = [111, 112, 116, 105, 111, 110] ∨ x = [111, 112, 116, 103, 114, 111, 117, 112] then !elB (parentN L) [111, 112, 116, 105, 111, 110] else true
set_option maxHeartbeats 4000000 in
theorem c43 {T : List (Entry Tryz.prog)} (hc0 : findE 37 T = some e37.g) (hc1 : findE 72 T = some e72.g) (hc2 : findE 18 T = some e18.g) (hc3 : findE 42 T = some e42.g) (hc4 : findE 75 T = some e75.g) (hc5 : findE 76 T = some e76.g) (hc6 : findE 73 T = some e73.g) (hc7 : findE 49 T = some e49.g) (L : List Nd) (x : Str) (hp : okP L) (hx : x.length ≤ 1000000000) : CallAt (ctx T) 43 [aNodes L, .str x] ⟨0, []⟩ (.bool (freeN L x)) ⟨0, []⟩ := by
 have kc0 := @k37 T hc0
 have kc1 := @k72 T hc1
 have kc2 := @k18 T hc2
 have kc3 := @k42 T hc3
 have kc4 := @k75 T hc4
 have kc5 := @k76 T hc5
 have kc6 := @k73 T hc6
 have kc7 := @k49 T hc7
 have hl : L.length ≤ 1000000 := by have := hp.1; omega
 have hpx := (parent_ok hp).nm
 have a1 : asciiB [112] := ascB (by decide)
 have a2 : asciiB [98, 117, 116, 116, 111, 110] := ascB (by decide)
 have a3 : asciiB [110, 111, 98, 114] := ascB (by decide)
 have a4 : asciiB [108, 105] := ascB (by decide)
 have a5 : asciiB [100, 100, 32, 100, 116] := ascB (by decide)
 have a6 : asciiB [111, 112, 116, 105, 111, 110] := ascB (by decide)
 have hf := c74 (T := T) L hl 85 [.fptr [.str [102, 111, 114, 109]] 0] rfl (fun n => elB n [102, 111, 114, 109]) (fun n hn => c85 hc3 n [102, 111, 114, 109] (ascB (by decide)) (by decide) (hp.2 n hn).nm)
 have hpu : pureL [aNodes L, .func (.func 85) [] [.fptr [.str [102, 111, 114, 109]] 0]] = true := by simp [pureL, pureV]
 have ef : formB L = L.any fun n => elB n [102, 111, 114, 109] := rfl
 rw [← ef] at hf
 have cv : cloV 85 [.fptr [.str [102, 111, 114, 109]] 0] = .func (.func 85) [] [.fptr [.str [102, 111, 114, 109]] 0] := rfl
 have k0 := fun H => kc0 L hl H
 have k1 := fun H => kc1 x hx H
 have k2 := fun H => kc2 L [112] 2 hp a1 (by decide) H
 have k2x := fun (hW : asciiB x) (hq : x.length ≤ 100000) H => kc2 L x 0 hp hW hq H
 have k3 := fun H => kc3 (parentN L) [111, 112, 116, 105, 111, 110] a6 (by decide) hpx H
 have k4 := fun H => kc4 L [100, 100, 32, 100, 116] hp a5 (by decide) H
 have k4x := fun (hW : asciiB x) (hq : x.length ≤ 100000) H => kc4 L x hp hW hq H
 have k5 := fun H => kc5 L hp H
 have k6 := fun H => kc6 (parentN L).space (parentN L).name H
 have k7 := fun H => kc7 [102, 111, 114, 109] H
 clear kc0 kc1 kc2 kc3 kc4 kc5 kc6 kc7 hc0 hc1 hc2 hc3 hc4 hc5 hc6 hc7 ef
 unfold freeN
 generalize headingB (parentN L).space (parentN L).name = b6 at *
 generalize elB (parentN L) [111, 112, 116, 105, 111, 110] = b3 at *
 generalize parentN L = up at *
 generalize linkedB L = b5 at *
 generalize listedB L [100, 100, 32, 100, 116] = b4 at *
 generalize listedB L x = b4x at *
 generalize scopeB L [112] 2 = b2 at *
 generalize scopeB L x 0 = b2x at *
 generalize formB L = bf at *
 generalize endsB x = b1 at *
 refine callAt_body (fn := Tryz.f43) (s0 := ⟨[0, 1, 4, 5, 14, 15, 25, 49, 62, 73], [aNodes L, .str x, .undef, .undef, .undef, .undef, .undef, .undef, .undef, .undef], [], 79, ⟨0, [[]]⟩⟩) Tryz.func43 rfl rfl rfl ?_
 (repeat' (first
  | with_reducible refine wps_seq ?_
  | with_reducible refine wps_block ?_
  | (with_reducible refine wps_region (callOKP [⟨74, _, _, hpu, hf⟩]) ?_; apply runE; simp [zS, *, nd_fold, callP]; exact rfl)
  | (with_reducible refine run_end ?_; simp only [thenQ, blockQ])
  | (with_reducible refine gate_split (fun hc => ?_) (fun hc => ?_) <;> ((have hd := hc); (try simp at hd); (try subst hd); apply runE; simp [zS, *, nd_fold, callP]; exact rfl))
  | (refine wps_ct rfl ?_)
  | (refine wps_cf rfl ?_)
  | (refine wps_cond rfl (fun hc => ?_) (fun hc => ?_) <;> ((have hd := hc); (try simp at hd); (try subst hd)))
  | (with_reducible refine wps_skip ?_; simp only [thenQ, blockQ])
  | (with_reducible refine wps_ret ?_; simp [retVal, Tryz.f43, oneOr, thenQ, blockQ])))
 all_goals first | exact ends_pure rfl (by first | (simp [*]; done) | (simp_all; done)) | (exfalso; omega)
theorem inj_43 (x y : List Nd × Str) (h : (fun z : List Nd × Str => ([aNodes z.1, .str z.2] : List AV)) x = (fun z : List Nd × Str => ([aNodes z.1, .str z.2] : List AV)) y) : x = y := by
 obtain ⟨x0, x1⟩ := x
 obtain ⟨y0, y1⟩ := y
 simp only [List.cons.injEq, and_true] at h
 obtain ⟨h0, h1⟩ := h
 have g0 : x0 = y0 := inj_aNodes h0
 have g1 : x1 = y1 := AV.str.inj h1
 subst g0 g1
 rfl
noncomputable def e43 : Entry Tryz.prog := mkE 43 [[7], []] (fun z : List Nd × Str => [aNodes z.1, .str z.2]) (fun z => (okP z.1) ∧ (z.2.length ≤ 1000000000)) (fun z => .bool (freeN z.1 z.2)) fun z h => c43 (T := [e37, e72, e18, e42, e75, e76, e73, e49]) rfl rfl rfl rfl rfl rfl rfl rfl z.1 z.2 h.1 h.2
theorem k43 {T : List (Entry Tryz.prog)} (hT : findE 43 T = some e43.g) (L : List Nd) (x : Str) (hp : okP L) (hx : x.length ≤ 1000000000) (H : Heap) : callL (ctx T) (.fn 43) [aNodes L, .str x] H = some (.bool (freeN L x), H) :=
 mkE_scalar hT inj_43 (L, x) ⟨hp, hx⟩ rfl (by simp [thawA_ok])
def strictN (L : List Nd) : Str × Bool :=
 let up := parentN L
 if up.kind ≠ 1 then ([], false)
 else if voidW up.space up.name = true then ([], true)
 else if up.space ≠ 0 then ([], false)
 else if up.name = [116, 101, 120, 116, 97, 114, 101, 97] then ([], true)
 else if up.name = [111, 112, 116, 105, 111, 110] then ([], scopeB L [115, 101, 108, 101, 99, 116] 4)
 else if up.name = [111, 112, 116, 103, 114, 111, 117, 112] then ([111, 112, 116, 105, 111, 110], scopeB L [115, 101, 108, 101, 99, 116] 4)
 else if up.name = [115, 101, 108, 101, 99, 116] then ([111, 112, 116, 105, 111, 110, 32, 111, 112, 116, 103, 114, 111, 117, 112], true)
 else if up.name = [116, 97, 98, 108, 101] then ([99, 97, 112, 116, 105, 111, 110, 32, 99, 111, 108, 103, 114, 111, 117, 112, 32, 116, 98, 111, 100, 121, 32, 116, 102, 111, 111, 116, 32, 116, 104, 101, 97, 100], true)
 else if up.name = [99, 111, 108, 103, 114, 111, 117, 112] then ([99, 111, 108], true)
 else if up.name = [116, 98, 111, 100, 121] ∨ up.name = [116, 102, 111, 111, 116] ∨ up.name = [116, 104, 101, 97, 100] then ([116, 114], true)
 else if up.name = [116, 114] then ([116, 100, 32, 116, 104], true) else ([], false)
theorem c41 {T : List (Entry Tryz.prog)} (hc0 : findE 37 T = some e37.g) (hc1 : findE 46 T = some e46.g) (hc2 : findE 18 T = some e18.g) (L : List Nd) (hp : okP L) : CallAt (ctx T) 41 [aNodes L] ⟨0, []⟩ (.tup [.str (strictN L).1, .bool (strictN L).2]) ⟨0, []⟩ := by
 have kc0 := @k37 T hc0
 have kc1 := @k46 T hc1
 have kc2 := @k18 T hc2
 have hl : L.length ≤ 1000000 := by have := hp.1; omega
 have hpx := (parent_ok hp).nm
 have k0 := fun H => kc0 L hl H
 have k1 := fun H => kc1 (parentN L).space hpx H
 have k2 := fun H => kc2 L [115, 101, 108, 101, 99, 116] 4 hp (ascB (by decide)) (by decide) H
 clear kc0 kc1 kc2 hc0 hc1 hc2
 simp only [strictN]
 generalize scopeB L [115, 101, 108, 101, 99, 116] 4 = b2 at *
 generalize voidW (parentN L).space (parentN L).name = b1 at *
 generalize parentN L = up at *
 refine callAt_body (fn := Tryz.f41) (s0 := ⟨[0, 2, 3, 4, 19, 36], [aNodes L, .undef, .undef, .undef, .undef, .undef], [], 42, ⟨0, [[]]⟩⟩) Tryz.func41 rfl rfl rfl ?_
 (repeat' (first
  | with_reducible refine wps_seq ?_
  | with_reducible refine wps_block ?_
  | (with_reducible refine wps_region callOK ?_; apply runE; simp [zS, *, nd_fold]; exact rfl)
  | (with_reducible refine run_end ?_; simp only [thenQ, blockQ])
  | (refine wps_cf rfl ?_)
  | (refine wps_cond rfl (fun hc => ?_) (fun hc => ?_) <;> ((have hd := hc); (try simp at hd); (try subst hd)))
  | (with_reducible refine wps_skip ?_; simp only [thenQ, blockQ])
  | (with_reducible refine wps_ret ?_; simp [retVal, Tryz.f41, oneOr, thenQ, blockQ])))
 all_goals first | exact ends_pure rfl (by first | (simp [*]; done) | (simp_all; done)) | (exfalso; omega)
theorem inj_41 (x y : List Nd) (h : (fun z : List Nd => ([aNodes z] : List AV)) x = (fun z : List Nd => ([aNodes z] : List AV)) y) : x = y := by
 simp only [List.cons.injEq, and_true] at h
 exact inj_aNodes h
noncomputable def e41 : Entry Tryz.prog := mkE 41 [[7]] (fun z : List Nd => [aNodes z]) (fun z => (okP z)) (fun z => .tup [.str (strictN z).1, .bool (strictN z).2]) fun z h => c41 (T := [e37, e46, e18]) rfl rfl rfl z h
theorem k41 {T : List (Entry Tryz.prog)} (hT : findE 41 T = some e41.g) (L : List Nd) (hp : okP L) (H : Heap) : callL (ctx T) (.fn 41) [aNodes L] H = some (.tup [.str (strictN L).1, .bool (strictN L).2], H) :=
 mkE_pure hT inj_41 (L) hp (by simp [pureL, pureV, thawA_ok]) (by simp [thawA_ok]) H
theorem ite_P {α : Type} {P : α → Prop} {c : Prop} [Decidable c] {a b : α} (ha : P a) (hb : P b) : P (if c then a else b) := by
 split
 ·exact ha
 ·exact hb
theorem strict_ascii (L : List Nd) : asciiB (strictN L).1 ∧ (strictN L).1.length ≤ 100000 := by
 have key : ∀ W : Str, ∀ b : Bool, W.all (fun c => decide (c.toNat < 128)) = true → W.length ≤ 100000 → (fun z : Str × Bool => asciiB z.1 ∧ z.1.length ≤ 100000) (W, b) := fun W b h1 h2 => ⟨ascB h1, h2⟩
 show (fun z : Str × Bool => asciiB z.1 ∧ z.1.length ≤ 100000) (strictN L)
 simp only [strictN]
 repeat' (first | exact key _ _ (by decide) (by decide) | apply ite_P (P := fun z : Str × Bool => asciiB z.1 ∧ z.1.length ≤ 100000))
def alienB (u n : Nd) : Bool := decide (n.space = u.space) || (decide (u.space = 2) && decide (u.name = [97, 110, 110, 111, 116, 97, 116, 105, 111, 110, 45, 120, 109, 108]) && decide (n.space = 1) && decide (n.name = [115, 118, 103]))
def mayB (L : List Nd) (n : Nd) : Bool :=
 let up := parentN L
 if n.kind ≠ 1 ∨ knowB n.space n.name = false then false
 else if (up.kind ≠ 1 ∨ up.space ≠ 0) ∧ textsB up = false ∧ pointB up = false then alienB up n
 else if (strictN L).2 = true then elB n (strictN L).1
 else if n.space = 1 then decide (n.name = [115, 118, 103]) else if n.space = 2 then decide (n.name = [109, 97, 116, 104]) else freeN L n.name
set_option maxHeartbeats 2000000 in
theorem c15 {T : List (Entry Tryz.prog)} (hc0 : findE 37 T = some e37.g) (hc1 : findE 16 T = some e16.g) (hc2 : findE 38 T = some e38.g) (hc3 : findE 39 T = some e39.g) (hc4 : findE 40 T = some e40.g) (hc5 : findE 41 T = some e41.g) (hc6 : findE 42 T = some e42.g) (hc7 : findE 43 T = some e43.g) (L : List Nd) (n : Nd) (hp : okP L) (hn : okN n) : CallAt (ctx T) 15 [aNodes L, aNode n] ⟨0, []⟩ (.bool (mayB L n)) ⟨0, []⟩ := by
 have kc0 := @k37 T hc0
 have kc1 := @k16 T hc1
 have kc2 := @k38 T hc2
 have kc3 := @k39 T hc3
 have kc4 := @k40 T hc4
 have kc5 := @k41 T hc5
 have kc6 := @k42 T hc6
 have kc7 := @k43 T hc7
 have hl : L.length ≤ 1000000 := by have := hp.1; omega
 have hpo := parent_ok hp
 have hnx := hn.nm
 obtain ⟨a1, a2⟩ := strict_ascii L
 have k0 := fun H => kc0 L hl H
 have k1 := fun H => kc1 n.space n.name hnx H
 have k2 := fun H => kc2 (parentN L) H
 have k3 := fun H => kc3 (parentN L) hpo H
 have k4 := fun H => kc4 (parentN L) n H
 have k5 := fun H => kc5 L hp H
 have k6 := fun H => kc6 n (strictN L).1 a1 a2 hnx H
 have k7 := fun H => kc7 L n.name hp hnx H
 have ea : (decide (n.space = (parentN L).space) || (decide ((parentN L).space = 2) && decide ((parentN L).name = [97, 110, 110, 111, 116, 97, 116, 105, 111, 110, 45, 120, 109, 108]) && decide (n.space = 1) && decide (n.name = [115, 118, 103]))) = alienB (parentN L) n := rfl
 simp only [ea] at k4
 clear kc0 kc1 kc2 kc3 kc4 kc5 kc6 kc7 hc0 hc1 hc2 hc3 hc4 hc5 hc6 hc7 a1 a2 ea hpo
 simp only [mayB]
 generalize elB n (strictN L).1 = b6 at *
 generalize strictN L = st at *
 obtain ⟨s1, s2⟩ := st
 generalize freeN L n.name = b7 at *
 generalize pointB (parentN L) = b3 at *
 generalize textsB (parentN L) = b2 at *
 generalize alienB (parentN L) n = b4 at *
 generalize knowB n.space n.name = b1 at *
 generalize parentN L = up at *
 simp only at *
 refine callAt_body (fn := Tryz.f15) (s0 := ⟨[0, 1, 3, 4, 5, 6, 7, 52], [aNodes L, aNode n, .undef, .undef, .undef, .undef, .undef, .undef], [], 67, ⟨0, [[]]⟩⟩) Tryz.func15 rfl rfl rfl ?_
 (repeat' (first
  | with_reducible refine wps_seq ?_
  | with_reducible refine wps_block ?_
  | (with_reducible refine wps_region callOK ?_; apply runE; simp [zS, *, nd_fold]; exact rfl)
  | (with_reducible refine run_end ?_; simp only [thenQ, blockQ])
  | (with_reducible refine gate_split (fun hc => ?_) (fun hc => ?_) <;> ((have hd := hc); (try simp at hd); (try subst hd); apply runE; simp [zS, *, nd_fold]; exact rfl))
  | (refine wps_ct rfl ?_)
  | (refine wps_cf rfl ?_)
  | (refine wps_cond rfl (fun hc => ?_) (fun hc => ?_) <;> ((have hd := hc); (try simp at hd); (try subst hd)))
  | (with_reducible refine wps_skip ?_; simp only [thenQ, blockQ])
  | (with_reducible refine wps_ret ?_; simp [retVal, Tryz.f15, oneOr, thenQ, blockQ])))
 all_goals first | exact ends_pure rfl (by first | (simp [*]; done) | (simp_all; done)) | (exfalso; omega)
theorem inj_15 (x y : List Nd × Nd) (h : (fun z : List Nd × Nd => ([aNodes z.1, aNode z.2] : List AV)) x = (fun z : List Nd × Nd => ([aNodes z.1, aNode z.2] : List AV)) y) : x = y := by
 obtain ⟨x0, x1⟩ := x
 obtain ⟨y0, y1⟩ := y
 simp only [List.cons.injEq, and_true] at h
 obtain ⟨h0, h1⟩ := h
 have g0 : x0 = y0 := inj_aNodes h0
 have g1 : x1 = y1 := inj_aNode h1
 subst g0 g1
 rfl
noncomputable def e15 : Entry Tryz.prog := mkE 15 [[7], [0, 0, 0, 2, 0, 0, 1]] (fun z : List Nd × Nd => [aNodes z.1, aNode z.2]) (fun z => (okP z.1) ∧ (okN z.2)) (fun z => .bool (mayB z.1 z.2)) fun z h => c15 (T := [e37, e16, e38, e39, e40, e41, e42, e43]) rfl rfl rfl rfl rfl rfl rfl rfl z.1 z.2 h.1 h.2
theorem k15 {T : List (Entry Tryz.prog)} (hT : findE 15 T = some e15.g) (L : List Nd) (n : Nd) (hp : okP L) (hn : okN n) (H : Heap) : callL (ctx T) (.fn 15) [aNodes L, aNode n] H = some (.bool (mayB L n), H) :=
 mkE_scalar hT inj_15 (L, n) ⟨hp, hn⟩ rfl (by simp [thawA_ok])
theorem q15 {T : List (Entry Tryz.prog)} (hT : findE 15 T = some e15.g) {H : Heap} {a0 : AV} {L : List Nd} (b0 : thawA H [7] a0 = some (aNodes L)) {a1 : AV} {n : Nd} (b1 : thawA H [0, 0, 0, 2, 0, 0, 1] a1 = some (aNode n))  (hp : okP L) (hn : okN n) : callL (ctx T) (.fn 15) [a0, a1] H = some (.bool (mayB L n), H) :=
 mkE_scalar hT inj_15 (L, n) ⟨hp, hn⟩ rfl (by simp [b0, b1])
end Go.Proofs.YtgpjifeeneeiaaaGreatDoor