/- PolicyTells's walk. No condition. -/
import Derived.Test.YtnnjamopknlnbaaDoorMN
import Derived.Test.YtnnjamopknlnbaaDoorMO
namespace Go.Proofs.YtnnjamopknlnbaaDoor
set_option linter.unusedSimpArgs false
set_option linter.unusedVariables false
open Go Go.RowKit
set_option maxRecDepth 100000
noncomputable def e8 : Entry Tryd.prog := mkE 8 [[]] (fun x : PolR => [polA x]) (fun x => PolOk x) (fun x => checkV x) fun x h => c8 (T := [e23, e26]) rfl rfl x h
theorem k8 {T : List (Entry Tryd.prog)} (hT : findE 8 T = some e8.g) {p : PolR} (ok : PolOk p) (H : Heap) : callL (ctx T) (.fn 8) [polA p] H = some (checkV p, H) :=
  mkE_scalar hT inj_pol1 p ok rfl (by simp [thawA_pol])
noncomputable def e9 : Entry Tryd.prog := mkE 9 [[]] (fun x : PolR => [polA x]) (fun x => PolOk x) (fun x => checkV x) fun x h => c9 (T := [e31, e30]) rfl rfl x h
theorem k9 {T : List (Entry Tryd.prog)} (hT : findE 9 T = some e9.g) {p : PolR} (ok : PolOk p) (H : Heap) : callL (ctx T) (.fn 9) [polA p] H = some (checkV p, H) :=
  mkE_scalar hT inj_pol1 p ok rfl (by simp [thawA_pol])
noncomputable def e12 : Entry Tryd.prog := mkE 12 [[]] (fun x : Str => [.str x]) (fun x => x.length ≤ 1000000) (fun x => .bool (inW lkAttr x)) fun x h => c12 (T := [i32]) rfl x h
theorem k12 {T : List (Entry Tryd.prog)} (hT : findE 12 T = some e12.g) {s : Str} (hs : s.length ≤ 1000000) (H : Heap) : callL (ctx T) (.fn 12) [.str s] H = some (.bool (inW lkAttr s), H) :=
  mkE_scalar hT inj_str s hs rfl (by simp)
noncomputable def e4 : Entry Tryd.prog := mkE 4 [[]] (fun x : PolR => [polA x]) (fun _ => True) (fun x => .bool (plainP x)) fun x _ => c4 (T := [e17]) rfl x
theorem k4 {T : List (Entry Tryd.prog)} (hT : findE 4 T = some e4.g) (p : PolR) (H : Heap) : callL (ctx T) (.fn 4) [polA p] H = some (.bool (plainP p), H) :=
  mkE_scalar hT inj_pol1 p trivial rfl (by simp [thawA_pol])
noncomputable def e14 : Entry Tryd.prog := mkE 14 [[], []] (fun _ : Unit => [polU [117, 99], polU [117, 99]]) (fun _ => True) (fun _ => .bool true) fun _ _ => c14u (T := [])
theorem thawA_polU {H : Heap} {ss : List Nat} (s : Str) : thawA H ss (polU s) = some (polU s) := thawA_ok (by simp [polU, strsOf, okV, pureL, pureV])
theorem k14u {T : List (Entry Tryd.prog)} (hT : findE 14 T = some e14.g) (H : Heap) : callL (ctx T) (.fn 14) [polU [117, 99], polU [117, 99]] H = some (.bool true, H) :=
  mkE_scalar hT (fun _ _ _ => rfl) () trivial rfl (by simp [thawA_polU])
theorem c3 {T : List (Entry Tryd.prog)} (hA : findE 5 T = some e5.g) (h1 : findE 4 T = some e4.g) (h2 : findE 6 T = some e6.g) (h3 : findE 7 T = some e7.g)
    (h4 : findE 8 T = some e8.g) (h5 : findE 9 T = some e9.g) (h6 : findE 10 T = some e10.g) (h7 : findE 11 T = some e11.g) (h8 : findE 12 T = some e12.g) (h9 : findE 13 T = some e13.g)
    (h10 : findE 15 T = some e15.g) (h11 : findE 16 T = some e16.g) (h12 : findE 14 T = some e14.g) (p : PolR) (space : Int) (name : Str) :
    CallAt (ctx T) 3 [polA p, .int .i64 space, .str name] ⟨0, []⟩ (.bool true) ⟨0, []⟩ := by
  have ka := fun H => k5 hA H
  have kp := fun H => k4 h1 p H
  have hsub : subL 0 11 (polC p) = some (polC p) := rfl
  have hsg : allSingle (polC p) = true := by simp [polC, allSingle, AV.single]
  have pA : AV.agg (polC p) = polA p := rfl
  have rd : ∀ n, readVar Tryd.prog ⟨n, [[(0, .cells (polC p))]]⟩ 24 (.ptr 0 0) = some (polA p) := fun n => by simp [readCells, Heap.get, getFs, getF, hsub, polA]
  by_cases hx : plainP p = true ∧ name.length ≤ 60
  · obtain ⟨hpl, hnl⟩ := hx
    have ok := plain_ok hpl
    have hn : ¬ (60 : Int) < (name.length : Int) := by omega
    have ks1 := fun H => k6 h2 name H
    have ks2 := fun H => k7 h3 name H
    have kc1 := fun H => k8 h4 ok H
    have kc2 := fun H => k9 h5 ok H
    have kk1 := fun H => k10 h6 space (name := name) (by omega) H
    have kk2 := fun H => k11 h7 space (name := name) (by omega) H
    have kt1 := fun H => k12 h8 (s := name) (by omega) H
    have kt2 := fun H => k13 h9 name H
    have ku1 := fun H => k15 h10 H
    have ku2 := fun H => k16 h11 H
    have ksm := fun H => k14u h12 H
    rw [hpl] at kp
    simp only [splitA] at ks1 ks2
    generalize splitV name = d at *
    generalize keyV space name = kv at *
    generalize inW lkAttr name = av at *
    generalize polU [117, 99] = U at *
    obtain ⟨n, hck⟩ : ∃ n : Int, checkV p = .int .i64 n := ⟨_, rfl⟩
    rw [hck] at kc1 kc2
    have rd' := rd
    rw [← pA]
    refine callAt_body (fn := Tryd.f3) (s0 := ⟨[0, 1, 2, 3, 6, 7, 8, 9, 10], [.agg (polC p), .int .i64 space, .str name, .undef, .undef, .undef, .undef, .undef, .undef], [], 69, ⟨0, [[]]⟩⟩) Tryd.func3 rfl rfl rfl ?_
    repeat refine wps_seq ?_
    refine wps_region callOK ?_
    simp [zS, hsg]
    repeat refine wps_seq ?_
    refine wps_region callOK ?_
    simp [zS, rd, kp, hn]
    repeat refine wps_seq ?_
    refine wps_cond (t := false) rfl (fun h => by cases h) fun _ => ?_
    repeat refine wps_seq ?_
    refine wps_skip ?_
    simp
    repeat refine wps_seq ?_
    refine wps_region callOK ?_
    simp [zS, ks1]
    repeat refine wps_seq ?_
    refine wps_region callOK ?_
    simp [zS, ks2]
    repeat refine wps_seq ?_
    refine wps_drawK mixed callOK (by decide +kernel) (by decide +kernel) ?_
    simp [zS, evalK_c, evalK_nil, thenK_some, rd, kc1, kc2, kk1, kk2, kt1, kt2, ku1, ku2, ksm, ka]
    repeat refine wps_seq ?_
    refine wps_ret ?_
    simp [retVal, Tryd.f3, oneOr, thenQ, blockQ]
    exact ends_pure rfl (by rfl)
  · by_cases hp1 : plainP p = true
    · have hn : (60 : Int) < (name.length : Int) := by
        have : ¬ name.length ≤ 60 := fun e => hx ⟨hp1, e⟩
        omega
      rw [hp1] at kp
      rw [← pA]
      refine callAt_body (fn := Tryd.f3) (s0 := ⟨[0, 1, 2, 3, 6, 7, 8, 9, 10], [.agg (polC p), .int .i64 space, .str name, .undef, .undef, .undef, .undef, .undef, .undef], [], 69, ⟨0, [[]]⟩⟩) Tryd.func3 rfl rfl rfl ?_
      repeat refine wps_seq ?_
      refine wps_region callOK ?_
      simp [zS, hsg]
      repeat refine wps_seq ?_
      refine wps_region callOK ?_
      simp [zS, rd, kp, hn]
      repeat refine wps_seq ?_
      refine wps_cond (t := true) rfl (fun _ => ?_) fun h => by cases h
      repeat refine wps_seq ?_
      refine wps_region callOK ?_
      simp [zS, ka]
      repeat refine wps_seq ?_
      refine wps_ret ?_
      simp [retVal, Tryd.f3, oneOr, thenQ, blockQ]
      exact ends_pure rfl (by rfl)
    · have hp2 : plainP p = false := by simpa using hp1
      rw [hp2] at kp
      rw [← pA]
      refine callAt_body (fn := Tryd.f3) (s0 := ⟨[0, 1, 2, 3, 6, 7, 8, 9, 10], [.agg (polC p), .int .i64 space, .str name, .undef, .undef, .undef, .undef, .undef, .undef], [], 69, ⟨0, [[]]⟩⟩) Tryd.func3 rfl rfl rfl ?_
      repeat refine wps_seq ?_
      refine wps_region callOK ?_
      simp [zS, hsg]
      repeat refine wps_seq ?_
      refine wps_region callOK ?_
      simp [zS, rd, kp]
      repeat refine wps_seq ?_
      refine wps_cond (t := true) rfl (fun _ => ?_) fun h => by cases h
      repeat refine wps_seq ?_
      refine wps_region callOK ?_
      simp [zS, ka]
      repeat refine wps_seq ?_
      refine wps_ret ?_
      simp [retVal, Tryd.f3, oneOr, thenQ, blockQ]
      exact ends_pure rfl (by rfl)
end Go.Proofs.YtnnjamopknlnbaaDoor
