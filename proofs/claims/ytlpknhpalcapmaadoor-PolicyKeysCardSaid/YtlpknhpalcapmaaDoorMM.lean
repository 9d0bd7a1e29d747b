/- PolicyKeys's walk. No condition. -/
import Derived.Test.YtlpknhpalcapmaaDoorMI
import Derived.Test.YtlpknhpalcapmaaDoorML
namespace Go.Proofs.YtlpknhpalcapmaaDoor
set_option linter.unusedSimpArgs false
set_option linter.unusedVariables false
open Go Go.RowKit
set_option maxRecDepth 100000

theorem html_plain : ((wsplit lkHtml).all fun x => !begB x pSvg && !begB x pMath) = true := by decide +kernel
theorem key_elem {space : Int} {name : Str} (h : knownB space name = true) : keyV space name ∈ elemsU := by
  unfold knownB at h
  unfold keyV elemsU
  split at h
  · rename_i h0
    rw [if_pos h0]
    have hm : name ∈ wsplit lkHtml := by simpa [inW] using h
    exact List.mem_append_left _ hm
  · rename_i h0
    rw [if_neg h0]
    split at h
    · rename_i h1
      rw [if_pos h1]
      have hm : name ∈ wsplit lkSvg := by simpa [inW] using h
      exact List.mem_append_right _ (List.mem_append_left _ (List.mem_map.2 ⟨name, hm, rfl⟩))
    · rename_i h1
      rw [if_neg h1]
      split at h
      · rename_i h2
        rw [if_pos h2]
        have hm : name ∈ wsplit lkMath := by simpa [inW] using h
        exact List.mem_append_right _ (List.mem_append_right _ (List.mem_map.2 ⟨name, hm, rfl⟩))
      · cases h
theorem key_split {space : Int} {name : Str} (h : knownB space name = true) : splitV (keyV space name) = (space, name) := by
  unfold knownB at h
  split at h
  · rename_i h0
    have hm : name ∈ wsplit lkHtml := by simpa [inW] using h
    have hp := List.all_eq_true.1 html_plain name hm
    simp only [Bool.and_eq_true, Bool.not_eq_true'] at hp
    simp [keyV, h0, splitV, hp.1, hp.2]
  · rename_i h0
    split at h
    · rename_i h1
      have e : begB (pSvg ++ name) pSvg = true := by simp [begB]
      have ek : keyV space name = pSvg ++ name := by simp [keyV, h1]
      rw [ek]
      unfold splitV
      rw [if_pos e, h1]
      rfl
    · rename_i h1
      split at h
      · rename_i h2
        have e1 : begB (pMath ++ name) pSvg = false := by simp [begB]
        have e2 : begB (pMath ++ name) pMath = true := by simp [begB]
        have ek : keyV space name = pMath ++ name := by simp [keyV, h2]
        rw [ek]
        unfold splitV
        rw [if_neg (by rw [e1]; decide), if_pos e2, h2]
        rfl
      · cases h
end Go.Proofs.YtlpknhpalcapmaaDoor
namespace Go.Proofs.YtlpknhpalcapmaaDoor
set_option linter.unusedSimpArgs false
set_option linter.unusedVariables false
open Go Go.RowKit
set_option maxRecDepth 100000

theorem elems_few : elemsU.length ≤ 1000 := by decide +kernel
theorem pol_elems {s : Str} : getL [AV.str s, strsOf [wConfig, wAdmin, wLocation], strsOf elemsU, strsOf (wsplit lkAttr), strsOf [wHttp, wHttps, wMailto], .int .i64 65536, .int .i64 4096, .int .i64 256, .int .i64 50, .int .i64 3, .bool false] 2 = some (aStrs elemsU) := rfl
theorem c3 {T : List (Entry Tryd.prog)} (hA : findE 4 T = some e4.g) (hK : findE 5 T = some e5.g) (hY : findE 7 T = some e7.g) (hS : findE 6 T = some e6.g) (hU : findE 8 T = some e8.g) (space : Int) (name : Str) :
    CallAt (ctx T) 3 [.int .i64 space, .str name] ⟨0, []⟩ (.bool true) ⟨0, []⟩ := by
  have ka := fun H => k4 hA H
  have kk := fun H => k5 hK space name H
  by_cases hx : (60 : Int) < (name.length : Int)
  · refine callAt_body (fn := Tryd.f3) (s0 := ⟨[0, 1, 4, 5, 6, 8, 26, 27, 28], [.int .i64 space, .str name, .undef, .undef, .undef, .undef, .undef, .undef, .undef], [], 49, ⟨0, [[]]⟩⟩) Tryd.func3 rfl rfl rfl ?_
    (repeat (first
      | (refine wps_seq ?_)
      | (refine wps_block ?_)
      | (refine wps_label ?_; simp only [thenQ, blockQ])
      | ((refine wps_region callOK ?_); simp [zS, hx, ka])
      | (refine wps_cond (t := true) rfl (fun _ => ?_) (fun h => by cases h))
      | (refine wps_cond (t := false) rfl (fun h => by cases h) (fun _ => ?_))
      | ((refine wps_skip ?_); simp only [thenQ, blockQ])
      | ((refine wps_exit ?_); simp [thenQ, blockQ])))
    repeat refine wps_seq ?_
    refine wps_ret ?_
    simp [retVal, Tryd.f3, oneOr, thenQ, blockQ]
    exact ends_pure rfl (by rfl)
  cases hb : knownB space name with
  | false =>
    rw [hb] at kk
    refine callAt_body (fn := Tryd.f3) (s0 := ⟨[0, 1, 4, 5, 6, 8, 26, 27, 28], [.int .i64 space, .str name, .undef, .undef, .undef, .undef, .undef, .undef, .undef], [], 49, ⟨0, [[]]⟩⟩) Tryd.func3 rfl rfl rfl ?_
    (repeat (first
      | (refine wps_seq ?_)
      | (refine wps_block ?_)
      | (refine wps_label ?_; simp only [thenQ, blockQ])
      | ((refine wps_region callOK ?_); simp [zS, hx, kk, ka])
      | (refine wps_cond (t := true) rfl (fun _ => ?_) (fun h => by cases h))
      | (refine wps_cond (t := false) rfl (fun h => by cases h) (fun _ => ?_))
      | ((refine wps_skip ?_); simp only [thenQ, blockQ])
      | ((refine wps_exit ?_); simp [thenQ, blockQ])))
    repeat refine wps_seq ?_
    refine wps_ret ?_
    simp [retVal, Tryd.f3, oneOr, thenQ, blockQ]
    exact ends_pure rfl (by rfl)
  | true =>
    rw [hb] at kk
    have ky := fun H => k7 hY space (name := name) (by omega) H
    have ks := fun H => k6 hS (keyV space name) H
    rw [key_split hb] at ks
    have hin := key_elem hb
    have ku := fun H => k8 hU H
    have hel := elems_few
    simp only [polU] at ku
    have hg := pol_elems (s := [117, 99])
    obtain ⟨P, hP⟩ : ∃ P, P = [AV.str [117, 99], strsOf [wConfig, wAdmin, wLocation], strsOf elemsU, strsOf (wsplit lkAttr), strsOf [wHttp, wHttps, wMailto], .int .i64 65536, .int .i64 4096, .int .i64 256, .int .i64 50, .int .i64 3, .bool false] := ⟨_, rfl⟩
    rw [← hP] at ku hg
    generalize elemsU = E at *
    generalize keyV space name = key at *
    refine callAt_body (fn := Tryd.f3) (s0 := ⟨[0, 1, 4, 5, 6, 8, 26, 27, 28], [.int .i64 space, .str name, .undef, .undef, .undef, .undef, .undef, .undef, .undef], [], 49, ⟨0, [[]]⟩⟩) Tryd.func3 rfl rfl rfl ?_
    repeat refine wps_seq ?_
    refine wps_region callOK ?_
    simp [zS]
    repeat refine wps_seq ?_
    refine wps_region callOK ?_
    simp [zS, hx]
    repeat refine wps_seq ?_
    refine wps_cond (t := false) rfl (fun h => by cases h) fun _ => ?_
    repeat refine wps_seq ?_
    refine wps_skip ?_
    simp
    repeat refine wps_seq ?_
    refine wps_region callOK ?_
    simp [zS, kk]
    repeat refine wps_seq ?_
    refine wps_cond (t := false) rfl (fun h => by cases h) fun _ => ?_
    repeat refine wps_seq ?_
    refine wps_skip ?_
    simp
    repeat refine wps_seq ?_
    refine wps_region callOK ?_
    simp [zS, ky, ks, splitA]
    repeat refine wps_seq ?_
    refine wps_region callOK ?_
    simp [zS, ku, hg, lenS]
    repeat refine wps_seq ?_
    refine wps_block (wps_loop' (fun i : Nat => (⟨[0, 1, 4, 5, 6, 8, 26, 27, 28], [.int .i64 space, .str name, .undef, .int .i64 space, .str name, .undef, aStrs E, .int .i64 (E.length : Nat), .int .i64 i], [], 49, ⟨0, [[]]⟩⟩ : St))
      (fun i => i ≤ E.length ∧ ∀ s, s ∈ E.take i → s ≠ key) (fun i => E.length - i) [] [] 0 ⟨Nat.zero_le _, by simp⟩ ⟨rfl, rfl, rfl, by simp [fitL, fitV, pureV, pureL], FitH.nothing⟩ ?_)
    rintro i ⟨hi, hno⟩ B hB
    repeat refine wps_seq ?_
    refine wps_region callOK ?_
    simp [zS]
    repeat refine wps_seq ?_
    refine wps_cond rfl (fun h => ?_) fun h => ?_
    · simp at h
      repeat refine wps_seq ?_
      refine wps_skip ?_
      simp
      repeat refine wps_seq ?_
      refine wps_block ?_
      repeat refine wps_seq ?_
      refine wps_region callOK ?_
      simp [zS, atS h]
      by_cases he : E[i] = key
      · repeat refine wps_seq ?_
        refine wps_region callOK ?_
        simp [zS, ky, he]
        repeat refine wps_seq ?_
        refine wps_cond (t := true) rfl (fun _ => ?_) fun h => by cases h
        repeat refine wps_seq ?_
        refine wps_region callOK ?_
        simp [zS, ka]
        repeat refine wps_seq ?_
        refine wps_ret ?_
        simp [retVal, Tryd.f3, oneOr, thenQ, blockQ]
        exact ends_pure rfl (by rfl)
      · repeat refine wps_seq ?_
        refine wps_region callOK ?_
        simp [zS, ky, he]
        repeat refine wps_seq ?_
        refine wps_cond (t := false) rfl (fun h => by cases h) fun _ => ?_
        repeat refine wps_seq ?_
        refine wps_skip ?_
        simp
        repeat refine wps_seq ?_
        refine wps_region callOK ?_
        simp [zS, add_one (show i ≤ 1000000000 by omega)]
        refine hB _ (i + 1) (by omega) ⟨by omega, fun s hs => ?_⟩ ⟨[], [], ⟨rfl, rfl, rfl, by simp [fitL, fitV, pureV, pureL], FitH.nothing⟩⟩
        rw [List.take_succ_eq_append_getElem h, List.mem_append, List.mem_singleton] at hs
        rcases hs with hs | rfl
        · exact hno s hs
        · exact he
    · simp at h
      rw [List.take_of_length_le h] at hno
      exact absurd rfl (hno key hin)
end Go.Proofs.YtlpknhpalcapmaaDoor
