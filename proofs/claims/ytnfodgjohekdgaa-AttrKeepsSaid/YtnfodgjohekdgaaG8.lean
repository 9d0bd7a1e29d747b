/- What is dropped. No condition. -/
import Derived.Test.YtnfodgjohekdgaaG7
namespace Go.Proofs.Ytnfodgjohekdgaa
set_option linter.unusedSimpArgs false
set_option linter.unusedVariables false
open Go Go.RowKit
set_option maxRecDepth 100000

def dropL (nm : Str) (L : List At1) : List At1 := L.filter fun a => !decide (a.1 = nm)
theorem take_succ' {α : Type} {L : List α} {i : Nat} (h : i < L.length) : L.take (i + 1) = L.take i ++ [L[i]] := by simp
theorem c18 {T : List (Entry Try.prog)} (L : List At1) (nm : Str) (hl : L.length ≤ 900) : CallAt (ctx T) 18 [aAttrs L, .str nm] ⟨0, []⟩ (.fslc 2 ((dropL nm L).map aAttr)) ⟨0, []⟩ := by
  refine callAt_body (fn := Try.f18) (s0 := ⟨[0, 1, 4, 5, 6], [aAttrs L, .str nm, .undef, .undef, .undef], [], 28, ⟨0, [[]]⟩⟩) Try.func18 rfl rfl rfl ?_
  repeat refine wps_seq ?_
  refine wps_region callOK ?_
  simp [ofV, ofV1, mkC_P, writeVar, writeCells, readCells, allSingle, AV.single, getFs, getF, setFs, setF, Heap.get, Heap.set, Heap.new, Heap.kill, killF, pushF, Heap.ready, refs, sliceParts, fillA, replL]
  repeat refine wps_seq ?_
  refine wps_region callOK ?_
  simp [ofV, ofV1, mkC_P, writeVar, writeCells, readCells, allSingle, AV.single, getFs, getF, setFs, setF, Heap.get, Heap.set, Heap.new, Heap.kill, killF, pushF, Heap.ready, refs, sliceParts, fillA, replL]
  repeat refine wps_seq ?_
  refine wps_region callOK ?_
  simp [ofV, ofV1, mkC_P, writeVar, writeCells, readCells, allSingle, AV.single, getFs, getF, setFs, setF, Heap.get, Heap.set, Heap.new, Heap.kill, killF, pushF, Heap.ready, refs, sliceParts, fillA, replL]
  repeat refine wps_seq ?_
  refine wps_block (wps_loop' (fun i : Nat => (⟨[0, 1, 4, 5, 6], [aAttrs L, .str nm, .undef, ownV 0 2 ((dropL nm (L.take i)).map aAttr), .int .i64 i], [], 28, ⟨1, [ownF 0 ((dropL nm (L.take i)).map aAttr)]⟩⟩ : St))
    (fun i => i ≤ L.length) (fun i => L.length - i) [] [] 0 (Nat.zero_le _)
    ⟨rfl, rfl, rfl, by simp [fitL, fitV, pureV, dropL, ownV], .keep0 (by simp [dropL, ownF])⟩ ?_)
  rintro i hi B hB
  repeat refine wps_seq ?_
  refine wps_region callOK ?_
  simp [ofV, ofV1, mkC_P, writeVar, writeCells, readCells, allSingle, AV.single, getFs, getF, setFs, setF, Heap.get, Heap.set, Heap.new, Heap.kill, killF, pushF, Heap.ready, refs, sliceParts, fillA, replL, len22]
  repeat refine wps_seq ?_
  refine wps_cond rfl (fun h => ?_) fun h => ?_
  · simp at h
    repeat refine wps_seq ?_
    refine wps_skip ?_
    simp
    repeat refine wps_seq ?_
    refine wps_block ?_
    repeat refine wps_seq ?_
    refine wps_region callOK ?_
    simp [ofV, ofV1, mkC_P, writeVar, writeCells, readCells, allSingle, AV.single, getFs, getF, setFs, setF, Heap.get, Heap.set, Heap.new, Heap.kill, killF, pushF, Heap.ready, refs, sliceParts, fillA, replL, at22 h]
    have hd : dropL nm (L.take (i + 1)) = dropL nm (L.take i) ++ (if L[i].1 = nm then [] else [L[i]]) := by
      rw [take_succ' h]
      simp only [dropL, List.filter_append]
      congr 1
      by_cases e : L[i].1 = nm <;> simp [e]
    have hlen : (dropL nm (L.take i)).length ≤ 1000 := by
      have := List.length_filter_le (fun a : At1 => !decide (a.1 = nm)) (L.take i)
      simp only [dropL]
      simp at this ⊢
      omega
    repeat refine wps_seq ?_
    refine wps_cond rfl (fun h2 => ?_) fun h2 => ?_
    · simp at h2
      simp only [h2, if_false] at hd
      have happ := own_app1 (P := Try.prog) (elem := 24) (b := 0) (t := 1) (m := 2) (es := (dropL nm (L.take i)).map aAttr) (cs := [.str L[i].1, .str L[i].2]) (g := []) (fs := []) szT24 byT24 zeT24 rfl (by omega) (by omega) rfl rfl (el_attr _) (by simp; omega) (by omega) (by simp) (by simp)
      rw [List.append_nil] at happ
      repeat refine wps_seq ?_
      refine wps_region callOK ?_
      simp [ofV, ofV1, mkC_P, writeVar, writeCells, readCells, allSingle, AV.single, getFs, getF, setFs, setF, Heap.get, Heap.set, Heap.new, Heap.kill, killF, pushF, Heap.ready, refs, sliceParts, fillA, replL, at22 h, rd24, happ]
      repeat refine wps_seq ?_
      refine wps_region callOK ?_
      simp [ofV, ofV1, mkC_P, writeVar, writeCells, readCells, allSingle, AV.single, getFs, getF, setFs, setF, Heap.get, Heap.set, Heap.new, Heap.kill, killF, pushF, Heap.ready, refs, sliceParts, fillA, replL, add_one (show i ≤ 1000000000 by omega)]
      have hne : (dropL nm (L.take (i + 1))).map aAttr ≠ [] := by rw [hd]; simp
      refine hB _ (i + 1) (by omega) (by omega) ⟨[(2, 0)], [], rfl, rfl, rfl, ?_, .grown (el_attr _) hne ?_⟩
      · rw [ownV_ne hne, hd]; simp [fitL, fitV, lookN, pureV]
      · rw [hd, List.map_append, flat_append]; simp [Heap.get, getFs, getF, flatAV]
    · simp at h2
      simp only [h2, if_true, List.append_nil] at hd
      repeat refine wps_seq ?_
      refine wps_skip ?_
      simp
      repeat refine wps_seq ?_
      refine wps_region callOK ?_
      simp [ofV, ofV1, mkC_P, writeVar, writeCells, readCells, allSingle, AV.single, getFs, getF, setFs, setF, Heap.get, Heap.set, Heap.new, Heap.kill, killF, pushF, Heap.ready, refs, sliceParts, fillA, replL, add_one (show i ≤ 1000000000 by omega)]
      refine hB _ (i + 1) (by omega) (by omega) ⟨[(0, 0)], [], rfl, rfl, rfl, ?_, ?_⟩
      · rw [hd]; simp [fitL, fitV, lookN, fitV_own, pureV]
      · rw [hd]
        refine .same (by simp) (by simp) (by simp) (by simp) ?_ ?_
        · cases (dropL nm (L.take i)).map aAttr <;> simp [Heap.ents, ownF]
        · cases he : (dropL nm (L.take i)).map aAttr with
          | nil => intro e he; simp [Heap.ents, ownF] at he
          | cons x r =>
            intro e hx
            simp [Heap.ents, ownF] at hx
            subst hx
            exact ⟨by simp, by simp [ownF, Heap.get, getFs, getF], fitL_pure (by rw [← he]; exact (el_attr _).pure)⟩
  · simp at h
    repeat refine wps_seq ?_
    refine wps_exit ?_
    simp
    repeat refine wps_seq ?_
    refine wps_region callOK ?_
    simp [ofV, ofV1, mkC_P, writeVar, writeCells, readCells, allSingle, AV.single, getFs, getF, setFs, setF, Heap.get, Heap.set, Heap.new, Heap.kill, killF, pushF, Heap.ready, refs, sliceParts, fillA, replL]
    repeat refine wps_seq ?_
    refine wps_ret ?_
    simp [retVal, Try.f18, oneOr]
    rw [List.take_of_length_le h]
    refine ends_ownV (b := 0) (el_attr _) fun hne => ?_
    rw [ownF_ne hne]; simp [Heap.get, getFs, getF]
end Go.Proofs.Ytnfodgjohekdgaa
