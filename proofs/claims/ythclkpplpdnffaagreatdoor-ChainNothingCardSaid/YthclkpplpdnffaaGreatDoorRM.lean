/- The form of each node: what the program's reckoning comes to. Plain Lean. No condition. -/
import Derived.Test.YthclkpplpdnffaaGreatDoorRK
import Derived.Test.YthclkpplpdnffaaGreatDoorRL
import Derived.Test.YthclkpplpdnffaaGreatDoorRH
import Derived.Shelf.Strconv.AtoiAll
import Derived.Test.YthclkpplpdnffaaGreatDoorProg
namespace Go.Proofs.YthclkpplpdnffaaGreatDoor
set_option linter.unusedSimpArgs false
set_option linter.unusedVariables false
open Go Go.RowKit
set_option maxRecDepth 100000
theorem ReachW.inv {n : Nat} {ks : Nat → List Int} {J : CfgW → Prop} (hs : ∀ c d, stpW n ks c = some d → J c → J d) {c d : CfgW} (h : ReachW n ks c d) (hc : J c) : J d := by
  induction h with
  | refl => exact hc
  | step h _ ih => exact ih (hs _ _ h hc)
structure JW (n : Nat) (c : CfgW) : Prop where
  k : WokW n c.1.length c.2
  p : ∀ e, e ∈ c.1 → e.1 < n
  q : ∀ e, e ∈ c.1 → 0 ≤ c.2.inn.getD e.1 0
  i : ∀ j, -1 ≤ c.2.inn.getD j 0 ∧ c.2.inn.getD j 0 ≤ 2 * n
  o : ∀ j, -1 ≤ c.2.out.getD j 0 ∧ c.2.out.getD j 0 ≤ 2 * n
theorem JW.step {n : Nat} {ks : Nat → List Int} {c d : CfgW} (h : stpW n ks c = some d) (j : JW n c) : JW n d := by
  obtain ⟨p, w⟩ := c
  cases p with
  | nil => cases h
  | cons e p =>
    obtain ⟨i, m⟩ := e
    have hc := j.k.cu
    have hc1 := j.k.c1
    simp only [List.length_cons] at hc
    simp only at hc1
    simp only [stpW] at h
    split at h
    · simp only [Option.some.injEq] at h
      subst h
      refine ⟨j.k.outof (j.q (i, m) (by simp)), fun e he => j.p e (by simp [he]), fun e he => j.q e (by simp [he]), j.i, fun k => ?_⟩
      simp only [outof, getD_set]
      split
      · constructor <;> omega
      · exact j.o k
    · rename_i k hk
      split at h
      · rename_i hx
        simp only [Option.some.injEq] at h
        subst h
        have hkn : k.toNat < n := by omega
        refine ⟨by have := (j.k.into hkn hx.2.2).1; simpa using this, fun e he => ?_, fun e he => ?_, fun l => ?_, j.o⟩
        · simp only [List.mem_cons] at he
          rcases he with rfl | rfl | he
          · exact hkn
          · exact j.p (i, m) (by simp)
          · exact j.p e (by simp [he])
        · simp only [into, getD_set]
          split
          · omega
          · rename_i hne
            simp only [List.mem_cons] at he
            rcases he with rfl | rfl | he
            · exact absurd ⟨rfl, by rw [j.k.li]; exact hkn⟩ hne
            · exact j.q (i, m) (by simp)
            · exact j.q e (by simp [he])
        · simp only [into, getD_set]
          split
          · constructor <;> omega
          · exact j.i l
      · simp only [Option.some.injEq] at h
        subst h
        refine ⟨j.k, fun e he => ?_, fun e he => ?_, j.i, j.o⟩
        · simp only [List.mem_cons] at he
          rcases he with rfl | he
          · exact j.p (i, m) (by simp)
          · exact j.p e (by simp [he])
        · simp only [List.mem_cons] at he
          rcases he with rfl | he
          · exact j.q (i, m) (by simp)
          · exact j.q e (by simp [he])
theorem getD_rep {n j : Nat} : (List.replicate n (-1 : Int)).getD j 0 = -1 ∨ (List.replicate n (-1 : Int)).getD j 0 = 0 := by
  by_cases h : j < n
  · left; simp [List.getD_eq_getElem?_getD, h]
  · right; simp [List.getD_eq_getElem?_getD, h]
theorem jw_start {n : Nat} (hn : 0 < n) : JW n ([(0, 0)], into 0 (w0 n)) := by
  refine ⟨wokW0 hn, by simpa using hn, by simp [into, w0, List.getD_eq_getElem?_getD, hn], fun j => ?_, fun j => ?_⟩
  · show -1 ≤ ((List.replicate n (-1 : Int)).set 0 0).getD j 0 ∧ ((List.replicate n (-1 : Int)).set 0 0).getD j 0 ≤ 2 * n
    rw [getD_set]
    split
    · omega
    · rcases getD_rep (n := n) (j := j) with h | h <;> rw [h] <;> omega
  · show -1 ≤ (List.replicate n (-1 : Int)).getD j 0 ∧ (List.replicate n (-1 : Int)).getD j 0 ≤ 2 * n
    rcases getD_rep (n := n) (j := j) with h | h <;> rw [h] <;> omega
theorem jw_end {n : Nat} {ks : Nat → List Int} (hn : 0 < n) : JW n ([], wkOf n ks) := by
  have h := reachW_vis (K := n) (ks := ks) n [] 0 (w0 n) (w0_ok n) hn (by simp [w0, List.getD_eq_getElem?_getD, hn]) (by simp [w0, negs_rep])
  rw [wkOf, if_neg (by omega)]
  exact h.inv (J := JW n) (fun _ _ a b => b.step a) (jw_start hn)
def mkW (w : Wk) (j : Nat) : Int × Int := (w.inn.getD j 0, w.out.getD j 0)
theorem okM_wk {n : Nat} {ks : Nat → List Int} (hn : 0 < n) (hm : n ≤ 50) (j : Nat) : okM (mkW (wkOf n ks) j) := by
  have h := jw_end (ks := ks) hn
  have h1 := h.i j
  have h2 := h.o j
  simp only at h1 h2
  exact ⟨⟨h1.1, by have := h1.2; simp only [mkW]; omega⟩, ⟨h2.1, by have := h2.2; simp only [mkW]; omega⟩⟩
theorem atC {w : Wk} {n i : Nat} (h1 : w.inn.length = n) (h2 : w.out.length = n) (hi : i < n) : indexAddrA Tryz.prog 102 (.fslc 1 (cxs w)) (.int .i64 (i : Int)) = some (.fptr [cx (mkW w i)] 0) := by
  have hs : sizeT Tryz.prog 105 = some 1 := by kernel_rfl
  have hg := get_cxs h1 h2 hi
  have e : cx (mkW w i) = .cplx .f64 (fl (w.inn[i]'(by omega))) (fl (w.out[i]'(by omega))) := by
    simp [mkW, cx, List.getD_eq_getElem?_getD, h1, h2, hi]
  rw [← e] at hg
  have hl : (cxs w).length = n := len_cxs h1 h2
  simp [indexAddrA, Tryz.underlying102, hs, idx_nat (show i < (cxs w).length by omega), hg, cx, AV.cells]
def insW (w : Wk) (a b : Int) : Bool := insB (mkW w a.toNat) (mkW w b.toNat)
def popW (w : Wk) (i : Int) : List Int → List Int
  | [] => []
  | f :: r => match popW w i r with
    | [] => if insW w i f = true then [f] else []
    | g :: s => f :: g :: s
theorem popW_last (w : Wk) (i : Int) : ∀ (S : List Int) (f : Int), popW w i (S ++ [f]) = if insW w i f = true then S ++ [f] else popW w i S
  | [], f => by simp [popW]
  | g :: S, f => by
    have h := popW_last w i S f
    simp only [List.cons_append, popW, h]
    by_cases hf : insW w i f = true
    · simp only [hf, if_true]
      cases S <;> rfl
    · simp only [hf, Bool.false_eq_true, if_false]
def isForm (t : Tr) (i : Int) : Bool := htmlB (nodeAt t i) lsForm
def isListed (t : Tr) (i : Int) : Bool := htmlB (nodeAt t i) lsListed
def isImg (t : Tr) (i : Int) : Bool := htmlB (nodeAt t i) lsImg
def ofOut (t : Tr) (i : Int) (S : List Int) (out : List Int) : List Int := if isImg t i || isListed t i then (match S.getLast? with
  | none => out
  | some f => out.set i.toNat f) else out
def ofPush (t : Tr) (i : Int) (S : List Int) : List Int := if isForm t i then S ++ [i] else S
def ofLoop (t : Tr) (w : Wk) : List Int → List Int → List Int → List Int
  | [], S, out => out
  | i :: r, S, out => ofLoop t w r (ofPush t i (popW w i S)) (ofOut t i (popW w i S) out)
abbrev wFormA : Str := [102, 111, 114, 109]
def ofAttr (t : Tr) (i : Nat) (out : List Int) : List Int := match getAt wFormA (nodeAt t i).attrs with
  | none => out
  | some v => if isListed t i then out.set i (if isForm t (firstId t v) then firstId t v else 0) else out
def ofAttrs (t : Tr) : List Nat → List Int → List Int
  | [], out => out
  | i :: r, out => ofAttrs t r (ofAttr t i out)
def ofL (t : Tr) : List Int := ofAttrs t (List.range t.length) (ofLoop t (wkOf t.length (kidsOf t)) (orderOf t.length (kidsOf t)) [] (List.replicate t.length 0))
theorem ofOut_len {t : Tr} {i : Int} {S out : List Int} : (ofOut t i S out).length = out.length := by
  unfold ofOut
  split
  · split <;> simp
  · rfl
theorem ofLoop_len {t : Tr} {w : Wk} : ∀ (L S out : List Int), (ofLoop t w L S out).length = out.length
  | [], _, _ => rfl
  | i :: r, S, out => by simp only [ofLoop, ofLoop_len r, ofOut_len]
theorem ofAttr_len {t : Tr} {i : Nat} {out : List Int} : (ofAttr t i out).length = out.length := by
  unfold ofAttr
  split
  · rfl
  · split <;> simp
theorem ofAttrs_len {t : Tr} : ∀ (L : List Nat) (out : List Int), (ofAttrs t L out).length = out.length
  | [], _ => rfl
  | i :: r, out => by simp only [ofAttrs, ofAttrs_len r, ofAttr_len]
theorem ofL_len (t : Tr) : (ofL t).length = t.length := by simp only [ofL, ofAttrs_len, ofLoop_len, List.length_replicate]
theorem popW_mem {w : Wk} {i : Int} : ∀ {S : List Int} {x : Int}, x ∈ popW w i S → x ∈ S
  | f :: r, x, h => by
    unfold popW at h
    cases hp : popW w i r with
    | nil =>
      rw [hp] at h
      simp only at h
      split at h
      · simp at h; simp [h]
      · cases h
    | cons g s =>
      rw [hp] at h
      rcases List.mem_cons.1 h with rfl | h
      · simp
      · exact List.mem_cons_of_mem _ (popW_mem (by rw [hp]; exact h))
  | [], x, h => by cases h
theorem popW_len {w : Wk} {i : Int} : ∀ {S : List Int}, (popW w i S).length ≤ S.length
  | [] => Nat.le_refl _
  | f :: r => by
    unfold popW
    have := popW_len (w := w) (i := i) (S := r)
    cases hp : popW w i r with
    | nil => simp only; split <;> simp
    | cons g s => rw [hp] at this; simp only [List.length_cons] at this ⊢; omega
def skV : Option (List Int) → AV
  | none => .nilS
  | some S => .slc 3 0 S.length (.rest 1)
def skB : Option (List Int) → List (Nat × Blk)
  | none => []
  | some S => [(3, .cells (ints S))]
def skL (o : Option (List Int)) : List Int := o.getD []
theorem len_st {H : Heap} (o : Option (List Int)) : lenA Tryz.prog H 27 (skV o) = some (skL o).length := by cases o <;> simp [skV, skL, lenA]
theorem st_ne {o : Option (List Int)} (h : skL o ≠ []) : o = some (skL o) := by cases o <;> first | exact absurd rfl h | rfl
def gO (t : Tr) (out : List Int) (o : Option (List Int)) : List (Nat × Blk) := (1, .cells (ints out)) :: (0, .cells [aNodes t]) :: skB o
def hOf (m : Nat) (t : Tr) (top : List (Nat × Blk)) (out : List Int) (o : Option (List Int)) : Heap := ⟨m, [top ++ gO t out o]⟩
theorem getF_app {b : Nat} {g : List (Nat × Blk)} : ∀ {top : List (Nat × Blk)}, getF b top = none → getF b (top ++ g) = getF b g
  | [], _ => rfl
  | x :: r, h => by
    have h' : (match Nat.beq x.1 b with | true => some x.2 | false => getF b r) = none := h
    show (match Nat.beq x.1 b with | true => some x.2 | false => getF b (r ++ g)) = getF b g
    cases hb : Nat.beq x.1 b with
    | true => rw [hb] at h'; cases h'
    | false =>
      rw [hb] at h'
      exact getF_app h'
theorem fit_O {n m k : Nat} {t : Tr} {top : List (Nat × Blk)} {out : List Int} {o : Option (List Int)} (ht : ∀ b, b < 4 → getF b top = none) (hk : 4 ≤ k) (hn : n ≤ k) : FitH n [(3, 3), (1, 1), (0, 0)] [] (hOf m t top out o) (hOf k t [] out o) := by
  have ap : ∀ {b : Nat} {g : List (Nat × Blk)}, getF b top = none → getF b (top ++ g) = getF b g := fun h => getF_app h
  refine .same (by simp) (by simp) (by simp [hOf]; omega) hn (by cases o <;> simp [hOf, gO, skB, Heap.ents]) ?_
  intro e he
  cases o with
  | none =>
    simp [hOf, gO, skB, Heap.ents] at he
    rcases he with rfl | rfl
    · exact ⟨by simp, by simp [hOf, Heap.get, getFs, ap (ht 1 (by omega)), gO, getF], fitL_pure (pure_ints _)⟩
    · exact ⟨by simp, by simp [hOf, Heap.get, getFs, ap (ht 0 (by omega)), gO, getF], fitL_pure (by simp [pureL])⟩
  | some S =>
    simp [hOf, gO, skB, Heap.ents] at he
    rcases he with rfl | rfl | rfl
    · exact ⟨by simp, by simp [hOf, Heap.get, getFs, ap (ht 1 (by omega)), gO, getF], fitL_pure (pure_ints _)⟩
    · exact ⟨by simp, by simp [hOf, Heap.get, getFs, ap (ht 0 (by omega)), gO, getF], fitL_pure (by simp [pureL])⟩
    · exact ⟨by simp, by simp [hOf, Heap.get, getFs, ap (ht 3 (by omega)), gO, skB, getF], fitL_pure (pure_ints _)⟩
theorem fit_O4 {m : Nat} {t : Tr} {out : List Int} {o : Option (List Int)} {cs : List AV} (hcs : pureL cs = true) : FitH 0 [(4, 4), (3, 3), (1, 1), (0, 0)] [] (hOf m t [(4, .cells cs)] out o) (hOf 5 t [(4, .cells cs)] out o) := by
  refine .same (by simp) (by simp) (by simp [hOf]) (by simp) (by cases o <;> simp [hOf, gO, skB, Heap.ents]) ?_
  intro e he
  cases o with
  | none =>
    simp [hOf, gO, skB, Heap.ents] at he
    rcases he with rfl | rfl | rfl
    · exact ⟨by simp, by simp [hOf, Heap.get, getFs, gO, getF], fitL_pure hcs⟩
    · exact ⟨by simp, by simp [hOf, Heap.get, getFs, gO, getF], fitL_pure (pure_ints _)⟩
    · exact ⟨by simp, by simp [hOf, Heap.get, getFs, gO, getF], fitL_pure (by simp [pureL])⟩
  | some S =>
    simp [hOf, gO, skB, Heap.ents] at he
    rcases he with rfl | rfl | rfl | rfl
    · exact ⟨by simp, by simp [hOf, Heap.get, getFs, gO, getF], fitL_pure hcs⟩
    · exact ⟨by simp, by simp [hOf, Heap.get, getFs, gO, getF], fitL_pure (pure_ints _)⟩
    · exact ⟨by simp, by simp [hOf, Heap.get, getFs, gO, getF], fitL_pure (by simp [pureL])⟩
    · exact ⟨by simp, by simp [hOf, Heap.get, getFs, gO, skB, getF], fitL_pure (pure_ints _)⟩
theorem fit_skV {σ : List (Nat × Nat)} {Φ : List (Nat × List AV)} {o : Option (List Int)} (h : lookN 3 σ = some 3) : fitV σ Φ (skV o) (skV o) := by cases o <;> simp [skV, fitV, h]
def okNames (t : Tr) : Prop := ∀ n, n ∈ t → n.name.length ≤ 1000000000
theorem mkInts {H : Heap} {n : Nat} (h : n ≤ 1000000) : makeSliceA Tryz.prog H 27 (.int .i64 (n : Int)) (.int .i64 (n : Int)) = some (.slc H.n 0 n (.ex n), H.new (.cells (ints (List.replicate n 0)))) := by
  unfold makeSliceA
  rw [msInt h]; rfl
theorem skL_map {o : Option (List Int)} {w : Wk} {i : Int} : skL (o.map (popW w i)) = popW w i (skL o) := by cases o <;> simp [skL, popW]
theorem insW_nat {w : Wk} {i f : Nat} : insW w (i : Int) (f : Int) = insB (mkW w i) (mkW w f) := by simp [insW]
theorem drop3 {A B C D E : Blk} : Heap.drop ⟨6, [[(5, A), (4, B), (1, C), (0, D), (3, E)]]⟩ 3 = ⟨6, [[(5, A), (4, B), (1, C), (0, D)]]⟩ := rfl
theorem app_st {t : Tr} {out : List Int} {o : Option (List Int)} {i : Int} {cs : List AV} (hl : (skL o).length ≤ 1000) :
    appendA Tryz.prog ⟨6, [(5, .cells [.int .i64 i]) :: (4, .cells cs) :: (1, .cells (ints out)) :: (0, .cells [aNodes t]) :: skB o]⟩ 3 (skV o) (.slc 5 0 1 (.ex 1)) =
      some (.slc 6 0 ((skL o).length + 1) (.rest 1), ⟨7, [[(6, .cells (ints (skL o ++ [i]))), (5, .cells [.int .i64 i]), (4, .cells cs), (1, .cells (ints out)), (0, .cells [aNodes t])]]⟩) := by
  cases o with
  | none => rfl
  | some S =>
    cases S with
    | nil => rfl
    | cons x r =>
      have h := own_append (P := Tryz.prog) (H := ⟨6, [[(5, .cells [.int .i64 i]), (4, .cells cs), (1, .cells (ints out)), (0, .cells [aNodes t]), (3, .cells (ints (x :: r)))]]⟩) (elem := 3) (b := 3) (n := 0) (es := ints (x :: r)) (cs := [.int .i64 i]) (x := .slc 5 0 1 (.ex 1)) szT3 byT3 zeT3 rfl (by omega) (by omega) rfl
        (by simp [srcCells, readCells, Heap.get, getFs, getF, Blk.rd, subL, takeL]) rfl rfl (el_int _) (by rw [len_ints]; simp only [skL, Option.getD_some] at hl; omega) (fun _ => by simp [Heap.get, getFs, getF]) (fun he => absurd he (by simp [ints])) (by intro cs; rfl)
      rw [drop3, ownV_ne (by simp [ints]), len_ints, flat_ints] at h
      have e : ints (x :: r) ++ [.int .i64 i] = ints (x :: r ++ [i]) := by simp [ints, aInt]
      rw [e] at h
      exact h
theorem fit_push {t : Tr} {out S : List Int} {A B : Blk} : FitH 0 [(6, 3), (1, 1), (0, 0)] [] ⟨7, [[(6, .cells (ints S)), (5, A), (4, B), (1, .cells (ints out)), (0, .cells [aNodes t])]]⟩ (hOf 4 t [] out (some S)) where
  nd1 := by simp
  nd2 := by simp
  nd3 := by simp [hOf, gO, skB, Heap.ents]
  lt := by simp [hOf]
  idn := by simp
  num := by simp
  src := by
    intro e he
    simp [hOf, gO, skB, Heap.ents] at he
    rcases he with rfl | rfl | rfl
    · exact ⟨1, _, by simp, rfl, fitL_pure (pure_ints _)⟩
    · exact ⟨0, _, by simp, rfl, fitL_pure (by simp [pureL])⟩
    · exact ⟨6, _, by simp, rfl, fitL_pure (pure_ints _)⟩
  frz := fun x h => by cases h
def subC : List Nat → Code → Code
  | [], c => c
  | d :: r, c => match c with
    | .seq a b => match d with
      | 0 => subC r a
      | _ => subC r b
    | .block _ b => subC r b
    | .loop b => subC r b
    | c => c
def bodyOf (f : Func) : Code := match f.body with
  | some c => c
  | none => .skip
noncomputable def cdPops : Code := subC [1, 1, 1, 1, 0, 1, 0, 0, 1, 1, 0, 0, 1, 1, 0] (bodyOf Tryz.f52)
theorem pops {T : List (Entry Tryz.prog)} (hIn : findE 80 T = some e80.g) (t : Tr) {w : Wk} (hli : w.inn.length = t.length) (hlo : w.out.length = t.length) (hokM : ∀ j, okM (mkW w j)) (L out : List Int) (k i : Nat) (o : Option (List Int)) (hin : i < t.length) (hS : (skL o).length ≤ 1000) (hme : ∀ f, f ∈ skL o → 0 ≤ f ∧ f < (t.length : Int)) :
    WpSr (ctx T) 0 none cdPops ((⟨[0, 1, 2, 3, 4, 5, 7, 8, 9, 10, 11, 12, 13, 21, 22, 23, 83, 84, 85], [.undef, .ptr 0 0, .undef, .slc 1 0 t.length (.ex t.length), .fslc 1 (cxs w), skV o, .int .i64 (i : Int), .ptr 4 0, .undef, .undef, .undef, .undef, .undef, aInts L, .int .i64 (L.length : Nat), .int .i64 k, .undef, .undef, .undef], [], 122, hOf 5 t [(4, .cells (nodeAt t (i : Int)).cs)] out o⟩ : St)) (fun x s' => x = .normal ∧ ∃ σ Φ, FitS 0 σ Φ s' ((⟨[0, 1, 2, 3, 4, 5, 7, 8, 9, 10, 11, 12, 13, 21, 22, 23, 83, 84, 85], [.undef, .ptr 0 0, .undef, .slc 1 0 t.length (.ex t.length), .fslc 1 (cxs w), skV (o.map (popW w (i : Int))), .int .i64 (i : Int), .ptr 4 0, .undef, .undef, .undef, .undef, .undef, aInts L, .int .i64 (L.length : Nat), .int .i64 k, .undef, .undef, .undef], [], 122, hOf 5 t [(4, .cells (nodeAt t (i : Int)).cs)] out (o.map (popW w (i : Int)))⟩ : St))) := by
  have hcs : pureL (nodeAt t (i : Int)).cs = true := by simp
  simp only [cdPops, subC, bodyOf, Tryz.f52]
  repeat refine wps_seq ?_
  refine wps_block (wps_loopS (fun p : Option (List Int) => (⟨[0, 1, 2, 3, 4, 5, 7, 8, 9, 10, 11, 12, 13, 21, 22, 23, 83, 84, 85], [.undef, .ptr 0 0, .undef, .slc 1 0 t.length (.ex t.length), .fslc 1 (cxs w), skV p, .int .i64 (i : Int), .ptr 4 0, .undef, .undef, .undef, .undef, .undef, aInts L, .int .i64 (L.length : Nat), .int .i64 k, .undef, .undef, .undef], [], 122, hOf 5 t [(4, .cells (nodeAt t (i : Int)).cs)] out p⟩ : St))
    (fun p => p.isSome = o.isSome ∧ popW w (i : Int) (skL p) = popW w (i : Int) (skL o) ∧ (∀ f, f ∈ skL p → 0 ≤ f ∧ f < (t.length : Int)) ∧ (skL p).length ≤ 1000) (fun p => (skL p).length) [(4, 4), (3, 3), (1, 1), (0, 0)] [] o ⟨rfl, rfl, hme, hS⟩ ⟨rfl, rfl, rfl, by simp [fitL, fitV, lookN, pureV, aInts, fit_skV], fit_O4 (m := 5) hcs⟩ ?_)
  rintro p ⟨hp1, hp2, hp3, hp4⟩ B2 hB2
  have fin : popW w (i : Int) (skL p) = skL p → p = o.map (popW w (i : Int)) := by
    intro h
    cases p with
    | none =>
      cases o with
      | none => rfl
      | some S => cases hp1
    | some S' =>
      cases o with
      | none => cases hp1
      | some S =>
        simp only [skL, Option.getD_some] at hp2 h
        simp only [Option.map_some]
        rw [← hp2, h]
  rcases List.eq_nil_or_concat (skL p) with he | ⟨S, f, he⟩
  · have hfin := fin (by rw [he]; rfl)
    have h0 : (skL p).length = 0 := by rw [he]; rfl
    repeat refine wps_seq ?_
    refine wps_drawK mixed callOK (by decide +kernel) (by decide +kernel) ?_
    simp [zS, evalK_c, evalK_nil, thenK_some, hOf, gO, len_st, h0]
    repeat refine wps_seq ?_
    refine wps_cond (t := false) rfl (fun h => by cases h) fun _ => ?_
    repeat refine wps_seq ?_
    refine wps_exit ?_
    simp
    exact ⟨[(4, 4), (3, 3), (1, 1), (0, 0)], [], Fit.s ⟨rfl, rfl, rfl, by rw [← hfin]; simp [fitL, fitV, lookN, pureV, aInts, fit_skV], by rw [← hfin]; exact fit_O4 hcs⟩⟩
  · rw [List.concat_eq_append] at he
    have hps : p = some (S ++ [f]) := by rw [← he]; exact st_ne (by rw [he]; simp)
    subst hps
    obtain ⟨f0, f1⟩ := hp3 f (by rw [he]; simp)
    obtain ⟨m, rfl⟩ := Int.eq_ofNat_of_zero_le f0
    simp only [skL, Option.getD_some] at hp2 fin hp3 hp4
    have hm : m < t.length := by omega
    have hSl : S.length ≤ 1000 := by simp at hp4; omega
    have hgl : getL (ints (S ++ [(m : Int)])) S.length = some (.int .i64 (m : Int)) := by rw [get_ints (by simp)]; simp
    have kin := fun H => k80 hIn (hokM i) (hokM m) H
    have hwr : wr .i64 (S.length : Int) = some (S.length : Int) := wr_small (by omega) (by omega)
    cases hb : insB (mkW w i) (mkW w m) with
    | true =>
      rw [hb] at kin
      have hpop : popW w (i : Int) (S ++ [(m : Int)]) = S ++ [(m : Int)] := by rw [popW_last, insW_nat, hb]; simp
      have hfin := fin hpop
      repeat refine wps_seq ?_
      refine wps_drawK mixed callOK (by decide +kernel) (by decide +kernel) ?_
      simp [zS, evalK_c, evalK_nil, thenK_some, hOf, gO, skV, skB, lenA, atC hli hlo hin, atC hli hlo hm, ixO (show S.length < S.length + 1 by omega), hgl, kin, hwr]
      repeat refine wps_seq ?_
      refine wps_cond (t := false) rfl (fun h => by cases h) fun _ => ?_
      repeat refine wps_seq ?_
      refine wps_exit ?_
      simp
      exact ⟨[(4, 4), (3, 3), (1, 1), (0, 0)], [], Fit.s ⟨rfl, rfl, rfl, by rw [← hfin]; simp [fitL, fitV, lookN, pureV, aInts, fit_skV], by rw [← hfin]; exact fit_O4 (o := some (S ++ [(m : Int)])) hcs⟩⟩
    | false =>
      rw [hb] at kin
      have hpop : popW w (i : Int) (S ++ [(m : Int)]) = popW w (i : Int) S := by rw [popW_last, insW_nat, hb]; simp
      repeat refine wps_seq ?_
      refine wps_drawK mixed callOK (by decide +kernel) (by decide +kernel) ?_
      simp [zS, evalK_c, evalK_nil, thenK_some, hOf, gO, skV, skB, lenA, atC hli hlo hin, atC hli hlo hm, ixO (show S.length < S.length + 1 by omega), hgl, kin, hwr]
      repeat refine wps_seq ?_
      refine wps_cond (t := true) rfl (fun _ => ?_) fun h => by cases h
      repeat refine wps_seq ?_
      refine wps_skip ?_
      simp
      repeat refine wps_seq ?_
      refine wps_block ?_
      have hs2 := fun n => slice_to (P := Tryz.prog) (H := ⟨n, [[(4, .cells (nodeAt t (i : Int)).cs), (1, .cells (ints out)), (0, .cells [aNodes t]), (3, .cells (ints (S ++ [(m : Int)])))]]⟩) (t := 27) (elem := 3) (sz := 1) (b := 3) (cs := ints (S ++ [(m : Int)])) (len := S.length + 1) (i := S.length) Tryz.underlying27 szT3 (by omega) rfl (by rw [len_ints]; simp) (by omega) (by omega)
      repeat refine wps_seq ?_
      refine wps_region callOK ?_
      simp [zS, lenA, hwr, opndO, hs2]
      exact hB2 _ (some S) (by simp [skL]) ⟨hp1, by simp only [skL, Option.getD_some]; rw [← hpop]; exact hp2, fun f hf => hp3 f (by simp only [skL, Option.getD_some] at hf; simp [hf]), hSl⟩
        ⟨[(4, 4), (3, 3), (1, 1), (0, 0)], [], ⟨hOf _ t [(4, .cells (nodeAt t (i : Int)).cs)] out (some S), ⟨rfl, ⟨rfl, .inl rfl, rfl, .inl rfl, rfl, .inl rfl, rfl, .inr ⟨ints S, ints [(m : Int)], by simp [ints], rfl⟩, trivial⟩⟩, rfl, rfl, rfl, by simp [fitL, fitV, lookN, pureV, aInts, skV], fit_O4 (o := some S) hcs⟩⟩
noncomputable def cdSet : Code := subC [1, 1, 1, 1, 0, 1, 0, 0, 1, 1, 0, 0, 1, 1, 1, 0] (bodyOf Tryz.f52)
noncomputable def cdPush : Code := subC [1, 1, 1, 1, 0, 1, 0, 0, 1, 1, 0, 0, 1, 1, 1, 1] (bodyOf Tryz.f52)
theorem len_sk {H : Heap} {o : Option (List Int)} : lenA Tryz.prog H 27 (skV o) = some (skL o).length := len_st o
theorem setsOut {T : List (Entry Tryz.prog)} (hH : findE 55 T = some e55.g) (hLi : findE 28 T = some e28.g) (t : Tr) (hnm : okNames t) {w : Wk} (L out : List Int) (k i : Nat) (o : Option (List Int)) (hin : i < t.length) (hlen : out.length = t.length) (hS : (skL o).length ≤ 1000) :
    WpSr (ctx T) 0 none cdSet ((⟨[0, 1, 2, 3, 4, 5, 7, 8, 9, 10, 11, 12, 13, 21, 22, 23, 83, 84, 85], [.undef, .ptr 0 0, .undef, .slc 1 0 t.length (.ex t.length), .fslc 1 (cxs w), skV o, .int .i64 (i : Int), .ptr 4 0, .undef, .undef, .undef, .undef, .undef, aInts L, .int .i64 (L.length : Nat), .int .i64 k, .undef, .undef, .undef], [], 122, hOf 5 t [(4, .cells (nodeAt t (i : Int)).cs)] out o⟩ : St)) (fun x s' => x = .normal ∧ ∃ σ Φ, FitS 0 σ Φ s' ((⟨[0, 1, 2, 3, 4, 5, 7, 8, 9, 10, 11, 12, 13, 21, 22, 23, 83, 84, 85], [.undef, .ptr 0 0, .undef, .slc 1 0 t.length (.ex t.length), .fslc 1 (cxs w), skV o, .int .i64 (i : Int), .ptr 4 0, .undef, .undef, .undef, .undef, .undef, aInts L, .int .i64 (L.length : Nat), .int .i64 k, .undef, .undef, .undef], [], 122, hOf 5 t [(4, .cells (nodeAt t (i : Int)).cs)] (ofOut t (i : Int) (skL o) out) o⟩ : St))) := by
  have hcs : pureL (nodeAt t (i : Int)).cs = true := by simp
  have hnode := nodeAt_mem (t := t) (i := (i : Int)) (by omega) (by omega)
  have ki := fun H => k55 hH (W := lsImg) (by simp) (hnm _ hnode) H
  have kl := fun H => k28 hLi (hnm _ hnode) H
  have hwhat : ofOut t (i : Int) (skL o) out = if htmlB (nodeAt t (i : Int)) lsImg || htmlB (nodeAt t (i : Int)) lsListed then (match (skL o).getLast? with
    | none => out
    | some f => out.set i f) else out := rfl
  rw [hwhat]
  rcases Bool.eq_false_or_eq_true (htmlB (nodeAt t (i : Int)) lsImg) with ha | ha
  · rw [ha] at ki ⊢
    simp only [Bool.true_or, if_true]
    simp only [cdSet, subC, bodyOf, Tryz.f52]
    repeat refine wps_seq ?_
    refine wps_region callOK ?_
    simp [zS, hOf, gO, fold_node, ki, kl, ha]
    repeat refine wps_seq ?_
    refine wps_cond (t := true) rfl (fun _ => ?_) fun h => by cases h
    repeat refine wps_seq ?_
    refine wps_region callOK ?_
    simp [zS, len_sk]
    rcases List.eq_nil_or_concat (skL o) with he | ⟨S, f, he⟩
    · have h0 : (skL o).length = 0 := by rw [he]; rfl
      repeat refine wps_seq ?_
      refine wps_region callOK ?_
      simp [zS, h0]
      repeat refine wps_seq ?_
      refine wps_cond (t := false) rfl (fun h => by cases h) fun _ => ?_
      repeat refine wps_seq ?_
      refine wps_skip ?_
      simp
      exact ⟨[(4, 4), (3, 3), (1, 1), (0, 0)], [], Fit.s ⟨rfl, rfl, rfl, by simp [fitL, fitV, lookN, pureV, aInts, fit_skV], by rw [he]; exact fit_O4 hcs⟩⟩
    · rw [List.concat_eq_append] at he
      have hos : o = some (S ++ [f]) := by rw [← he]; exact st_ne (by rw [he]; simp)
      subst hos
      simp only [skL, Option.getD_some] at hS he
      have hSl : S.length ≤ 1000 := by simp at hS; omega
      have hwr : wr .i64 (S.length : Int) = some (S.length : Int) := wr_small (by omega) (by omega)
      have hgl : getL (ints (S ++ [f])) S.length = some (.int .i64 f) := by rw [get_ints (by simp)]; simp
      have hgo : (skL (some (S ++ [f]))).getLast? = some f := by simp [skL]
      rw [hgo]
      repeat refine wps_seq ?_
      refine wps_region callOK ?_
      simp [zS, skL]
      repeat refine wps_seq ?_
      refine wps_cond (t := true) (by simp [opnd, St.get]) (fun _ => ?_) fun h => by cases h
      repeat refine wps_seq ?_
      refine wps_region callOK ?_
      simp [zS, skV, skB, hwr, ixO (show S.length < S.length + 1 by omega), hgl, ixO hin, lay_ints (L := out) (i := i) (v := f) (by omega)]
      exact ⟨[(4, 4), (3, 3), (1, 1), (0, 0)], [], Fit.s ⟨rfl, rfl, rfl, by simp [fitL, fitV, lookN, pureV, aInts, skV], fit_O4 (o := some (S ++ [f])) hcs⟩⟩
  · rcases Bool.eq_false_or_eq_true (htmlB (nodeAt t (i : Int)) lsListed) with hb | hb
    · rw [ha] at ki ⊢
      rw [hb] at kl ⊢
      simp only [Bool.false_or, if_true]
      simp only [cdSet, subC, bodyOf, Tryz.f52]
      repeat refine wps_seq ?_
      refine wps_region callOK ?_
      simp [zS, hOf, gO, fold_node, ki, kl, ha]
      repeat refine wps_seq ?_
      refine wps_cond (t := true) rfl (fun _ => ?_) fun h => by cases h
      repeat refine wps_seq ?_
      refine wps_region callOK ?_
      simp [zS, len_sk]
      rcases List.eq_nil_or_concat (skL o) with he | ⟨S, f, he⟩
      · have h0 : (skL o).length = 0 := by rw [he]; rfl
        repeat refine wps_seq ?_
        refine wps_region callOK ?_
        simp [zS, h0]
        repeat refine wps_seq ?_
        refine wps_cond (t := false) rfl (fun h => by cases h) fun _ => ?_
        repeat refine wps_seq ?_
        refine wps_skip ?_
        simp
        exact ⟨[(4, 4), (3, 3), (1, 1), (0, 0)], [], Fit.s ⟨rfl, rfl, rfl, by simp [fitL, fitV, lookN, pureV, aInts, fit_skV], by rw [he]; exact fit_O4 hcs⟩⟩
      · rw [List.concat_eq_append] at he
        have hos : o = some (S ++ [f]) := by rw [← he]; exact st_ne (by rw [he]; simp)
        subst hos
        simp only [skL, Option.getD_some] at hS he
        have hSl : S.length ≤ 1000 := by simp at hS; omega
        have hwr : wr .i64 (S.length : Int) = some (S.length : Int) := wr_small (by omega) (by omega)
        have hgl : getL (ints (S ++ [f])) S.length = some (.int .i64 f) := by rw [get_ints (by simp)]; simp
        have hgo : (skL (some (S ++ [f]))).getLast? = some f := by simp [skL]
        rw [hgo]
        repeat refine wps_seq ?_
        refine wps_region callOK ?_
        simp [zS, skL]
        repeat refine wps_seq ?_
        refine wps_cond (t := true) (by simp [opnd, St.get]) (fun _ => ?_) fun h => by cases h
        repeat refine wps_seq ?_
        refine wps_region callOK ?_
        simp [zS, skV, skB, hwr, ixO (show S.length < S.length + 1 by omega), hgl, ixO hin, lay_ints (L := out) (i := i) (v := f) (by omega)]
        exact ⟨[(4, 4), (3, 3), (1, 1), (0, 0)], [], Fit.s ⟨rfl, rfl, rfl, by simp [fitL, fitV, lookN, pureV, aInts, skV], fit_O4 (o := some (S ++ [f])) hcs⟩⟩
    · rw [ha] at ki ⊢
      rw [hb] at kl ⊢
      simp only [Bool.or_self, Bool.false_eq_true, if_false]
      simp only [cdSet, subC, bodyOf, Tryz.f52]
      repeat refine wps_seq ?_
      refine wps_region callOK ?_
      simp [zS, hOf, gO, fold_node, ki, kl]
      repeat refine wps_seq ?_
      refine wps_cond (t := false) rfl (fun h => by cases h) fun _ => ?_
      repeat refine wps_seq ?_
      refine wps_skip ?_
      simp
      exact ⟨[(4, 4), (3, 3), (1, 1), (0, 0)], [], Fit.s ⟨rfl, rfl, rfl, by simp [fitL, fitV, lookN, pureV, aInts, fit_skV], fit_O4 hcs⟩⟩
theorem pushes {T : List (Entry Tryz.prog)} (hH : findE 55 T = some e55.g) (t : Tr) (hnm : okNames t) {w : Wk} (L out : List Int) (k i : Nat) (o : Option (List Int)) (hin : i < t.length) (hS : (skL o).length ≤ 1000) :
    WpSr (ctx T) 0 none cdPush ((⟨[0, 1, 2, 3, 4, 5, 7, 8, 9, 10, 11, 12, 13, 21, 22, 23, 83, 84, 85], [.undef, .ptr 0 0, .undef, .slc 1 0 t.length (.ex t.length), .fslc 1 (cxs w), skV o, .int .i64 (i : Int), .ptr 4 0, .undef, .undef, .undef, .undef, .undef, aInts L, .int .i64 (L.length : Nat), .int .i64 k, .undef, .undef, .undef], [], 122, hOf 5 t [(4, .cells (nodeAt t (i : Int)).cs)] out o⟩ : St)) (fun x s' => x = .normal ∧ ∃ o', skL o' = ofPush t (i : Int) (skL o) ∧ ∃ σ Φ, FitS 0 σ Φ s' ((⟨[0, 1, 2, 3, 4, 5, 7, 8, 9, 10, 11, 12, 13, 21, 22, 23, 83, 84, 85], [.undef, .ptr 0 0, .undef, .slc 1 0 t.length (.ex t.length), .fslc 1 (cxs w), skV o', .undef, .undef, .undef, .undef, .undef, .undef, .undef, aInts L, .int .i64 (L.length : Nat), .int .i64 k, .undef, .undef, .undef], [], 122, hOf 4 t [] out o'⟩ : St))) := by
  have hcs : pureL (nodeAt t (i : Int)).cs = true := by simp
  have hnode := nodeAt_mem (t := t) (i := (i : Int)) (by omega) (by omega)
  have kf := fun H => k55 hH (W := lsForm) (by simp) (hnm _ hnode) H
  have hwhat : ofPush t (i : Int) (skL o) = if htmlB (nodeAt t (i : Int)) lsForm then skL o ++ [(i : Int)] else skL o := rfl
  rw [hwhat]
  have hap := app_st (t := t) (out := out) (o := o) (i := (i : Int)) (cs := (nodeAt t (i : Int)).cs) hS
  rcases Bool.eq_false_or_eq_true (htmlB (nodeAt t (i : Int)) lsForm) with ha | ha
  · rw [ha] at kf ⊢
    simp only [if_true]
    simp only [cdPush, subC, bodyOf, Tryz.f52]
    repeat refine wps_seq ?_
    refine wps_region callOK ?_
    simp [zS, hOf, gO, fold_node, kf]
    repeat refine wps_seq ?_
    refine wps_cond (t := true) rfl (fun _ => ?_) fun h => by cases h
    repeat refine wps_seq ?_
    refine wps_region callOK ?_
    simp [zS, hap]
    exact ⟨some (skL o ++ [(i : Int)]), rfl, [(6, 3), (1, 1), (0, 0)], [], Fit.s ⟨rfl, rfl, rfl, by simp [fitL, fitV, lookN, pureV, aInts, skV], fit_push⟩⟩
  · rw [ha] at kf ⊢
    simp only [Bool.false_eq_true, if_false]
    simp only [cdPush, subC, bodyOf, Tryz.f52]
    repeat refine wps_seq ?_
    refine wps_region callOK ?_
    simp [zS, hOf, gO, fold_node, kf]
    repeat refine wps_seq ?_
    refine wps_cond (t := false) rfl (fun h => by cases h) fun _ => ?_
    repeat refine wps_seq ?_
    refine wps_skip ?_
    simp
    exact ⟨o, rfl, [(3, 3), (1, 1), (0, 0)], [], Fit.s ⟨rfl, rfl, rfl, by simp [fitL, fitV, lookN, pureV, aInts, fit_skV], fit_O (top := [(4, .cells (nodeAt t (i : Int)).cs)]) (fun b hb => getF_one (by omega)) (by omega) (by omega)⟩⟩
noncomputable def cdAttr : Code := subC [1, 1, 1, 1, 1, 0, 1, 0, 0, 1, 1, 0] (bodyOf Tryz.f52)
theorem first_bd {t : Tr} (hpos : 0 < t.length) (v : Str) : 0 ≤ firstId t v ∧ firstId t v < (t.length : Int) := by
  unfold firstId
  cases h : firstB t (fun n => hasB n wId v) with
  | none => simp; omega
  | some x =>
    unfold firstB at h
    have := List.mem_of_find?_eq_some h
    obtain ⟨a, b⟩ := order_mem this
    exact ⟨by simpa using a, by simpa using b⟩
theorem attrBody {T : List (Entry Tryz.prog)} (hG : findE 56 T = some e56.g) (hH : findE 55 T = some e55.g) (hLi : findE 28 T = some e28.g) (hF : findE 81 T = some e81.g) (t : Tr) (ht : smallTr t) (hnm : okNames t) (out : List Int) (i : Nat) (hin : i < t.length) (hlen : out.length = t.length) :
    WpSr (ctx T) 0 none cdAttr ((⟨[0, 1, 2, 3, 4, 5, 7, 8, 9, 10, 11, 12, 13, 21, 22, 23, 83, 84, 85], [.undef, .ptr 0 0, .undef, .slc 1 0 t.length (.ex t.length), .undef, .undef, .undef, .undef, .undef, .undef, .undef, .undef, .undef, .undef, .undef, .undef, aNodes t, .int .i64 (t.length : Nat), .int .i64 (i : Int)], [], 122, hOf 4 t [] out none⟩ : St)) (fun x s' => x = .normal ∧ ∃ σ Φ, FitS 0 σ Φ s' ((⟨[0, 1, 2, 3, 4, 5, 7, 8, 9, 10, 11, 12, 13, 21, 22, 23, 83, 84, 85], [.undef, .ptr 0 0, .undef, .slc 1 0 t.length (.ex t.length), .undef, .undef, .undef, .undef, .undef, .undef, .undef, .undef, .undef, .undef, .undef, .undef, aNodes t, .int .i64 (t.length : Nat), .int .i64 (i : Int)], [], 122, hOf 4 t [] (ofAttr t i out) none⟩ : St))) := by
  have hnode := nodeAt_mem (t := t) (i := (i : Int)) (by omega) (by omega)
  have hl := (ht.2.2 _ hnode).2
  have ka := fun H => k56 hG wFormA hl (th_aAttrs H _)
  have kl := fun H => k28 hLi (hnm _ hnode) H
  have hwhat : ofAttr t i out = match getAt wFormA (nodeAt t i).attrs with
    | none => out
    | some v => if htmlB (nodeAt t (i : Int)) lsListed then out.set i (if isForm t (firstId t v) then firstId t v else 0) else out := rfl
  rw [hwhat]
  simp only [cdAttr, subC, bodyOf, Tryz.f52]
  repeat refine wps_seq ?_
  refine wps_block ?_
  refine wps_seq ?_
  repeat refine wps_seq ?_
  refine wps_region callOK ?_
  simp [zN, hOf, gO, skB, atX (t := t) (i := (i : Int)) (by omega) (by omega)]
  cases hgt : getAt wFormA (nodeAt t (i : Int)).attrs with
  | none =>
    rw [hgt] at ka
    repeat refine wps_seq ?_
    refine wps_region callOK ?_
    simp [zS, ka, gotA]
    repeat refine wps_seq ?_
    refine wps_region callOK ?_
    simp [zS]
    repeat refine wps_seq ?_
    refine wps_cond (t := false) rfl (fun h => by cases h) fun _ => ?_
    repeat refine wps_seq ?_
    refine wps_skip ?_
    simp
    exact ⟨[(3, 3), (1, 1), (0, 0)], [], Fit.s ⟨rfl, rfl, rfl, by simp [fitL, fitV, lookN, pureV, aNodes], fit_O (o := none) (top := [(4, .cells (nodeAt t (i : Int)).cs)]) (fun b hb => getF_one (by omega)) (by omega) (by omega)⟩⟩
  | some v =>
    rw [hgt] at ka
    repeat refine wps_seq ?_
    refine wps_region callOK ?_
    simp [zS, ka, gotA]
    rcases Bool.eq_false_or_eq_true (htmlB (nodeAt t (i : Int)) lsListed) with ha | ha
    · rw [ha] at kl
      simp only [ha, if_true]
      obtain ⟨k0, k1⟩ := first_bd (t := t) (by omega) v
      have kf := fun H => k81 hF ht v H
      have hkn := nodeAt_mem k0 k1
      have kh := fun H => k55 hH (W := lsForm) (by simp) (hnm _ hkn) H
      have hif : isForm t (firstId t v) = htmlB (nodeAt t (firstId t v)) lsForm := rfl
      rw [hif]
      simp only [aTree] at kf
      generalize firstId t v = m at *
      have hset : (out.set i m)[i]'(by simp; omega) = m := by simp
      have hgl : getL (ints (out.set i m)) i = some (.int .i64 m) := by rw [get_ints (by simp; omega), hset]
      repeat refine wps_seq ?_
      refine wps_region callOK ?_
      simp [zS, fold_node, kl]
      repeat refine wps_seq ?_
      refine wps_cond (t := true) rfl (fun _ => ?_) fun h => by cases h
      repeat refine wps_seq ?_
      refine wps_region callOK ?_
      simp [zS, kf, ixO hin, lay_ints (L := out) (i := i) (v := m) (by omega)]
      rcases Bool.eq_false_or_eq_true (htmlB (nodeAt t m) lsForm) with hb | hb
      · rw [hb] at kh
        repeat refine wps_seq ?_
        refine wps_drawK mixed callOK (by decide +kernel) (by decide +kernel) ?_
        simp [zS, evalK_c, evalK_nil, thenK_some, ixO hin, hgl, atX (t := t) (i := m) k0 k1, fold_node, kh]
        repeat refine wps_seq ?_
        refine wps_cond (t := false) rfl (fun h => by cases h) fun _ => ?_
        repeat refine wps_seq ?_
        refine wps_skip ?_
        simp [hb]
        exact ⟨[(3, 3), (1, 1), (0, 0)], [], Fit.s ⟨rfl, rfl, rfl, by simp [fitL, fitV, lookN, pureV, aNodes], fit_O (o := none) (top := [(4, .cells (nodeAt t (i : Int)).cs)]) (fun b hb => getF_one (by omega)) (by omega) (by omega)⟩⟩
      · rw [hb] at kh
        repeat refine wps_seq ?_
        refine wps_drawK mixed callOK (by decide +kernel) (by decide +kernel) ?_
        simp [zS, evalK_c, evalK_nil, thenK_some, ixO hin, hgl, atX (t := t) (i := m) k0 k1, fold_node, kh]
        repeat refine wps_seq ?_
        refine wps_cond (t := true) rfl (fun _ => ?_) fun h => by cases h
        have hset2 : (out.set i m).set i 0 = out.set i 0 := by simp
        repeat refine wps_seq ?_
        refine wps_region callOK ?_
        simp [zS, ixO hin, lay_ints (L := out.set i m) (i := i) (v := 0) (by simp; omega), hset2, hb]
        exact ⟨[(3, 3), (1, 1), (0, 0)], [], Fit.s ⟨rfl, rfl, rfl, by simp [fitL, fitV, lookN, pureV, aNodes], fit_O (o := none) (top := [(4, .cells (nodeAt t (i : Int)).cs)]) (fun b hb => getF_one (by omega)) (by omega) (by omega)⟩⟩
    · rw [ha] at kl
      simp only [ha, Bool.false_eq_true, if_false]
      repeat refine wps_seq ?_
      refine wps_region callOK ?_
      simp [zS, fold_node, kl]
      repeat refine wps_seq ?_
      refine wps_cond (t := false) rfl (fun h => by cases h) fun _ => ?_
      repeat refine wps_seq ?_
      refine wps_skip ?_
      simp
      exact ⟨[(3, 3), (1, 1), (0, 0)], [], Fit.s ⟨rfl, rfl, rfl, by simp [fitL, fitV, lookN, pureV, aNodes], fit_O (o := none) (top := [(4, .cells (nodeAt t (i : Int)).cs)]) (fun b hb => getF_one (by omega)) (by omega) (by omega)⟩⟩
structure OfOk (t : Tr) (w : Wk) (L zs : List Int) (k : Nat) (o : Option (List Int)) (out : List Int) : Prop where
  kb : k ≤ L.length
  sk : (skL o).length ≤ k
  len : out.length = t.length
  mem : ∀ f, f ∈ skL o → 0 ≤ f ∧ f < (t.length : Int)
  eq : ofLoop t w L [] zs = ofLoop t w (L.drop k) (skL o) out
theorem c52 {T : List (Entry Tryz.prog)} (hM : findE 79 T = some e79.g) (hO : findE 53 T = some e53.g) (hIn : findE 80 T = some e80.g) (hH : findE 55 T = some e55.g) (hLi : findE 28 T = some e28.g) (hG : findE 56 T = some e56.g) (hF : findE 81 T = some e81.g)
    (t : Tr) (ht : smallTr t) (hnm : okNames t) (hpos : 0 < t.length) : CallAt (ctx T) 52 [aTree t] ⟨0, []⟩ (aInts (ofL t)) ⟨0, []⟩ := by
  have hn := ht.1
  have km := fun H => k79 hM ht hpos H
  have ko := fun H => k53 hO ht H
  have hwk := wk_ok (n := t.length) (ks := kidsOf t) hpos
  have hokM := fun j => okM_wk (ks := kidsOf t) hpos hn j
  obtain ⟨w, hw⟩ : ∃ w, w = wkOf t.length (kidsOf t) := ⟨_, rfl⟩
  obtain ⟨L, hL⟩ : ∃ L, L = orderOf t.length (kidsOf t) := ⟨_, rfl⟩
  have hLn : L.length ≤ 50 := by have := order_len (n := t.length) (ks := kidsOf t); rw [hL]; omega
  have hmem : ∀ y, y ∈ L → 0 ≤ y ∧ y < (t.length : Int) := fun y hy => order_mem (hL ▸ hy)
  rw [← hw] at km hwk hokM
  rw [← hL] at ko
  simp only [aTree] at km ko
  have hofL : ofL t = ofAttrs t (List.range t.length) (ofLoop t w L [] (List.replicate t.length 0)) := by rw [ofL, ← hw, ← hL]
  rw [hofL]
  refine callAt_body (fn := Tryz.f52) (s0 := ⟨[0, 1, 2, 3, 4, 5, 7, 8, 9, 10, 11, 12, 13, 21, 22, 23, 83, 84, 85], [aTree t, .undef, .undef, .undef, .undef, .undef, .undef, .undef, .undef, .undef, .undef, .undef, .undef, .undef, .undef, .undef, .undef, .undef, .undef], [], 122, ⟨0, [[]]⟩⟩) Tryz.func52 rfl rfl rfl ?_
  repeat refine wps_seq ?_
  refine wps_region callOK ?_
  simp [zS, aTree]
  repeat refine wps_seq ?_
  refine wps_region callOK ?_
  simp [zS, lenN, mkInts (show t.length ≤ 1000000 by omega)]
  repeat refine wps_seq ?_
  refine wps_region callOK ?_
  simp [zS, km]
  repeat refine wps_seq ?_
  refine wps_region callOK ?_
  simp [zS]
  repeat refine wps_seq ?_
  refine wps_region callOK ?_
  simp [zS, ko, lenI]
  repeat refine wps_seq ?_
  refine wps_block (wps_loop' (fun x : Nat × Option (List Int) × List Int => (⟨[0, 1, 2, 3, 4, 5, 7, 8, 9, 10, 11, 12, 13, 21, 22, 23, 83, 84, 85], [.undef, .ptr 0 0, .undef, .slc 1 0 t.length (.ex t.length), .fslc 1 (cxs w), skV x.2.1, .undef, .undef, .undef, .undef, .undef, .undef, .undef, aInts L, .int .i64 (L.length : Nat), .int .i64 x.1, .undef, .undef, .undef], [], 122, hOf 4 t [] x.2.2 x.2.1⟩ : St))
    (fun x => OfOk t w L (List.replicate t.length 0) x.1 x.2.1 x.2.2) (fun x => L.length - x.1) [(3, 3), (1, 1), (0, 0)] [] (0, none, List.replicate t.length 0) ⟨Nat.zero_le _, by simp [skL], by simp, by simp [skL], rfl⟩
    ⟨rfl, rfl, rfl, by simp [fitL, fitV, lookN, pureV, aInts, skV], fit_O (t := t) (top := []) (o := none) (fun _ _ => rfl) (by omega) (by omega)⟩ ?_)
  rintro ⟨k, o, out⟩ hx B hB
  obtain ⟨hk, hsk, hlen, hme, heq⟩ := hx
  simp only at hk hsk hlen hme heq
  repeat refine wps_seq ?_
  refine wps_region callOK ?_
  simp [zS]
  repeat refine wps_seq ?_
  refine wps_cond rfl (fun h => ?_) fun h => ?_
  · simp at h
    repeat refine wps_seq ?_
    refine wps_skip ?_
    simp
    repeat refine wps_seq ?_
    refine wps_block ?_
    rw [List.drop_eq_getElem_cons h] at heq
    obtain ⟨y0, y1⟩ := hmem L[k] (List.getElem_mem _)
    have hLk : ∃ i : Nat, L[k] = (i : Int) := ⟨L[k].toNat, by omega⟩
    obtain ⟨i, hi⟩ := hLk
    rw [hi] at y0 y1 heq
    have hin : i < t.length := by omega
    repeat refine wps_seq ?_
    refine wps_region callOK ?_
    simp [zS, atI h, hi]
    refine wps_seq ?_
    repeat refine wps_seq ?_
    refine wps_region callOK ?_
    simp [zN, hOf, gO, atX (t := t) (i := (i : Int)) y0 y1]
    have hS1 : (skL o).length ≤ 1000 := by omega
    have hpl := popW_len (w := w) (i := (i : Int)) (S := skL o)
    have hme2 : ∀ f, f ∈ popW w (i : Int) (skL o) → 0 ≤ f ∧ f < (t.length : Int) := fun f hf => hme f (popW_mem hf)
    refine wps_joinS True ((⟨[0, 1, 2, 3, 4, 5, 7, 8, 9, 10, 11, 12, 13, 21, 22, 23, 83, 84, 85], [.undef, .ptr 0 0, .undef, .slc 1 0 t.length (.ex t.length), .fslc 1 (cxs w), skV (o.map (popW w (i : Int))), .int .i64 (i : Int), .ptr 4 0, .undef, .undef, .undef, .undef, .undef, aInts L, .int .i64 (L.length : Nat), .int .i64 k, .undef, .undef, .undef], [], 122, hOf 5 t [(4, .cells (nodeAt t (i : Int)).cs)] out (o.map (popW w (i : Int)))⟩ : St)) (fun _ => ?_) fun hj => ?_
    rotate_left
    · refine WpSr.fit [(4, 4), (3, 3), (1, 1), (0, 0)] [] (s' := (⟨[0, 1, 2, 3, 4, 5, 7, 8, 9, 10, 11, 12, 13, 21, 22, 23, 83, 84, 85], [.undef, .ptr 0 0, .undef, .slc 1 0 t.length (.ex t.length), .fslc 1 (cxs w), skV o, .int .i64 (i : Int), .ptr 4 0, .undef, .undef, .undef, .undef, .undef, aInts L, .int .i64 (L.length : Nat), .int .i64 k, .undef, .undef, .undef], [], 122, hOf 5 t [(4, .cells (nodeAt t (i : Int)).cs)] out o⟩ : St)) ⟨rfl, rfl, rfl, by simp [fitL, fitV, lookN, pureV, aInts, fit_skV], fit_O4 (m := 5) (by simp)⟩ ?_
      exact WpSr.mono (pops hIn t hwk.li hwk.lo hokM L out k i o hin hS1 hme) fun x s' ⟨hx, hf⟩ => by subst hx; exact hj s' trivial hf
    obtain ⟨o2, ho2⟩ : ∃ o2, o2 = o.map (popW w (i : Int)) := ⟨_, rfl⟩
    have hs2 : skL o2 = popW w (i : Int) (skL o) := by rw [ho2, skL_map]
    rw [← ho2]
    rw [← hs2] at hme2 hpl
    refine wps_joinS True ((⟨[0, 1, 2, 3, 4, 5, 7, 8, 9, 10, 11, 12, 13, 21, 22, 23, 83, 84, 85], [.undef, .ptr 0 0, .undef, .slc 1 0 t.length (.ex t.length), .fslc 1 (cxs w), skV o2, .int .i64 (i : Int), .ptr 4 0, .undef, .undef, .undef, .undef, .undef, aInts L, .int .i64 (L.length : Nat), .int .i64 k, .undef, .undef, .undef], [], 122, hOf 5 t [(4, .cells (nodeAt t (i : Int)).cs)] (ofOut t (i : Int) (skL o2) out) o2⟩ : St)) (fun _ => ?_) fun hj => ?_
    rotate_left
    · exact WpSr.mono (setsOut hH hLi t hnm (w := w) L out k i o2 hin hlen (by omega)) fun x s' ⟨hx, hf⟩ => by subst hx; exact hj s' trivial hf
    refine WpSr.mono (pushes hH t hnm (w := w) L (ofOut t (i : Int) (skL o2) out) k i o2 hin (by omega)) fun x s' ⟨hx, o3, ho3, σ, Φ, hf⟩ => ?_
    subst hx
    simp [thenQ, blockQ]
    refine WpSr.fitS σ Φ hf ?_
    repeat refine wps_seq ?_
    refine wps_region callOK ?_
    simp [zS, add_one (show k ≤ 1000000000 by omega)]
    simp only [ofLoop] at heq
    rw [← hs2, ← ho3] at heq
    have hpush : (ofPush t (i : Int) (skL o2)).length ≤ k + 1 := by
      unfold ofPush
      split
      · simp; omega
      · omega
    refine hB _ (k + 1, o3, ofOut t (i : Int) (skL o2) out) (by simp; omega) ⟨by simp; omega, by simp only; rw [ho3]; exact hpush, by simp only; rw [ofOut_len, hlen], fun f hf => ?_, heq⟩ ⟨[(3, 3), (1, 1), (0, 0)], [], rfl, rfl, rfl, by simp [fitL, fitV, lookN, pureV, aInts, fit_skV], fit_O (m := 4) (top := []) (fun _ _ => rfl) (by omega) (by omega)⟩
    simp only at hf
    rw [ho3] at hf
    unfold ofPush at hf
    split at hf
    · rcases List.mem_append.1 hf with hf | hf
      · exact hme2 f hf
      · simp at hf; subst hf; exact ⟨y0, y1⟩
    · exact hme2 f hf
  · simp at h
    have hke : k = L.length := by omega
    subst hke
    rw [List.drop_length] at heq
    simp only [ofLoop] at heq
    rw [heq]
    repeat refine wps_seq ?_
    refine wps_exit ?_
    simp
    refine WpSr.fit [(1, 1), (0, 0)] [] (s' := (⟨[0, 1, 2, 3, 4, 5, 7, 8, 9, 10, 11, 12, 13, 21, 22, 23, 83, 84, 85], [.undef, .ptr 0 0, .undef, .slc 1 0 t.length (.ex t.length), .undef, .undef, .undef, .undef, .undef, .undef, .undef, .undef, .undef, .undef, .undef, .undef, .undef, .undef, .undef], [], 122, hOf 4 t [] out none⟩ : St)) ⟨rfl, rfl, rfl, by simp [fitL, fitV, lookN, pureV], ?_⟩ ?_
    · refine .same (by simp) (by simp) (by simp [hOf]) (by simp) (by simp [hOf, gO, skB, Heap.ents]) ?_
      intro e he
      simp [hOf, gO, skB, Heap.ents] at he
      rcases he with rfl | rfl
      · exact ⟨by simp, by simp [hOf, gO, Heap.get, getFs, getF], fitL_pure (pure_ints _)⟩
      · exact ⟨by simp, by simp [hOf, gO, Heap.get, getFs, getF], fitL_pure (by simp [pureL])⟩
    repeat refine wps_seq ?_
    refine wps_region callOK ?_
    simp [zS, hOf, gO, skB, lenN]
    repeat refine wps_seq ?_
    refine wps_block (wps_loopS (fun x : Nat × List Int => (⟨[0, 1, 2, 3, 4, 5, 7, 8, 9, 10, 11, 12, 13, 21, 22, 23, 83, 84, 85], [.undef, .ptr 0 0, .undef, .slc 1 0 t.length (.ex t.length), .undef, .undef, .undef, .undef, .undef, .undef, .undef, .undef, .undef, .undef, .undef, .undef, aNodes t, .int .i64 (t.length : Nat), .int .i64 (x.1 : Nat)], [], 122, hOf 4 t [] x.2 none⟩ : St))
      (fun x => x.1 ≤ t.length ∧ x.2.length = t.length ∧ ofAttrs t (List.range t.length) out = ofAttrs t ((List.range t.length).drop x.1) x.2) (fun x => t.length - x.1) [(3, 3), (1, 1), (0, 0)] [] (0, out) ⟨Nat.zero_le _, hlen, rfl⟩
      ⟨rfl, rfl, rfl, by simp [fitL, fitV, lookN, pureV, aNodes], fit_O (o := none) (m := 4) (top := []) (fun _ _ => rfl) (by omega) (by omega)⟩ ?_)
    rintro ⟨i, o1⟩ ⟨hi, ho1, heq1⟩ B hB
    simp only at hi ho1 heq1
    repeat refine wps_seq ?_
    refine wps_region callOK ?_
    simp [zS]
    repeat refine wps_seq ?_
    refine wps_cond rfl (fun h => ?_) fun h => ?_
    · simp at h
      repeat refine wps_seq ?_
      refine wps_skip ?_
      simp
      refine wps_seq ?_
      refine WpSr.fit [(3, 3), (1, 1), (0, 0)] [] (s' := (⟨[0, 1, 2, 3, 4, 5, 7, 8, 9, 10, 11, 12, 13, 21, 22, 23, 83, 84, 85], [.undef, .ptr 0 0, .undef, .slc 1 0 t.length (.ex t.length), .undef, .undef, .undef, .undef, .undef, .undef, .undef, .undef, .undef, .undef, .undef, .undef, aNodes t, .int .i64 (t.length : Nat), .int .i64 (i : Nat)], [], 122, hOf 4 t [] o1 none⟩ : St)) ⟨rfl, rfl, rfl, by simp [fitL, fitV, lookN, pureV, aNodes], fit_O (o := none) (m := 4) (top := []) (fun _ _ => rfl) (by omega) (by omega)⟩ ?_
      refine WpSr.mono (attrBody hG hH hLi hF t ht hnm o1 i h ho1) fun x s' ⟨hx, σ, Φ, hf⟩ => ?_
      subst hx
      simp [thenQ, blockQ]
      refine WpSr.fitS σ Φ hf ?_
      repeat refine wps_seq ?_
      refine wps_region callOK ?_
      simp [zS, add_one (show i ≤ 1000000000 by omega)]
      have hd : (List.range t.length).drop i = i :: (List.range t.length).drop (i + 1) := by
        rw [List.drop_eq_getElem_cons (by simpa using h)]; simp
      rw [hd, ofAttrs] at heq1
      exact hB _ (i + 1, ofAttr t i o1) (by simp; omega) ⟨by simp; omega, by simp only; rw [ofAttr_len, ho1], heq1⟩ ⟨[(3, 3), (1, 1), (0, 0)], [], Fit.s ⟨rfl, rfl, rfl, by simp [fitL, fitV, lookN, pureV, aNodes], fit_O (o := none) (m := 4) (top := []) (fun _ _ => rfl) (by omega) (by omega)⟩⟩
    · simp at h
      have hie : i = t.length := by omega
      subst hie
      rw [List.drop_eq_nil_of_le (by simp)] at heq1
      simp only [ofAttrs] at heq1
      rw [heq1]
      repeat refine wps_seq ?_
      refine wps_exit ?_
      simp
      repeat refine wps_seq ?_
      refine wps_region callOK ?_
      simp [zS, hOf, gO, skB]
      repeat refine wps_seq ?_
      refine wps_ret ?_
      simp [retVal, Tryz.f52, oneOr]
      refine ⟨[], [(1, ints o1)], fit_ints (by simp [lookC]) ho1.symm, .froze (by simp) fun x hx => ?_⟩
      rw [List.mem_singleton] at hx
      subst hx
      exact ⟨_, by simp [Heap.get, getFs, getF], fitL_pure (pure_ints _), pure_ints _⟩
noncomputable def e52 : Entry Tryz.prog := mkE 52 [[]] (fun t : Tr => [aTree t]) (fun t => smallTr t ∧ okNames t ∧ 0 < t.length) (fun t => aInts (ofL t)) fun t h => c52 (T := [e79, e53, e80, e55, e28, e56, e81]) rfl rfl rfl rfl rfl rfl rfl t h.1 h.2.1 h.2.2
theorem k52 {T : List (Entry Tryz.prog)} (hT : findE 52 T = some e52.g) {t : Tr} (ht : smallTr t) (hnm : okNames t) (hpos : 0 < t.length) (H : Heap) : callL (ctx T) (.fn 52) [aTree t] H = some (aInts (ofL t), H) :=
  mkE_pure hT injT t ⟨ht, hnm, hpos⟩ (by simp [pureL]) (by simp [thawL, th_aTree]) H
theorem c53o {T : List (Entry Tryz.prog)} (hW : findE 82 T = some e82.g) (t : Tr) (ht : smallTr t) (hpos : 0 < t.length) : CallAt (ctx T) 53 [aTree t] ⟨0, []⟩ (.slc 0 0 (orderOf t.length (kidsOf t)).length (.rest 1)) ⟨1, [[(0, .cells (ints (orderOf t.length (kidsOf t))))]]⟩ := by
  have hk := fun H => k82 hW t H
  have hcall := call_List (T := T) t ht.1 hpos fun x hx => (ht.2.2 x hx).1
  simp only [aTree] at hk
  refine callAt_body (fn := Tryz.f53) (s0 := ⟨[0, 1, 2, 3, 4, 6, 7], [aTree t, .undef, .undef, .undef, .undef, .undef, .undef], [], 17, ⟨0, [[]]⟩⟩) Tryz.func53 rfl rfl rfl ?_
  repeat refine wps_seq ?_
  refine wps_region callOK ?_
  simp [zS, aTree]
  repeat refine wps_seq ?_
  refine wps_region callOK ?_
  simp [zS]
  repeat refine wps_seq ?_
  refine wps_region callOK ?_
  simp [zS, hk]
  repeat refine wps_seq ?_
  refine wps_block ?_
  have hent : entersF (ctx T) 115 = true := by kernel_rfl
  refine wps_range (callOKF [⟨115, _, _, _, _, hcall⟩]) ⟨.normal, sL t (hE t), range_List (T := T) t (by simp [callF]), ?_⟩
  simp [sL, hE]
  repeat refine wps_seq ?_
  refine wps_region callOK ?_
  simp [zS]
  repeat refine wps_seq ?_
  refine wps_ret ?_
  simp [retVal, Tryz.f53, oneOr]
  exact ⟨[(3, 0)], [], by simp [fitV, lookN], FitH.keep1 (b := 3) rfl (pure_ints _) rfl⟩
theorem order_ne {n : Nat} {ks : Nat → List Int} (hn : 0 < n) : orderOf n ks ≠ [] := by
  have h := reachW_vis (K := n) (ks := ks) n [] 0 (w0 n) (w0_ok n) hn (by simp [w0, List.getD_eq_getElem?_getD, hn]) (by simp [w0, negs_rep])
  rw [← wk_list, wkOf, if_neg (by omega)]
  refine h.inv (J := fun c => c.2.l ≠ []) (fun c d hs hc => ?_) (by simp [into])
  obtain ⟨p, w⟩ := c
  cases p with
  | nil => cases hs
  | cons e p =>
    obtain ⟨i, m⟩ := e
    simp only [stpW] at hs
    split at hs
    · simp only [Option.some.injEq] at hs
      subst hs
      exact hc
    · split at hs
      · simp only [Option.some.injEq] at hs
        subst hs
        simp [into]
      · simp only [Option.some.injEq] at hs
        subst hs
        exact hc
theorem owX_froze {C : Ctx} {f : FuncId} {args : List AV} {K : List Int} (h : CallAt C f args ⟨0, []⟩ (owX 0 K) ⟨1, [owB 0 K]⟩) : CallAt C f args ⟨0, []⟩ (aInts K) ⟨0, []⟩ := by
  cases K with
  | nil => exact h.freeze (Φ := []) (by simp [owX, aInts, fitV, pureV]) FitH.empty
  | cons x r =>
    refine h.freeze (Φ := [(0, ints (x :: r))]) (fit_ints (by simp [lookC]) rfl) (.froze (by simp) fun y hy => ?_)
    rw [List.mem_singleton] at hy
    subst hy
    exact ⟨_, by simp [owB, Heap.get, getFs, getF], fitL_pure (pure_ints _), pure_ints _⟩
theorem owX_fit {m : Nat} {fs : List (List (Nat × Blk))} {K : List Int} (h : K ≠ [] → Heap.get ⟨m, fs⟩ 0 = some (.cells (ints K))) : ∃ σ Φ, fitV σ Φ (owX 0 K) (owX 0 K) ∧ FitH 0 σ Φ ⟨m, fs⟩ ⟨1, [owB 0 K]⟩ := by
  cases K with
  | nil => exact ⟨[], [], by simp [owX, fitV, pureV], FitH.keep0 (by simp [owB])⟩
  | cons x r => exact ⟨[(0, 0)], [], by simp [owX, fitV, lookN], FitH.keep1 (b := 0) (h (by simp)) (pure_ints _) (by simp [owB])⟩
def caps (t : Tr) (O : List Int) (form : Int) (clo : FuncId) : List AV := [.fptr [aInts O] 0, .fptr [.int .i64 form] 0, .fptr [.func (.func clo) [] []] 0, .fptr [aNodes t] 0]
theorem pure_caps (t : Tr) (O : List Int) (form : Int) (clo : FuncId) : pureL (caps t O form clo) = true := by simp [caps, pureL, pureV]
theorem c54 {T : List (Entry Tryz.prog)} (t : Tr) (O : List Int) (hO : O.length = t.length) (form : Int) (clo : FuncId) (p : Nd → Bool) (i : Int) (h0 : 0 ≤ i) (h1 : i < (t.length : Int)) (hp : CallAt (ctx T) clo [aNode (nodeAt t i)] ⟨0, []⟩ (.bool (p (nodeAt t i))) ⟨0, []⟩) :
    CallAt (ctx T) 54 (.int .i64 i :: caps t O form clo) ⟨0, []⟩ (.bool (!(decide (O.getD i.toNat 0 = form) && p (nodeAt t i)))) ⟨0, []⟩ := by
  obtain ⟨m, rfl⟩ := Int.eq_ofNat_of_zero_le h0
  have hm : m < O.length := by omega
  have e0 : O.getD ((m : Int).toNat) 0 = O[m] := by simp [List.getD_eq_getElem?_getD, hm]
  rw [e0]
  have hc := hp.lift (by simp [pureL]) ⟨17, [[]]⟩
  by_cases hf : O[m] = form
  · have hb : (!(decide (O[m] = form) && p (nodeAt t (m : Int)))) = !p (nodeAt t (m : Int)) := by simp [hf]
    rw [hb]
    simp only [caps]
    refine callAt_body (fn := Tryz.f54) (s0 := ⟨[0, 1, 2, 3, 4, 6], [.int .i64 (m : Int), .fptr [aInts O] 0, .fptr [.int .i64 form] 0, .fptr [.func (.func clo) [] []] 0, .fptr [aNodes t] 0, .undef], [], 23, ⟨0, [[]]⟩⟩) Tryz.func54 rfl rfl rfl ?_
    repeat refine wps_seq ?_
    refine wps_region callOK ?_
    simp [zS]
    repeat refine wps_seq ?_
    refine wps_drawK mixed (callOKF [⟨clo, _, _, _, _, hc⟩]) (by decide +kernel) (by decide +kernel) ?_
    simp [zS, evalK_c, evalK_nil, thenK_some, atI hm, hf, atX (t := t) (i := (m : Int)) h0 h1, fold_node, callF]
    repeat refine wps_seq ?_
    refine wps_ret ?_
    simp [retVal, Tryz.f54, oneOr, thenQ, blockQ]
    exact ends_pure rfl (by rfl)
  · have hb : (!(decide (O[m] = form) && p (nodeAt t (m : Int)))) = true := by simp [hf]
    rw [hb]
    simp only [caps]
    refine callAt_body (fn := Tryz.f54) (s0 := ⟨[0, 1, 2, 3, 4, 6], [.int .i64 (m : Int), .fptr [aInts O] 0, .fptr [.int .i64 form] 0, .fptr [.func (.func clo) [] []] 0, .fptr [aNodes t] 0, .undef], [], 23, ⟨0, [[]]⟩⟩) Tryz.func54 rfl rfl rfl ?_
    repeat refine wps_seq ?_
    refine wps_region callOK ?_
    simp [zS]
    repeat refine wps_seq ?_
    refine wps_drawK mixed callOK (by decide +kernel) (by decide +kernel) ?_
    simp [zS, evalK_c, evalK_nil, thenK_some, atI hm, hf, atX (t := t) (i := (m : Int)) h0 h1, fold_node]
    repeat refine wps_seq ?_
    refine wps_ret ?_
    simp [retVal, Tryz.f54, oneOr, thenQ, blockQ]
    exact ends_pure rfl (by rfl)
def ownedL (t : Tr) (form : Int) (p : Nd → Bool) : List Int := if form < 1 ∨ (t.length : Int) ≤ form then [] else (orderOf t.length (kidsOf t)).filter fun i => decide ((ofL t).getD i.toNat 0 = form) && p (nodeAt t i)
theorem c26 {T : List (Entry Tryz.prog)} (hOf : findE 52 T = some e52.g) (hW : findE 82 T = some e82.g) (t : Tr) (ht : smallTr t) (hnm : okNames t) (form : Int) (clo : FuncId) (p : Nd → Bool) (hp : ∀ n, n ∈ t → CallAt (ctx T) clo [aNode n] ⟨0, []⟩ (.bool (p n)) ⟨0, []⟩) :
    CallAt (ctx T) 26 [aTree t, .int .i64 form, .func (.func clo) [] []] ⟨0, []⟩ (owX 0 (ownedL t form p)) ⟨1, [owB 0 (ownedL t form p)]⟩ := by
  by_cases c1 : form < 1
  · refine callAt_body (fn := Tryz.f26) (s0 := ⟨[0, 1, 2, 3, 4, 5, 6, 7], [aTree t, .int .i64 form, .func (.func clo) [] [], .undef, .undef, .undef, .undef, .undef], [], 23, ⟨0, [[]]⟩⟩) Tryz.func26 rfl rfl rfl ?_
    repeat refine wps_seq ?_
    refine wps_region callOK ?_
    simp [zS, aTree]
    repeat refine wps_seq ?_
    refine wps_region callOK ?_
    simp [zS, lenN, c1]
    repeat refine wps_seq ?_
    refine wps_cond (t := true) rfl (fun _ => ?_) fun h => by cases h
    repeat refine wps_seq ?_
    refine wps_region callOK ?_
    simp [zS]
    repeat refine wps_seq ?_
    refine wps_ret ?_
    simp [retVal, Tryz.f26, oneOr, ownedL, c1, owX, owB]
    exact ⟨[], [], by simp [fitV], FitH.keep0 rfl⟩
  by_cases c2 : (t.length : Int) ≤ form
  · refine callAt_body (fn := Tryz.f26) (s0 := ⟨[0, 1, 2, 3, 4, 5, 6, 7], [aTree t, .int .i64 form, .func (.func clo) [] [], .undef, .undef, .undef, .undef, .undef], [], 23, ⟨0, [[]]⟩⟩) Tryz.func26 rfl rfl rfl ?_
    repeat refine wps_seq ?_
    refine wps_region callOK ?_
    simp [zS, aTree]
    repeat refine wps_seq ?_
    refine wps_region callOK ?_
    simp [zS, lenN, c1, c2]
    repeat refine wps_seq ?_
    refine wps_cond (t := true) rfl (fun _ => ?_) fun h => by cases h
    repeat refine wps_seq ?_
    refine wps_region callOK ?_
    simp [zS]
    repeat refine wps_seq ?_
    refine wps_ret ?_
    simp [retVal, Tryz.f26, oneOr, ownedL, c2, owX, owB]
    exact ⟨[], [], by simp [fitV], FitH.keep0 rfl⟩
  have hpos : 0 < t.length := by omega
  have ko := fun H => k52 hOf ht hnm hpos H
  have hl := (c53o hW t ht hpos).new (by simp [pureL]) (pure_ints _) ⟨0, [[]]⟩
  have hlen := ofL_len t
  have hne := order_ne (ks := kidsOf t) hpos
  have hL50 : (orderOf t.length (kidsOf t)).length ≤ 1000 := by have := order_len (n := t.length) (ks := kidsOf t); have := ht.1; omega
  have hdel := c34 (T := T) (orderOf t.length (kidsOf t)) hL50 hne 54 (caps t (ofL t) form clo) (pure_caps _ _ _ _) (fun i => !(decide ((ofL t).getD i.toNat 0 = form) && p (nodeAt t i)))
    (fun i hi => by obtain ⟨a, b⟩ := order_mem hi; exact c54 t (ofL t) hlen form clo p i a b (hp _ (nodeAt_mem a b)))
  have hK : (orderOf t.length (kidsOf t)).filter (fun a => !!(decide ((ofL t).getD a.toNat 0 = form) && p (nodeAt t a))) = ownedL t form p := by
    rw [ownedL, if_neg (by omega)]
    congr 1
    funext i
    simp
  rw [hK] at hdel
  generalize ownedL t form p = K at *
  generalize orderOf t.length (kidsOf t) = L at *
  generalize ofL t = O at *
  simp only [aTree] at ko hl
  simp only [caps] at hdel
  refine callAt_body (fn := Tryz.f26) (s0 := ⟨[0, 1, 2, 3, 4, 5, 6, 7], [aTree t, .int .i64 form, .func (.func clo) [] [], .undef, .undef, .undef, .undef, .undef], [], 23, ⟨0, [[]]⟩⟩) Tryz.func26 rfl rfl rfl ?_
  repeat refine wps_seq ?_
  refine wps_region callOK ?_
  simp [zS, aTree]
  repeat refine wps_seq ?_
  refine wps_region callOK ?_
  simp [zS, lenN, c1, c2]
  repeat refine wps_seq ?_
  refine wps_cond (t := false) rfl (fun h => by cases h) fun _ => ?_
  repeat refine wps_seq ?_
  refine wps_skip ?_
  simp
  repeat refine wps_seq ?_
  refine wps_region callOK ?_
  simp [zS, ko]
  repeat refine wps_seq ?_
  refine .fit [] [(3, [aInts O]), (2, [.func (.func clo) [] []]), (1, [.int .i64 form]), (0, [aNodes t])] (s' := (⟨[0, 1, 2, 3, 4, 5, 6, 7], [.undef, .undef, .undef, .fptr [aNodes t] 0, .fptr [.int .i64 form] 0, .fptr [.func (.func clo) [] []] 0, .undef, .fptr [aInts O] 0], [], 23, ⟨0, [[]]⟩⟩ : St)) ⟨rfl, rfl, rfl, by simp [fitL, fitV, lookC], ?_⟩ ?_
  · refine (FitH.froze (by simp) fun x hx => ?_).fs rfl
    simp only [List.mem_cons, List.not_mem_nil, or_false] at hx
    rcases hx with rfl | rfl | rfl | rfl
    · exact ⟨_, by simp [Heap.get, getFs, getF], fitL_pure (by simp [pureL]), by simp [pureL]⟩
    · exact ⟨_, by simp [Heap.get, getFs, getF], fitL_pure (by simp [pureL, pureV]), by simp [pureL, pureV]⟩
    · exact ⟨_, by simp [Heap.get, getFs, getF], fitL_pure (by simp [pureL, pureV]), by simp [pureL, pureV]⟩
    · exact ⟨_, by simp [Heap.get, getFs, getF], fitL_pure (by simp [pureL]), by simp [pureL]⟩
  repeat refine wps_seq ?_
  refine wps_region (callOKF [⟨53, _, _, _, _, hl⟩, ⟨34, _, _, _, _, hdel⟩]) ?_
  simp [zS, callF]
  repeat refine wps_seq ?_
  refine wps_ret ?_
  simp [retVal, Tryz.f26, oneOr]
  exact owX_fit fun hK => by rw [owB_ne hK]; simp [Heap.get, getFs, getF]
def lays172_ren : Go.Shelf.Ren := ⟨fun | 129 => 241 | 171 => 48 | 172 => 47 | 205 => 166 | 243 => 76 | 244 => 74 | 245 => 75 | 246 => 109 | 247 => 104 | 279 => 105 | 280 => 106 | 281 => 107 | 282 => 108 | 283 => 167 | 284 => 168 | 285 => 169 | 286 => 170 | 287 => 164 | 316 => 165 | 317 => 240 | 318 => 242 | 319 => 243 | 320 => 244 | 321 => 238 | 322 => 239 | 337 => 282 | 338 => 283 | n => n, fun | 0 => 0 | 2 => 2 | 3 => 3 | 4 => 4 | 5 => 5 | 9 => 9 | 20 => 20 | 21 => 21 | 37 => 126 | 46 => 163 | 51 => 215 | 53 => 160 | 75 => 70 | 76 => 71 | 80 => 188 | 85 => 127 | 127 => 208 | 143 => 209 | 145 => 211 | 167 => 125 | 168 => 129 | 171 => 167 | 173 => 170 | 175 => 161 | 210 => 165 | 212 => 214 | 213 => 216 | 232 => 246 | 233 => 247 | n => n, fun | 15 => 0 | 16 => 1 | 17 => 2 | 18 => 4 | 19 => 5 | n => n⟩
theorem lays172 : Go.Proofs.LaysC.n172 Tryz.prog lays172_ren where
  mixed := by kernel_rfl
  f129 := Tryz.func241.trans (congrArg some (by kernel_rfl))
  f171 := Tryz.func48.trans (congrArg some (by kernel_rfl))
  f172 := Tryz.func47.trans (congrArg some (by kernel_rfl))
  f205 := Tryz.func166.trans (congrArg some (by kernel_rfl))
  f243 := Tryz.func76.trans (congrArg some (by kernel_rfl))
  f244 := Tryz.func74.trans (congrArg some (by kernel_rfl))
  f245 := Tryz.func75.trans (congrArg some (by kernel_rfl))
  f246 := Tryz.func109.trans (congrArg some (by kernel_rfl))
  f247 := Tryz.func104.trans (congrArg some (by kernel_rfl))
  f279 := Tryz.func105.trans (congrArg some (by kernel_rfl))
  f280 := Tryz.func106.trans (congrArg some (by kernel_rfl))
  f281 := Tryz.func107.trans (congrArg some (by kernel_rfl))
  f282 := Tryz.func108.trans (congrArg some (by kernel_rfl))
  f283 := Tryz.func167.trans (congrArg some (by kernel_rfl))
  f284 := Tryz.func168.trans (congrArg some (by kernel_rfl))
  f285 := Tryz.func169.trans (congrArg some (by kernel_rfl))
  f286 := Tryz.func170.trans (congrArg some (by kernel_rfl))
  f287 := Tryz.func164.trans (congrArg some (by kernel_rfl))
  f316 := Tryz.func165.trans (congrArg some (by kernel_rfl))
  f317 := Tryz.func240.trans (congrArg some (by kernel_rfl))
  f318 := Tryz.func242.trans (congrArg some (by kernel_rfl))
  f319 := Tryz.func243.trans (congrArg some (by kernel_rfl))
  f320 := Tryz.func244.trans (congrArg some (by kernel_rfl))
  f321 := Tryz.func238.trans (congrArg some (by kernel_rfl))
  f322 := Tryz.func239.trans (congrArg some (by kernel_rfl))
  f337 := Tryz.func282.trans (congrArg some (by kernel_rfl))
  f338 := Tryz.func283.trans (congrArg some (by kernel_rfl))
  t0 := Tryz.underlying0
  a0 := Tryz.isAgg0
  z0 := Tryz.sizeOf0
  v0 := Tryz.zeroValue0
  t2 := Tryz.underlying2
  a2 := Tryz.isAgg2
  z2 := Tryz.sizeOf2
  v2 := Tryz.zeroValue2
  t3 := Tryz.underlying3
  a3 := Tryz.isAgg3
  z3 := Tryz.sizeOf3
  v3 := Tryz.zeroValue3
  t4 := Tryz.underlying4
  a4 := Tryz.isAgg4
  z4 := Tryz.sizeOf4
  v4 := Tryz.zeroValue4
  t5 := Tryz.underlying5
  a5 := Tryz.isAgg5
  z5 := Tryz.sizeOf5
  v5 := Tryz.zeroValue5
  t9 := Tryz.underlying9
  a9 := Tryz.isAgg9
  z9 := Tryz.sizeOf9
  v9 := Tryz.zeroValue9
  t20 := Tryz.underlying20
  a20 := Tryz.isAgg20
  z20 := Tryz.sizeOf20
  v20 := Tryz.zeroValue20
  t21 := Tryz.underlying21
  a21 := Tryz.isAgg21
  z21 := Tryz.sizeOf21
  v21 := Tryz.zeroValue21
  t37 := Tryz.underlying126
  a37 := Tryz.isAgg126
  z37 := Tryz.sizeOf126
  v37 := Tryz.zeroValue126
  t46 := Tryz.underlying163
  a46 := Tryz.isAgg163
  z46 := Tryz.sizeOf163
  v46 := Tryz.zeroValue163
  t51 := Tryz.underlying215
  a51 := Tryz.isAgg215
  z51 := Tryz.sizeOf215
  v51 := Tryz.zeroValue215
  t53 := Tryz.underlying160
  a53 := Tryz.isAgg160
  z53 := Tryz.sizeOf160
  v53 := Tryz.zeroValue160
  t75 := Tryz.underlying70
  a75 := Tryz.isAgg70
  z75 := Tryz.sizeOf70
  v75 := Tryz.zeroValue70
  t76 := Tryz.underlying71
  a76 := Tryz.isAgg71
  z76 := Tryz.sizeOf71
  v76 := Tryz.zeroValue71
  t85 := Tryz.underlying127
  a85 := Tryz.isAgg127
  z85 := Tryz.sizeOf127
  v85 := Tryz.zeroValue127
  t127 := Tryz.underlying208
  a127 := Tryz.isAgg208
  z127 := Tryz.sizeOf208
  v127 := Tryz.zeroValue208
  t143 := Tryz.underlying209
  a143 := Tryz.isAgg209
  z143 := Tryz.sizeOf209
  v143 := Tryz.zeroValue209
  t145 := Tryz.underlying211
  a145 := Tryz.isAgg211
  z145 := Tryz.sizeOf211
  v145 := Tryz.zeroValue211
  t167 := Tryz.underlying125
  a167 := Tryz.isAgg125
  z167 := Tryz.sizeOf125
  v167 := Tryz.zeroValue125
  t168 := Tryz.underlying129
  a168 := Tryz.isAgg129
  z168 := Tryz.sizeOf129
  v168 := Tryz.zeroValue129
  t171 := Tryz.underlying167
  a171 := Tryz.isAgg167
  z171 := Tryz.sizeOf167
  v171 := Tryz.zeroValue167
  t173 := Tryz.underlying170
  a173 := Tryz.isAgg170
  z173 := Tryz.sizeOf170
  v173 := Tryz.zeroValue170
  t175 := Tryz.underlying161
  a175 := Tryz.isAgg161
  z175 := Tryz.sizeOf161
  v175 := Tryz.zeroValue161
  t210 := Tryz.underlying165
  a210 := Tryz.isAgg165
  z210 := Tryz.sizeOf165
  v210 := Tryz.zeroValue165
  t212 := Tryz.underlying214
  a212 := Tryz.isAgg214
  z212 := Tryz.sizeOf214
  v212 := Tryz.zeroValue214
  t213 := Tryz.underlying216
  a213 := Tryz.isAgg216
  z213 := Tryz.sizeOf216
  t232 := Tryz.underlying246
  a232 := Tryz.isAgg246
  z232 := Tryz.sizeOf246
  v232 := Tryz.zeroValue246
  t233 := Tryz.underlying247
  a233 := Tryz.isAgg247
  z233 := Tryz.sizeOf247
  v233 := Tryz.zeroValue247
  g15 := by kernel_rfl
  g16 := by kernel_rfl
  g17 := by kernel_rfl
  g18 := by kernel_rfl
  g19 := by kernel_rfl
  t80 := Tryz.underlying188
  a80 := Tryz.isAgg188
  z80 := Tryz.sizeOf188
  v80 := Tryz.zeroValue188
  i0 := by kernel_rfl
  i2 := by kernel_rfl
  i3 := by kernel_rfl
  i4 := by kernel_rfl
  i5 := by kernel_rfl
  i9 := by kernel_rfl
  i20 := by kernel_rfl
  i21 := by kernel_rfl
  i37 := by kernel_rfl
  i46 := by kernel_rfl
  i51 := by kernel_rfl
  i53 := by kernel_rfl
  i75 := by kernel_rfl
  i76 := by kernel_rfl
  i80 := by kernel_rfl
  i85 := by kernel_rfl
  i127 := by kernel_rfl
  i143 := by kernel_rfl
  i145 := by kernel_rfl
  i167 := by kernel_rfl
  i168 := by kernel_rfl
  i171 := by kernel_rfl
  i173 := by kernel_rfl
  i175 := by kernel_rfl
  i210 := by kernel_rfl
  i212 := by kernel_rfl
  i232 := by kernel_rfl
  i233 := by kernel_rfl
  m15 := by kernel_rfl
  m16 := by kernel_rfl
  m17 := by kernel_rfl
  m18 := by kernel_rfl
  m19 := by kernel_rfl
  c0 := by kernel_rfl
  c2 := by kernel_rfl
  c3 := by kernel_rfl
  c4 := by kernel_rfl
  c5 := by kernel_rfl
  c9 := by kernel_rfl
  c20 := by kernel_rfl
  c21 := by kernel_rfl
  c37 := by kernel_rfl
  c46 := by kernel_rfl
  c51 := by kernel_rfl
  c53 := by kernel_rfl
  c75 := by kernel_rfl
  c76 := by kernel_rfl
  c80 := by kernel_rfl
  c85 := by kernel_rfl
  c127 := by kernel_rfl
  c143 := by kernel_rfl
  c145 := by kernel_rfl
  c167 := by kernel_rfl
  c168 := by kernel_rfl
  c171 := by kernel_rfl
  c173 := by kernel_rfl
  c175 := by kernel_rfl
  c210 := by kernel_rfl
  c212 := by kernel_rfl
  c213 := by kernel_rfl
  c232 := by kernel_rfl
  c233 := by kernel_rfl
theorem sim_below {ρ : Place} {w w' : World} (sm : Sim ρ ⟨0, []⟩ w) (h : Below w.heap.size w w') : Sim ρ ⟨0, []⟩ w' where
  base := fun k hk => Nat.lt_of_lt_of_le (sm.base k hk) h.size
  below := fun k hk => (h.block k (sm.base k hk)).trans (sm.below k hk)
  os := h.os.trans sm.os
  tape := h.tape.trans sm.tape
  output := h.output.trans sm.output
  dom := sm.dom
  nodup := sm.nodup
  live := fun e he => by simp [Heap.ents] at he
  inj := fun e e' he => by simp [Heap.ents] at he
theorem step_below {ρ : Place} {w w' : World} (h : Below w.heap.size w w') : Step ρ ⟨0, []⟩ w ρ ⟨0, []⟩ w' where
  le := Place.le_refl ρ
  size := h.size
  keeps := fun k hk _ => h.block k hk
  rows := fun e' he' => by simp [Heap.ents] at he'
  num := Nat.le_refl _
  low := fun _ _ => rfl
  cold := fun k hk => .inl hk
def atoiA (s : Str) : AV := match Lib.atoiAll s with
  | .ok v => .tup [.int .i64 v, .nilI]
  | .range => .tup [.int .i64 (Lib.atoiSat s), .iface 129 .undef]
  | _ => .tup [.int .i64 0, .iface 129 .undef]
theorem vr_pair {ρ : Place} {a b : AV} {x y : Value} (h1 : VR ρ a x) (h2 : VR ρ b y) : VR ρ (.tup [a, b]) (.tuple #[x, y]) := by
  refine .tup _ _ rfl fun i h h' => ?_
  match i, h with
  | 0, _ => exact h1
  | 1, _ => exact h2
theorem c47 {T : List (Entry Tryz.prog)} (s : Str) (hl : s.length ≤ 1000000) : CallAt (ctx T) 47 [.str s] ⟨0, []⟩ (atoiA s) ⟨0, []⟩ := by
  intro ρ w xs sm hx
  match xs, hx with
  | [x], hx =>
    have h0 := hx.2 0 (by simp) (by simp)
    simp only [List.getElem_cons_zero] at h0
    cases h0
    have hrun : (callFunc 47 #[.string ⟨s.toArray⟩]).run (ctx T).P w = .ok (.enter 47 #[.string ⟨s.toArray⟩]) w := by
      have hf : (ctx T).P.funcs[47]? = some Tryz.f47 := Tryz.func47
      have hn : ¬ Tryz.f47.name = "runtime.NumGoroutine" := by decide +kernel
      simp [callFunc, hf, hn, Tryz.f47]
    refine .inr ⟨47, _, hrun, callsIn_wide.2 ?_⟩
    have cell : ∀ g, g ∈ ivars → ∃ v, w.cell? ⟨g, 0, none⟩ = some v ∧ isIf v := fun g hg => by
      obtain ⟨hB, v, hv, hi⟩ := ρ.gi g hg
      exact ⟨v, by rw [World.cell?, sm.below g hB]; exact hv, hi⟩
    have hsz : (⟨s.toArray⟩ : ByteArray).size = s.length := by show s.toArray.size = _; simp
    have hd : (⟨s.toArray⟩ : ByteArray).data.toList = s := by simp
    unfold atoiA
    cases hv : Lib.atoiAll s
    case ok v =>
      have := Go.Proofs.Any.strconv_Atoi_ok lays172 ⟨s.toArray⟩ (by rw [hsz]; omega) v (by rw [hd]; exact hv) w
      refine this.mono ?_
      rintro e w' ⟨rfl, hw⟩
      have hb : Below w.heap.size w w' := by
        rcases hw with rfl | ⟨t, rfl⟩
        · exact Below.refl _ _
        · exact Lib.bytesWorld_below _ _ _
      exact ⟨_, ρ, rfl, vr_pair (.int _ _) .nilI, sim_below sm hb, step_below hb⟩
    case range =>
      obtain ⟨ev, h1, h2⟩ := cell 1 (by simp [ivars])
      have := Go.Proofs.Any.strconv_Atoi_range lays172 ⟨s.toArray⟩ (by rw [hsz]; omega) (by rw [hd]; exact hv) ev w h1 h2
      refine this.mono ?_
      rintro e w' ⟨N, rfl, _, _, hb⟩
      rw [hd]
      exact ⟨_, ρ, rfl, vr_pair (.int _ _) (.iface _ _ _ (.undef _)), sim_below sm hb, step_below hb⟩
    · obtain ⟨ev, h1, h2⟩ := cell 0 (by simp [ivars])
      have := Go.Proofs.Any.strconv_Atoi_syntax lays172 ⟨s.toArray⟩ (by rw [hsz]; omega) (by rw [hd]; exact hv) ev w h1 h2
      refine this.mono ?_
      rintro e w' ⟨N, rfl, _, _, hb⟩
      exact ⟨_, ρ, rfl, vr_pair (.int _ _) (.iface _ _ _ (.undef _)), sim_below sm hb, step_below hb⟩
theorem atoiA_or (s : Str) : (∃ v, atoiA s = .tup [.int .i64 v, .nilI]) ∨ ∃ v, atoiA s = .tup [.int .i64 v, .iface 129 .undef] := by
  unfold atoiA
  split
  · exact .inl ⟨_, rfl⟩
  · exact .inr ⟨_, rfl⟩
  · exact .inr ⟨_, rfl⟩
theorem inj_str1 (x y : Str) (h : [AV.str x] = [AV.str y]) : x = y := by simpa using h
noncomputable def e47 : Entry Tryz.prog := mkE 47 [[]] (fun x : Str => [.str x]) (fun x => x.length ≤ 1000000) atoiA fun x h => c47 (T := []) x h
theorem c31 {T : List (Entry Tryz.prog)} (L : List Int) (x : Int) (hl : L.length ≤ 1000000) : CallAt (ctx T) 31 [aInts L, .int .i64 x] ⟨0, []⟩ (.int .i64 (idxFrom (fun y => decide (x = y)) L 0)) ⟨0, []⟩ := by
  refine callAt_body (fn := Tryz.f31) (s0 := ⟨[0, 1, 4, 5, 7, 8], [aInts L, .int .i64 x, .undef, .undef, .undef, .undef], [], 19, ⟨0, [[]]⟩⟩) Tryz.func31 rfl rfl rfl ?_
  repeat refine wps_seq ?_
  refine wps_region callOK ?_
  simp [zS]
  repeat refine wps_seq ?_
  refine wps_region callOK ?_
  simp [zS, lenI]
  repeat refine wps_seq ?_
  refine wps_block (wps_loop' (fun i : Nat => (⟨[0, 1, 4, 5, 7, 8], [aInts L, .int .i64 x, .undef, .undef, .int .i64 (L.length : Nat), .int .i64 i], [], 19, ⟨0, [[]]⟩⟩ : St))
    (fun i => i ≤ L.length ∧ idxFrom (fun y => decide (x = y)) L 0 = idxFrom (fun y => decide (x = y)) (L.drop i) i) (fun i => L.length - i) [] [] 0 ⟨Nat.zero_le _, rfl⟩ ⟨rfl, rfl, rfl, by simp [fitL, fitV, pureV, pureL, aInts], FitH.nothing⟩ ?_)
  rintro i ⟨hi, hx⟩ B hB
  repeat refine wps_seq ?_
  refine wps_region callOK ?_
  simp [zS]
  repeat refine wps_seq ?_
  refine wps_cond rfl (fun h => ?_) fun h => ?_
  · simp at h
    rw [idxFrom_at h] at hx
    repeat refine wps_seq ?_
    refine wps_skip ?_
    simp
    repeat refine wps_seq ?_
    refine wps_block ?_
    repeat refine wps_seq ?_
    refine wps_region callOK ?_
    simp [zS]
    by_cases h2 : L[i] = x
    · repeat refine wps_seq ?_
      refine wps_region callOK ?_
      simp [zS, atI h, h2]
      repeat refine wps_seq ?_
      refine wps_cond (t := true) rfl (fun _ => ?_) fun h => by cases h
      repeat refine wps_seq ?_
      refine wps_region callOK ?_
      simp [zS]
      repeat refine wps_seq ?_
      refine wps_ret ?_
      simp [retVal, Tryz.f31, oneOr, thenQ, blockQ]
      exact ends_pure rfl (by rw [hx, if_pos (by simp [h2])])
    · have h2' : ¬ x = L[i] := fun e => h2 e.symm
      repeat refine wps_seq ?_
      refine wps_region callOK ?_
      simp [zS, atI h, h2']
      repeat refine wps_seq ?_
      refine wps_cond (t := false) rfl (fun h => by cases h) fun _ => ?_
      repeat refine wps_seq ?_
      refine wps_skip ?_
      simp
      repeat refine wps_seq ?_
      refine wps_region callOK ?_
      simp [zS, add_one (show i ≤ 1000000000 by omega)]
      exact hB _ (i + 1) (by omega) ⟨by omega, by rw [hx, if_neg (by simp [h2'])]⟩ ⟨[], [], ⟨rfl, rfl, rfl, by simp [fitL, fitV, pureV, pureL, aInts], FitH.nothing⟩⟩
  · simp at h
    repeat refine wps_seq ?_
    refine wps_exit ?_
    simp
    repeat refine wps_seq ?_
    refine wps_region callOK ?_
    simp [zS]
    repeat refine wps_seq ?_
    refine wps_ret ?_
    simp [retVal, Tryz.f31, oneOr, thenQ, blockQ]
    exact ends_pure rfl (by rw [hx, List.drop_eq_nil_of_le h]; rfl)
noncomputable def e31 : Entry Tryz.prog := mkE 31 [[1], []] (fun x : List Int × Int => [aInts x.1, .int .i64 x.2]) (fun x => x.1.length ≤ 1000000) (fun x => .int .i64 (idxFrom (fun y => decide (x.2 = y)) x.1 0)) fun x hx => c31 (T := []) x.1 x.2 hx
theorem k31 {T : List (Entry Tryz.prog)} (hT : findE 31 T = some e31.g) {L : List Int} (x : Int) (hl : L.length ≤ 1000000) (H : Heap) : callL (ctx T) (.fn 31) [aInts L, .int .i64 x] H = some (.int .i64 (idxFrom (fun y => decide (x = y)) L 0), H) :=
  mkE_scalar hT injLI (L, x) hl rfl (by simp [aInts])
theorem idxI_mem {x : Int} : ∀ (L : List Int) (k : Nat), (0 ≤ idxFrom (fun y => decide (x = y)) L k) ↔ x ∈ L
  | [], k => by simp [idxFrom]
  | y :: r, k => by
    unfold idxFrom
    by_cases h : x = y
    · simp [h]
    · simp only [h, decide_false, Bool.false_eq_true, if_false, List.mem_cons, false_or]
      exact idxI_mem r (k + 1)
theorem c12 {T : List (Entry Tryz.prog)} (hI : findE 31 T = some e31.g) (L : List Int) (x : Int) (hl : L.length ≤ 1000000) : CallAt (ctx T) 12 [aInts L, .int .i64 x] ⟨0, []⟩ (.bool (decide (x ∈ L))) ⟨0, []⟩ := by
  have hk := fun H => k31 hI x hl H
  have hm := idxI_mem (x := x) L 0
  generalize idxFrom (fun y => decide (x = y)) L 0 = v at *
  simp only [aInts] at hk
  refine callAt_body (fn := Tryz.f12) (s0 := ⟨[0, 1, 4], [aInts L, .int .i64 x, .undef], [], 9, ⟨0, [[]]⟩⟩) Tryz.func12 rfl rfl rfl ?_
  (repeat (first
    | (refine wps_seq ?_)
    | (refine wps_block ?_)
    | (refine wps_label ?_; simp only [thenQ, blockQ])
    | ((refine wps_region callOK ?_); simp [zS, aInts, hk])
    | (refine wps_cond (t := true) rfl (fun _ => ?_) (fun h => by cases h))
    | (refine wps_cond (t := false) rfl (fun h => by cases h) (fun _ => ?_))
    | ((refine wps_skip ?_); simp only [thenQ, blockQ])
    | ((refine wps_exit ?_); simp [thenQ, blockQ])))
  repeat refine wps_seq ?_
  refine wps_ret ?_
  simp [retVal, Tryz.f12, oneOr, thenQ, blockQ]
  exact ends_pure rfl (by simp [hm])
noncomputable def e12 : Entry Tryz.prog := mkE 12 [[1], []] (fun x : List Int × Int => [aInts x.1, .int .i64 x.2]) (fun x => x.1.length ≤ 1000000) (fun x => .bool (decide (x.2 ∈ x.1))) fun x hx => c12 (T := [e31]) rfl x.1 x.2 hx
theorem k12 {T : List (Entry Tryz.prog)} (hT : findE 12 T = some e12.g) {L : List Int} (x : Int) (hl : L.length ≤ 1000000) (H : Heap) : callL (ctx T) (.fn 12) [aInts L, .int .i64 x] H = some (.bool (decide (x ∈ L)), H) :=
  mkE_scalar hT injLI (L, x) hl rfl (by simp [aInts])
def itoaS (n : Nat) : Str := if n < 10 then [UInt8.ofNat (48 + n)] else [UInt8.ofNat (48 + n / 10), UInt8.ofNat (48 + n % 10)]
def isStrS (s : Str) : Option (AV × Heap) → Bool
  | some (.str x, _) => decide (x = s)
  | _ => false
theorem closedStr {T : List (Entry Tryz.prog)} {f : FuncId} {args : List AV} {s : Str} (h : isStrS s (callN (ctx T) 100000 (.fn f) args ⟨0, []⟩) = true) : CallAt (ctx T) f args ⟨0, []⟩ (.str s) ⟨0, []⟩ := by
  revert h
  cases hr : callN (ctx T) 100000 (.fn f) args ⟨0, []⟩ with
  | none => intro h; cases h
  | some r =>
    obtain ⟨v, H'⟩ := r
    intro h
    cases v <;> simp only [isStrS] at h <;> first | (cases h; done) | skip
    simp only [decide_eq_true_eq] at h
    subst h
    exact ((call_ok mixed (mkC_ok _ _ _) 100000).fn f args ⟨0, []⟩ _ _ hr).freeze (Φ := []) (by simp [fitV, pureV]) FitH.empty
theorem itoa_all : ((List.range 40).all fun n : Nat => isStrS (itoaS n) (callN (ctx []) 100000 (.fn 48) [.int .i64 (n : Int)] ⟨0, []⟩)) = true := by decide +kernel
theorem CallAt.base {T : List (Entry Tryz.prog)} {f : FuncId} {args : List AV} {v : AV} (h : CallAt (ctx []) f args ⟨0, []⟩ v ⟨0, []⟩) : CallAt (ctx T) f args ⟨0, []⟩ v ⟨0, []⟩ := h
theorem c48 {T : List (Entry Tryz.prog)} {n : Nat} (hn : n < 40) : CallAt (ctx T) 48 [.int .i64 (n : Int)] ⟨0, []⟩ (.str (itoaS n)) ⟨0, []⟩ :=
  CallAt.base (closedStr (List.all_eq_true.1 itoa_all n (List.mem_range.2 hn)))
noncomputable def e48 : Entry Tryz.prog := mkE 48 [[]] (fun n : Nat => [.int .i64 (n : Int)]) (fun n => n < 40) (fun n => .str (itoaS n)) fun n hn => c48 (T := []) hn
theorem injNat (x y : Nat) (h : [AV.int .i64 (x : Int)] = [AV.int .i64 (y : Int)]) : x = y := by simp at h; omega
theorem k48 {T : List (Entry Tryz.prog)} (hT : findE 48 T = some e48.g) {n : Nat} (hn : n < 40) (H : Heap) : callL (ctx T) (.fn 48) [.int .i64 (n : Int)] H = some (.str (itoaS n), H) :=
  mkE_scalar hT injNat n hn rfl (by simp)
theorem k47 {T : List (Entry Tryz.prog)} (hT : findE 47 T = some e47.g) {s : Str} (hl : s.length ≤ 1000000) (H : Heap) : callL (ctx T) (.fn 47) [.str s] H = some (atoiA s, H) :=
  mkE_pure hT inj_str1 s hl (by simp [pureL, pureV]) (by simp [thawL, thawA, okV, pureV]) H
def calledB (t : Tr) (i : Int) (x : Str) : Bool := if i < 0 ∨ (t.length : Int) ≤ i ∨ x = [] then false else decide ((nodeAt t i).kind = 1) && (decide (valOf (nodeAt t i) wId = x) || decide (valOf (nodeAt t i) wName = x))
theorem c33 {T : List (Entry Tryz.prog)} (hG : findE 56 T = some e56.g) (t : Tr) (ht : okTr t) (i : Int) (x : Str) : CallAt (ctx T) 33 [aTree t, .int .i64 i, .str x] ⟨0, []⟩ (.bool (calledB t i x)) ⟨0, []⟩ := by
  refine callAt_body (fn := Tryz.f33) (s0 := ⟨[0, 1, 2, 3, 6, 7, 8, 10], [aTree t, .int .i64 i, .str x, .undef, .undef, .undef, .undef, .undef], [], 55, ⟨0, [[]]⟩⟩) Tryz.func33 rfl rfl rfl ?_
  repeat refine wps_seq ?_
  refine wps_region callOK ?_
  simp [zS, aTree]
  by_cases c1 : i < 0
  · repeat refine wps_seq ?_
    refine wps_region callOK ?_
    simp [zS, lenN, c1]
    repeat refine wps_seq ?_
    refine wps_cond (t := true) rfl (fun _ => ?_) fun h => by cases h
    repeat refine wps_seq ?_
    refine wps_region callOK ?_
    simp [zS]
    repeat refine wps_seq ?_
    refine wps_ret ?_
    simp [retVal, Tryz.f33, oneOr, thenQ, blockQ]
    exact ends_pure rfl (by simp [calledB, c1])
  · by_cases c2 : (t.length : Int) ≤ i
    · repeat refine wps_seq ?_
      refine wps_region callOK ?_
      simp [zS, lenN, c1, c2]
      repeat refine wps_seq ?_
      refine wps_cond (t := true) rfl (fun _ => ?_) fun h => by cases h
      repeat refine wps_seq ?_
      refine wps_region callOK ?_
      simp [zS]
      repeat refine wps_seq ?_
      refine wps_ret ?_
      simp [retVal, Tryz.f33, oneOr, thenQ, blockQ]
      exact ends_pure rfl (by simp [calledB, c1, c2])
    · by_cases c3 : x = []
      · repeat refine wps_seq ?_
        refine wps_region callOK ?_
        simp [zS, lenN, c1, c2, c3]
        repeat refine wps_seq ?_
        refine wps_cond (t := true) rfl (fun _ => ?_) fun h => by cases h
        repeat refine wps_seq ?_
        refine wps_region callOK ?_
        simp [zS]
        repeat refine wps_seq ?_
        refine wps_ret ?_
        simp [retVal, Tryz.f33, oneOr, thenQ, blockQ]
        exact ends_pure rfl (by simp [calledB, c1, c2, c3])
      · have hl := (ht.2 _ (nodeAt_mem (t := t) (i := i) (by omega) (by omega))).2
        have ka := fun nm H => k56 hG nm hl (th_aAttrs H _)
        repeat refine wps_seq ?_
        refine wps_region callOK ?_
        simp [zS, lenN, c1, c2, c3]
        repeat refine wps_seq ?_
        refine wps_cond (t := false) rfl (fun h => by cases h) fun _ => ?_
        repeat refine wps_seq ?_
        refine wps_skip ?_
        simp
        refine wps_seq ?_
        repeat refine wps_seq ?_
        refine wps_region callOK ?_
        simp [zN, atX (t := t) (i := i) (by omega) (by omega)]
        repeat refine wps_seq ?_
        refine wps_region callOK ?_
        simp [zS, ka, gotA]
        repeat refine wps_seq ?_
        refine wps_region callOK ?_
        simp [zS, ka, gotA]
        by_cases d1 : (nodeAt t i).kind = 1
        · by_cases d2 : (getAt wId (nodeAt t i).attrs).getD [] = x
          · repeat refine wps_seq ?_
            refine wps_region callOK ?_
            simp [zS, d1, d2]
            repeat refine wps_seq ?_
            refine wps_ret ?_
            simp [retVal, Tryz.f33, oneOr, thenQ, blockQ]
            exact ends_pure rfl (by simp [calledB, valOf, c1, c2, c3, d1, d2])
          · by_cases d3 : (getAt wName (nodeAt t i).attrs).getD [] = x
            · repeat refine wps_seq ?_
              refine wps_region callOK ?_
              simp [zS, d1, d2, d3]
              repeat refine wps_seq ?_
              refine wps_ret ?_
              simp [retVal, Tryz.f33, oneOr, thenQ, blockQ]
              exact ends_pure rfl (by simp [calledB, valOf, c1, c2, c3, d1, d2, d3])
            · repeat refine wps_seq ?_
              refine wps_region callOK ?_
              simp [zS, d1, d2, d3]
              repeat refine wps_seq ?_
              refine wps_ret ?_
              simp [retVal, Tryz.f33, oneOr, thenQ, blockQ]
              exact ends_pure rfl (by simp [calledB, valOf, c1, c2, c3, d1, d2, d3])
        · repeat refine wps_seq ?_
          refine wps_region callOK ?_
          simp [zS, d1]
          repeat refine wps_seq ?_
          refine wps_ret ?_
          simp [retVal, Tryz.f33, oneOr, thenQ, blockQ]
          exact ends_pure rfl (by simp [calledB, c1, c2, c3, d1])
theorem injTIS2 (x y : Tr × Int × Str) (h : [aTree x.1, .int .i64 x.2.1, .str x.2.2] = [aTree y.1, .int .i64 y.2.1, .str y.2.2]) : x = y := injTIS x y h
noncomputable def e33 : Entry Tryz.prog := mkE 33 [[], [], []] (fun x : Tr × Int × Str => [aTree x.1, .int .i64 x.2.1, .str x.2.2]) (fun x => okTr x.1) (fun x => .bool (calledB x.1 x.2.1 x.2.2)) fun x hx => c33 (T := [e56]) rfl x.1 hx x.2.1 x.2.2
theorem k33 {T : List (Entry Tryz.prog)} (hT : findE 33 T = some e33.g) {t : Tr} (ht : okTr t) (i : Int) (x : Str) (H : Heap) : callL (ctx T) (.fn 33) [aTree t, .int .i64 i, .str x] H = some (.bool (calledB t i x), H) :=
  mkE_scalar hT injTIS2 (t, i, x) ht rfl (by simp [th_aTree])
def numI (l : List Int) (x : Str) : Option Nat := match Lib.atoiAll x with
  | .ok v => if 0 ≤ v ∧ v < (l.length : Int) ∧ itoaS v.toNat = x then some v.toNat else none
  | _ => none
def findI (t : Tr) (x : Str) : List Int → List Int
  | [] => []
  | i :: r => if calledB t i x = true then [i] else findI t x r
def itemL (t : Tr) (l : List Int) (x : Str) : List Int := match numI l x with
  | some n => [l.getD n 0]
  | none => findI t x l
theorem findI_or (t : Tr) (x : Str) : ∀ l, findI t x l = [] ∨ ∃ y, y ∈ l ∧ findI t x l = [y]
  | [] => .inl rfl
  | i :: r => by
    unfold findI
    split
    · exact .inr ⟨i, by simp, rfl⟩
    · rcases findI_or t x r with h | ⟨y, h1, h2⟩
      · exact .inl h
      · exact .inr ⟨y, by simp [h1], h2⟩
theorem item_or (t : Tr) (l : List Int) (x : Str) : itemL t l x = [] ∨ ∃ y, y ∈ l ∧ itemL t l x = [y] := by
  unfold itemL
  cases hn : numI l x with
  | none => exact findI_or t x l
  | some n =>
    right
    unfold numI at hn
    split at hn
    · split at hn
      · rename_i v _ h
        simp only [Option.some.injEq] at hn
        have hl : n < l.length := by omega
        exact ⟨l[n], List.getElem_mem _, by simp [List.getD_eq_getElem?_getD, hl]⟩
      · cases hn
    · cases hn
def owH (H : Heap) (K : List Int) : Heap := match K with
  | [] => H
  | _ :: _ => H.new (.cells (ints K))
theorem owX_new {C : Ctx} {f : FuncId} {args : List AV} {K : List Int} (h : CallAt C f args ⟨0, []⟩ (owX 0 K) ⟨1, [owB 0 K]⟩) (hp : pureL args = true) (H : Heap) : CallAt C f args H (owX H.n K) (owH H K) := by
  cases K with
  | nil => exact (owX_froze h).lift hp H
  | cons x r => exact CallAt.new h hp (pure_ints _) H
theorem owX_fitb {b m : Nat} {fs : List (List (Nat × Blk))} {K : List Int} (h : K ≠ [] → Heap.get ⟨m, fs⟩ b = some (.cells (ints K))) : ∃ σ Φ, fitV σ Φ (owX b K) (owX 0 K) ∧ FitH 0 σ Φ ⟨m, fs⟩ ⟨1, [owB 0 K]⟩ := by
  cases K with
  | nil => exact ⟨[], [], by simp [owX, fitV, pureV], FitH.keep0 (by simp [owB])⟩
  | cons x r => exact ⟨[(b, 0)], [], by simp [owX, fitV, lookN], FitH.keep1 (b := b) (h (by simp)) (pure_ints _) (by simp [owB])⟩
theorem owX_end {b m : Nat} {fs : List (List (Nat × Blk))} {K : List Int} (h : K ≠ [] → Heap.get ⟨m, fs⟩ b = some (.cells (ints K))) : ∃ σ Φ, fitV σ Φ (owX b K) (aInts K) ∧ FitH 0 σ Φ ⟨m, fs⟩ ⟨0, []⟩ := by
  cases K with
  | nil => exact ⟨[], [], by simp [owX, aInts, fitV, pureV], FitH.empty⟩
  | cons x r =>
    refine ⟨[], [(b, ints (x :: r))], fit_ints (by simp [lookC]) rfl, .froze (by simp) fun y hy => ?_⟩
    rw [List.mem_singleton] at hy
    subst hy
    exact ⟨_, h (by simp), fitL_pure (pure_ints _), pure_ints _⟩
theorem len_owX {H : Heap} {b : Nat} {K : List Int} : lenA Tryz.prog H 27 (owX b K) = some K.length := by cases K <;> simp [owX, lenA]
def okVals (t : Tr) : Prop := ∀ n, n ∈ t → n.name.length ≤ 1000000000 ∧ (valOf n wType).length ≤ 1000000
theorem okVals.nm {t : Tr} (h : okVals t) : okNames t := fun n hn => (h n hn).1
def elemB (n : Nd) : Bool := htmlB n lsListed && !imageB n
theorem c27 {T : List (Entry Tryz.prog)} (hLi : findE 28 T = some e28.g) (hIm : findE 29 T = some e29.g) (n : Nd) (hn : n.name.length ≤ 1000000000) (hl : n.attrs.length ≤ 1000) (hv : (valOf n wType).length ≤ 1000000) : CallAt (ctx T) 27 [aNode n] ⟨0, []⟩ (.bool (elemB n)) ⟨0, []⟩ := by
  have kl := fun H => k28 hLi hn H
  have km := fun H => k29 hIm hl hv H
  have he : elemB n = (htmlB n lsListed && !imageB n) := rfl
  rw [he]
  generalize imageB n = b at *
  rcases Bool.eq_false_or_eq_true (htmlB n lsListed) with ha | ha
  · rw [ha] at kl ⊢
    obtain ⟨kind, space, name, attrs, data, up, kids⟩ := n
    simp only [aNode, Nd.cs, aInt, aAttrs, aInts] at kl km
    refine callAt_body (fn := Tryz.f27) (s0 := ⟨[0, 1, 2], [aNode ⟨kind, space, name, attrs, data, up, kids⟩, .undef, .undef], [], 10, ⟨0, [[]]⟩⟩) Tryz.func27 rfl rfl rfl ?_
    (repeat (first
      | (refine wps_seq ?_)
      | (refine wps_block ?_)
      | (refine wps_label ?_; simp only [thenQ, blockQ])
      | ((refine wps_region callOK ?_); simp [zS, aNode, Nd.cs, aInt, aAttrs, aInts, kl, km])
      | (refine wps_cond (t := true) rfl (fun _ => ?_) (fun h => by cases h))
      | (refine wps_cond (t := false) rfl (fun h => by cases h) (fun _ => ?_))
      | ((refine wps_skip ?_); simp only [thenQ, blockQ])
      | ((refine wps_exit ?_); simp [thenQ, blockQ])))
    repeat refine wps_seq ?_
    refine wps_ret ?_
    simp [retVal, Tryz.f27, oneOr, thenQ, blockQ]
    exact ends_pure rfl (by simp)
  · rw [ha] at kl ⊢
    obtain ⟨kind, space, name, attrs, data, up, kids⟩ := n
    simp only [aNode, Nd.cs, aInt, aAttrs, aInts] at kl km
    refine callAt_body (fn := Tryz.f27) (s0 := ⟨[0, 1, 2], [aNode ⟨kind, space, name, attrs, data, up, kids⟩, .undef, .undef], [], 10, ⟨0, [[]]⟩⟩) Tryz.func27 rfl rfl rfl ?_
    (repeat (first
      | (refine wps_seq ?_)
      | (refine wps_block ?_)
      | (refine wps_label ?_; simp only [thenQ, blockQ])
      | ((refine wps_region callOK ?_); simp [zS, aNode, Nd.cs, aInt, aAttrs, aInts, kl])
      | (refine wps_cond (t := true) rfl (fun _ => ?_) (fun h => by cases h))
      | (refine wps_cond (t := false) rfl (fun h => by cases h) (fun _ => ?_))
      | ((refine wps_skip ?_); simp only [thenQ, blockQ])
      | ((refine wps_exit ?_); simp [thenQ, blockQ])))
    repeat refine wps_seq ?_
    refine wps_ret ?_
    simp [retVal, Tryz.f27, oneOr, thenQ, blockQ]
    exact ends_pure rfl (by simp)
theorem c35 {T : List (Entry Tryz.prog)} (hLi : findE 28 T = some e28.g) (n : Nd) (hn : n.name.length ≤ 1000000000) : CallAt (ctx T) 35 [aNode n] ⟨0, []⟩ (.bool (!htmlB n lsListed)) ⟨0, []⟩ := by
  have kl := fun H => k28 hLi hn H
  generalize htmlB n lsListed = a at *
  obtain ⟨kind, space, name, attrs, data, up, kids⟩ := n
  simp only [aNode, Nd.cs, aInt, aAttrs, aInts] at kl
  refine callAt_body (fn := Tryz.f35) (s0 := ⟨[0, 1, 2], [aNode ⟨kind, space, name, attrs, data, up, kids⟩, .undef, .undef], [], 6, ⟨0, [[]]⟩⟩) Tryz.func35 rfl rfl rfl ?_
  (repeat (first
    | (refine wps_seq ?_)
    | (refine wps_block ?_)
    | (refine wps_label ?_; simp only [thenQ, blockQ])
    | ((refine wps_region callOK ?_); simp [zS, aNode, Nd.cs, aInt, aAttrs, aInts, kl])
    | (refine wps_cond (t := true) rfl (fun _ => ?_) (fun h => by cases h))
    | (refine wps_cond (t := false) rfl (fun h => by cases h) (fun _ => ?_))
    | ((refine wps_skip ?_); simp only [thenQ, blockQ])
    | ((refine wps_exit ?_); simp [thenQ, blockQ])))
  repeat refine wps_seq ?_
  refine wps_ret ?_
  simp [retVal, Tryz.f35, oneOr, thenQ, blockQ]
  exact ends_pure rfl (by simp)
theorem c32 {T : List (Entry Tryz.prog)} (hC : findE 33 T = some e33.g) (t : Tr) (ht : okTr t) (x : Str) (i : Int) : CallAt (ctx T) 32 [.int .i64 i, .fptr [aNodes t] 0, .fptr [.str x] 0] ⟨0, []⟩ (.bool (!calledB t i x)) ⟨0, []⟩ := by
  have kc := fun H => k33 hC ht i x H
  simp only [aTree] at kc
  generalize calledB t i x = c at *
  refine callAt_body (fn := Tryz.f32) (s0 := ⟨[0, 1, 2, 4], [.int .i64 i, .fptr [aNodes t] 0, .fptr [.str x] 0, .undef], [], 10, ⟨0, [[]]⟩⟩) Tryz.func32 rfl rfl rfl ?_
  (repeat (first
    | (refine wps_seq ?_)
    | (refine wps_block ?_)
    | (refine wps_label ?_; simp only [thenQ, blockQ])
    | ((refine wps_region callOK ?_); simp [zS, kc])
    | (refine wps_cond (t := true) rfl (fun _ => ?_) (fun h => by cases h))
    | (refine wps_cond (t := false) rfl (fun h => by cases h) (fun _ => ?_))
    | ((refine wps_skip ?_); simp only [thenQ, blockQ])
    | ((refine wps_exit ?_); simp [thenQ, blockQ])))
  repeat refine wps_seq ?_
  refine wps_ret ?_
  simp [retVal, Tryz.f32, oneOr, thenQ, blockQ]
  exact ends_pure rfl (by simp)
def elemsL (t : Tr) (form : Int) : List Int := ownedL t form elemB
theorem c9 {T : List (Entry Tryz.prog)} (hOf : findE 52 T = some e52.g) (hW : findE 82 T = some e82.g) (hLi : findE 28 T = some e28.g) (hIm : findE 29 T = some e29.g) (t : Tr) (ht : smallTr t) (hv : okVals t) (form : Int) :
    CallAt (ctx T) 9 [aTree t, .int .i64 form] ⟨0, []⟩ (owX 0 (elemsL t form)) ⟨1, [owB 0 (elemsL t form)]⟩ := by
  have h := c26 hOf hW t ht hv.nm form 27 elemB fun n hn => c27 hLi hIm n (hv n hn).1 (ht.2.2 n hn).2 (hv n hn).2
  have h1 := owX_new h (by simp [pureL, pureV]) ⟨1, [[(0, .cells [aNodes t])]]⟩
  have e : ownedL t form elemB = elemsL t form := rfl
  rw [e] at h1
  generalize elemsL t form = K at *
  simp only [aTree] at h1
  refine callAt_body (fn := Tryz.f9) (s0 := ⟨[0, 1, 2, 4], [aTree t, .int .i64 form, .undef, .undef], [], 8, ⟨0, [[]]⟩⟩) Tryz.func9 rfl rfl rfl ?_
  repeat refine wps_seq ?_
  refine wps_region callOK ?_
  simp [zS, aTree]
  repeat refine wps_seq ?_
  refine wps_region (callOKF [⟨26, _, _, _, _, h1⟩]) ?_
  simp [zS, callF]
  repeat refine wps_seq ?_
  refine wps_ret ?_
  simp [retVal, Tryz.f9, oneOr]
  cases K with
  | nil => exact owX_fitb fun h => absurd rfl h
  | cons x r => exact owX_fitb fun _ => by simp [owH, Heap.new, pushF, Heap.get, getFs, getF]
def namedF (t : Tr) (form : Int) (x : Str) : List Int := match (elemsL t form).filter (fun i => calledB t i x) with
  | [] => (ownedL t form (fun n => !htmlB n lsListed)).filter (fun i => calledB t i x)
  | y :: r => y :: r
def capsN (t : Tr) (x : Str) : List AV := [.fptr [aNodes t] 0, .fptr [.str x] 0]
theorem owned_mem {t : Tr} {form i : Int} {p : Nd → Bool} (h : i ∈ ownedL t form p) : 0 ≤ i ∧ i < (t.length : Int) ∧ (ofL t).getD i.toNat 0 = form ∧ p (nodeAt t i) = true ∧ ¬ form < 1 ∧ form < (t.length : Int) := by
  unfold ownedL at h
  split at h
  · cases h
  · rw [List.mem_filter, Bool.and_eq_true, decide_eq_true_eq] at h
    obtain ⟨h1, h2⟩ := order_mem h.1
    exact ⟨h1, h2, h.2.1, h.2.2, by omega, by omega⟩
theorem owned_len {t : Tr} {form : Int} {p : Nd → Bool} : (ownedL t form p).length ≤ t.length := by
  unfold ownedL
  split
  · simp
  · exact Nat.le_trans (List.length_filter_le _ _) order_len
theorem delN {T : List (Entry Tryz.prog)} (hC : findE 33 T = some e33.g) (t : Tr) (ht : smallTr t) (x : Str) (K : List Int) (hl : K.length ≤ 1000) :
    CallAt (ctx T) 34 [owX 0 K, .func (.func 32) [] (capsN t x)] (owH ⟨0, [[]]⟩ K) (owX 0 (K.filter fun i => calledB t i x)) ⟨match K with | [] => 0 | _ :: _ => 1, [owB 0 (K.filter fun i => calledB t i x)]⟩ := by
  have hc : pureL (capsN t x) = true := by simp [capsN, pureL, pureV]
  cases K with
  | nil => exact (c340 32 (capsN t x) hc).lift (by simp [pureL, pureV, hc]) ⟨0, [[]]⟩
  | cons y r =>
    have h := c34 (T := T) (y :: r) hl (by simp) 32 (capsN t x) hc (fun i => !calledB t i x) (fun i _ => c32 hC t ht.2 x i)
    have e : ((y :: r).filter fun a => !!calledB t a x) = (y :: r).filter fun i => calledB t i x := by simp
    rw [e] at h
    exact h
theorem c13 {T : List (Entry Tryz.prog)} (hOf : findE 52 T = some e52.g) (hW : findE 82 T = some e82.g) (hLi : findE 28 T = some e28.g) (hIm : findE 29 T = some e29.g) (hC : findE 33 T = some e33.g) (t : Tr) (ht : smallTr t) (hv : okVals t) (form : Int) (x : Str) :
    CallAt (ctx T) 13 [aTree t, .int .i64 form, .str x] ⟨0, []⟩ (aInts (namedF t form x)) ⟨0, []⟩ := by
  have h1 := owX_new (c9 hOf hW hLi hIm t ht hv form) (by simp [pureL, pureV]) ⟨0, [[]]⟩
  have h2 := owX_new (c26 hOf hW t ht hv.nm form 35 (fun n => !htmlB n lsListed) fun n hn => c35 hLi n (hv n hn).1) (by simp [pureL, pureV]) ⟨0, [[]]⟩
  have hle : (elemsL t form).length ≤ 1000 := by have := owned_len (t := t) (form := form) (p := elemB); have := ht.1; simp only [elemsL]; omega
  have hlo : (ownedL t form (fun n => !htmlB n lsListed)).length ≤ 1000 := by have := owned_len (t := t) (form := form) (p := fun n => !htmlB n lsListed); have := ht.1; omega
  have d1 := delN hC t ht x (elemsL t form) hle
  have d2 := delN hC t ht x (ownedL t form (fun n => !htmlB n lsListed)) hlo
  have hnf : namedF t form x = match (elemsL t form).filter (fun i => calledB t i x) with
    | [] => (ownedL t form (fun n => !htmlB n lsListed)).filter (fun i => calledB t i x)
    | y :: r => y :: r := rfl
  rw [hnf]
  generalize elemsL t form = E at *
  generalize ownedL t form (fun n => !htmlB n lsListed) = K at *
  generalize hM : E.filter (fun i => calledB t i x) = M at *
  generalize hN : K.filter (fun i => calledB t i x) = N at *
  generalize hm1 : (match E with | [] => 0 | _ :: _ => 1 : Nat) = m1 at *
  generalize hm2 : (match K with | [] => 0 | _ :: _ => 1 : Nat) = m2 at *
  simp only [aTree] at h1 h2
  simp only [capsN] at d1 d2
  refine callAt_body (fn := Tryz.f13) (s0 := ⟨[0, 1, 2, 3, 5, 6, 7, 8, 9], [aTree t, .int .i64 form, .str x, .undef, .undef, .undef, .undef, .undef, .undef], [], 26, ⟨0, [[]]⟩⟩) Tryz.func13 rfl rfl rfl ?_
  repeat refine wps_seq ?_
  refine wps_region callOK ?_
  simp [zS, aTree]
  repeat refine wps_seq ?_
  refine wps_region callOK ?_
  simp [zS]
  repeat refine wps_seq ?_
  refine .fit [] [(1, [.str x]), (0, [aNodes t])] (s' := (⟨[0, 1, 2, 3, 5, 6, 7, 8, 9], [.undef, .int .i64 form, .undef, .fptr [aNodes t] 0, .undef, .undef, .func (.func 32) [] [.fptr [aNodes t] 0, .fptr [.str x] 0], .undef, .undef], [], 26, ⟨0, [[]]⟩⟩ : St)) ⟨rfl, rfl, rfl, by simp [fitL, fitV, lookC, pureV], ?_⟩ ?_
  · refine (FitH.froze (by simp) fun y hy => ?_).fs rfl
    simp only [List.mem_cons, List.not_mem_nil, or_false] at hy
    rcases hy with rfl | rfl
    · exact ⟨_, by simp [Heap.get, getFs, getF], fitL_pure (by simp [pureL, pureV]), by simp [pureL, pureV]⟩
    · exact ⟨_, by simp [Heap.get, getFs, getF], fitL_pure (by simp [pureL]), by simp [pureL]⟩
  repeat refine wps_seq ?_
  refine wps_region (callOKF [⟨9, _, _, _, _, h1⟩, ⟨34, _, _, _, _, d1⟩]) ?_
  simp [zS, callF]
  repeat refine wps_seq ?_
  refine wps_region callOK ?_
  simp [zS, len_owX]
  cases M with
  | cons y r =>
    repeat refine wps_seq ?_
    refine wps_cond (t := false) (by simp [opnd, St.get]) (fun h => by cases h) fun _ => ?_
    repeat refine wps_seq ?_
    refine wps_skip ?_
    simp
    repeat refine wps_seq ?_
    refine wps_region callOK ?_
    simp [zS]
    repeat refine wps_seq ?_
    refine wps_ret ?_
    simp [retVal, Tryz.f13, oneOr]
    exact owX_end fun _ => by simp [owB, Heap.get, getFs, getF]
  | nil =>
    repeat refine wps_seq ?_
    refine wps_cond (t := true) (by simp [opnd, St.get]) (fun _ => ?_) fun h => by cases h
    repeat refine wps_seq ?_
    refine .fit [] [] (s' := (⟨[0, 1, 2, 3, 5, 6, 7, 8, 9], [.undef, .int .i64 form, .undef, .fptr [aNodes t] 0, .undef, .undef, .func (.func 32) [] [.fptr [aNodes t] 0, .fptr [.str x] 0], .undef, .undef], [], 26, ⟨0, [[]]⟩⟩ : St)) ⟨rfl, rfl, rfl, by simp [fitL, fitV, pureV, pureL], FitH.nothing⟩ ?_
    repeat refine wps_seq ?_
    refine wps_region (callOKF [⟨26, _, _, _, _, h2⟩]) ?_
    simp [zS, callF]
    repeat refine wps_seq ?_
    refine wps_region (callOKF [⟨34, _, _, _, _, d2⟩]) ?_
    simp [zS, callF]
    repeat refine wps_seq ?_
    refine wps_region callOK ?_
    simp [zS]
    repeat refine wps_seq ?_
    refine wps_ret ?_
    simp [retVal, Tryz.f13, oneOr]
    exact owX_end fun hN => by rw [owB_ne hN]; simp [Heap.get, getFs, getF]
theorem c30 {T : List (Entry Tryz.prog)} (hI : findE 58 T = some e58.g) (n : Nd) (W : Str) (hW : W.length ≤ 900000) : CallAt (ctx T) 30 [aNode n, .str W] ⟨0, []⟩ (.bool (htmlB n W)) ⟨0, []⟩ := by
  obtain ⟨kind, space, name, attrs, data, up, kids⟩ := n
  have hk := fun H => k58 hI (w := W) name hW H
  by_cases h1 : kind = 1
  · by_cases h2 : space = 0
    · refine callAt_body (fn := Tryz.f30) (s0 := ⟨[0, 1, 2, 4], [aNode ⟨kind, space, name, attrs, data, up, kids⟩, .str W, .undef, .undef], [], 19, ⟨0, [[]]⟩⟩) Tryz.func30 rfl rfl rfl ?_
      (repeat (first
        | (refine wps_seq ?_)
        | (refine wps_block ?_)
        | (refine wps_label ?_; simp only [thenQ, blockQ])
        | ((refine wps_region callOK ?_); simp [zS, aNode, Nd.cs, aInt, aAttrs, aInts, hk, h1, h2])
        | (refine wps_cond (t := true) rfl (fun _ => ?_) (fun h => by cases h))
        | (refine wps_cond (t := false) rfl (fun h => by cases h) (fun _ => ?_))
        | ((refine wps_skip ?_); simp only [thenQ, blockQ])
        | ((refine wps_exit ?_); simp [thenQ, blockQ])))
      repeat refine wps_seq ?_
      refine wps_ret ?_
      simp [retVal, Tryz.f30, oneOr, thenQ, blockQ]
      exact ends_pure rfl (by simp [htmlB, h1, h2])
    · refine callAt_body (fn := Tryz.f30) (s0 := ⟨[0, 1, 2, 4], [aNode ⟨kind, space, name, attrs, data, up, kids⟩, .str W, .undef, .undef], [], 19, ⟨0, [[]]⟩⟩) Tryz.func30 rfl rfl rfl ?_
      (repeat (first
        | (refine wps_seq ?_)
        | (refine wps_block ?_)
        | (refine wps_label ?_; simp only [thenQ, blockQ])
        | ((refine wps_region callOK ?_); simp [zS, aNode, Nd.cs, aInt, aAttrs, aInts, hk, h1, h2])
        | (refine wps_cond (t := true) rfl (fun _ => ?_) (fun h => by cases h))
        | (refine wps_cond (t := false) rfl (fun h => by cases h) (fun _ => ?_))
        | ((refine wps_skip ?_); simp only [thenQ, blockQ])
        | ((refine wps_exit ?_); simp [thenQ, blockQ])))
      repeat refine wps_seq ?_
      refine wps_ret ?_
      simp [retVal, Tryz.f30, oneOr, thenQ, blockQ]
      exact ends_pure rfl (by simp [htmlB, h2])
  · refine callAt_body (fn := Tryz.f30) (s0 := ⟨[0, 1, 2, 4], [aNode ⟨kind, space, name, attrs, data, up, kids⟩, .str W, .undef, .undef], [], 19, ⟨0, [[]]⟩⟩) Tryz.func30 rfl rfl rfl ?_
    (repeat (first
      | (refine wps_seq ?_)
      | (refine wps_block ?_)
      | (refine wps_label ?_; simp only [thenQ, blockQ])
      | ((refine wps_region callOK ?_); simp [zS, aNode, Nd.cs, aInt, aAttrs, aInts, hk, h1])
      | (refine wps_cond (t := true) rfl (fun _ => ?_) (fun h => by cases h))
      | (refine wps_cond (t := false) rfl (fun h => by cases h) (fun _ => ?_))
      | ((refine wps_skip ?_); simp only [thenQ, blockQ])
      | ((refine wps_exit ?_); simp [thenQ, blockQ])))
    repeat refine wps_seq ?_
    refine wps_ret ?_
    simp [retVal, Tryz.f30, oneOr, thenQ, blockQ]
    exact ends_pure rfl (by simp [htmlB, h1])
noncomputable def e30 : Entry Tryz.prog := mkE 30 [[], []] (fun x : Nd × Str => [aNode x.1, .str x.2]) (fun x => x.2.length ≤ 900000) (fun x => .bool (htmlB x.1 x.2)) fun x hx => c30 (T := [e58]) rfl x.1 x.2 hx
theorem k30 {T : List (Entry Tryz.prog)} (hT : findE 30 T = some e30.g) (n : Nd) {W : Str} (hW : W.length ≤ 900000) (H : Heap) : callL (ctx T) (.fn 30) [aNode n, .str W] H = some (.bool (htmlB n W), H) :=
  mkE_scalar hT injNS (n, W) hW rfl (by simp [th_aNode])
theorem c10 {T : List (Entry Tryz.prog)} (hI : findE 30 T = some e30.g) (n : Nd) : CallAt (ctx T) 10 [aNode n] ⟨0, []⟩ (.bool (htmlB n lsListed)) ⟨0, []⟩ := by
  have hk := fun H => k30 hI n (W := lsListed) (by simp) H
  generalize htmlB n lsListed = v at *
  obtain ⟨kind, space, name, attrs, data, up, kids⟩ := n
  simp only [aNode, Nd.cs, aInt, aAttrs, aInts] at hk
  refine callAt_body (fn := Tryz.f10) (s0 := ⟨[0, 1, 2], [aNode ⟨kind, space, name, attrs, data, up, kids⟩, .undef, .undef], [], 5, ⟨0, [[]]⟩⟩) Tryz.func10 rfl rfl rfl ?_
  (repeat (first
    | (refine wps_seq ?_)
    | (refine wps_block ?_)
    | (refine wps_label ?_; simp only [thenQ, blockQ])
    | ((refine wps_region callOK ?_); simp [zS, aNode, Nd.cs, aInt, aAttrs, aInts, hk])
    | (refine wps_cond (t := true) rfl (fun _ => ?_) (fun h => by cases h))
    | (refine wps_cond (t := false) rfl (fun h => by cases h) (fun _ => ?_))
    | ((refine wps_skip ?_); simp only [thenQ, blockQ])
    | ((refine wps_exit ?_); simp [thenQ, blockQ])))
  repeat refine wps_seq ?_
  refine wps_ret ?_
  simp [retVal, Tryz.f10, oneOr, thenQ, blockQ]
  exact ends_pure rfl (by rfl)
noncomputable def e10 : Entry Tryz.prog := mkE 10 [[]] (fun x : Nd => [aNode x]) (fun _ => True) (fun x => .bool (htmlB x lsListed)) fun x _ => c10 (T := [e30]) rfl x
theorem k10 {T : List (Entry Tryz.prog)} (hT : findE 10 T = some e10.g) (n : Nd) (H : Heap) : callL (ctx T) (.fn 10) [aNode n] H = some (.bool (htmlB n lsListed), H) :=
  mkE_scalar hT injN1 n trivial rfl (by simp [th_aNode])
theorem valueB_at {t : Tr} {i : Int} {nm : Str} (h0 : 0 ≤ i) (h1 : i < (t.length : Int)) : valueB t i nm = valOf (nodeAt t i) nm := by unfold valueB; rw [if_neg (by omega)]
theorem c77 {T : List (Entry Tryz.prog)} (hO : findE 72 T = some e72.g) (hV : findE 110 T = some e110.g) (t : Tr) (ht : okTr t) (v : Str) :
    CallAt (ctx T) 77 [aTree t, .str [], .str wId, .str v] ⟨0, []⟩ (.int .i64 (firstId t v)) ⟨0, []⟩ := by
  have ko := fun H => k72 hO ht H
  have kv := fun i H => k110 hV ht i wId H
  have hmem := fun y (h : y ∈ orderOf t.length (kidsOf t)) => order_mem h
  have hlen := order_len (n := t.length) (ks := kidsOf t)
  have hn := ht.1
  have hF : firstId t v = ((orderOf t.length (kidsOf t)).find? fun i => decide ((nodeAt t i).kind = 1) && hasB (nodeAt t i) wId v).getD 0 := rfl
  generalize firstId t v = r at *
  generalize orderOf t.length (kidsOf t) = L at *
  simp only [aTree] at ko kv
  refine callAt_body (fn := Tryz.f77) (s0 := ⟨[0, 1, 2, 3, 4, 8, 9, 10, 11], [aTree t, .str [], .str wId, .str v, .undef, .undef, .undef, .undef, .undef], [], 65, ⟨0, [[]]⟩⟩) Tryz.func77 rfl rfl rfl ?_
  repeat refine wps_seq ?_
  refine wps_region callOK ?_
  simp [zS, aTree]
  repeat refine wps_seq ?_
  refine wps_region callOK ?_
  simp [zS, ko]
  repeat refine wps_seq ?_
  refine wps_region callOK ?_
  simp [zS]
  repeat refine wps_seq ?_
  refine wps_block (wps_loop' (fun i : Nat => (⟨[0, 1, 2, 3, 4, 8, 9, 10, 11], [.undef, .str [], .str wId, .str v, .ptr 0 0, .undef, aInts L, .int .i64 i, .undef], [], 65, ⟨1, [[(0, .cells [aNodes t])]]⟩⟩ : St))
    (fun i => i ≤ L.length ∧ r = ((L.drop i).find? fun i => decide ((nodeAt t i).kind = 1) && hasB (nodeAt t i) wId v).getD 0) (fun i => L.length - i) [(0, 0)] [] 0 ⟨Nat.zero_le _, by simpa using hF⟩ ⟨rfl, rfl, rfl, by simp [fitL, fitV, lookN, pureV, aInts], .id1 (g := [(0, .cells [aNodes t])]) (by simp) (by simp) (by simp [Heap.get, getFs, getF, pureL])⟩ ?_)
  rintro i ⟨hi, hr⟩ B hB
  by_cases hv : v = []
  · have h0 : r = 0 := by
      rw [hr, List.find?_eq_none.2 (by simp [hasB, hv])]; rfl
    by_cases h : i < L.length
    · repeat refine wps_seq ?_
      refine wps_region callOK ?_
      simp [zS, lenI, h, hv]
      repeat refine wps_seq ?_
      refine wps_cond (t := false) rfl (fun h => by cases h) fun _ => ?_
      repeat refine wps_seq ?_
      refine wps_exit ?_
      simp
      repeat refine wps_seq ?_
      refine wps_region callOK ?_
      simp [zS]
      repeat refine wps_seq ?_
      refine wps_ret ?_
      simp [retVal, Tryz.f77, oneOr, thenQ, blockQ]
      exact ends_pure rfl (by simp [h0])
    · repeat refine wps_seq ?_
      refine wps_region callOK ?_
      simp [zS, lenI, h]
      repeat refine wps_seq ?_
      refine wps_cond (t := false) rfl (fun h => by cases h) fun _ => ?_
      repeat refine wps_seq ?_
      refine wps_exit ?_
      simp
      repeat refine wps_seq ?_
      refine wps_region callOK ?_
      simp [zS]
      repeat refine wps_seq ?_
      refine wps_ret ?_
      simp [retVal, Tryz.f77, oneOr, thenQ, blockQ]
      exact ends_pure rfl (by simp [h0])
  · by_cases h : i < L.length
    · rw [List.drop_eq_getElem_cons h, List.find?_cons] at hr
      obtain ⟨y0, y1⟩ := hmem L[i] (List.getElem_mem _)
      have a := atX y0 y1
      have kvi := fun H => kv L[i] H
      simp only [valueB_at y0 y1] at kvi
      repeat refine wps_seq ?_
      refine wps_region callOK ?_
      simp [zS, lenI, h, hv]
      repeat refine wps_seq ?_
      refine wps_cond (t := true) rfl (fun _ => ?_) fun h => by cases h
      repeat refine wps_seq ?_
      refine wps_skip ?_
      simp
      repeat refine wps_seq ?_
      refine wps_block ?_
      repeat refine wps_seq ?_
      refine wps_drawn mixed callOK (by decide +kernel) fun B_ hB_ => ?_
      have d_1_9 : ahead B_ 1 9 = true := by rw [hB_]; decide +kernel
      have d_5_9 : ahead B_ 5 9 = true := by rw [hB_]; decide +kernel
      have d_7_9 : ahead B_ 7 9 = true := by rw [hB_]; decide +kernel
      have d_8_9 : ahead B_ 8 9 = true := by rw [hB_]; decide +kernel
      have d_9_1 : ahead B_ 9 1 = false := by rw [hB_]; decide +kernel
      have d_9_5 : ahead B_ 9 5 = false := by rw [hB_]; decide +kernel
      have d_9_7 : ahead B_ 9 7 = false := by rw [hB_]; decide +kernel
      simp [zS, mkBlk, guardA, evalD, stepD, clsOf, reserve, freshenAll, sameRecs, sameAll, sameAt, allPend, Heap.lay, ontoF, wantedBy, unwantedBy, d_1_9, d_5_9, d_7_9, d_8_9, d_9_1, d_9_5, d_9_7, atI h, a, memT, objs, Nd.cs, aNode, aAttrs, aInts, aInt]
      by_cases c1 : (nodeAt t L[i]).kind = 1
      case neg =>
        have hr1 : r = ((L.drop (i + 1)).find? fun i => decide ((nodeAt t i).kind = 1) && hasB (nodeAt t i) wId v).getD 0 := by simpa [c1] using hr
        repeat refine wps_seq ?_
        refine wps_drawK mixed callOK (by decide +kernel) (by decide +kernel) ?_
        simp [zS, evalK_c, evalK_nil, thenK_some, Nd.cs, c1]
        repeat refine wps_seq ?_
        refine wps_cond (t := false) rfl (fun h => by cases h) fun _ => ?_
        repeat refine wps_seq ?_
        refine wps_skip ?_
        simp
        repeat refine wps_seq ?_
        refine wps_region callOK ?_
        simp [zS, add_one (show i ≤ 1000000000 by omega)]
        exact hB _ (i + 1) (by omega) ⟨by omega, hr1⟩ ⟨[(0, 0)], [], rfl, rfl, rfl, by simp [fitL, fitV, lookN, pureV, aInts], .id1 (g := [(0, .cells [aNodes t])]) (by simp) (by simp) (by simp [Heap.get, getFs, getF, pureL])⟩
      by_cases c2 : valOf (nodeAt t L[i]) wId = v
      · repeat refine wps_seq ?_
        refine wps_drawK mixed callOK (by decide +kernel) (by decide +kernel) ?_
        simp [zS, evalK_c, evalK_nil, thenK_some, Nd.cs, c1, atI h, kvi, c2]
        repeat refine wps_seq ?_
        refine wps_cond (t := true) rfl (fun _ => ?_) fun h => by cases h
        repeat refine wps_seq ?_
        refine wps_region callOK ?_
        simp [zS, atI h]
        repeat refine wps_seq ?_
        refine wps_ret ?_
        simp [retVal, Tryz.f77, oneOr, thenQ, blockQ]
        exact ends_pure rfl (by simpa [c1, hasB, hv, c2] using hr.symm)
      · have hr1 : r = ((L.drop (i + 1)).find? fun i => decide ((nodeAt t i).kind = 1) && hasB (nodeAt t i) wId v).getD 0 := by simpa [c1, hasB, hv, c2] using hr
        repeat refine wps_seq ?_
        refine wps_drawK mixed callOK (by decide +kernel) (by decide +kernel) ?_
        simp [zS, evalK_c, evalK_nil, thenK_some, Nd.cs, c1, atI h, kvi, c2]
        repeat refine wps_seq ?_
        refine wps_cond (t := false) rfl (fun h => by cases h) fun _ => ?_
        repeat refine wps_seq ?_
        refine wps_skip ?_
        simp
        repeat refine wps_seq ?_
        refine wps_region callOK ?_
        simp [zS, add_one (show i ≤ 1000000000 by omega)]
        exact hB _ (i + 1) (by omega) ⟨by omega, hr1⟩ ⟨[(0, 0)], [], rfl, rfl, rfl, by simp [fitL, fitV, lookN, pureV, aInts], .id1 (g := [(0, .cells [aNodes t])]) (by simp) (by simp) (by simp [Heap.get, getFs, getF, pureL])⟩
    · have h0 : r = 0 := by
        rw [hr, List.drop_eq_nil_of_le (by omega)]; rfl
      repeat refine wps_seq ?_
      refine wps_region callOK ?_
      simp [zS, lenI, h]
      repeat refine wps_seq ?_
      refine wps_cond (t := false) rfl (fun h => by cases h) fun _ => ?_
      repeat refine wps_seq ?_
      refine wps_exit ?_
      simp
      repeat refine wps_seq ?_
      refine wps_region callOK ?_
      simp [zS]
      repeat refine wps_seq ?_
      refine wps_ret ?_
      simp [retVal, Tryz.f77, oneOr, thenQ, blockQ]
      exact ends_pure rfl (by simp [h0])
end Go.Proofs.YthclkpplpdnffaaGreatDoor
namespace Go.Proofs.YthclkpplpdnffaaGreatDoor
set_option linter.unusedSimpArgs false
set_option linter.unusedVariables false
def inA (w : Wk) (a : Int) : Int := w.inn.getD a.toNat 0
def outA (w : Wk) (a : Int) : Int := w.out.getD a.toNat 0
structure J2 (n : Nat) (c : CfgW) : Prop where
  j : JW n c
  a0 : ∀ a, a ∈ c.2.l → 0 ≤ a ∧ a < (n : Int) ∧ 0 ≤ inA c.2 a ∧ inA c.2 a < c.2.c
  srt : c.2.l.Pairwise fun a b => inA c.2 a < inA c.2 b
  all : ∀ i : Nat, i < n → 0 ≤ c.2.inn.getD i 0 → (i : Int) ∈ c.2.l
  pl : ∀ e, e ∈ c.1 → (e.1 : Int) ∈ c.2.l
  ps : c.1.Pairwise fun x y => c.2.inn.getD y.1 0 < c.2.inn.getD x.1 0
  cl : ∀ a, a ∈ c.2.l → (∃ e, e ∈ c.1 ∧ (e.1 : Int) = a) ∨ (inA c.2 a < outA c.2 a ∧ outA c.2 a < c.2.c)
  lam : ∀ a b, a ∈ c.2.l → b ∈ c.2.l → inA c.2 a < inA c.2 b → (∃ e, e ∈ c.1 ∧ (e.1 : Int) = a) ∨ outA c.2 a < inA c.2 b ∨ ((∀ e, e ∈ c.1 → (e.1 : Int) ≠ b) ∧ outA c.2 b < outA c.2 a)
theorem inA_into {w : Wk} {i : Nat} {a : Int} (hi : i < w.inn.length) (ha : 0 ≤ a) : inA (into i w) a = if (i : Int) = a then w.c else inA w a := by
  simp only [inA, into, getD_set]
  by_cases h : (i : Int) = a
  · have : i = a.toNat := by omega
    simp [h, ← this, hi]
  · have : ¬ i = a.toNat := by omega
    simp [h, this]
theorem outA_into {w : Wk} {i : Nat} {a : Int} : outA (into i w) a = outA w a := rfl
theorem outA_outof {w : Wk} {i : Nat} {a : Int} (hi : i < w.out.length) (ha : 0 ≤ a) : outA (outof i w) a = if (i : Int) = a then w.c else outA w a := by
  simp only [outA, outof, getD_set]
  by_cases h : (i : Int) = a
  · have : i = a.toNat := by omega
    simp [h, ← this, hi]
  · have : ¬ i = a.toNat := by omega
    simp [h, this]
theorem J2.step {n : Nat} {ks : Nat → List Int} {c d : CfgW} (h : stpW n ks c = some d) (j : J2 n c) : J2 n d := by
  have hj := j.j.step h
  obtain ⟨p, w⟩ := c
  cases p with
  | nil => cases h
  | cons e p =>
    obtain ⟨i, m⟩ := e
    have hli := j.j.k.li
    have hlo := j.j.k.lo
    have hc1 := j.j.k.c1
    have hin : i < n := j.j.p (i, m) (by simp)
    simp only at hli hlo hc1
    have hps := j.ps
    simp only [List.pairwise_cons] at hps
    simp only [stpW] at h
    split at h
    · simp only [Option.some.injEq] at h
      subst h
      have hil := j.pl (i, m) (by simp)
      simp only at hil
      have e1 : ∀ a, inA (outof i w) a = inA w a := fun a => rfl
      have e2 : ∀ a, 0 ≤ a → outA (outof i w) a = if (i : Int) = a then w.c else outA w a := fun a ha => outA_outof (by omega) ha
      have hci := (j.a0 _ hil).2.2.2
      simp only at hci
      refine ⟨hj, fun a ha => ?_, j.srt, j.all, fun e he => j.pl e (by simp [he]), hps.2, fun a ha => ?_, fun a b ha hb hab => ?_⟩
      · have := j.a0 a ha
        exact ⟨this.1, this.2.1, this.2.2.1, by show inA w a < w.c + 1; have := this.2.2.2; simp only at this; omega⟩
      · have h0 := (j.a0 a ha).1
        by_cases hia : (i : Int) = a
        · right
          show inA w a < outA (outof i w) a ∧ outA (outof i w) a < w.c + 1
          rw [e2 a h0, if_pos hia, ← hia]
          exact ⟨hci, by omega⟩
        · rcases j.cl a ha with ⟨e, he, hea⟩ | hcl
          · simp only [List.mem_cons] at he
            rcases he with rfl | he
            · exact absurd hea hia
            · exact .inl ⟨e, he, hea⟩
          · right
            show inA w a < outA (outof i w) a ∧ outA (outof i w) a < w.c + 1
            rw [e2 a h0, if_neg hia]
            have h3 : inA w a < outA w a ∧ outA w a < w.c := hcl
            omega
      · have ha0 := (j.a0 a ha).1
        have hb0 := (j.a0 b hb).1
        show (∃ e, e ∈ p ∧ (e.1 : Int) = a) ∨ outA (outof i w) a < inA w b ∨ ((∀ e, e ∈ p → (e.1 : Int) ≠ b) ∧ outA (outof i w) b < outA (outof i w) a)
        rw [e2 a ha0, e2 b hb0]
        have hab' : inA w a < inA w b := hab
        by_cases hia : (i : Int) = a
        · rw [if_pos hia]
          have hib : ¬ (i : Int) = b := fun e => by rw [← hia, ← e] at hab'; omega
          rw [if_neg hib]
          right; right
          have hnb : ∀ e, e ∈ p → (e.1 : Int) ≠ b := fun e he hb' => by
            have h1 := hps.1 e he
            have : inA w b = w.inn.getD e.1 0 := by rw [← hb']; simp [inA]
            have h2 : inA w a = w.inn.getD i 0 := by rw [← hia]; simp [inA]
            omega
          refine ⟨hnb, ?_⟩
          rcases j.cl b hb with ⟨e, he, heb⟩ | hcl
          · simp only [List.mem_cons] at he
            rcases he with rfl | he
            · exact absurd heb hib
            · exact absurd heb (hnb e he)
          · exact hcl.2
        · rw [if_neg hia]
          rcases j.lam a b ha hb hab with ⟨e, he, hea⟩ | h1 | ⟨h1, h2⟩
          · simp only [List.mem_cons] at he
            rcases he with rfl | he
            · exact absurd hea hia
            · exact .inl ⟨e, he, hea⟩
          · exact .inr (.inl h1)
          · have hib : ¬ (i : Int) = b := h1 (i, m) (by simp)
            rw [if_neg hib]
            exact .inr (.inr ⟨fun e he => h1 e (by simp [he]), h2⟩)
    · rename_i k hk
      split at h
      · rename_i hx
        simp only [Option.some.injEq] at h
        subst h
        have hkn : k.toNat < n := by omega
        have hkk : ((k.toNat : Nat) : Int) = k := by omega
        have hkl : k ∉ w.l := fun hm => by
          have := (j.a0 k hm).2.2.1
          simp only [inA] at this
          omega
        have e1 : ∀ a, 0 ≤ a → inA (into k.toNat w) a = if k = a then w.c else inA w a := fun a ha => by rw [inA_into (by omega) ha, hkk]
        have e3 : ∀ a, a ∈ w.l → inA (into k.toNat w) a = inA w a := fun a ha => by
          rw [e1 a (j.a0 a ha).1, if_neg (fun (e : k = a) => hkl (e ▸ ha))]
        have ek : inA (into k.toNat w) k = w.c := by rw [e1 k hx.1, if_pos rfl]
        have hl : (into k.toNat w).l = w.l ++ [k] := by simp [into, hkk]
        have e4 : ∀ e, e ∈ (i, m) :: p → (into k.toNat w).inn.getD e.1 0 = w.inn.getD e.1 0 := fun e he => by
          have := e3 _ (j.pl e he)
          simpa [inA] using this
        have hlt : ∀ a, a ∈ w.l → inA w a < w.c := fun a ha => (j.a0 a ha).2.2.2
        refine ⟨hj, fun a ha => ?_, ?_, fun x hx2 h0 => ?_, fun e he => ?_, ?_, fun a ha => ?_, fun a b ha hb hab => ?_⟩
        · simp only [hl, List.mem_append, List.mem_singleton] at ha
          rcases ha with ha | rfl
          · have := j.a0 a ha
            refine ⟨this.1, this.2.1, by simp only; rw [e3 a ha]; exact this.2.2.1, ?_⟩
            simp only
            rw [e3 a ha]
            have := hlt a ha
            simp only [into]; omega
          · refine ⟨hx.1, hx.2.1, by simp only; rw [ek]; omega, ?_⟩
            simp only
            rw [ek]
            simp only [into]; omega
        · simp only [hl]
          rw [List.pairwise_append]
          refine ⟨?_, by simp, fun a ha b hb => ?_⟩
          · refine j.srt.imp_of_mem fun ha hb hab => ?_
            rw [e3 _ ha, e3 _ hb]; exact hab
          · simp only [List.mem_singleton] at hb
            subst hb
            rw [e3 a ha, ek]
            exact hlt a ha
        · simp only [hl, List.mem_append, List.mem_singleton]
          by_cases hxk : x = k.toNat
          · right; omega
          · left
            refine j.all x hx2 ?_
            simp only [into, getD_set] at h0
            rw [if_neg (by omega)] at h0
            exact h0
        · simp only [hl, List.mem_append, List.mem_singleton]
          simp only [List.mem_cons] at he
          rcases he with rfl | rfl | he
          · right; simp only; omega
          · exact .inl (j.pl (i, m) (by simp))
          · exact .inl (j.pl e (by simp [he]))
        · simp only [List.pairwise_cons]
          have key : ∀ e, e ∈ (i, m) :: p → (into k.toNat w).inn.getD e.1 0 < (into k.toNat w).inn.getD k.toNat 0 := fun e he => by
            rw [e4 e he]
            have h1 := hlt _ (j.pl e he)
            have h2 : (into k.toNat w).inn.getD k.toNat 0 = w.c := ek
            rw [h2]
            simpa [inA] using h1
          refine ⟨fun e he => ?_, fun e he => ?_, ?_⟩
          · simp only [List.mem_cons] at he
            rcases he with rfl | he
            · exact key (i, m) (by simp)
            · exact key e (by simp [he])
          · have h1 := hps.1 e he
            have h2 := e4 e (by simp [he])
            have h3 := e4 (i, m) (by simp)
            simp only at h1 h2 h3 ⊢
            rw [h2, h3]; exact h1
          · refine hps.2.imp_of_mem fun {x y} hx hy hxy => ?_
            rw [e4 x (by simp [hx]), e4 y (by simp [hy])]; exact hxy
        · simp only [hl, List.mem_append, List.mem_singleton] at ha
          rcases ha with ha | rfl
          · rcases j.cl a ha with ⟨e, he, hea⟩ | hcl
            · left
              simp only [List.mem_cons] at he
              rcases he with rfl | he
              · exact ⟨(i, m + 1), by simp, hea⟩
              · exact ⟨e, by simp [he], hea⟩
            · right
              simp only
              rw [e3 a ha, outA_into]
              simp only at hcl
              simp only [into]
              omega
          · exact .inl ⟨(a.toNat, 0), by simp, hkk⟩
        · simp only [hl, List.mem_append, List.mem_singleton] at ha hb
          rcases ha with ha | rfl
          · rcases hb with hb | rfl
            · simp only at hab ⊢
              rw [e3 a ha, e3 b hb] at hab
              rw [e3 b hb]
              rcases j.lam a b ha hb hab with ⟨e, he, hea⟩ | h1 | ⟨h1, h2⟩
              · left
                simp only [List.mem_cons] at he
                rcases he with rfl | he
                · exact ⟨(i, m + 1), by simp, hea⟩
                · exact ⟨e, by simp [he], hea⟩
              · exact .inr (.inl h1)
              · refine .inr (.inr ⟨fun e he => ?_, h2⟩)
                simp only [List.mem_cons] at he
                rcases he with rfl | rfl | he
                · simp only; rw [hkk]; exact fun e => hkl (e ▸ hb)
                · exact h1 (i, m) (by simp)
                · exact h1 e (by simp [he])
            · simp only
              rw [ek]
              rcases j.cl a ha with ⟨e, he, hea⟩ | hcl
              · left
                simp only [List.mem_cons] at he
                rcases he with rfl | he
                · exact ⟨(i, m + 1), by simp, hea⟩
                · exact ⟨e, by simp [he], hea⟩
              · exact .inr (.inl hcl.2)
          · rcases hb with hb | rfl
            · simp only at hab
              rw [ek, e3 b hb] at hab
              have := hlt b hb
              omega
            · simp only at hab
              omega
      · simp only [Option.some.injEq] at h
        subst h
        have ex : ∀ a : Int, (∃ e, e ∈ (i, m) :: p ∧ (e.1 : Int) = a) → ∃ e, e ∈ (i, m + 1) :: p ∧ (e.1 : Int) = a := by
          rintro a ⟨e, he, hea⟩
          simp only [List.mem_cons] at he
          rcases he with rfl | he
          · exact ⟨(i, m + 1), by simp, hea⟩
          · exact ⟨e, by simp [he], hea⟩
        refine ⟨hj, j.a0, j.srt, j.all, fun e he => ?_, ?_, fun a ha => ?_, fun a b ha hb hab => ?_⟩
        · simp only [List.mem_cons] at he
          rcases he with rfl | he
          · exact j.pl (i, m) (by simp)
          · exact j.pl e (by simp [he])
        · simp only [List.pairwise_cons]
          exact ⟨fun e he => hps.1 e he, hps.2⟩
        · rcases j.cl a ha with h1 | h1
          · exact .inl (ex a h1)
          · exact .inr h1
        · rcases j.lam a b ha hb hab with h1 | h1 | ⟨h1, h2⟩
          · exact .inl (ex a h1)
          · exact .inr (.inl h1)
          · refine .inr (.inr ⟨fun e he => ?_, h2⟩)
            simp only [List.mem_cons] at he
            rcases he with rfl | he
            · exact h1 (i, m) (by simp)
            · exact h1 e (by simp [he])
theorem j2_start {n : Nat} (hn : 0 < n) : J2 n ([(0, 0)], into 0 (w0 n)) := by
  have hl : (into 0 (w0 n)).l = [0] := by simp [into, w0]
  have hi0 : inA (into 0 (w0 n)) 0 = 0 := by simp [inA, into, w0, List.getD_eq_getElem?_getD, hn]
  have hc : (into 0 (w0 n)).c = 1 := by simp [into, w0]
  refine ⟨jw_start hn, fun a ha => ?_, by simp only [hl]; simp, fun i hi h0 => ?_, fun e he => ?_, by simp, fun a ha => ?_, fun a b ha hb hab => ?_⟩
  · simp only [hl, List.mem_singleton] at ha
    subst ha
    exact ⟨by omega, by omega, by simp only; omega, by simp only; omega⟩
  · simp only [hl, List.mem_singleton]
    by_cases hz : i = 0
    · omega
    · have : (into 0 (w0 n)).inn.getD i 0 = -1 := by
        have hz' : ¬ 0 = i := by omega
        simp [into, w0, List.getD_eq_getElem?_getD, List.getElem?_set, hz', hi]
      simp only at h0
      omega
  · simp only [List.mem_singleton] at he
    subst he
    simp [hl]
  · simp only [hl, List.mem_singleton] at ha
    subst ha
    exact .inl ⟨(0, 0), by simp, rfl⟩
  · simp only [hl, List.mem_singleton] at ha hb
    subst ha; subst hb
    simp only at hab
    omega
theorem j2_end {n : Nat} {ks : Nat → List Int} (hn : 0 < n) : J2 n ([], wkOf n ks) := by
  have h := reachW_vis (K := n) (ks := ks) n [] 0 (w0 n) (w0_ok n) hn (by simp [w0, List.getD_eq_getElem?_getD, hn]) (by simp [w0, negs_rep])
  rw [wkOf, if_neg (by omega)]
  exact h.inv (J := J2 n) (fun _ _ a b => b.step a) (j2_start hn)
structure Lam (n : Nat) (w : Wk) (L : List Int) : Prop where
  a0 : ∀ a, a ∈ L → 0 ≤ a ∧ a < (n : Int) ∧ 0 ≤ inA w a
  srt : L.Pairwise fun a b => inA w a < inA w b
  all : ∀ i : Nat, i < n → 0 ≤ inA w i → (i : Int) ∈ L
  io : ∀ a, a ∈ L → inA w a < outA w a
  lam : ∀ a b, a ∈ L → b ∈ L → inA w a < inA w b → outA w a < inA w b ∨ outA w b < outA w a
theorem lam_end {n : Nat} {ks : Nat → List Int} (hn : 0 < n) : Lam n (wkOf n ks) (orderOf n ks) := by
  have j := j2_end (ks := ks) hn
  have hl : (wkOf n ks).l = orderOf n ks := wk_list
  have ne : ∀ a : Int, ¬ ∃ e, e ∈ ([] : List (Nat × Nat)) ∧ (e.1 : Int) = a := fun a ⟨e, he, _⟩ => by cases he
  rw [← hl]
  refine ⟨fun a ha => ?_, j.srt, fun i hi h0 => j.all i hi (by simpa [inA] using h0), fun a ha => ?_, fun a b ha hb hab => ?_⟩
  · have := j.a0 a ha
    exact ⟨this.1, this.2.1, this.2.2.1⟩
  · exact ((j.cl a ha).resolve_left (ne a)).1
  · rcases j.lam a b ha hb hab with h | h | h
    · exact absurd h (ne a)
    · exact .inl h
    · exact .inr h.2
theorem ins_iff {w : Wk} {a b : Int} : insW w a b = true ↔ 0 ≤ inA w a ∧ 0 ≤ inA w b ∧ inA w b < inA w a ∧ outA w a < outA w b := by
  simp [insW, insB, mkW, inA, outA, and_assoc]
theorem ins_trans {w : Wk} {a b c : Int} (h1 : insW w a b = true) (h2 : insW w b c = true) : insW w a c = true := by
  rw [ins_iff] at h1 h2 ⊢
  omega
theorem pop_filter {w : Wk} {j : Int} : ∀ {S : List Int}, S.Pairwise (fun x y => insW w y x = true) → popW w j S = S.filter (insW w j)
  | [], _ => rfl
  | f :: r, h => by
    simp only [List.pairwise_cons] at h
    have ih := pop_filter (j := j) h.2
    unfold popW
    rw [ih]
    cases hr : r.filter (insW w j) with
    | nil =>
      simp only
      by_cases hf : insW w j f = true
      · simp [List.filter_cons, hf, hr]
      · simp [List.filter_cons, hf, hr]
    | cons g s =>
      have hg : g ∈ r.filter (insW w j) := by rw [hr]; simp
      rw [List.mem_filter] at hg
      have hf : insW w j f = true := ins_trans hg.2 (h.1 g hg.1)
      simp [List.filter_cons, hf, hr]
def frm (t : Tr) (w : Wk) (pre : List Int) (i : Int) : List Int := pre.filter fun f => isForm t f && insW w i f
theorem frm_mem {t : Tr} {w : Wk} {pre : List Int} {i f : Int} : f ∈ frm t w pre i ↔ f ∈ pre ∧ isForm t f = true ∧ insW w i f = true := by simp [frm, List.mem_filter]
theorem Lam.between {n : Nat} {w : Wk} {L : List Int} (h : Lam n w L) {f i j : Int} (hf : f ∈ L) (hi : i ∈ L) (hj : j ∈ L) (h1 : inA w f < inA w i) (h2 : inA w i < inA w j) (h3 : insW w j f = true) : insW w i f = true := by
  rw [ins_iff] at h3 ⊢
  have hl := h.lam f i hf hi h1
  have := h.io j hj
  have := (h.a0 i hi).2.2
  omega
theorem Lam.chain {n : Nat} {w : Wk} {L : List Int} (h : Lam n w L) {x y i : Int} (hx : x ∈ L) (hy : y ∈ L) (hi : i ∈ L) (h1 : inA w x < inA w y) (h2 : insW w i x = true) (h3 : insW w i y = true) : insW w y x = true := by
  rw [ins_iff] at h2 h3 ⊢
  have hl := h.lam x y hx hy h1
  have := h.io i hi
  omega
theorem pop_step {n : Nat} {t : Tr} {w : Wk} {L pre rest S : List Int} {i : Int} (h : Lam n w L) (hL : L = pre ++ i :: rest) (hS : ∀ j, j ∈ i :: rest → popW w j S = frm t w pre j) :
    ∀ j, j ∈ rest → popW w j (ofPush t i (popW w i S)) = frm t w (pre ++ [i]) j := by
  intro j hj
  have hsrt := h.srt
  rw [hL, List.pairwise_append] at hsrt
  obtain ⟨s1, s2, s3⟩ := hsrt
  rw [List.pairwise_cons] at s2
  have mp : ∀ f, f ∈ pre → f ∈ L := fun f hf => by rw [hL]; simp [hf]
  have mi : i ∈ L := by rw [hL]; simp
  have mj : j ∈ L := by rw [hL]; simp [hj]
  have hij : inA w i < inA w j := s2.1 j hj
  have hfi : ∀ f, f ∈ pre → inA w f < inA w i := fun f hf => s3 f hf i (by simp)
  rw [hS i (by simp)]
  have c1 : (frm t w pre i).Pairwise fun x y => insW w y x = true := by
    have : (frm t w pre i).Pairwise fun a b => inA w a < inA w b := s1.sublist List.filter_sublist
    refine this.imp_of_mem fun {x y} hx hy hxy => ?_
    rw [frm_mem] at hx hy
    exact h.chain (mp x hx.1) (mp y hy.1) mi hxy hx.2.2 hy.2.2
  have p1 : (frm t w pre i).filter (insW w j) = frm t w pre j := by
    simp only [frm, List.filter_filter]
    refine List.filter_congr fun f hf => ?_
    cases hq : isForm t f with
    | false => simp
    | true =>
      simp only [Bool.true_and]
      cases hjf : insW w j f with
      | false => simp
      | true => simp [h.between (mp f hf) mi mj (hfi f hf) hij hjf]
  unfold ofPush
  by_cases hi : isForm t i = true
  · rw [if_pos hi]
    have c2 : (frm t w pre i ++ [i]).Pairwise fun x y => insW w y x = true := by
      rw [List.pairwise_append]
      refine ⟨c1, by simp, fun x hx y hy => ?_⟩
      simp only [List.mem_singleton] at hy
      subst hy
      rw [frm_mem] at hx
      exact hx.2.2
    rw [pop_filter c2, List.filter_append, p1]
    simp [frm, hi, List.filter_append, List.filter_cons]
  · rw [if_neg hi, pop_filter c1, p1]
    simp [frm, hi, List.filter_append, List.filter_cons]
def loopV (t : Tr) (w : Wk) (L : List Int) (i : Int) : Int := if isImg t i || isListed t i then ((frm t w L i).getLast?).getD 0 else 0
theorem frm_pre {n : Nat} {t : Tr} {w : Wk} {L pre rest : List Int} {i : Int} (h : Lam n w L) (hL : L = pre ++ i :: rest) : frm t w pre i = frm t w L i := by
  have hsrt := h.srt
  rw [hL, List.pairwise_append] at hsrt
  obtain ⟨s1, s2, s3⟩ := hsrt
  rw [List.pairwise_cons] at s2
  rw [hL]
  simp only [frm, List.filter_append]
  have : (i :: rest).filter (fun f => isForm t f && insW w i f) = [] := by
    rw [List.filter_eq_nil_iff]
    intro f hf hq
    simp only [Bool.and_eq_true] at hq
    have h2 := ins_iff.1 hq.2
    rcases List.mem_cons.1 hf with rfl | hf
    · omega
    · have := s2.1 f hf
      omega
  rw [this, List.append_nil]
theorem loop_get {n : Nat} {t : Tr} {w : Wk} {L : List Int} (h : Lam n w L) (x : Nat) : ∀ (rest pre S out : List Int), L = pre ++ rest → (∀ j, j ∈ rest → popW w j S = frm t w pre j) → out.length = n →
    (ofLoop t w rest S out).getD x 0 = if (x : Int) ∈ rest then (if isImg t x || isListed t x then ((frm t w L x).getLast?).getD (out.getD x 0) else out.getD x 0) else out.getD x 0
  | [], pre, S, out, _, _, _ => by simp [ofLoop]
  | i :: r, pre, S, out, hL, hS, hlen => by
    have hpop := hS i (by simp)
    have hfr := frm_pre (t := t) h hL
    have ih := loop_get h x r (pre ++ [i]) (ofPush t i (popW w i S)) (ofOut t i (popW w i S) out) (by rw [hL]; simp) (pop_step h hL hS) (by rw [ofOut_len, hlen])
    simp only [ofLoop]
    rw [ih]
    have hi := h.a0 i (by rw [hL]; simp)
    have hir : i ∉ r := by
      have hsrt := h.srt
      rw [hL, List.pairwise_append] at hsrt
      have := hsrt.2.1
      rw [List.pairwise_cons] at this
      intro hm
      have := this.1 i hm
      omega
    have hout : (ofOut t i (popW w i S) out).getD x 0 = if (x : Int) = i then (if isImg t x || isListed t x then ((frm t w L x).getLast?).getD (out.getD x 0) else out.getD x 0) else out.getD x 0 := by
      rw [hpop, hfr]
      unfold ofOut
      by_cases hx : (x : Int) = i
      · subst hx
        rw [if_pos rfl]
        split
        · cases hg : (frm t w L (x : Int)).getLast? with
          | none => simp
          | some f =>
            simp only [getD_set, Int.toNat_natCast, Option.getD_some]
            rw [if_pos ⟨trivial, by omega⟩]
        · rfl
      · rw [if_neg hx]
        split
        · cases hg : (frm t w L i).getLast? with
          | none => rfl
          | some f =>
            simp only [getD_set]
            rw [if_neg (by omega)]
        · rfl
    by_cases hx : (x : Int) = i
    · subst hx
      rw [if_neg hir, hout]
      simp
    · rw [hout, if_neg hx]
      simp [hx]
theorem loop_val {n : Nat} {t : Tr} {w : Wk} {L : List Int} (h : Lam n w L) (x : Nat) (hx : x < n) : (ofLoop t w L [] (List.replicate n 0)).getD x 0 = loopV t w L x := by
  rw [loop_get h x L [] [] (List.replicate n 0) rfl (fun j _ => by simp [popW, frm]) (by simp)]
  have hz : (List.replicate n (0 : Int)).getD x 0 = 0 := by simp [List.getD_eq_getElem?_getD, hx]
  rw [hz]
  unfold loopV
  by_cases hm : (x : Int) ∈ L
  · rw [if_pos hm]
  · rw [if_neg hm]
    have : frm t w L (x : Int) = [] := by
      simp only [frm]
      rw [List.filter_eq_nil_iff]
      intro f hf hq
      simp only [Bool.and_eq_true] at hq
      exact hm (h.all x hx (ins_iff.1 hq.2).1)
    simp [this]
def oneV (t : Tr) (w : Wk) (L : List Int) (i : Nat) : Int := match getAt wFormA (nodeAt t i).attrs with
  | none => loopV t w L i
  | some v => if isListed t i then (if isForm t (firstId t v) then firstId t v else 0) else loopV t w L i
theorem attrs_get {t : Tr} (x : Nat) : ∀ (l : List Nat) (out : List Int), l.Nodup → x < out.length → (ofAttrs t l out).getD x 0 = if x ∈ l then (match getAt wFormA (nodeAt t x).attrs with
    | none => out.getD x 0
    | some v => if isListed t x then (if isForm t (firstId t v) then firstId t v else 0) else out.getD x 0) else out.getD x 0
  | [], out, _, _ => by simp [ofAttrs]
  | i :: r, out, hn, hx => by
    rw [List.nodup_cons] at hn
    simp only [ofAttrs]
    rw [attrs_get x r _ hn.2 (by rw [ofAttr_len]; exact hx)]
    have hsame : x ≠ i → (ofAttr t i out).getD x 0 = out.getD x 0 := fun hne => by
      unfold ofAttr
      split
      · rfl
      · split
        · rw [getD_set, if_neg (by omega)]
        · rfl
    by_cases hxi : x = i
    · subst hxi
      rw [if_neg hn.1, if_pos (by simp)]
      unfold ofAttr
      cases getAt wFormA (nodeAt t (x : Int)).attrs with
      | none => rfl
      | some v =>
        simp only
        split
        · rw [getD_set, if_pos ⟨rfl, hx⟩]
        · rfl
    · rw [hsame hxi]
      simp [hxi]
theorem ofL_get {t : Tr} (hpos : 0 < t.length) (x : Nat) (hx : x < t.length) : (ofL t).getD x 0 = oneV t (wkOf t.length (kidsOf t)) (orderOf t.length (kidsOf t)) x := by
  have h := lam_end (ks := kidsOf t) hpos
  unfold ofL
  rw [attrs_get x _ _ (List.nodup_range) (by rw [ofLoop_len]; simpa using hx), if_pos (by simpa using hx)]
  have := loop_val (t := t) h x hx
  unfold oneV
  rw [this]
end Go.Proofs.YthclkpplpdnffaaGreatDoor
