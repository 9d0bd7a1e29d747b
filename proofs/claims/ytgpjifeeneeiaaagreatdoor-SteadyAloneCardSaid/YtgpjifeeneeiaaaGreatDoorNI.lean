/- The reference's Value; DocsHave's walk. No condition. -/
import Derived.Test.YtgpjifeeneeiaaaGreatDoorNH
import Derived.Test.YtgpjifeeneeiaaaGreatDoorNG
import Derived.Shelf.Strings.Search3
import Derived.Lib.IndexMore
import Derived.Test.YtgpjifeeneeiaaaGreatDoorProg
import Derived.Test.YtgpjifeeneeiaaaGreatDoorNF
namespace Go.Proofs.YtgpjifeeneeiaaaGreatDoor
set_option linter.unusedSimpArgs false
set_option linter.unusedVariables false
open Go Go.RowKit
set_option maxRecDepth 100000
@[simp] theorem szT71 : sizeT Tryz.prog 71 = some 1 := rfl
@[simp] theorem agT71 : aggT Tryz.prog 71 = some false := rfl
@[simp] theorem byT71 : bytesT Tryz.prog 71 = some 8 := rfl
@[simp] theorem alT71 (H : Heap) : alV Tryz.prog H 71 = some (.ptr H.n 0, H.new (.cells [.nilM])) := rfl
@[simp] theorem zeT71 : zeroOf Tryz.prog 71 = some (.nilM) := rfl
attribute [simp] Tryz.underlying71
@[simp 500] theorem rvF71 (H : Heap) (cs : List AV) (o : Nat) : readVar Tryz.prog H 71 (.fptr cs o) = getL cs o := rfl
@[simp 500] theorem rvP71 (H : Heap) (b o : Nat) : readVar Tryz.prog H 71 (.ptr b o) = (H.get b).bind fun k => k.rd.bind fun cs => getL cs o := rfl
def mapII : MapT Tryz.prog 71 aInt aInt where
 tk := 3
 te := 3
 kd := _
 hu := Tryz.underlying71
 hk := Tryz.underlying3
 eq := fun a b => by
  show some (a == b) = _
  congr 1
 pure := fun a v => rfl
def addM (M : List (Int × Int)) (k : Int) : List (Int × Int) := setM k ((getM k M).getD 0 + 1) M
def cntM (L : List Int) : List (Int × Int) := L.foldl addM []
theorem cnt_get (k : Int) : ∀ (L : List Int), getM k (cntM L) = if k ∈ L then some (timesB L k : Int) else none := by
 intro L
 obtain ⟨n, hn⟩ : ∃ n, n = L.length := ⟨_, rfl⟩
 induction n generalizing L with
 | zero =>
  have : L = [] := List.length_eq_zero_iff.1 hn.symm
  subst this; rfl
 | succ n ih =>
  obtain ⟨A, x, rfl⟩ : ∃ A x, L = A ++ [x] := ⟨L.dropLast, L.getLast (by intro e; rw [e] at hn; simp at hn), (List.dropLast_concat_getLast _).symm⟩
  have iA := ih A (by simp at hn; omega)
  have e : cntM (A ++ [x]) = addM (cntM A) x := by simp [cntM]
  rw [e]
  unfold addM
  rw [getM_set]
  have ht : timesB (A ++ [x]) k = timesB A k + (if x = k then 1 else 0) := by
   unfold timesB
   rw [List.countP_append]
   congr 1
   by_cases h : x = k <;> simp [h]
  rw [ht]
  by_cases hx : x = k
  ·subst hx
   simp only [if_true, List.mem_append, List.mem_singleton, or_true]
   rw [iA]
   by_cases hm : x ∈ A
   ·simp [hm]
   ·have : timesB A x = 0 := by unfold timesB; rw [List.countP_eq_zero]; intro y hy; simp; exact fun e => hm (e ▸ hy)
    simp [hm, this]
  ·have hx' : ¬ k = x := fun e => hx e.symm
   simp only [hx, if_false, List.mem_append, List.mem_singleton, hx', or_false, Nat.add_zero]
   rw [iA]
theorem getM_mem {M : List (Int × Int)} : ∀ {p : Int × Int}, p ∈ M → (getM p.1 M).isSome = true := by
 induction M with
 | nil => intro p h; cases h
 | cons q r ih =>
  intro p h
  unfold getM
  by_cases he : q.1 = p.1
  ·simp [he]
  ·simp only [he, if_false]
   rcases List.mem_cons.1 h with rfl | h
   ·exact absurd rfl he
   ·exact ih h
theorem mem_getM {M : List (Int × Int)} {k : Int} (h : (getM k M).isSome = true) : ∃ v, (k, v) ∈ M := by
 induction M with
 | nil => simp [getM] at h
 | cons q r ih =>
  unfold getM at h
  by_cases he : q.1 = k
  ·exact ⟨q.2, by simp [← he]⟩
  ·simp only [he, if_false] at h
   obtain ⟨v, hv⟩ := ih h
   exact ⟨v, by simp [hv]⟩
theorem cnt_keys {L : List Int} {k : Int} : (∃ v, (k, v) ∈ cntM L) ↔ k ∈ L := by
 constructor
 ·rintro ⟨v, hv⟩
  have := getM_mem hv
  rw [cnt_get] at this
  by_cases h : k ∈ L
  ·exact h
  ·simp [h] at this
 ·intro h
  apply mem_getM
  rw [cnt_get]; simp [h]
theorem fit_map {n : Nat} {M : List (Int × Int)} : FitH 0 [(0, 0)] [] ⟨n, [[(0, .map (entsM aInt aInt M))]]⟩ ⟨1, [[(0, .map (entsM aInt aInt M))]]⟩ where
 nd1 := by simp
 nd2 := by simp
 nd3 := by simp [Heap.ents]
 lt := by simp
 idn := by simp
 num := by simp
 src := by
  intro e he
  simp [Heap.ents] at he
  subst he
  refine ⟨0, _, by simp, rfl, ?_⟩
  have key : ∀ (g : Int × Int → Int) (M : List (Int × Int)), fitL [(0, 0)] [] (M.map fun p => aInt (g p)) (M.map fun p => aInt (g p)) := fun g M => fitL_pure (by
   induction M with
   | nil => rfl
   | cons p r ih => simp only [List.map_cons, pureL, ih]; rfl)
  exact ⟨by simpa [entsM, Function.comp_def] using key (·.1) M, by simpa [entsM, Function.comp_def] using key (·.2) M⟩
 frz := fun x h => by cases h
theorem c92 {T : List (Entry Tryz.prog)} (L : List Int) (hl : L.length ≤ 1000000) : CallAt (ctx T) 92 [aInts L] ⟨0, []⟩ (.map 0) ⟨1, [[(0, .map (entsM aInt aInt (cntM L)))]]⟩ := by
 refine callAt_body (fn := Tryz.f92) (s0 := ⟨[0, 2, 3, 5, 7, 8, 9], [aInts L, .undef, .undef, .undef, .undef, .undef, .undef], [], 19, ⟨0, [[]]⟩⟩) Tryz.func92 rfl rfl rfl ?_
 repeat apply wq
 refine wps_region callOK ?_
 simp [zS]
 repeat apply wq
 refine wps_region callOK ?_
 simp [zS]
 repeat apply wq
 refine wps_region callOK ?_
 simp [zS, lenI]
 repeat apply wq
 refine wps_block (wps_loop' (fun j : Nat => (⟨[0, 2, 3, 5, 7, 8, 9], [.undef, .nilM, .map 0, .undef, aInts L, .int .i64 (L.length : Nat), .int .i64 (j : Int)], [], 19, ⟨1, [[(0, .map (entsM aInt aInt (cntM (L.take j))))]]⟩⟩ : St))
  (fun j => j ≤ L.length) (fun j => L.length - j) [(0, 0)] [] 0 (Nat.zero_le _) ⟨rfl, rfl, rfl, by simp [fitL, fitV, lookN, pureV], by
   have := fit_map (n := 1) (M := [])
   simpa [cntM, entsM] using this⟩ ?_)
 rintro j hj B hB
 by_cases h : j < L.length
 ·have hc : (j : Int) < (L.length : Int) := by omega
  have hik := atI h
  have hac := add_one (show j ≤ 1000000000 by omega)
  have htk : L.take (j + 1) = L.take j ++ [L[j]] := by rw [List.take_add_one, List.getElem?_eq_getElem h]; rfl
  have hcn : cntM (L.take (j + 1)) = setM L[j] ((getM L[j] (cntM (L.take j))).getD 0 + 1) (cntM (L.take j)) := by
   rw [htk]
   unfold cntM
   rw [List.foldl_append]; rfl
  have hz : zeroOf Tryz.prog mapII.te = some (.int .i64 0) := zeT3
  have hlook := fun n => mapII.look (M := cntM (L.take j)) (b := 0) (H := ⟨n, [[(0, .map (entsM aInt aInt (cntM (L.take j))))]]⟩) hz rfl L[j]
  have hup := fun n v => mapII.update (M := cntM (L.take j)) (b := 0) (H := ⟨n, [[(0, .map (entsM aInt aInt (cntM (L.take j))))]]⟩) rfl L[j] v
  have hgv : ((getM L[j] (cntM (L.take j))).map aInt).getD (.int .i64 0) = .int .i64 ((getM L[j] (cntM (L.take j))).getD 0) := by cases getM L[j] (cntM (L.take j)) <;> rfl
  have hcb : wr .i64 ((getM L[j] (cntM (L.take j))).getD 0 + 1) = some ((getM L[j] (cntM (L.take j))).getD 0 + 1) := by
   have h1 : 0 ≤ (getM L[j] (cntM (L.take j))).getD 0 ∧ (getM L[j] (cntM (L.take j))).getD 0 ≤ 1000000 := by
    rw [cnt_get]
    have h2 : timesB (L.take j) L[j] ≤ 1000000 := by
     unfold timesB
     have := List.countP_le_length (p := fun x => decide (x = L[j])) (l := L.take j)
     simp at this
     omega
    split <;> simp <;> omega
   exact wr_small (by omega) (by omega)
  rw [hgv] at hlook
  simp only [aInt] at hlook hup
  generalize L[j] = k at *
  generalize cntM (L.take j) = M at *
  generalize (getM k M).getD 0 = c at *
  repeat apply wq
  refine wps_region callOK ?_
  simp [zS, hc, h]
  repeat apply wq
  refine wps_ct rfl ?_
  repeat apply wq
  refine wps_skip ?_
  simp
  repeat apply wq
  refine wps_block ?_
  repeat apply wq
  refine wps_region callOK ?_
  simp [zS, hik]
  repeat apply wq
  refine wps_region callOK ?_
  simp [zS, hlook, hup, hcb]
  repeat apply wq
  refine wps_region callOK ?_
  simp [zS, hac]
  exact hB _ (j + 1) (by omega) (by omega) ⟨[(0, 0)], [], rfl, rfl, rfl, by simp [fitL, fitV, lookN, pureV], by rw [hcn]; exact fit_map⟩
 ·have hc : ¬ (j : Int) < (L.length : Int) := by omega
  repeat apply wq
  refine wps_region callOK ?_
  simp [zS, hc, h]
  repeat apply wq
  refine wps_cf rfl ?_
  repeat apply wq
  refine wps_exit ?_
  simp
  repeat apply wq
  refine wps_region callOK ?_
  simp [zS]
  repeat apply wq
  refine wps_ret ?_
  simp [retVal, Tryz.f92, oneOr]
  have e : j = L.length := by omega
  rw [e, List.take_length]
  exact ⟨[(0, 0)], [], by simp [fitV, lookN], fit_map⟩
def badA (t : Tr) (i : Nat) : Bool := decide (0 < i) && (decide ((nodeAt t i).kind < 1) || (decide (4 < (nodeAt t i).kind) || (decide ((nodeAt t i).up < -1) || decide ((t.length : Int) ≤ (nodeAt t i).up))))
def badB (t : Tr) (i : Nat) : Bool := decide (0 ≤ (nodeAt t i).up) && (decide (1 < (nodeAt t (nodeAt t i).up).kind) || decide ((timesB (nodeAt t (nodeAt t i).up).kids i : Int) ≠ 1))
def badC (t : Tr) (i : Nat) (k : Int) : Bool := decide (k < 0) || (decide ((t.length : Int) ≤ k) || decide ((nodeAt t k).up ≠ (i : Int)))
def okNd (t : Tr) (i : Nat) : Bool := !badA t i && (!badB t i && !(nodeAt t i).kids.any (badC t i))
def rightB (t : Tr) : Bool := decide (t ≠ []) && (decide ((nodeAt t 0).kind = 0) && (decide ((nodeAt t 0).up = -1) && ((List.range t.length).all (okNd t) && (List.range t.length).all fun i => heldF t (t.length + 1) (i : Int))))
theorem rightB_no {t : Tr} {i : Nat} (h : i < t.length) (hb : okNd t i = false) : rightB t = false := by
 have : (List.range t.length).all (okNd t) = false := List.all_eq_false.2 ⟨i, by simpa using h, by simp [hb]⟩
 simp [rightB, this]
theorem rightB_not {t : Tr} {i : Nat} (h : i < t.length) (hb : heldF t (t.length + 1) (i : Int) = false) : rightB t = false := by
 have : ((List.range t.length).all fun i => heldF t (t.length + 1) (i : Int)) = false := List.all_eq_false.2 ⟨i, by simpa using h, by simp [hb]⟩
 simp [rightB, this]
theorem rightB_yes {t : Tr} (h : t ≠ []) (h0 : (nodeAt t 0).kind = 0) (h1 : (nodeAt t 0).up = -1) (h2 : ∀ j, j < t.length → okNd t j = true) (h3 : ∀ j, j < t.length → heldF t (t.length + 1) (j : Int) = true) : rightB t = true := by
 have e1 : (List.range t.length).all (okNd t) = true := List.all_eq_true.2 fun j hj => h2 j (by simpa using hj)
 have e2 : ((List.range t.length).all fun i => heldF t (t.length + 1) (i : Int)) = true := List.all_eq_true.2 fun j hj => h3 j (by simpa using hj)
 simp [rightB, h, h0, h1, e1, e2]
theorem ups_of {t : Tr} (h1 : (nodeAt t 0).up = -1) (h2 : ∀ j, j < t.length → okNd t j = true) : upsOK t := by
 intro x hx
 obtain ⟨j, hj, rfl⟩ := List.getElem_of_mem hx
 have := h2 j hj
 rw [← nodeAt_get hj]
 by_cases hz : j = 0
 ·subst hz
  exact .inl h1
 ·simp only [okNd, badA, Bool.and_eq_true, Bool.not_eq_true', Bool.and_eq_false_iff, Bool.or_eq_false_iff, decide_eq_false_iff_not] at this
  rcases this.1 with h | h
  ·omega
  ·omega
structure WordAt (s x : Str) (p : Nat) : Prop where
 room : p + x.length ≤ s.length
 occ : (s.drop p).take x.length = x
 pre : ∀ c, 0 < p → s[p - 1]? = some c → sp c = true
 post : ∀ c, s[p + x.length]? = some c → sp c = true
structure WInv (s : Str) (i : Nat) (st : List Str × Str) : Prop where
 le : i ≤ s.length
 words : ∀ w, w ∈ st.1 → ∃ p, WordAt s w p
 len : st.2.length ≤ i
 cur : (s.take i).drop (i - st.2.length) = st.2
 pre : ∀ c, 0 < i - st.2.length → s[i - st.2.length - 1]? = some c → sp c = true
theorem winv {s : Str} : ∀ (i : Nat), i ≤ s.length → WInv s i (wst (s.take i))
 | 0, _ => by
  have e : wst (s.take 0) = ([], []) := by simp [wst]
  rw [e]
  exact ⟨Nat.zero_le _, fun w h => (by cases h), Nat.le_refl _, rfl, fun c h => absurd h (Nat.lt_irrefl 0)⟩
 | i + 1, hi => by
  have ih := winv (s := s) i (by omega)
  have hlt : i < s.length := by omega
  rw [wst_at hlt]
  generalize wst (s.take i) = st at ih
  obtain ⟨W, c⟩ := st
  have ihl := ih.len
  have ihc := ih.cur
  have ihp := ih.pre
  simp only at ihl ihc ihp
  unfold wstep
  by_cases hs : sp s[i] = true
  ·rw [if_pos hs]
   refine ⟨hi, ?_, Nat.zero_le _, ?_, ?_⟩
   ·intro w hw
    simp only at hw
    by_cases hc : c = []
    ·rw [if_pos hc] at hw
     exact ih.words w hw
    ·rw [if_neg hc] at hw
     rcases List.mem_append.1 hw with hw | hw
     ·exact ih.words w hw
     ·rw [List.mem_singleton] at hw
      subst hw
      refine ⟨i - w.length, by omega, ?_, fun d h1 h2 => ihp d h1 h2, fun d h => ?_⟩
      ·rw [List.drop_take, show i - (i - w.length) = w.length by omega] at ihc
       exact ihc
      ·rw [show i - w.length + w.length = i by omega, List.getElem?_eq_getElem hlt, Option.some.injEq] at h
       rw [← h]; exact hs
   ·simp
   ·intro d _ h
    simp only [List.length_nil, Nat.sub_zero, Nat.add_sub_cancel] at h
    rw [List.getElem?_eq_getElem hlt, Option.some.injEq] at h
    rw [← h]; exact hs
  ·rw [if_neg hs]
   refine ⟨hi, ih.words, by simp; omega, ?_, ?_⟩
   ·simp only [List.length_append, List.length_singleton]
    rw [show i + 1 - (c.length + 1) = i - c.length by omega, List.take_succ_eq_append_getElem hlt, List.drop_append_of_le_length (by simp; omega), ihc]
   ·simp only [List.length_append, List.length_singleton]
    rw [show i + 1 - (c.length + 1) = i - c.length by omega]
    exact ihp
theorem word_at {s x : Str} (h : x ∈ wsplit s) : ∃ p, WordAt s x p := by
 have inv := winv (s := s) s.length (Nat.le_refl _)
 rw [List.take_of_length_le (Nat.le_refl _)] at inv
 unfold wsplit wfin at h
 generalize wst s = st at *
 obtain ⟨W, c⟩ := st
 have il := inv.len
 have ic := inv.cur
 have ip := inv.pre
 simp only at il ic ip h
 by_cases hc : c = []
 ·rw [if_pos hc] at h
  exact inv.words x h
 ·rw [if_neg hc] at h
  rcases List.mem_append.1 h with h | h
  ·exact inv.words x h
  ·rw [List.mem_singleton] at h
   subst h
   refine ⟨s.length - x.length, by omega, ?_, ip, fun d h => ?_⟩
   ·rw [List.take_of_length_le (Nat.le_refl _)] at ic
    rw [ic, List.take_of_length_le (Nat.le_refl _)]
   ·rw [show s.length - x.length + x.length = s.length by omega, List.getElem?_eq_none (Nat.le_refl _)] at h
    cases h
theorem word_ne {s x : Str} (h : x ∈ wsplit s) : x ≠ [] := by
 have key : ∀ (l : Str) (st : List Str × Str), (∀ w, w ∈ st.1 → w ≠ []) → ∀ w, w ∈ (l.foldl wstep st).1 → w ≠ [] := by
  intro l
  induction l with
  | nil => intro st h; exact h
  | cons c r ih =>
   intro st h
   rw [List.foldl_cons]
   refine ih _ ?_
   intro w hw
   unfold wstep at hw
   split at hw
   ·simp only at hw
    split at hw
    ·exact h w hw
    ·rename_i hn
     rcases List.mem_append.1 hw with hw | hw
     ·exact h w hw
     ·rw [List.mem_singleton] at hw; rw [hw]; exact hn
   ·exact h w hw
 unfold wsplit wfin at h
 split at h
 ·exact key s ([], []) (fun w h => by cases h) x h
 ·rename_i hn
  rcases List.mem_append.1 h with h | h
  ·exact key s ([], []) (fun w h => by cases h) x h
  ·rw [List.mem_singleton] at h; rw [h]; exact hn
def lays143_ren : Go.Shelf.Ren := ⟨fun | 143 => 77 | 219 => 115 | 217 => 124 | 225 => 143 | 224 => 144 | 267 => 145 | 266 => 155 | 314 => 163 | n => n, fun | 9 => 9 | 3 => 3 | 4 => 4 | 5 => 5 | 46 => 125 | 146 => 145 | 51 => 144 | n => n, fun | 1 => 0 | n => n⟩
theorem lays143 : Go.Proofs.Lays.n143 Tryz.prog lays143_ren where
 mixed := by kernel_rfl
 f143 := Tryz.func77.trans (congrArg some (by kernel_rfl))
 f217 := Tryz.func124.trans (congrArg some (by kernel_rfl))
 f219 := Tryz.func115.trans (congrArg some (by kernel_rfl))
 f224 := Tryz.func144.trans (congrArg some (by kernel_rfl))
 f225 := Tryz.func143.trans (congrArg some (by kernel_rfl))
 f266 := Tryz.func155.trans (congrArg some (by kernel_rfl))
 f267 := Tryz.func145.trans (congrArg some (by kernel_rfl))
 f314 := Tryz.func163.trans (congrArg some (by kernel_rfl))
 t3 := Tryz.underlying3
 a3 := Tryz.isAgg3
 z3 := Tryz.sizeOf3
 v3 := Tryz.zeroValue3
 t4 := Tryz.underlying4
 a4 := Tryz.isAgg4
 z4 := Tryz.sizeOf4
 v4 := Tryz.zeroValue4
 t5 := Tryz.underlying5
 a5 := Tryz.isAgg5
 z5 := Tryz.sizeOf5
 v5 := Tryz.zeroValue5
 t9 := Tryz.underlying9
 a9 := Tryz.isAgg9
 z9 := Tryz.sizeOf9
 v9 := Tryz.zeroValue9
 t46 := Tryz.underlying125
 a46 := Tryz.isAgg125
 z46 := Tryz.sizeOf125
 v46 := Tryz.zeroValue125
 t51 := Tryz.underlying144
 a51 := Tryz.isAgg144
 z51 := Tryz.sizeOf144
 v51 := Tryz.zeroValue144
 t146 := Tryz.underlying145
 a146 := Tryz.isAgg145
 z146 := Tryz.sizeOf145
 v146 := Tryz.zeroValue145
 g1 := by kernel_rfl
theorem index_at (s sub : ByteArray) (m : Int) (w : World) (hs : s.size < 4294967281) (hm : w.cell? ⟨0, 0, none⟩ = some (.int .i64 m)) :
  Calls Tryz.prog 77 #[.string s, .string sub] w fun e w' => e = .returned (.int .i64 (Lib.index s.data.toList sub.data.toList)) ∧ w' = w := Any.strings_Index lays143 s sub m w hs hm
theorem c77 {T : List (Entry Tryz.prog)} (s t : Str) (hl : s.length ≤ 1000000) : CallAt (ctx T) 77 [.str s, .str t] ⟨0, []⟩ (.int .i64 (Lib.index s t)) ⟨0, []⟩ := by
 intro ρ w xs sm hx
 match xs, hx with
 | [x, y], hx =>
  have h0 := hx.2 0 (by simp) (by simp)
  have h1 := hx.2 1 (by simp) (by simp)
  simp only [List.getElem_cons_zero, List.getElem_cons_succ] at h0 h1
  cases h0; cases h1
  obtain ⟨hB, m, hm⟩ := ρ.gl 0 (by simp [globs])
  have hc : w.cell? ⟨0, 0, none⟩ = some (.int .i64 m) := by rw [World.cell?, sm.below 0 hB]; exact hm
  have hrun : (callFunc 77 #[.string ⟨s.toArray⟩, .string ⟨t.toArray⟩]).run (ctx T).P w = .ok (.enter 77 #[.string ⟨s.toArray⟩, .string ⟨t.toArray⟩]) w := by
   have hf : (ctx T).P.funcs[77]? = some Tryz.f77 := Tryz.func77
   have hn : ¬ Tryz.f77.name = "runtime.NumGoroutine" := by decide +kernel
   simp [callFunc, hf, hn, Tryz.f77]
  refine .inr ⟨77, _, hrun, callsIn_wide.2 ((index_at ⟨s.toArray⟩ ⟨t.toArray⟩ m w ?_ hc).mono ?_)⟩
  ·show s.toArray.size < _
   simp; omega
  ·rintro e w' ⟨rfl, rfl⟩
   exact ⟨_, ρ, rfl, .int _ _, sm, Step.refl _ _ _⟩
noncomputable def e77 : Entry Tryz.prog := mkE 77 [[], []] (fun x : Str × Str => [.str x.1, .str x.2]) (fun x => x.1.length ≤ 1000000) (fun x => .int .i64 (Lib.index x.1 x.2)) fun x h => c77 (T := []) x.1 x.2 h
theorem k77 {T : List (Entry Tryz.prog)} (hT : findE 77 T = some e77.g) {s t : Str} (h1 : s.length ≤ 1000000) (H : Heap) : callL (ctx T) (.fn 77) [.str s, .str t] H = some (.int .i64 (Lib.index s t), H) :=
 mkE_scalar hT inj_str2 (s, t) h1 rfl (by simp)
theorem c78 {T : List (Entry Tryz.prog)} (c : UInt8) : CallAt (ctx T) 78 [.int .u8 c.toNat] ⟨0, []⟩ (.bool (sp c)) ⟨0, []⟩ := by
 refine callAt_body (fn := Tryz.f78) (s0 := ⟨[0, 2, 3, 4], [.int .u8 c.toNat, .undef, .undef, .undef], [], 10, ⟨0, [[]]⟩⟩) Tryz.func78 rfl rfl rfl ?_
 repeat apply wq
 refine wps_region callOK ?_
 simp [zS]
 repeat apply wq
 refine wps_region callOK ?_
 simp [zS]
 repeat apply wq
 refine wps_block ?_
 by_cases h1 : (c.toNat : Int) = 9
 ·(repeat (first
   | (refine wps_seq ?_)
   | (refine wps_block ?_)
   | (refine wps_label ?_; simp only [thenQ, blockQ])
   | ((refine wps_region callOK ?_); simp [zS, h1])
   | (refine wps_ct rfl ?_)
   | (refine wps_cf rfl ?_)
   | ((refine wps_skip ?_); simp only [thenQ, blockQ])
   | ((refine wps_exit ?_); simp [thenQ, blockQ])))
  repeat apply wq
  refine wps_ret ?_
  simp [retVal, Tryz.f78, oneOr, thenQ, blockQ]
  exact ends_pure rfl (by simp [sp, h1])
 by_cases h2 : (c.toNat : Int) = 10
 ·(repeat (first
   | (refine wps_seq ?_)
   | (refine wps_block ?_)
   | (refine wps_label ?_; simp only [thenQ, blockQ])
   | ((refine wps_region callOK ?_); simp [zS, h1, h2])
   | (refine wps_ct rfl ?_)
   | (refine wps_cf rfl ?_)
   | ((refine wps_skip ?_); simp only [thenQ, blockQ])
   | ((refine wps_exit ?_); simp [thenQ, blockQ])))
  repeat apply wq
  refine wps_ret ?_
  simp [retVal, Tryz.f78, oneOr, thenQ, blockQ]
  exact ends_pure rfl (by simp [sp, h2])
 by_cases h3 : (c.toNat : Int) = 12
 ·(repeat (first
   | (refine wps_seq ?_)
   | (refine wps_block ?_)
   | (refine wps_label ?_; simp only [thenQ, blockQ])
   | ((refine wps_region callOK ?_); simp [zS, h1, h2, h3])
   | (refine wps_ct rfl ?_)
   | (refine wps_cf rfl ?_)
   | ((refine wps_skip ?_); simp only [thenQ, blockQ])
   | ((refine wps_exit ?_); simp [thenQ, blockQ])))
  repeat apply wq
  refine wps_ret ?_
  simp [retVal, Tryz.f78, oneOr, thenQ, blockQ]
  exact ends_pure rfl (by simp [sp, h3])
 by_cases h4 : (c.toNat : Int) = 13
 ·(repeat (first
   | (refine wps_seq ?_)
   | (refine wps_block ?_)
   | (refine wps_label ?_; simp only [thenQ, blockQ])
   | ((refine wps_region callOK ?_); simp [zS, h1, h2, h3, h4])
   | (refine wps_ct rfl ?_)
   | (refine wps_cf rfl ?_)
   | ((refine wps_skip ?_); simp only [thenQ, blockQ])
   | ((refine wps_exit ?_); simp [thenQ, blockQ])))
  repeat apply wq
  refine wps_ret ?_
  simp [retVal, Tryz.f78, oneOr, thenQ, blockQ]
  exact ends_pure rfl (by simp [sp, h4])
 by_cases h5 : (c.toNat : Int) = 32
 ·(repeat (first
   | (refine wps_seq ?_)
   | (refine wps_block ?_)
   | (refine wps_label ?_; simp only [thenQ, blockQ])
   | ((refine wps_region callOK ?_); simp [zS, h1, h2, h3, h4, h5])
   | (refine wps_ct rfl ?_)
   | (refine wps_cf rfl ?_)
   | ((refine wps_skip ?_); simp only [thenQ, blockQ])
   | ((refine wps_exit ?_); simp [thenQ, blockQ])))
  repeat apply wq
  refine wps_ret ?_
  simp [retVal, Tryz.f78, oneOr, thenQ, blockQ]
  exact ends_pure rfl (by simp [sp, h5])
 ·(repeat (first
   | (refine wps_seq ?_)
   | (refine wps_block ?_)
   | (refine wps_label ?_; simp only [thenQ, blockQ])
   | ((refine wps_region callOK ?_); simp [zS, h1, h2, h3, h4, h5])
   | (refine wps_ct rfl ?_)
   | (refine wps_cf rfl ?_)
   | ((refine wps_skip ?_); simp only [thenQ, blockQ])
   | ((refine wps_exit ?_); simp [thenQ, blockQ])))
  repeat apply wq
  refine wps_ret ?_
  simp [retVal, Tryz.f78, oneOr, thenQ, blockQ]
  exact ends_pure rfl (by simp [sp, h1, h2, h3, h4, h5])
noncomputable def e78 : Entry Tryz.prog := mkE 78 [[]] (fun x : UInt8 => [.int .u8 x.toNat]) (fun _ => True) (fun x => .bool (sp x)) fun x _ => c78 (T := []) x
theorem k78 {T : List (Entry Tryz.prog)} (hT : findE 78 T = some e78.g) (c : UInt8) (H : Heap) : callL (ctx T) (.fn 78) [.int .u8 c.toNat] H = some (.bool (sp c), H) :=
 mkE_scalar hT inj_u8 c trivial rfl (by simp)
def strsB : List AV → List Str → Bool
 | [], l => match l with
  | [] => true
  | _ :: _ => false
 | v :: r, l => match v, l with
  | .str s, t :: q => match eqB s t with
   | true => strsB r q
   | false => false
  | _, _ => false
theorem strsB_eq : ∀ {cs : List AV} {L : List Str}, strsB cs L = true → cs = L.map AV.str
 | [], [], _ => rfl
 | [], _ :: _, h => by simp [strsB] at h
 | v :: r, L, h => by
  cases v <;> cases L <;> simp only [strsB] at h <;> first | (cases h; done) | skip
  rename_i s t q
  split at h
  ·rename_i he
   rw [eqB_eq] at he
   simp only [decide_eq_true_eq] at he
   rw [he, strsB_eq h]; rfl
  ·cases h
def splitOK (L : List Str) : Option (AV × Heap) → Bool
 | some (.slc b 0 len _, H) => match H.get b with
  | some (.cells cs) => match strsB cs L with
   | true => Nat.beq len L.length
   | false => false
  | _ => false
 | _ => false
theorem closedSplit {T : List (Entry Tryz.prog)} {f : FuncId} {args : List AV} {L : List Str} (h : splitOK L (callN (ctx T) 100000 (.fn f) args ⟨0, []⟩) = true) : CallAt (ctx T) f args ⟨0, []⟩ (aStrs L) ⟨0, []⟩ := by
 revert h
 cases hr : callN (ctx T) 100000 (.fn f) args ⟨0, []⟩ with
 | none => intro h; cases h
 | some r =>
  obtain ⟨v, H'⟩ := r
  intro h
  cases v <;> simp only [splitOK] at h <;> first | (cases h; done) | skip
  rename_i b o len cap
  cases o with
  | succ o => simp [splitOK] at h
  | zero =>
   simp only [splitOK] at h
   split at h
   ·rename_i cs hg
    split at h
    ·rename_i hs
     have hcs := strsB_eq hs
     have hlen := Nat.eq_of_beq_eq_true h
     refine ((call_ok mixed (mkC_ok _ _ _) 100000).fn f args ⟨0, []⟩ _ _ hr).freeze (Φ := [(b, cs)]) ?_ (.froze (by simp) fun x hx => ?_)
     ·simp only [aStrs, fitV]
      refine .inl ⟨cs, by simp [lookC], ?_, by simp [hlen], (el_str L).size⟩
      have h1 := sub_pre (el_str L) (k := L.length) (by simp)
      rw [List.take_of_length_le (by simp)] at h1
      have h2 : flatAV (L.map AV.str) = cs := by
       rw [hcs]
       clear h1 hcs hs h hlen
       induction L with
       | nil => rfl
       | cons x r ih => simp only [List.map_cons, flatAV, ih]; rfl
      rw [h2] at h1 ⊢
      rw [hlen]; exact h1
     ·simp only [List.mem_singleton] at hx
      subst hx
      have hp : pureL cs = true := by
       rw [hcs]
       clear hcs hs h hlen
       induction L with
       | nil => rfl
       | cons x r ih => simpa [pureL, pureV] using ih
      exact ⟨cs, hg, fitL_pure hp, hp⟩
    ·cases h
   ·cases h
theorem occ_iff {s x : Str} {i : Nat} : Lib.occAt s x i = true ↔ (s.drop i).take x.length = x := by
 unfold Lib.occAt
 rw [List.isPrefixOf_iff_prefix, List.prefix_iff_eq_take]
 exact eq_comm
theorem c44 {T : List (Entry Tryz.prog)} (hI : findE 77 T = some e77.g) (hS : findE 78 T = some e78.g) (W x : Str) (hl : W.length ≤ 100000) (hx1 : x.length ≤ 1000000000)
  (hsp : CallAt (ctx T) 80 [.str W] ⟨0, []⟩ (aStrs (wsplit W)) ⟨0, []⟩) (hco : CallAt (ctx T) 79 [aStrs (wsplit W), .str x] ⟨0, []⟩ (.bool (decide (x ∈ wsplit W))) ⟨0, []⟩) :
  CallAt (ctx T) 44 [.str W, .str x] ⟨0, []⟩ (.bool (inW W x)) ⟨0, []⟩ := by
 have h1 := hsp.lift (by simp [pureL, pureV]) ⟨0, [[]]⟩
 have h2 := hco.lift (by simp [aStrs, pureL, pureV]) ⟨0, [[]]⟩
 refine callAt_body (fn := Tryz.f44) (s0 := ⟨[0, 1, 4, 5, 6, 7, 8], [.str W, .str x, .undef, .undef, .undef, .undef, .undef], [], 52, ⟨0, [[]]⟩⟩) Tryz.func44 rfl rfl rfl ?_
 repeat apply wq
 refine wps_region callOK ?_
 simp [zS]
 by_cases hx : x = []
 ·repeat apply wq
  refine wps_region callOK ?_
  simp [zS, hx]
  repeat apply wq
  refine wps_ct rfl ?_
  repeat apply wq
  refine wps_region callOK ?_
  simp [zS]
  repeat apply wq
  refine wps_ret ?_
  simp [retVal, Tryz.f44, oneOr, thenQ, blockQ]
  exact ends_pure rfl (by simp only [inW]; symm; simp; intro h; exact word_ne h rfl)
 repeat apply wq
 refine wps_region callOK ?_
 simp [zS, hx]
 repeat apply wq
 refine wps_cf rfl ?_
 repeat apply wq
 refine wps_skip ?_
 simp
 have hx0 : 0 < x.length := List.length_pos_iff.2 hx
 repeat apply wq
 refine wps_region callOK ?_
 simp [zS]
 repeat apply wq
 refine wps_block (wps_loop' (fun i : Nat => (⟨[0, 1, 4, 5, 6, 7, 8], [.str W, .str x, .undef, .int .i64 i, .undef, .undef, .undef], [], 52, ⟨0, [[]]⟩⟩ : St))
  (fun i => i ≤ W.length ∧ (x ∈ wsplit W → ∃ p, i ≤ p ∧ WordAt W x p)) (fun i => W.length + 1 - i) [] [] 0 ⟨Nat.zero_le _, fun h => let ⟨p, hp⟩ := word_at h; ⟨p, Nat.zero_le _, hp⟩⟩ ⟨rfl, rfl, rfl, by simp [fitL, fitV, pureV, pureL], FitH.nothing⟩ ?_)
 rintro i ⟨hi, hw⟩ B hB
 have hd : (W.drop i).length ≤ 1000000 := by simp; omega
 repeat apply wq
 refine wps_block ?_
 rcases Lib.index_spec (W.drop i) x with ⟨h0, hn⟩ | ⟨k, h0, hk, ho, hno⟩
 ·have hnot : ¬ x ∈ wsplit W := fun h => by
   obtain ⟨p, hp, hwa⟩ := hw h
   have hr := hwa.room
   have := hn (p - i) (by simp; omega)
   have h3 : Lib.occAt (W.drop i) x (p - i) = true := occ_iff.2 (by rw [List.drop_drop, show i + (p - i) = p by omega]; exact hwa.occ)
   rw [h3] at this
   cases this
  repeat apply wq
  refine wps_region callOK ?_
  simp [zS, slStr hi, k77 hI hd, h0]
  repeat apply wq
  refine wps_region callOK ?_
  simp [zS]
  repeat apply wq
  refine wps_ct rfl ?_
  repeat apply wq
  refine wps_region callOK ?_
  simp [zS]
  repeat apply wq
  refine wps_ret ?_
  simp [retVal, Tryz.f44, oneOr, thenQ, blockQ]
  exact ends_pure rfl (by simp [inW, hnot])
 ·have hk0 : ¬ (k : Int) < 0 := by omega
  obtain ⟨j, hj⟩ : ∃ j, j = i + k := ⟨_, rfl⟩
  have ho' := occ_iff.1 ho
  rw [List.drop_drop, ← hj] at ho'
  have hroom : j + x.length ≤ W.length := by
   have := congrArg List.length ho'
   simp at this
   simp at hk
   omega
  have a1 : wr .i64 ((i : Int) + (k : Int)) = some (j : Int) := by rw [wr_small (by omega) (by omega), hj]; simp
  obtain ⟨q, hq⟩ : ∃ q, q = j + x.length := ⟨_, rfl⟩
  have a2 : wr .i64 ((j : Int) + (x.length : Int)) = some (q : Int) := by rw [wr_small (by omega) (by omega), hq]; simp
  have nxt : ∀ s', ¬ WordAt W x j → (∃ σ Φ, Fit 0 σ Φ s' (⟨[0, 1, 4, 5, 6, 7, 8], [.str W, .str x, .undef, .int .i64 ((j + 1 : Nat) : Int), .undef, .undef, .undef], [], 52, ⟨0, [[]]⟩⟩ : St)) → B s' := fun s' hno2 hf =>
   hB s' (j + 1) (by omega) ⟨by omega, fun h => by
    obtain ⟨p, hp, hwa⟩ := hw h
    refine ⟨p, ?_, hwa⟩
    have hr := hwa.room
    apply Decidable.byContradiction
    intro hlt
    rcases Nat.lt_or_ge p j with hpj | hpj
    ·have h3 := hno (p - i) (by omega)
     have h4 : Lib.occAt (W.drop i) x (p - i) = true := occ_iff.2 (by rw [List.drop_drop, show i + (p - i) = p by omega]; exact hwa.occ)
     rw [h4] at h3
     cases h3
    ·have : p = j := by omega
     subst this
     exact hno2 hwa⟩ hf
  repeat apply wq
  refine wps_region callOK ?_
  simp [zS, slStr hi, k77 hI hd, h0]
  repeat apply wq
  refine wps_region callOK ?_
  simp [zS, hk0]
  repeat apply wq
  refine wps_cf rfl ?_
  repeat apply wq
  refine wps_skip ?_
  simp
  repeat apply wq
  refine wps_region callOK ?_
  simp [zS, a1]
  repeat apply wq
  refine wps_region callOK ?_
  simp [zS, a2]
  have kS := fun c H => k78 hS c H
  by_cases c0 : j = 0
  ·have a4 : wr .i64 1 = some ((j + 1 : Nat) : Int) := by rw [c0]; rfl
   by_cases d0 : q = W.length
   ·repeat apply wq
    refine wps_region callOK ?_
    simp [zS, c0, d0]
    repeat apply wq
    refine wps_ct rfl ?_
    repeat apply wq
    refine wps_region (callOKF [⟨80, _, _, _, _, h1⟩, ⟨79, _, _, _, _, h2⟩]) ?_
    simp [zS, callF, aStrs]
    repeat apply wq
    refine wps_ret ?_
    simp [retVal, Tryz.f44, oneOr, thenQ, blockQ]
    exact ends_pure rfl (by simp [inW])
   ·have hql : q < W.length := by omega
    have d0i : ¬ (q : Int) = (W.length : Int) := by omega
    rcases Bool.eq_false_or_eq_true (sp W[q]) with d1 | d1
    ·repeat apply wq
     refine wps_region callOK ?_
     simp [zS, c0, d0i, ixStr hql, kS, d1]
     repeat apply wq
     refine wps_ct rfl ?_
     repeat apply wq
     refine wps_region (callOKF [⟨80, _, _, _, _, h1⟩, ⟨79, _, _, _, _, h2⟩]) ?_
     simp [zS, callF, aStrs]
     repeat apply wq
     refine wps_ret ?_
     simp [retVal, Tryz.f44, oneOr, thenQ, blockQ]
     exact ends_pure rfl (by simp [inW])
    ·repeat apply wq
     refine wps_region callOK ?_
     simp [zS, c0, d0i, ixStr hql, kS, d1]
     repeat apply wq
     refine wps_cf rfl ?_
     repeat apply wq
     refine wps_skip ?_
     simp
     repeat apply wq
     refine wps_region callOK ?_
     simp [zS, a4]
     exact nxt _ (fun hwa => by have := hwa.post _ (by rw [← hq]; exact List.getElem?_eq_getElem hql); rw [d1] at this; cases this) ⟨[], [], ⟨rfl, rfl, rfl, by simp [fitL, fitV, pureV, pureL], FitH.nothing⟩⟩
  ·obtain ⟨q1, hq1⟩ : ∃ q1, q1 + 1 = j := ⟨j - 1, by omega⟩
   have hq1l : q1 < W.length := by omega
   have a3 : wr .i64 ((j : Int) - 1) = some (q1 : Int) := by rw [wr_small (by omega) (by omega)]; congr 1; omega
   rcases Bool.eq_false_or_eq_true (sp W[q1]) with c1 | c1
   ·skip
    by_cases d0 : q = W.length
    ·repeat apply wq
     refine wps_region callOK ?_
     simp [zS, c0, a3, ixStr hq1l, kS, c1, d0]
     repeat apply wq
     refine wps_ct rfl ?_
     repeat apply wq
     refine wps_region (callOKF [⟨80, _, _, _, _, h1⟩, ⟨79, _, _, _, _, h2⟩]) ?_
     simp [zS, callF, aStrs]
     repeat apply wq
     refine wps_ret ?_
     simp [retVal, Tryz.f44, oneOr, thenQ, blockQ]
     exact ends_pure rfl (by simp [inW])
    ·have hql : q < W.length := by omega
     have d0i : ¬ (q : Int) = (W.length : Int) := by omega
     rcases Bool.eq_false_or_eq_true (sp W[q]) with d1 | d1
     ·repeat apply wq
      refine wps_region callOK ?_
      simp [zS, c0, a3, ixStr hq1l, kS, c1, d0i, ixStr hql, kS, d1]
      repeat apply wq
      refine wps_ct rfl ?_
      repeat apply wq
      refine wps_region (callOKF [⟨80, _, _, _, _, h1⟩, ⟨79, _, _, _, _, h2⟩]) ?_
      simp [zS, callF, aStrs]
      repeat apply wq
      refine wps_ret ?_
      simp [retVal, Tryz.f44, oneOr, thenQ, blockQ]
      exact ends_pure rfl (by simp [inW])
     ·repeat apply wq
      refine wps_region callOK ?_
      simp [zS, c0, a3, ixStr hq1l, kS, c1, d0i, ixStr hql, kS, d1]
      repeat apply wq
      refine wps_cf rfl ?_
      repeat apply wq
      refine wps_skip ?_
      simp
      repeat apply wq
      refine wps_region callOK ?_
      simp [zS, add_one (show j ≤ 1000000000 by omega)]
      exact nxt _ (fun hwa => by have := hwa.post _ (by rw [← hq]; exact List.getElem?_eq_getElem hql); rw [d1] at this; cases this) ⟨[], [], ⟨rfl, rfl, rfl, by simp [fitL, fitV, pureV, pureL], FitH.nothing⟩⟩
   ·repeat apply wq
    refine wps_region callOK ?_
    simp [zS, c0, a3, ixStr hq1l, kS, c1]
    repeat apply wq
    refine wps_cf rfl ?_
    repeat apply wq
    refine wps_skip ?_
    simp
    repeat apply wq
    refine wps_region callOK ?_
    simp [zS, add_one (show j ≤ 1000000000 by omega)]
    exact nxt _ (fun hwa => by have := hwa.pre _ (by omega) (by rw [← hq1, Nat.add_sub_cancel]; exact List.getElem?_eq_getElem hq1l); rw [c1] at this; cases this) ⟨[], [], ⟨rfl, rfl, rfl, by simp [fitL, fitV, pureV, pureL], FitH.nothing⟩⟩
end Go.Proofs.YtgpjifeeneeiaaaGreatDoor
namespace Go.Proofs.YtgpjifeeneeiaaaGreatDoor
set_option linter.unusedSimpArgs false
set_option linter.unusedVariables false
open Go Go.RowKit Go.ChangeShapes Go.WideShapes Go.ChangeAt
set_option maxRecDepth 100000
theorem shape_slice {α : Type} {n : Nat} {t e : TypeId} {enc : α → AV} {ag : Bool} (hu : Tryz.prog.underlying t = some (.slice e)) (hag : aggT Tryz.prog e = some ag) (h : ∀ cs x, ShapeT Tryz.prog n e cs → wrapA ag cs = some x → ∃ a, x = enc a) {qs : List AV} (hs : ShapeT Tryz.prog (n + 1) t qs) :
  ∃ L : List α, qs = [.fslc (Tryz.prog.cellsOf e) (L.map enc)] := by
 unfold ShapeT at hs
 simp only [hu] at hs
 obtain ⟨es, rfl, _, hes⟩ := hs
 have key : ∀ l : List AV, (∀ x, x ∈ l → ∃ ag cs, aggT Tryz.prog e = some ag ∧ wrapA ag cs = some x ∧ ShapeT Tryz.prog n e cs) → ∃ L : List α, l = L.map enc := by
  intro l
  induction l with
  | nil => intro _; exact ⟨[], rfl⟩
  | cons x r ih =>
   intro hx
   obtain ⟨ag', cs, h1, h2, h3⟩ := hx x (by simp)
   rw [hag, Option.some.injEq] at h1
   subst h1
   obtain ⟨a, ha⟩ := h cs x h3 h2
   obtain ⟨L, hL⟩ := ih fun y hy => hx y (by simp [hy])
   exact ⟨a :: L, by rw [ha, hL]; rfl⟩
 obtain ⟨L, rfl⟩ := key es hes
 exact ⟨L, rfl⟩
theorem shape_str {n : Nat} {qs : List AV} (h : ShapeT Tryz.prog (n + 1) 9 qs) : ∃ s : Str, qs = [.str s] := by
 unfold ShapeT at h
 simp only [Tryz.underlying9] at h
 obtain ⟨s, rfl, _⟩ := h
 exact ⟨s, rfl⟩
theorem shape_int {n : Nat} {qs : List AV} (h : ShapeT Tryz.prog (n + 1) 3 qs) : ∃ i : Int, qs = [aInt i] := by
 unfold ShapeT at h
 simp only [Tryz.underlying3] at h
 obtain ⟨s, rfl, _⟩ := h
 exact ⟨s, rfl⟩
theorem cellsO_attr : Tryz.prog.cellsOf 43 = 2 := by kernel_rfl
theorem cellsO_int : Tryz.prog.cellsOf 3 = 1 := by kernel_rfl
theorem cellsO_node : Tryz.prog.cellsOf 31 = 7 := by kernel_rfl
theorem shape_attr {n : Nat} {qs : List AV} (h : ShapeT Tryz.prog (n + 2) 43 qs) : ∃ a : At1, AV.agg qs = aAttr a := by
 unfold ShapeT at h
 simp only [Tryz.underlying43] at h
 cases h with
 | cons f r x y h1 h2 =>
  cases h2 with
  | cons f2 r2 x2 y2 h3 h4 =>
   cases h4
   obtain ⟨s1, rfl⟩ := shape_str h1
   obtain ⟨s2, rfl⟩ := shape_str h3
   exact ⟨(s1, s2), rfl⟩
theorem shape_attrs {n : Nat} {qs : List AV} (h : ShapeT Tryz.prog (n + 3) 28 qs) : ∃ L : List At1, qs = [aAttrs L] := by
 obtain ⟨L, rfl⟩ := shape_slice (enc := aAttr) (ag := true) Tryz.underlying28 agT43 (fun cs x h hw => by
  simp only [wrapA, Option.some.injEq] at hw
  obtain ⟨a, ha⟩ := shape_attr h
  exact ⟨a, by rw [← hw, ha]⟩) h
 exact ⟨L, by rw [cellsO_attr]; rfl⟩
theorem shape_ints {n : Nat} {qs : List AV} (h : ShapeT Tryz.prog (n + 2) 29 qs) : ∃ L : List Int, qs = [aInts L] := by
 obtain ⟨L, rfl⟩ := shape_slice (enc := aInt) (ag := false) Tryz.underlying29 agT3 (fun cs x h hw => by
  obtain ⟨a, rfl⟩ := shape_int h
  simp only [wrapA, aInt, AV.single, Option.some.injEq] at hw
  exact ⟨a, hw.symm⟩) h
 exact ⟨L, by rw [cellsO_int]⟩
theorem shape_node {n : Nat} {qs : List AV} (h : ShapeT Tryz.prog (n + 4) 31 qs) : ∃ a : Nd, AV.agg qs = aNode a := by
 unfold ShapeT at h
 simp only [Tryz.underlying31] at h
 obtain _ | ⟨_, _, _, _, h1, h⟩ := h
 obtain _ | ⟨_, _, _, _, h2, h⟩ := h
 obtain _ | ⟨_, _, _, _, h3, h⟩ := h
 obtain _ | ⟨_, _, _, _, h4, h⟩ := h
 obtain _ | ⟨_, _, _, _, h5, h⟩ := h
 obtain _ | ⟨_, _, _, _, h6, h⟩ := h
 obtain _ | ⟨_, _, _, _, h7, h⟩ := h
 cases h
 obtain ⟨x1, rfl⟩ := shape_int h1
 obtain ⟨x2, rfl⟩ := shape_int h2
 obtain ⟨x3, rfl⟩ := shape_str h3
 obtain ⟨x4, rfl⟩ := shape_attrs (n := n) h4
 obtain ⟨x5, rfl⟩ := shape_str h5
 obtain ⟨x6, rfl⟩ := shape_int h6
 obtain ⟨x7, rfl⟩ := shape_ints (n := n + 1) h7
 exact ⟨⟨x1, x2, x3, x4, x5, x6, x7⟩, rfl⟩
theorem shape_tree {n : Nat} {qs : List AV} (h : ShapeT Tryz.prog (n + 6) 24 qs) : ∃ t : Tr, AV.agg qs = aTree t := by
 unfold ShapeT at h
 simp only [Tryz.underlying24] at h
 obtain _ | ⟨_, _, _, _, h1, h⟩ := h
 cases h
 obtain ⟨L, rfl⟩ := shape_slice (n := n + 4) (enc := aNode) (ag := true) Tryz.underlying22 agT31 (fun cs x h hw => by
  simp only [wrapA, Option.some.injEq] at hw
  obtain ⟨a, ha⟩ := shape_node h
  exact ⟨a, by rw [← hw, ha]⟩) h1
 exact ⟨L, by rw [cellsO_node]; rfl⟩
theorem okTree : okTy Tryz.prog 6 24 = true := by kernel_rfl
section
variable {H : Type} {enc : TypeId × Value → H} {W : World} {hg : GlobsIn W}
theorem argTree {b0 base : Nat} {sp : Nat → Bool} {held : Bool} {v : Value} {d : DataW H} {ps : List MemPlace} (ht : DataW.Trod enc Tryz.prog W base sp held 24 v d ps) (hv : Value.okWide Tryz.prog W .any b0 24 v) : ∃ t, VR (start W hg) (aTree t) v := by
 obtain ⟨qs, a, h1, h2, h3⟩ := arg_shape (hg := hg) okTree (ag := true) agT24 (fun h => by cases h) ht hv
 obtain ⟨x, hx⟩ := shape_tree (n := 0) h1
 have : a = aTree x := by
  simp only [wrapA, Option.some.injEq] at h2
  rw [← h2, hx]
 exact ⟨x, this ▸ h3⟩
end
end Go.Proofs.YtgpjifeeneeiaaaGreatDoor
namespace Go.Proofs.YtgpjifeeneeiaaaGreatDoor
set_option linter.unusedSimpArgs false
set_option linter.unusedVariables false
open Go Go.RowKit
set_option maxRecDepth 100000
end Go.Proofs.YtgpjifeeneeiaaaGreatDoor