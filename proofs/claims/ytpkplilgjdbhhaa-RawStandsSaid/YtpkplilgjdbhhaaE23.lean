/- What is handed in, as E has it: out of its reading. No condition. -/
import Derived.Test.YtpkplilgjdbhhaaE22
namespace Go.Proofs.Ytpkplilgjdbhhaa
set_option linter.unusedSimpArgs false
set_option linter.unusedVariables false
open Go Go.RowKit

/-- one value of these cells -/
def wrapA (ag : Bool) (as : List AV) : Option AV := match ag with
  | true => some (.agg as)
  | false => match as with
    | [a] => match a.single with
      | true => some a
      | false => none
    | _ => none
def litA : Lit → Option AV
  | .bool b => some (.bool b)
  | .int k n => some (.int k n)
  | .float k b => some (.float k b)
  | .string s => some (.str s)
  | _ => none
def allSize (n : Nat) : List AV → Bool
  | [] => true
  | a :: r => match Nat.beq a.cells.length n with
    | true => allSize n r
    | false => false
def mapOpt {α β : Type} (f : α → Option β) : List α → Option (List β)
  | [] => some []
  | x :: r => (f x).bind fun y => (mapOpt f r).bind fun ys => some (y :: ys)
theorem mapOpt_spec {α β : Type} {f : α → Option β} : ∀ {l : List α} {r : List β}, mapOpt f l = some r → r.length = l.length ∧ ∀ i (h : i < l.length) (h' : i < r.length), f l[i] = some r[i]
  | [], r, h => by
    simp only [mapOpt, Option.some.injEq] at h
    subst h
    exact ⟨rfl, fun i h => absurd h (Nat.not_lt_zero i)⟩
  | x :: l, r, h => by
    obtain ⟨y, hy, h⟩ := Option.bind_eq_some_iff.1 h
    obtain ⟨ys, hys, h⟩ := Option.bind_eq_some_iff.1 h
    simp only [Option.some.injEq] at h
    subst h
    obtain ⟨h1, h2⟩ := mapOpt_spec hys
    refine ⟨by simp [h1], fun i hi hi' => ?_⟩
    cases i with
    | zero => exact hy
    | succ i => exact h2 i (by simpa using hi) (by simpa using hi')
/-- a struct's fields, laid side by side: the parts one behind the other -/
def partsA {H : Type} (f : TypeId → DataW H → Option (List AV)) (P : Program) : Nat → List Field → List (DataW H) → Option (List AV)
  | _, [], ds => match ds with
    | [] => some []
    | _ :: _ => none
  | o, x :: fs, ds => match ds with
    | [] => none
    | d :: ds => match Nat.beq x.offset o with
      | false => none
      | true => (f x.type d).bind fun as => match Nat.beq as.length (P.cellsOf x.type) with
        | false => none
        | true => (partsA f P (o + P.cellsOf x.type) fs ds).bind fun r => some (as ++ r)
/-- the cells that a reading of type t stands for -/
def cellsA {H : Type} (P : Program) : Nat → TypeId → DataW H → Option (List AV)
  | 0, _, _ => none
  | Nat.succ n, t, d => (P.underlying t).bind fun u => match u, d with
    | .bool, .lit l => (litA l).bind fun a => some [a]
    | .int _, .lit l => (litA l).bind fun a => some [a]
    | .string, .lit l => (litA l).bind fun a => some [a]
    | .slice e, .nil => some [.fslc (P.cellsOf e) []]
    | .slice e, .slice elems _ => match elems with
      | [] => some [.fslc (P.cellsOf e) []]
      | _ :: _ => (aggT P e).bind fun ag => (mapOpt (fun d => (cellsA P n e d).bind (wrapA ag)) elems).bind fun es => match allSize (P.cellsOf e) es with
        | true => match Nat.ble 1 (P.cellsOf e) with
          | true => some [.fslc (P.cellsOf e) es]
          | false => none
        | false => none
    | .struct fs, .agg parts => (partsA (cellsA P n) P 0 fs.toList parts).bind fun as => match Nat.beq as.length (P.cellsOf t) with
      | true => some as
      | false => none
    | _, _ => none
def argA {H : Type} (P : Program) (n : Nat) (t : TypeId) (d : DataW H) : Option AV := (aggT P t).bind fun ag => (cellsA P n t d).bind (wrapA ag)

section
variable {W : World} {hg : GlobsIn W} {ρ : Place} {H : Type} {enc : TypeId × Value → H} {P : Program}
theorem litA_run {l : Lit} {a : AV} {x : Value} (h : litA l = some a) (hx : match l with
    | .bool b => x = .bool b
    | .int k n => x = .int k n
    | .float k b => x = .float k b
    | .string s => x = .string ⟨s.toArray⟩
    | _ => False) : VR ρ a x := by
  cases l <;> simp only [litA, Option.some.injEq, reduceCtorEq] at h <;> subst h <;> simp only at hx <;> subst hx <;> constructor
theorem wrapA_cells {ag : Bool} {as : List AV} {a : AV} (h : wrapA ag as = some a) : a.cells = as := by
  cases ag with
  | true => simp only [wrapA, Option.some.injEq] at h; subst h; rfl
  | false =>
    unfold wrapA at h
    simp only at h
    split at h
    · rename_i b
      split at h
      · rename_i hs
        simp only [Option.some.injEq] at h
        subst h
        cases b <;> first | rfl | simp [AV.single] at hs
      · cases h
    · cases h
theorem allSize_spec {n : Nat} : ∀ {l : List AV}, allSize n l = true → ∀ i (h : i < l.length), l[i].cells.length = n
  | [], _, i, hi => absurd hi (Nat.not_lt_zero i)
  | a :: r, h, i, hi => by
    unfold allSize at h
    split at h
    · rename_i hb
      cases i with
      | zero => exact Nat.eq_of_beq_eq_true hb
      | succ i => exact allSize_spec h i (by simpa using hi)
    · cases h
theorem cells?_get {w : World} {base : Nat} {a : Addr} {n : Nat} {cs : List Value} (h : w.cells? base a n = some cs) : cs.length = n ∧ ∀ i (h' : i < cs.length), w.cell? (a.add i) = some cs[i] := by
  unfold World.cells? at h
  split at h
  · have key : ∀ (l : List Nat) (cs : List Value), l.mapM (fun i => w.cell? (a.add i)) = some cs → cs.length = l.length ∧ ∀ i (h1 : i < l.length) (h2 : i < cs.length), w.cell? (a.add l[i]) = some cs[i] := by
      intro l
      induction l with
      | nil => intro cs h; simp at h; subst h; exact ⟨rfl, fun i h => absurd h (Nat.not_lt_zero i)⟩
      | cons x l ih =>
        intro cs h
        rw [List.mapM_cons] at h
        obtain ⟨y, hy, h⟩ := Option.bind_eq_some_iff.1 h
        obtain ⟨ys, hys, h⟩ := Option.bind_eq_some_iff.1 h
        obtain rfl : y :: ys = cs := by simpa using h
        obtain ⟨h1, h2⟩ := ih ys hys
        refine ⟨by simp [h1], fun i a b => ?_⟩
        cases i with
        | zero => exact hy
        | succ i => exact h2 i (by simpa using a) (by simpa using b)
    obtain ⟨h1, h2⟩ := key _ _ h
    refine ⟨by simpa using h1, fun i hi => ?_⟩
    have := h2 i (by rw [← h1]; exact hi) hi
    simpa using this
  · cases h
theorem cell?_spot {w : World} {a : Addr} {v : Value} (h : w.cell? a = some v) : a.spot = none ∧ a.block < w.heap.size := by
  unfold World.cell? at h
  split at h
  · rename_i c t fr hh
    split at h
    · cases h
    · rename_i hs
      exact ⟨by cases hsp : a.spot with
        | none => rfl
        | some _ => rw [hsp] at hs; simp at hs, (Array.getElem?_eq_some_iff.1 hh).1⟩
  · cases h

theorem add_none {a : Addr} (h : a.spot = none) (k : Nat) : a.add k = ⟨a.block, a.off + k, none⟩ := by
  cases a
  simp only at h
  subst h
  unfold Addr.add
  split
  · rename_i hk; simp [hk]
  · rfl
theorem cellsA_run {base : Nat} {sp : Nat → Bool} {held : Bool} : ∀ {n : Nat} {fuel : Nat} {t : TypeId} {cs : List Value} {x : DataW H × List MemPlace} {as : List AV},
    DataW.trod enc P W base sp held fuel t cs = some x → cellsA P n t x.1 = some as → VRs (start W hg) as cs
  | 0, _, _, _, _, _, _, h => by simp [cellsA] at h
  | n + 1, fuel, t, cs, x, as, htr, h => by
    obtain ⟨u, hu, h⟩ := Option.bind_eq_some_iff.1 h
    have one : ∀ {a : AV} {v : Value}, VR (start W hg) a v → VRs (start W hg) [a] [v] := fun h => .cons h .nil
    cases u with
    | bool =>
      cases fuel with
      | zero => simp [DataW.trod] at htr
      | succ m =>
        unfold DataW.trod at htr
        rw [hu] at htr
        split at htr <;> simp_all
        obtain ⟨rfl⟩ := htr
        obtain ⟨a, ha, rfl⟩ := h
        exact one (.bool _)
    | int k =>
      cases fuel with
      | zero => simp [DataW.trod] at htr
      | succ m =>
        unfold DataW.trod at htr
        rw [hu] at htr
        split at htr <;> simp_all
        obtain ⟨⟨rfl, _⟩, rfl⟩ := htr
        obtain ⟨a, ha, rfl⟩ := h
        exact one (.int _ _)
    | string =>
      cases fuel with
      | zero => simp [DataW.trod] at htr
      | succ m =>
        unfold DataW.trod at htr
        rw [hu] at htr
        split at htr <;> simp_all
        obtain ⟨_, rfl⟩ := htr
        obtain ⟨a, ha, rfl⟩ := h
        rename_i sb _
        have hb : (⟨sb.data.toList.toArray⟩ : ByteArray) = sb := by cases sb; simp
        have := VR.str (ρ := start W hg) sb.data.toList
        rw [hb] at this
        exact one this
    | slice e =>
      rcases DataW.trod_slice hu htr with ⟨rfl, rfl⟩ | ⟨a, len, cap, elems, rest, m, rfl, rfl, rfl, hb, hl, hc, hlen, hel, _⟩
      · simp only [Option.some.injEq] at h
        subst h
        exact one (.fnil _)
      · simp only at h
        split at h
        · rename_i hnil
          simp only [Option.some.injEq] at h
          subst h
          have : len = 0 := by rw [← hlen]; simpa using hnil
          subst this
          exact one (.fnone _ a cap)
        · rename_i hcons
          obtain ⟨ag, hag, h⟩ := Option.bind_eq_some_iff.1 h
          obtain ⟨es, hes, h⟩ := Option.bind_eq_some_iff.1 h
          split at h
          · rename_i hsz
            split at h
            · rename_i hpos
              simp only [Option.some.injEq] at h
              subst h
              obtain ⟨g1, g2⟩ := mapOpt_spec hes
              have hel' : es.length = len := by rw [g1]; simpa using hlen
              have hpos' : 1 ≤ P.cellsOf e := Nat.le_of_ble_eq_true hpos
              have hes' := allSize_spec hsz
              -- each element
              have each : ∀ i (hi : i < es.length), ∃ ci : List Value, W.cells? base (a.add (i * P.cellsOf e)) (P.cellsOf e) = some ci ∧ VRs (start W hg) es[i].cells ci := by
                intro i hi
                have hil : i < len := by omega
                have hie : i < elems.length := by omega
                have h1 := hel i hil
                rw [List.getElem?_eq_getElem hie] at h1
                obtain ⟨ci, hci, hti⟩ := Option.bind_eq_some_iff.1 h1
                have h2 := g2 i (by simpa using hie) hi
                obtain ⟨as', ha', hw'⟩ := Option.bind_eq_some_iff.1 h2
                rw [wrapA_cells hw']
                exact ⟨ci, hci, cellsA_run hti (by simpa using ha')⟩
              have hne : 0 < es.length := by
                cases elems with
                | nil => simp at hcons
                | cons _ _ => simp at g1; omega
              obtain ⟨c0, hc0, hv0⟩ := each 0 hne
              obtain ⟨l0, cell0⟩ := cells?_get hc0
              obtain ⟨hspot, hblk⟩ := cell?_spot (cell0 0 (by omega))
              have hspot' : a.spot = none := by simpa [Addr.add] using hspot
              have hblk' : a.block < W.heap.size := by simpa [Addr.add] using hblk
              have ha : a = ⟨a.block, a.off, none⟩ := by cases a; simp at hspot'; simp [hspot']
              have key : VR (start W hg) (.fslc (P.cellsOf e) es) (.slice (some ⟨a.block, a.off, none⟩) es.length cap) := by
                refine .fslc (P.cellsOf e) es a.block a.off cap (fun i j => (W.cell? ⟨a.block, a.off + i * P.cellsOf e + j, none⟩).getD undef) hblk' (by omega) hes' (fun i hi j hj => ?_) (fun i hi j hj => ?_)
                · obtain ⟨ci, hci, hvi⟩ := each i hi
                  obtain ⟨li, celli⟩ := cells?_get hci
                  have := celli j (by omega)
                  have e1 : (a.add (i * P.cellsOf e)).add j = ⟨a.block, a.off + i * P.cellsOf e + j, none⟩ := by rw [add_none hspot', add_none rfl]
                  rw [e1] at this
                  show W.cell? _ = _
                  rw [this]; rfl
                · obtain ⟨ci, hci, hvi⟩ := each i hi
                  obtain ⟨li, celli⟩ := cells?_get hci
                  have hj' : j < ci.length := by rw [hvi.1]; exact hj
                  have := celli j hj'
                  have e1 : (a.add (i * P.cellsOf e)).add j = ⟨a.block, a.off + i * P.cellsOf e + j, none⟩ := by rw [add_none hspot', add_none rfl]
                  rw [e1] at this
                  rw [this]
                  exact (hvi.2 j hj hj')
              rw [hel', ← ha] at key
              exact one key
            · cases h
          · cases h
    | struct fs =>
      obtain ⟨xs, m, rfl, rfl, hlen, hxs, hf⟩ := DataW.trod_struct hu htr
      simp only at h
      -- the parts, one behind the other
      have key : ∀ (l : List Field) (o k : Nat) (as : List AV), (∀ i (hi : i < l.length), fs[k + i]? = some l[i]) → k + l.length = fs.size → partsA (cellsA P n) P o l ((xs.map (·.1)).drop k) = some as →
          ∃ len, as.length = len ∧ (o + len ≤ cs.length ∨ len = 0) ∧ VRs (start W hg) as ((cs.drop o).take len) := by
        intro l
        induction l with
        | nil =>
          intro o k as _ _ h
          unfold partsA at h
          split at h
          · simp only [Option.some.injEq] at h
            subst h
            exact ⟨0, rfl, .inr rfl, by simpa using VRs.nil⟩
          · cases h
        | cons y l ih =>
          intro o k as hfs hk h
          have hy : fs[k]? = some y := hfs 0 (Nat.zero_lt_succ _)
          have hkx : k < xs.length := by rw [hxs]; simp at hk; omega
          have hdrop : (xs.map (·.1)).drop k = xs[k].1 :: (xs.map (·.1)).drop (k + 1) := by
            rw [List.drop_eq_getElem_cons (by simpa using hkx)]; simp
          rw [hdrop] at h
          unfold partsA at h
          simp only at h
          split at h
          · cases h
          · rename_i hoff
            obtain ⟨as1, h1, h⟩ := Option.bind_eq_some_iff.1 h
            split at h
            · cases h
            · rename_i hl1
              obtain ⟨r, hr, h⟩ := Option.bind_eq_some_iff.1 h
              simp only [Option.some.injEq] at h
              subst h
              have hoff' : y.offset = o := Nat.eq_of_beq_eq_true hoff
              have hl1' : as1.length = P.cellsOf y.type := Nat.eq_of_beq_eq_true hl1
              have ht := hf k y hy
              rw [List.getElem?_eq_getElem hkx, hoff'] at ht
              have hv1 := cellsA_run ht h1
              obtain ⟨len, q1, q2, q3⟩ := ih (o + P.cellsOf y.type) (k + 1) r (fun i hi => by have := hfs (i + 1) (by simpa using hi); simpa [Nat.add_assoc, Nat.add_comm 1 i] using this) (by simp at hk; omega) hr
              have hsize : ((cs.drop o).take (P.cellsOf y.type)).length = P.cellsOf y.type := by rw [hv1.1, hl1']
              have hle : o + P.cellsOf y.type ≤ cs.length ∨ P.cellsOf y.type = 0 := by
                rw [List.length_take, List.length_drop] at hsize; omega
              refine ⟨P.cellsOf y.type + len, by simp [hl1', q1], by omega, ?_⟩
              have hsplit : (cs.drop o).take (P.cellsOf y.type + len) = (cs.drop o).take (P.cellsOf y.type) ++ (cs.drop (o + P.cellsOf y.type)).take len := by
                rw [List.take_add, List.drop_drop]
              rw [hsplit]
              exact hv1.append q3
      obtain ⟨as', has, h⟩ := Option.bind_eq_some_iff.1 h
      split at h
      · rename_i htot
        simp only [Option.some.injEq] at h
        subst h
        have htot' : as'.length = P.cellsOf t := Nat.eq_of_beq_eq_true htot
        obtain ⟨len, q1, q2, q3⟩ := key fs.toList 0 0 as' (fun i hi => by simp at hi ⊢) (by simp) (by simpa using has)
        have hle : len = cs.length := by omega
        simpa [hle] using q3
      · cases h
    | _ => simp at h
theorem argA_run {n : Nat} {r : Reach} {b0 : Nat} {base : Nat} {sp : Nat → Bool} {held : Bool} {t : TypeId} {v : Value} {d : DataW H} {ps : List MemPlace} {a : AV} (ht : DataW.Trod enc P W base sp held t v d ps) (hok : Value.okWide P W r b0 t v) (h : argA P n t d = some a) : VR (start W hg) a v := by
  obtain ⟨fuel, hf⟩ := ht
  obtain ⟨ag, hag, h⟩ := Option.bind_eq_some_iff.1 h
  obtain ⟨as, has, h⟩ := Option.bind_eq_some_iff.1 h
  have hv := cellsA_run (hg := hg) hf has
  obtain ⟨u, hu, hag⟩ := Option.bind_eq_some_iff.1 hag
  have agg : ∀ cs : Array Value, v = .agg cs → ag = true → VR (start W hg) a v := by
    rintro cs rfl rfl
    simp only [wrapA, Option.some.injEq] at h
    subst h
    exact .agg as cs (by simpa [Value.cells] using hv.1) fun i h1 h2 => hv.2 i h1 (by simpa [Value.cells] using h2)
  have cell : ag = false → Cell.okWide P W r b0 t v → VR (start W hg) a v := by
    rintro rfl hc
    have hcs : v.cells = #[v] := by
      cases v with
      | agg cs => simp only [Cell.okWide, Cell.ok] at hc; revert hc; cases P.underlying t with
        | none => exact fun h => h.elim
        | some u => cases u <;> exact fun h => h.elim
      | _ => rfl
    unfold wrapA at h
    simp only at h
    split at h
    · split at h
      · simp only [Option.some.injEq] at h
        subst h
        rw [hcs] at hv
        exact hv.head
      · cases h
    · cases h
  unfold Value.okWide at hok
  rw [hu] at hok
  cases u with
  | struct fs =>
    obtain ⟨cs, h1, _⟩ := hok
    simp only [Option.some.injEq] at hag
    exact agg cs h1 hag.symm
  | array k e =>
    obtain ⟨cs, h1, _⟩ := hok
    simp only [Option.some.injEq] at hag
    exact agg cs h1 hag.symm
  | _ =>
    simp only [Option.some.injEq] at hag
    exact cell hag.symm hok
end
end Go.Proofs.Ytpkplilgjdbhhaa
