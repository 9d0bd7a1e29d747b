/- How E's operations on maps meet the model's; least and most. No condition. -/
import Derived.Test.YtpkplilgjdbhhaaE11
namespace Go.Proofs.Ytpkplilgjdbhhaa
set_option linter.unusedSimpArgs false
set_option linter.unusedVariables false
open Go Go.RowKit

section
variable {P : Program} {ρ : Place} {H H' : Heap} {w : World}

theorem keyEq_run {t : TypeId} {d : TypeDesc} {a b : AV} {q : Bool} {a' b' : Value} (h : keyEq P t d a b = some q) (hd : P.underlying t = some d) (ha : VR ρ a a') (hb : VR ρ b b') :
    (∀ w, (Op.equal t a' b').run P w = .ok q w) ∧ (plainT d = true → Instr.sameNow d a' b' = some q) ∧ (plainT d = false → ∃ fs, d = .struct fs) := by
  unfold keyEq at h
  split at h
  · rename_i hp
    refine ⟨fun w => eqPart_run h ha hb hd 9999 w, fun _ => ?_, fun hf => by rw [hp] at hf; cases hf⟩
    unfold eqPart at h
    split at h <;> first | contradiction | skip
    all_goals (try (simp [plainT] at hp; done))
    · cases ha; cases hb; exact h
    · cases ha; cases hb
      simp only [Instr.sameNow]; exact h
    · cases ha; cases hb
      simp only [Instr.sameNow, bytes_beq]; exact h
  · rename_i hp
    split at h
    · rename_i fs
      exact ⟨fun w => (eqA_run h ha hb w).1, fun hf => (by rw [hp] at hf; cases hf), fun _ => ⟨fs, rfl⟩⟩
    · simp at h

theorem checkFields {xs : List AV} {xs' : Array Value} (hx : VRs ρ xs xs'.toList) (empty : Bool) (n : Nat) (w : World) : ∀ {fs : List Field}, eqFields P fs xs xs = some true →
    (forIn fs PUnit.unit (fun f _ =>
      if f.name ≠ "_" then do
        let a ← part f.type xs' f.offset
        Instr.checkKey empty (n + 1) f.type a
        pure (ForInStep.yield PUnit.unit)
      else pure (ForInStep.yield PUnit.unit)) : Sem PUnit).run P w = .ok PUnit.unit w
  | [], _ => rfl
  | f :: fs, h => by
    unfold eqFields at h
    split at h
    · simp at h
    · rename_i hne
      have hne : f.name ≠ "_" := by simpa using hne
      replace h := Option.bind_eq_some_iff.1 h; obtain ⟨d, hd, h⟩ := h
      split at h
      · simp at h
      · rename_i hpl
        replace h := Option.bind_eq_some_iff.1 h; obtain ⟨x, hxx, h⟩ := h
        replace h := Option.bind_eq_some_iff.1 h; obtain ⟨y, hyy, h⟩ := h
        replace h := Option.bind_eq_some_iff.1 h; obtain ⟨e, he, h⟩ := h
        have hag : aggT P f.type = some false := by
          unfold aggT
          rw [hd]
          cases d <;> first | rfl | simp [plainT] at hpl
        obtain ⟨x', hx1, hx2⟩ := part_run (P := P) (t := f.type) (off := f.offset) (v := x) (by simp [partA, hag, hxx]) hx w
        have hck : (Instr.checkKey empty (n + 1) f.type x').run P w = .ok () w := by
          unfold Instr.checkKey
          simp only [Sem.run_bind, run_underlying hd, Result.andThen_ok]
          cases d <;> first | rfl | simp [plainT] at hpl
        cases e with
        | true =>
          have ih := checkFields hx empty n w h
          simp only [List.forIn_cons, hne, ne_eq, not_false_eq_true, if_true, Sem.run_bind, hx1, hck, Result.andThen_ok, Sem.run_pure]
          exact ih
        | false => simp at h
theorem checkKey_run {t : TypeId} {d : TypeDesc} {k : AV} {k' : Value} (h : keyOK P t d k = some ()) (hd : P.underlying t = some d) (hk : VR ρ k k') (empty : Bool) (n : Nat) (w : World) :
    (Instr.checkKey empty (n + 2) t k').run P w = .ok () w := by
  replace h := Option.bind_eq_some_iff.1 h; obtain ⟨q, hq, h⟩ := h
  split at h
  · unfold keyEq at hq
    split at hq
    · rename_i hp
      unfold Instr.checkKey
      simp only [Sem.run_bind, run_underlying hd, Result.andThen_ok]
      cases d <;> first | rfl | simp [plainT] at hp
    · split at hq
      · rename_i fs
        replace hq := Option.bind_eq_some_iff.1 hq; obtain ⟨d2, hd2, hq⟩ := hq
        rw [hd] at hd2
        cases hd2
        cases hk <;> simp only at hq
        case agg cs vs hl hv =>
          split at hq
          · have := checkFields (agg_vrs hl hv) empty n w hq
            unfold Instr.checkKey
            simp only [Sem.run_bind, run_underlying hd, Result.andThen_ok]
            rw [← Array.forIn_toList, this]
            rfl
          · simp at hq
        all_goals (unfold eqPart at hq; simp at hq)
      · simp at hq
  · simp at h

/-- the entries of a map -/
def EntR (ρ : Place) (es : List (AV × AV)) (l : List MapEntry) : Prop := l.length = es.length ∧ ∀ i (h : i < es.length) (h' : i < l.length), VR ρ es[i].1 l[i].key ∧ VR ρ es[i].2 l[i].val
theorem EntR.tail {e : AV × AV} {es : List (AV × AV)} {x : MapEntry} {l : List MapEntry} (h : EntR ρ (e :: es) (x :: l)) : EntR ρ es l :=
  ⟨by simpa using h.1, fun i h1 h2 => h.2 (i + 1) (by simpa using h1) (by simpa using h2)⟩
theorem pos_run {t : TypeId} {d : TypeDesc} {k : AV} {k' : Value} (hd : P.underlying t = some d) (hk : VR ρ k k') (w : World) :
    ∀ {es : List (AV × AV)} {l : List MapEntry} {i : Nat} {r : Option Nat}, posA P t d k i es = some r → EntR ρ es l →
      (plainT d = true → Instr.findNow d k' l i = some (r.bind fun j => (l[j - i]?).map fun e => (j, e.val))) ∧
      (Instr.findAsking t k' l i).run P w = .ok (r.bind fun j => (l[j - i]?).map fun e => (j, e.val)) w ∧ ∀ j, r = some j → i ≤ j ∧ j - i < l.length
  | [], l, i, r, h, he => by
    simp only [posA, Option.some.injEq] at h
    subst h
    cases l with
    | nil => exact ⟨fun _ => rfl, rfl, fun j e => by cases e⟩
    | cons _ _ => have := he.1; simp at this
  | e :: es, l, i, r, h, he => by
    cases l with
    | nil => have := he.1; simp at this
    | cons x l =>
      replace h := Option.bind_eq_some_iff.1 h; obtain ⟨q, hq, h⟩ := h
      obtain ⟨h1, h2, _⟩ := keyEq_run hq hd hk (he.2 0 (by simp) (by simp)).1
      simp only [List.getElem_cons_zero] at h1 h2
      cases q with
      | true =>
        simp only [Option.some.injEq] at h
        subst h
        refine ⟨fun hp => ?_, ?_, fun j e => by cases e; simp⟩
        · simp [Instr.findNow, h2 hp]
        · simp [Instr.findAsking, h1]
      | false =>
        simp only at h
        obtain ⟨g1, g2, g3⟩ := pos_run hd hk w h he.tail
        have hsh : (r.bind fun j => (l[j - (i + 1)]?).map fun e => (j, e.val)) = (r.bind fun j => ((x :: l)[j - i]?).map fun e => (j, e.val)) := by
          cases r with
          | none => rfl
          | some j =>
            have := (g3 j rfl).1
            simp only [Option.bind_some]
            rw [show j - i = (j - (i + 1)) + 1 by omega]
            simp
        refine ⟨fun hp => ?_, ?_, fun j e => ?_⟩
        · rw [← hsh]; simp only [Instr.findNow, h2 hp]; exact g1 hp
        · rw [← hsh]
          simp only [Instr.findAsking, Sem.run_bind, h1, Result.andThen_ok]
          exact g2
        · obtain ⟨a, b⟩ := g3 j e
          simp only [List.length_cons]
          omega
theorem find_run {t : TypeId} {d : TypeDesc} {k : AV} {k' : Value} (hd : P.underlying t = some d) (hk : VR ρ k k') (hok : keyOK P t d k = some ()) (w : World) {es : List (AV × AV)} {l : List MapEntry} {r : Option Nat}
    (h : posA P t d k 0 es = some r) (he : EntR ρ es l) : (Instr.findKey t k' l).run P w = .ok (r.bind fun j => (l[j]?).map fun e => (j, e.val)) w ∧ ∀ j, r = some j → j < l.length := by
  obtain ⟨h1, h2, h3⟩ := pos_run hd hk w h he
  simp only [Nat.sub_zero] at h1 h2 h3
  refine ⟨?_, fun j e => (h3 j e).2⟩
  cases hp : plainT d with
  | true => exact MapKept.run_findKey hd (h1 hp)
  | false =>
    have : ∃ fs, d = .struct fs := by
      unfold keyOK keyEq at hok
      rw [hp] at hok
      cases d <;> simp at hok
      exact ⟨_, rfl⟩
    obtain ⟨fs, rfl⟩ := this
    cases l with
    | nil =>
      cases es with
      | nil =>
        simp only [posA, Option.some.injEq] at h
        subst h
        simp [Instr.findKey, run_underlying hd, Instr.findNow]
      | cons _ _ => have := he.1; simp at this
    | cons x l =>
      have hn : Instr.findNow (.struct fs) k' (x :: l) 0 = none := by simp [Instr.findNow, Instr.sameNow]
      simp only [Instr.findKey, Sem.run_bind, run_underlying hd, Result.andThen_ok, hn]
      exact h2

theorem Sim.mapAt (s : Sim ρ H w) {b : Nat} {es : List (AV × AV)} {l : Loc} (h : H.get b = some (.map es)) (hl : ρ b = some l) :
    ∃ (ents : Array MapEntry) (clock : Nat), w.heap[l.cb]? = some (.map ents clock) ∧ EntR ρ es ents.toList := by
  obtain ⟨l', hl', _, _, ents, clock, h1, h2, h3⟩ := s.block h
  rw [hl] at hl'; cases hl'
  exact ⟨ents, clock, h1, by simpa using h2, fun i a b => h3 i a (by simpa using b)⟩

def two (ok : Bool) (x : AV) (b : Bool) : AV := match ok with
  | true => .tup [x, .bool b]
  | false => x
theorem lookup_run (s : Sim ρ H w) {t : TypeId} {m k v : AV} {ok : Bool} {m' k' : Value} (h : lookupA P H t m k ok = some v) (hm : VR ρ m m') (hk : VR ρ k k') :
    ∃ y, (Instr.lookup t m' k' ok).run P w = .ok y w ∧ VR ρ v y := by
  replace h := Option.bind_eq_some_iff.1 h; obtain ⟨d, hd, h⟩ := h
  cases d with
  | map key elem =>
    replace h := Option.bind_eq_some_iff.1 h; obtain ⟨kd, hkd, h⟩ := h
    replace h := Option.bind_eq_some_iff.1 h; obtain ⟨⟨⟩, hok, h⟩ := h
    replace h := Option.bind_eq_some_iff.1 h; obtain ⟨es, hes, h⟩ := h
    replace h := Option.bind_eq_some_iff.1 h; obtain ⟨r, hr, h⟩ := h
    have pair : ∀ {x : AV} {x' : Value} (b : Bool), VR ρ x x' → VR ρ (two ok x b) (if ok = true then .tuple #[x', .bool b] else x') := fun {x x'} b hx => by
      cases ok with
      | false => exact hx
      | true =>
        refine .tup _ _ rfl fun i h1 h2 => ?_
        match i, h1 with
        | 0, _ => exact hx
        | 1, _ => exact .bool b
    have main : ∀ (ents : Array MapEntry), EntR ρ es ents.toList → (m' = .map none ∧ ents = #[] ∨ ∃ l clock, m' = .map (some l) ∧ w.heap[l]? = some (.map ents clock)) →
        ∃ y, (Instr.lookup t m' k' ok).run P w = .ok y w ∧ VR ρ v y := fun ents he hor => by
      obtain ⟨p, hp, hr⟩ := Option.bind_eq_some_iff.1 hr
      obtain ⟨hfind, hlt⟩ := find_run (P := P) hkd hk hok w hp he
      have hck := fun e => checkKey_run (P := P) hok hkd hk e 9998 w
      cases p with
      | none =>
        simp only [Option.some.injEq] at hr
        subst hr
        obtain ⟨z, hz, h⟩ := Option.bind_eq_some_iff.1 h
        simp only [Option.some.injEq] at h
        subst h
        obtain ⟨zv, rfl, hzr, _⟩ := zeroOf_run hz
        simp only [Option.bind_none] at hfind
        refine ⟨_, ?_, pair false (VR.const zv)⟩
        rcases hor with ⟨rfl, rfl⟩ | ⟨l, clock, rfl, hw⟩
        · have hf2 : (Instr.findKey key k' []).run P w = .ok none w := by simpa using hfind
          simp [Instr.lookup, run_underlying hd, hck, hf2, hzr]
        · simp [Instr.lookup, run_underlying hd, MapKept.run_getObj_map hw, hck, hfind, hzr]
      | some i =>
        obtain ⟨e, hge, hr⟩ := Option.bind_eq_some_iff.1 hr
        simp only [Option.some.injEq] at hr
        subst hr
        simp only [Option.some.injEq] at h
        subst h
        obtain ⟨hi, rfl⟩ := getL_spec hge
        have hi' : i < ents.toList.length := by rw [he.1]; exact hi
        have hg : ents.toList[i]? = some ents.toList[i] := List.getElem?_eq_getElem hi'
        simp only [Option.bind_some, hg, Option.map_some] at hfind
        refine ⟨_, ?_, pair true (he.2 i hi hi').2⟩
        rcases hor with ⟨rfl, rfl⟩ | ⟨l, clock, rfl, hw⟩
        · simp at hi'
        · simp [Instr.lookup, run_underlying hd, MapKept.run_getObj_map hw, hck, hfind]
    cases hm with
    | nilM =>
      simp only [Option.some.injEq] at hes
      subst hes
      exact main #[] ⟨rfl, fun i h => absurd h (Nat.not_lt_zero i)⟩ (.inl ⟨rfl, rfl⟩)
    | map b l hl =>
      obtain ⟨x, hx, hes⟩ := Option.bind_eq_some_iff.1 hes
      cases x with
      | map es' =>
        simp only [Option.some.injEq] at hes
        subst hes
        obtain ⟨ents, clock, hw, he⟩ := s.mapAt hx hl
        exact main ents he (.inr ⟨_, _, rfl, hw⟩)
      | _ => simp at hes
    | _ => simp at hes
  | _ => simp at h

theorem setL_spec {α : Type} {v : α} : ∀ {l l' : List α} {i : Nat}, setL v l i = some l' → i < l.length ∧ l' = l.set i v
  | [], _, _, h => by simp [setL] at h
  | x :: r, l', 0, h => by simp only [setL, Option.some.injEq] at h; subst h; simp
  | x :: r, l', i + 1, h => by
    obtain ⟨r', hr, h⟩ := Option.bind_eq_some_iff.1 (show (setL v r i).bind (fun r' => some (x :: r')) = some l' from h)
    simp only [Option.some.injEq] at h
    subst h
    obtain ⟨h1, h2⟩ := setL_spec hr
    subst h2
    simp [h1]
theorem mapUpd_run (s : Sim ρ H w) {t : TypeId} {m k v : AV} {m' k' v' : Value} (h : mapUpdA P H t m k v = some H') (hm : VR ρ m m') (hk : VR ρ k k') (hv : VR ρ v v') :
    ∃ w', (Instr.mapUpdate t m' k' v').run P w = .ok () w' ∧ Sim ρ H' w' ∧ Step ρ H w ρ H' w' := by
  replace h := Option.bind_eq_some_iff.1 h; obtain ⟨d, hd, h⟩ := h
  cases d with
  | map key elem =>
    replace h := Option.bind_eq_some_iff.1 h; obtain ⟨kd, hkd, h⟩ := h
    replace h := Option.bind_eq_some_iff.1 h; obtain ⟨⟨⟩, hok, h⟩ := h
    cases hm with
    | map b l hl =>
      replace h := Option.bind_eq_some_iff.1 h; obtain ⟨x, hx, h⟩ := h
      cases x with
      | map es =>
        replace h := Option.bind_eq_some_iff.1 h; obtain ⟨es', hes', h⟩ := h
        obtain ⟨ents, clock, hw, he⟩ := s.mapAt hx hl
        obtain ⟨p, hp, hes'⟩ := Option.bind_eq_some_iff.1 hes'
        obtain ⟨hfind, hlt⟩ := find_run (P := P) hkd hk hok w hp he
        have hck := fun e => checkKey_run (P := P) hok hkd hk e 9998 w
        have hsz : ents.size = es.length := by simpa using he.1
        cases p with
        | none =>
          simp only [Option.some.injEq] at hes'
          subst hes'
          simp only [Option.bind_none] at hfind
          obtain ⟨h1, h2, h3⟩ := set_map_run (P := P) (ents' := ents.push { key := k', val := v', born := clock }) (clock' := clock + 1) s hx hl hw h (by simp [hsz]) (fun i g1 g2 => by
            by_cases hi : i < es.length
            · have := he.2 i hi (by simpa [hsz] using hi)
              rw [List.getElem_append_left hi, Array.getElem_push_lt (by omega)]
              exact this
            · have : i = es.length := by simp at g1; omega
              subst this
              rw [List.getElem_append_right (Nat.le_refl _)]
              simp only [Nat.sub_self, List.getElem_cons_zero]
              have : (ents.push { key := k', val := v', born := clock })[es.length]'g2 = { key := k', val := v', born := clock } := by simp [← hsz]
              rw [this]
              exact ⟨hk, hv⟩)
          exact ⟨_, by simp [Instr.mapUpdate, run_underlying hd, MapKept.run_getObj_map hw, hck, hfind, h1], h2, h3⟩
        | some i =>
          obtain ⟨e, hge, hes'⟩ := Option.bind_eq_some_iff.1 hes'
          split at hes'
          · rename_i hek
            have hek := of_decide_eq_true hek
            obtain ⟨hi, rfl⟩ := getL_spec hge
            obtain ⟨_, rfl⟩ := setL_spec hes'
            have hi' : i < ents.toList.length := hlt i rfl
            have hia : i < ents.size := by simpa using hi'
            have hg : ents.toList[i]? = some ents.toList[i] := List.getElem?_eq_getElem hi'
            simp only [Option.bind_some, hg, Option.map_some] at hfind
            have hold : VR ρ k ents[i].key := by have := (he.2 i hi hi').1; rw [hek] at this; exact this
            -- whichever key stays, it reads as k
            have fin : ∀ (key' : Value) (w0 : World), VR ρ k key' → Sim ρ H w0 → w0.heap[l.cb]? = some (.map ents clock) → Step ρ H w ρ H w0 →
                (Instr.keyThatStays ents[i].key k').run P w = .ok key' w0 → ∃ w', (Instr.mapUpdate t (.map (some l.cb)) k' v').run P w = .ok () w' ∧ Sim ρ H' w' ∧ Step ρ H w ρ H' w' := fun key' w0 hkey s0 hw0 st0 hrun => by
              obtain ⟨h1, h2, h3⟩ := set_map_run (P := P) (ents' := ents.modify i fun e => { e with key := key', val := v' }) (clock' := clock) s0 hx hl hw0 h (by simp [hsz]) (fun j g1 g2 => by
                simp only [List.length_set] at g1
                by_cases hj : j = i
                · subst hj
                  simp only [List.getElem_set_self, Array.getElem_modify_self]
                  exact ⟨hkey, hv⟩
                · rw [List.getElem_set_ne (fun e => hj e.symm), Array.getElem_modify_of_ne (fun e => hj e.symm)]
                  exact he.2 j g1 (by simpa [hsz] using g1))
              refine ⟨_, ?_, h2, st0.trans h3⟩
              have hgi : ents[i]? = some ents[i] := Array.getElem?_eq_getElem hia
              simp [Instr.mapUpdate, run_underlying hd, MapKept.run_getObj_map hw, hck, hfind, hgi, hrun, h1]
            have tri : (Instr.keyThatStays ents[i].key k').run P w = .ok k' w ∨ (Instr.keyThatStays ents[i].key k').run P w = .ok k' w.drew ∨ (Instr.keyThatStays ents[i].key k').run P w = .ok ents[i].key w.drew := by
              unfold Instr.keyThatStays
              by_cases hb : Instr.sameBits 10000 ents[i].key k' = true
              · exact .inl (by simp [hb])
              · right
                simp only [hb, Bool.false_eq_true, if_false, Sem.run_bind]
                simp [Question.forced]
                exact (Classical.em _).elim (fun h => Or.inl fun hn => absurd h hn) (fun h => Or.inr fun hp => absurd hp h)
            rcases tri with tri | tri | tri
            · exact fin k' w hk s hw (.refl _ _ _) tri
            · exact fin k' w.drew hk s.drew hw (.drew _ _ _) tri
            · exact fin ents[i].key w.drew hold s.drew hw (.drew _ _ _) tri
          · simp at hes'
      | _ => simp at h
    | _ => simp at h
  | _ => simp at h
theorem delete_run (s : Sim ρ H w) {ts : Array TypeId} {t ty : TypeId} (ht : ts[0]? = some t) {m k : AV} {m' k' : Value} (h : deleteA P H t m k = some H') (hm : VR ρ m m') (hk : VR ρ k k') :
    Good ρ H w ((Builtin.delete_ ts ty #[m', k']).run P w) (.tup []) H' := by
  have unit : VR ρ (.tup []) (.tuple #[]) := .tup [] #[] rfl (fun i h => absurd h (Nat.not_lt_zero i))
  replace h := Option.bind_eq_some_iff.1 h; obtain ⟨d, hd, h⟩ := h
  cases d with
  | map key elem =>
    replace h := Option.bind_eq_some_iff.1 h; obtain ⟨kd, hkd, h⟩ := h
    replace h := Option.bind_eq_some_iff.1 h; obtain ⟨⟨⟩, hok, h⟩ := h
    have hck := fun e => checkKey_run (P := P) hok hkd hk e 9998 w
    cases hm with
    | nilM =>
      simp only [Option.some.injEq] at h
      subst h
      exact Good.pure s unit (by simp [Builtin.delete_, ht, run_underlying hd, hck])
    | map b l hl =>
      replace h := Option.bind_eq_some_iff.1 h; obtain ⟨x, hx, h⟩ := h
      cases x with
      | map es =>
        replace h := Option.bind_eq_some_iff.1 h; obtain ⟨es', hes', h⟩ := h
        obtain ⟨ents, clock, hw, he⟩ := s.mapAt hx hl
        obtain ⟨p, hp, hes'⟩ := Option.bind_eq_some_iff.1 hes'
        obtain ⟨hfind, hlt⟩ := find_run (P := P) hkd hk hok w hp he
        have hsz : ents.size = es.length := by simpa using he.1
        cases p with
        | none =>
          simp only [Option.some.injEq] at hes'
          subst hes'
          simp only [Option.bind_none] at hfind
          obtain ⟨h1, h2, h3⟩ := set_map_run (P := P) (vs := []) (ents' := ents) (clock' := clock) s hx hl hw h hsz (fun i g1 g2 => he.2 i g1 (by simpa using g2))
          exact ⟨_, ρ, _, by simp [Builtin.delete_, ht, run_underlying hd, MapKept.run_getObj_map hw, hck, hfind, h1], unit, h2, h3⟩
        | some i =>
          simp only [Option.some.injEq] at hes'
          subst hes'
          have hi' : i < ents.toList.length := hlt i rfl
          have hia : i < ents.size := by simpa using hi'
          have hg : ents.toList[i]? = some ents.toList[i] := List.getElem?_eq_getElem hi'
          simp only [Option.bind_some, hg, Option.map_some] at hfind
          have hel : (ents.eraseIdxIfInBounds i).toList = ents.toList.eraseIdx i := by simp [Array.eraseIdxIfInBounds, hia]
          obtain ⟨h1, h2, h3⟩ := set_map_run (P := P) (vs := []) (ents' := ents.eraseIdxIfInBounds i) (clock' := clock) s hx hl hw h
            (by have := congrArg List.length hel; simp only [Array.length_toList] at this; rw [this, List.length_eraseIdx, List.length_eraseIdx]; simp [hsz])
            (fun j g1 g2 => by
              have e : (ents.eraseIdxIfInBounds i)[j] = (ents.toList.eraseIdx i)[j]'(by rw [← hel, Array.length_toList]; exact g2) := by simp only [← hel]; rfl
              rw [e]
              simp only [List.getElem_eraseIdx]
              split
              · exact he.2 j _ _
              · exact he.2 (j + 1) _ _)
          exact ⟨_, ρ, _, by simp [Builtin.delete_, ht, run_underlying hd, MapKept.run_getObj_map hw, hck, hfind, h1], unit, h2, h3⟩
      | _ => simp at h
    | _ => simp at h
  | _ => simp at h

theorem len_run (s : Sim ρ H w) {ts : Array TypeId} {t ty : TypeId} (ht : ts[0]? = some t) {x : AV} {n : Nat} {x' : Value} (h : lenA P H t x = some n) (hx : VR ρ x x') :
    (Builtin.len_ ts ty #[x']).run P w = .ok (.int .i64 n) w := by
  replace h := Option.bind_eq_some_iff.1 h; obtain ⟨d, hd, h⟩ := h
  split at h
  · cases hx; simp only [Option.some.injEq] at h; subst h; simp [Builtin.len_, ht, run_underlying hd, goInt, bytes_size]
  · simp only [Option.some.injEq] at h; subst h; simp [Builtin.len_, ht, run_underlying hd, goInt]
  · cases hx; simp only [Option.some.injEq] at h; subst h; simp [Builtin.len_, ht, run_underlying hd, goInt]
  · cases hx; simp only [Option.some.injEq] at h; subst h; simp [Builtin.len_, ht, run_underlying hd, goInt]
  · cases hx <;> simp only [Option.some.injEq] at h <;> subst h <;> simp [Builtin.len_, ht, run_underlying hd, goInt]
  · cases hx <;> simp only [Option.some.injEq] at h <;> subst h <;> simp [Builtin.len_, ht, run_underlying hd, goInt]
  · cases hx <;> simp only [Option.some.injEq] at h <;> subst h <;> simp [Builtin.len_, ht, run_underlying hd, goInt]
  · cases hx; simp only [Option.some.injEq] at h; subst h; simp [Builtin.len_, ht, run_underlying hd, goInt]
  · cases hx
    rename_i l hl
    obtain ⟨k, hk, h⟩ := Option.bind_eq_some_iff.1 h
    cases k with
    | map es =>
      simp only [Option.some.injEq] at h
      subst h
      obtain ⟨ents, clock, hw, he⟩ := s.mapAt hk hl
      have : ents.size = es.length := by simpa using he.1
      simp [Builtin.len_, ht, run_underlying hd, MapKept.run_getObj_map hw, goInt, this]
    | _ => simp at h
  · simp at h
theorem most_run {least : Bool} : ∀ {r : List AV} {x v : AV} {x' : Value} {r' : List Value}, maxA least x r = some v → VR ρ x x' → VRs ρ r r' → ∀ w : World,
    ∃ y, (r'.foldlM (if least = true then Builtin.min2 else Builtin.max2) x' : Sem Value).run P w = .ok y w ∧ VR ρ v y
  | [], x, v, x', r', h, hx, hr, w => by
    simp only [maxA, Option.some.injEq] at h
    subst h
    cases r' with
    | nil => exact ⟨x', rfl, hx⟩
    | cons _ _ => have := hr.1; simp at this
  | y :: r, x, v, x', r', h, hx, hr, w => by
    cases r' with
    | nil => have := hr.1; simp at this
    | cons y' r' =>
      have hy := hr.head
      unfold maxA at h
      split at h
      · cases hx
        cases hy
        rename_i k a k' b
        split at h
        · rename_i hk
          subst hk
          cases least with
          | true =>
            obtain ⟨z, h1, h2⟩ := most_run h (.int k (min a b)) hr.tail w
            refine ⟨z, ?_, h2⟩
            have e : (if b < a then b else a) = min a b := by omega
            simp only [if_true] at h1 ⊢
            simp only [List.foldlM_cons, Sem.run_bind, Builtin.min2, Sem.run_pure, Result.andThen_ok, e, h1]
          | false =>
            obtain ⟨z, h1, h2⟩ := most_run h (.int k (max a b)) hr.tail w
            refine ⟨z, ?_, h2⟩
            have e : (if b > a then b else a) = max a b := by omega
            simp only [Bool.false_eq_true, if_false] at h1 ⊢
            simp only [List.foldlM_cons, Sem.run_bind, Builtin.max2, Sem.run_pure, Result.andThen_ok, e, h1]
        · simp at h
      · simp at h
end
end Go.Proofs.Ytpkplilgjdbhhaa
