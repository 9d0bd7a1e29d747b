/- From E's answer to the statement's call: a law that answers true and leaves what it was handed. No condition. -/
import Derived.Test.YtpkplilgjdbhhaaE21
import Derived.WalkKit
import Derived.ProofKit
import Derived.OpenShut
import Derived.Carry
import Derived.ChangeSame
namespace Go.Proofs.Ytpkplilgjdbhhaa
set_option linter.unusedSimpArgs false
set_option linter.unusedVariables false
open Go Go.RowKit

/-- all that there is is frozen -/
abbrev GlobsIn (W : World) : Prop := ∀ g, g ∈ globs → ∃ m, W.cell? ⟨g, 0, none⟩ = some (.int .i64 m)
theorem GlobsIn.lt {W : World} (hg : GlobsIn W) {g : Nat} (h : g ∈ globs) : g < W.heap.size := by
  obtain ⟨m, hm⟩ := hg g h
  apply Decidable.byContradiction
  intro hn
  have : W.heap[g]? = none := Array.getElem?_eq_none (Nat.le_of_not_lt hn)
  simp [World.cell?, this] at hm
def start (W : World) (hg : GlobsIn W) : Place := ⟨fun _ => none, W, fun k => k < W.heap.size, fun g h => ⟨hg.lt h, hg g h⟩⟩
variable {W : World} {hg : GlobsIn W}
theorem sim_start (W : World) (hg : GlobsIn W) : Sim (start W hg) ⟨0, []⟩ W where
  base := fun _ h => h
  below := fun _ _ => rfl
  os := rfl
  tape := rfl
  output := rfl
  dom := fun _ _ => rfl
  nodup := List.nodup_nil
  live := fun e he => by cases he
  inj := fun e e' he => by cases he
theorem Step.grown {ρ : Place} {H : Heap} {w : World} (s : Sim ρ H w) (t : Step (start W hg) ⟨0, []⟩ W ρ H w) : Below W.heap.size W w :=
  ⟨s.os.trans t.le.os, s.tape.trans t.le.tape, s.output.trans t.le.output, t.size, fun k hk => t.keeps k hk fun e he => by cases he⟩

/-- the call of a function, from E's answer -/
theorem calls_of_E {C : Ctx} (hm : C.P.follows .mixedOrders = true) (hS : SummOK C) {f : FuncId} (hs : C.summ f = none) {args : List AV} {v : AV} {H' : Heap} {xs : List Value}
    (h : callL C f args ⟨0, []⟩ = some (v, H')) (hx : VRs (start W hg) args xs) :
    Calls C.P f xs.toArray W fun e w' => ∃ x ρ', e = .returned x ∧ VR ρ' v x ∧ Below W.heap.size W w' := by
  obtain ⟨n, hn⟩ := callL_fuel h
  have := (fn_calls (eval_ok hm hS n) hs hn (sim_start W hg) hx).2
  refine (this.calls fun k => room_wide k).mono ?_
  rintro e w' ⟨x, ρ', rfl, h1, h2, h3⟩
  exact ⟨x, ρ', rfl, h1, Step.grown h2 h3⟩

section
variable {H : Type} {enc : TypeId × Value → H} {P : Program}
theorem trodAll_stays {ts : List TypeId} (hl : laidOutB P = true) (hr : ∀ t, t ∈ ts → P.readableRec t = true ∧ t < P.types.size) {W W' : World} {sp : Nat → Bool} {vs : List Value} {ds : List (DataW H)} {ps : List MemPlace}
    (h : DataW.TrodAll enc P W 0 (fun _ => true) true ts vs ds ps) (hb : Below W.heap.size W W') (hlt : ∀ x, x ∈ ps → x.block < W.heap.size) (hsp : ∀ x, x ∈ ps → sp x.block = true) :
    DataW.TrodAll enc P W' 0 sp true ts vs ds ps := by
  induction ts generalizing vs ds ps with
  | nil =>
    cases vs <;> cases ds <;> first | exact h | exact h.elim
  | cons t ts ih =>
    cases vs with
    | nil => exact h.elim
    | cons v vs =>
      cases ds with
      | nil => exact h.elim
      | cons d ds =>
        obtain ⟨p, q, h1, h2, rfl⟩ := h
        refine ⟨p, q, WideElems.Trod_stays hl (hr t List.mem_cons_self).1 (hr t List.mem_cons_self).2 h1 (fun x hx => hb.same (hlt x (by simp [hx]))) (fun x hx => hsp x (by simp [hx])), ?_, rfl⟩
        exact ih (fun t ht => hr t (List.mem_cons_of_mem _ ht)) h2 (fun x hx => hlt x (by simp [hx])) (fun x hx => hsp x (by simp [hx]))
/-- a law's conclusion: it answered true, and below the heap's old size nothing has turned -/
theorem law_post {f : Func} {s : ChangeSpec} {apart fresh handsOn again : Bool} {W W' : World} {args : Array Value} {ds gs : List (DataW H)} {before : List MemPlace} {tb : TypeId}
    (hl : laidOutB P = true) (hr : ∀ t, t ∈ f.params.toList → P.readableRec t = true ∧ t < P.types.size) (hb : P.underlying tb = some .bool) (hres : f.resultTypes = #[tb]) (hvars : s.vars = [])
    (hfn : (s.fn H (ds ++ gs)).results = [.lit (.bool true)] ∧ (s.fn H (ds ++ gs)).args = ds ∧ (s.fn H (ds ++ gs)).vars = [])
    (hW : DataW.Whole enc P f.params.toList s.vars apart W args.toList ds gs before) (hg : Below W.heap.size W W') : s.post enc P f apart fresh handsOn again W args (.bool true) W' := by
  have hlt := hW.lt
  have hW' := hW
  obtain ⟨p, q, h1, h2, rfl, hz, hn⟩ := hW'
  rw [hvars] at h2
  have hq : q = [] := by
    cases gs with
    | nil => exact h2
    | cons g gs => exact h2.elim
  subst hq
  rw [List.append_nil] at hlt hz hn hW
  have hres1 : (Value.bool true).resultList f.resultTypes.size = [.bool true] := by rw [hres]; rfl
  have tr : ∀ (b : Nat) (sp : Nat → Bool) (hd : Bool), DataW.TrodAll enc P W' b sp hd f.resultTypes.toList ((Value.bool true).resultList f.resultTypes.size) (s.fn H (ds ++ gs)).results [] := fun b sp hd => by
    rw [hres1, hres, hfn.1]
    exact ⟨[], [], ⟨1, by simp [DataW.trod, Value.cells, hb]⟩, rfl, rfl⟩
  have ta : ∀ sp : Nat → Bool, (∀ x, x ∈ p → sp x.block = true) → DataW.TrodAll enc P W' 0 sp true f.params.toList args.toList (s.fn H (ds ++ gs)).args p := fun sp hsp => by
    rw [hfn.2.1]
    exact trodAll_stays hl hr h1 hg hlt hsp
  have tv : ∀ sp : Nat → Bool, DataW.TrodVars enc P W' sp s.vars (s.fn H (ds ++ gs)).vars [] := fun sp => by
    rw [hvars, hfn.2.2]; rfl
  refine ⟨ds, gs, p, [], p, [], hW, tr _ _ _, ta _ (fun x hx => by simpa using hlt x hx), tv _, World.keptBut_mono (fun x hx => hx.elim) (hg.frame fun _ => False), fun _ => ?_⟩
  refine ⟨?_, _, _, ([] ++ p) ++ [], ⟨[] ++ p, [], ChangeShapes.trodAll_append (ta _ fun _ _ => rfl) (tr _ _ _), tv _, rfl, ?_, ?_⟩, ?_⟩
  · rw [hres1]
    intro j t r hj hr'
    rw [hres] at hj
    cases j with
    | zero =>
      simp at hj hr'
      subst hj; subst hr'
      simp [Value.okWide, hb, Cell.okWide, Cell.ok]
    | succ j => simp at hj
  · intro b off hp
    have hp' : MemPlace.cell b off ∈ p := by simpa using hp
    have hlt' : b < W.heap.size := hlt _ hp'
    have := hz b off hp'
    simp only [World.frozen?] at this ⊢
    rw [hg.block b hlt']
    exact this
  · intro ha
    have := hn ha
    simpa using this
  · intro x hx _
    simpa using hx
end
end Go.Proofs.Ytpkplilgjdbhhaa
