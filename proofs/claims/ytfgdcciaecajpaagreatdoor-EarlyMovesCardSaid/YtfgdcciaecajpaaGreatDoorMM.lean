/- Headings, markers, void elements, in both codes. No condition. -/
import Derived.Test.YtfgdcciaecajpaaGreatDoorMF
import Derived.Test.YtfgdcciaecajpaaGreatDoorML
import Derived.Test.YtfgdcciaecajpaaGreatDoorMK
import Derived.Test.YtfgdcciaecajpaaGreatDoorMJ
namespace Go.Proofs.YtfgdcciaecajpaaGreatDoor
noncomputable section
set_option linter.unusedSimpArgs false
set_option linter.unusedVariables false
open Go Go.RowKit
def Place.wat (ρ : Place) (a : Nat → Option Loc) : Place := { ρ with at_ := a }
theorem CallAt.lendF {C : Ctx} {f : FuncId} {args args' : List AV} {len : Nat} {cap : Cap} {cs : List AV} {v : AV} (h : CallAt C f args' ⟨0, []⟩ (.slc 0 0 len cap) ⟨1, [[(0, .cells cs)]]⟩) (hs : scalarL cs = true) (hp : pureL cs = true)
  (hv : fitV [] [(0, cs)] (.slc 0 0 len cap) v) {H : Heap} {Φ : List (Nat × List AV)} (hH : (H.ents.map (·.1)).Nodup → FitH 0 [] Φ H ⟨0, []⟩) (hf : fitL [] Φ args args') : CallAt C f args H v H := by
 intro ρ w xs sm hx
 have fh := hH sm.nodup
 have hx' : VRs (newPlace 0 [] Φ ρ w sm.below) args' xs := by
  obtain ⟨k1, k2⟩ := fitL_spec hf
  refine ⟨by rw [hx.1, k1], fun i h1 h2 => ?_⟩
  exact Fits.run (fh.fits sm) sm _ (Nat.le_refl _) (hx.2 i (by omega) h2) (k2 i (by omega) h1)
 have up : ∀ {x : Value} {ρ' : Place} {w' : World}, VR ρ' (.slc 0 0 len cap) x → Sim ρ' ⟨1, [[(0, .cells cs)]]⟩ w' → Step (newPlace 0 [] Φ ρ w sm.below) ⟨0, []⟩ w ρ' ⟨1, [[(0, .cells cs)]]⟩ w' →
   ∃ ρ2, VR ρ2 v x ∧ Sim ρ2 H w' ∧ Step ρ H w ρ2 H w' := by
  intro x ρ' w' h1 h2 h3
  obtain ⟨l, l1, l2, l3, l4⟩ := h2.live (0, .cells cs) (by simp [Heap.ents])
  simp only at l1
  have hrow : w.heap.size ≤ l.cb := by
   rcases h3.rows (0, .cells cs) (by simp [Heap.ents]) l l1 with ⟨e, he, _⟩ | h
   ·cases he
   ·exact h
  have hkeep : ∀ k, k < w.heap.size → w'.heap[k]? = w.heap[k]? := fun k hk => h3.keeps k hk fun e he => by cases he
  have hw : ∀ k, ρ.B k → w'.heap[k]? = ρ.W.heap[k]? := fun k hk => (hkeep k (sm.base k hk)).trans (sm.below k hk)
  have hB : ∀ k, (newPlace 0 [] [] ρ w' hw).B k → ρ.B k := fun k hk => by
   rcases hk with hk | ⟨b, c, l, hm, _⟩
   ·exact hk
   ·cases hm
  have hat : ((newPlace 0 [] [] ρ w' hw).upd 0 l) 0 = some l := Place.upd_same
  have sme : Sim ((newPlace 0 [] [] ρ w' hw).upd 0 l) ⟨1, [[(0, .cells cs)]]⟩ w' := by
   refine ⟨fun k hk => Nat.lt_of_lt_of_le (sm.base k (hB k hk)) h3.size, fun k hk => rfl, rfl, rfl, rfl, fun b hb => ?_, by simp [Heap.ents], fun e he => ?_, fun e e' he he' m m' _ _ _ => ?_⟩
   ·have hb : 1 ≤ b := hb
    rw [Place.upd_other (by omega)]
    rfl
   ·simp [Heap.ents] at he
    subst he
    refine ⟨l, hat, fun hk => ?_, l3, l4.1, l4.2.1, fun i hi => ?_⟩
    ·have := sm.base _ (hB _ hk); omega
    ·obtain ⟨y, hy, hv⟩ := l4.2.2 i hi
     exact ⟨y, hy, hv.scalar (scalarL_get hs i hi)⟩
   ·simp [Heap.ents] at he he'
    rw [he, he']
  have vre : VR ((newPlace 0 [] [] ρ w' hw).upd 0 l) (.slc 0 0 len cap) x := by
   cases h1 with
   | slcE b o len' c l' hl' hcap => rw [l1] at hl'; cases hl'; exact .slcE _ _ _ c l hat hcap
   | slcR b o len' sz c l' hl' hcap hfin => rw [l1] at hl'; cases hl'; exact .slcR _ _ _ _ c l hat hcap hfin
  have fe : FitH 0 [] [(0, cs)] ⟨1, [[(0, .cells cs)]]⟩ ⟨0, []⟩ := {
   nd1 := by simp
   nd2 := List.nodup_nil
   nd3 := List.nodup_nil
   lt := fun x h => by cases h
   idn := fun x h => by cases h
   num := Nat.le_refl _
   src := fun e he => by simp [Heap.ents] at he
   frz := fun x hx => by
    simp at hx; subst hx
    exact ⟨cs, by simp [Heap.get, getFs, getF], fitL_pure hp, hp⟩ }
  have vr2 := Fits.run (fe.fits sme) sme _ (Nat.le_refl _) vre hv
  have hB2 : ∀ k, (newPlace 0 [] [(0, cs)] ((newPlace 0 [] [] ρ w' hw).upd 0 l) w' sme.below).B k → ρ.B k ∨ k = l.cb := fun k hk => by
   rcases hk with hk | ⟨b, c, m, hm, hl, rfl⟩
   ·exact .inl (hB k hk)
   ·simp at hm
    obtain ⟨rfl, _⟩ := hm
    rw [hat] at hl; cases hl
    exact .inr rfl
  have hle : ρ.le ((newPlace 0 [] [(0, cs)] ((newPlace 0 [] [] ρ w' hw).upd 0 l) w' sme.below).wat ρ.at_) :=
   ⟨fun _ _ h => h, fun k hk => ⟨.inl (.inl hk), hw k hk⟩, (h2.os.trans h3.le.os).trans sm.os, (h2.tape.trans h3.le.tape).trans sm.tape, (h2.output.trans h3.le.output).trans sm.output⟩
  have vr3 : VR ((newPlace 0 [] [(0, cs)] ((newPlace 0 [] [] ρ w' hw).upd 0 l) w' sme.below).wat ρ.at_) v x := by
   have hl2 : (newPlace 0 [] [(0, cs)] ((newPlace 0 [] [] ρ w' hw).upd 0 l) w' sme.below).le ((newPlace 0 [] [(0, cs)] ((newPlace 0 [] [] ρ w' hw).upd 0 l) w' sme.below).wat ρ.at_) := ⟨fun b m hb => by simp [newPlace, lookR] at hb, fun _ hk => ⟨hk, rfl⟩, rfl, rfl, rfl⟩
   exact vr2.mono hl2
  refine ⟨((newPlace 0 [] [(0, cs)] ((newPlace 0 [] [] ρ w' hw).upd 0 l) w' sme.below).wat ρ.at_), vr3, ⟨fun k hk => ?_, fun k hk => rfl, rfl, rfl, rfl, sm.dom, sm.nodup, fun e he => ?_, sm.inj⟩, ⟨hle, h3.size, fun k hk _ => hkeep k hk, fun e he l hl => .inl ⟨e, he, l, hl, rfl⟩, Nat.le_refl _, fun _ _ => rfl, fun k hk => ?_⟩⟩
  ·rcases hB2 k hk with hk | rfl
   ·exact Nat.lt_of_lt_of_le (sm.base k hk) h3.size
   ·exact l3
  ·obtain ⟨m, g1, g2, g3, g4⟩ := sm.live e he
   refine ⟨m, g1, fun hk => ?_, Nat.lt_of_lt_of_le g3 h3.size, (g4.same (hkeep _ g3)).mono hle⟩
   rcases hB2 _ hk with hk | hk
   ·exact g2 hk
   ·omega
  ·rcases hB2 k hk with hk | rfl
   ·exact .inl hk
   ·exact .inr (.inr hrow)
 rcases h _ w xs (fh.sim sm (Nat.zero_le _)) hx' with ⟨x, ρ', w', h0, h1, h2, h3⟩ | ⟨g, ys, h0, h1⟩
 ·obtain ⟨ρ2, k1, k2, k3⟩ := up h1 h2 h3
  exact .inl ⟨x, ρ2, w', h0, k1, k2, k3⟩
 ·refine .inr ⟨g, ys, h0, h1.mono ?_⟩
  rintro e w' ⟨x, ρ', rfl, m1, m2, m3⟩
  obtain ⟨ρ2, k1, k2, k3⟩ := up m1 m2 m3
  exact ⟨x, ρ2, rfl, k1, k2, k3⟩
end
end Go.Proofs.YtfgdcciaecajpaaGreatDoor
namespace Go.Proofs.YtfgdcciaecajpaaGreatDoor
set_option linter.unusedSimpArgs false
set_option linter.unusedVariables false
open Go Go.RowKit
set_option maxRecDepth 100000
theorem scI : ∀ L : List Int, scalarL (L.map aInt) = true
 | [] => rfl
 | x :: r => by simp only [List.map_cons, scalarL, scI r, aInt, scalarV, Bool.and_self]
theorem own_I {k : Nat} {L : List Int} (h : L ≠ []) : ownV k 1 (L.map aInt) = .slc k 0 L.length (.rest 1) ∧ ownF k (L.map aInt) = [(k, .cells (L.map aInt))] := by
 have h' : L.map aInt ≠ [] := by simpa using h
 rw [ownV_ne h', ownF_ne h', fl_ints]
 simp
theorem CallAt.lendI {C : Ctx} {f : FuncId} {args args' : List AV} {L : List Int} (h : CallAt C f args' ⟨0, []⟩ (ownV 0 1 (L.map aInt)) ⟨1, [ownF 0 (L.map aInt)]⟩) {H : Heap} {Φ : List (Nat × List AV)} (hH : (H.ents.map (·.1)).Nodup → FitH 0 [] Φ H ⟨0, []⟩) (hf : fitL [] Φ args args') : CallAt C f args H (aInts L) H := by
 cases L with
 | nil =>
  have h' : CallAt C f args' ⟨0, []⟩ (aInts []) ⟨0, []⟩ := h.post (σ := []) (Φ := []) (by simp [ownV, fitV, aInts]) (.keep0 rfl)
  exact h'.borrow rfl hH hf
 | cons x r =>
  obtain ⟨e1, e2⟩ := own_I (k := 0) (L := x :: r) (by simp)
  rw [e1, e2] at h
  exact h.lendF (scI _) (pureI _) (fitV_ints (by simp [lookC])) hH hf
section
variable {α : Type} (f : FuncId) (ss : List (List Nat)) (enc : α → List AV) (pre : α → Prop) (L : α → List Int)
open Classical in
noncomputable def lenG (args : List AV) (H : Heap) : Option (AV × Heap) := if h : ∃ x, thawL H ss args = some (enc x) ∧ pre x then some (aInts (L h.choose), H) else none
noncomputable def mkL (h : ∀ x, pre x → CallAt ⟨Tryz.prog, fun _ => [], fun _ => none⟩ f (enc x) ⟨0, []⟩ (ownV 0 1 ((L x).map aInt)) ⟨1, [ownF 0 ((L x).map aInt)]⟩) : Entry Tryz.prog :=
 ⟨f, lenG ss enc pre L, fun args H v H' hv => by
  unfold lenG at hv
  split at hv
  ·rename_i hx
   simp only [Option.some.injEq, Prod.mk.injEq] at hv
   obtain ⟨rfl, rfl⟩ := hv
   intro ρ w xs sm hxs
   exact (h _ hx.choose_spec.2).lendI (fun hn => pure_fitH hn) (thawL_fit sm.nodup hx.choose_spec.1) ρ w xs sm hxs
  ·cases hv⟩
variable {f ss enc pre L}
theorem mkL_eq {h : ∀ x, pre x → CallAt ⟨Tryz.prog, fun _ => [], fun _ => none⟩ f (enc x) ⟨0, []⟩ (ownV 0 1 ((L x).map aInt)) ⟨1, [ownF 0 ((L x).map aInt)]⟩} {T : List (Entry Tryz.prog)} (hT : findE f T = some (mkL f ss enc pre L h).g) (inj : ∀ x y, enc x = enc y → x = y) (x : α) (hx : pre x) {args : List AV} {H : Heap} (ht : thawL H ss args = some (enc x)) :
  callL (ctx T) (.fn f) args H = some (aInts (L x), H) := by
 rw [callL_summ (C := ctx T) (g := (mkL f ss enc pre L h).g) hT]
 show lenG ss enc pre L _ _ = _
 unfold lenG
 have hex : ∃ y, thawL H ss args = some (enc y) ∧ pre y := ⟨x, ht, hx⟩
 rw [dif_pos hex, inj _ _ (Option.some.inj (hex.choose_spec.1.symm.trans ht))]
end
open Classical in
section
variable {C : Ctx} {call : CallE} {ops : Array Oper} {H0 : Heap} {s : St} {o : Oper} {l : List Oper} {P : St → Prop}
theorem gate_splitK {b : Bool} (h1 : b = true → ∃ s', thenK C call ops H0 (gateV C call s o (some true)) l = some s' ∧ P s') (h2 : b = false → ∃ s', thenK C call ops H0 (gateV C call s o (some false)) l = some s' ∧ P s') :
  ∃ s', thenK C call ops H0 (gateV C call s o (some b)) l = some s' ∧ P s' := by
 cases b with
 | true => exact h1 rfl
 | false => exact h2 rfl
theorem pick_splitK {H : Heap} {d : Option Tmp} {p q : Option AV} {b : Bool} (h1 : b = true → ∃ s', thenK C call ops H0 (putV s d (pickV H (some (.bool true)) p q)) l = some s' ∧ P s') (h2 : b = false → ∃ s', thenK C call ops H0 (putV s d (pickV H (some (.bool false)) p q)) l = some s' ∧ P s') :
  ∃ s', thenK C call ops H0 (putV s d (pickV H (some (.bool b)) p q)) l = some s' ∧ P s' := by
 cases b with
 | true => exact h1 rfl
 | false => exact h2 rfl
end
open Classical in
def rowsB (b : Nat) (R : List (Nat × Blk)) : Prop := (R.map (·.1)).Nodup ∧ ∀ e, e ∈ R → e.1 < b ∧ ∃ cs, e.2 = .cells cs ∧ pureL cs = true
structure RgK where
 ks : List Nat
 vs : List AV
 sz : Nat
 ps : List Nat
 as' : Code
 bd : Code
def RgK.blk (K : RgK) (st : LoopState) (pend : Option Code) (ts : List (Nat × AV)) : Blk := .loop st pend K.ks K.vs ts K.sz K.ps K.as' K.bd
def RgK.rows {ρ : Type} (K : RgK) (b : Nat) (R : Option ρ → List (Nat × Blk)) : Option ρ → List (Nat × Blk)
 | none => (b, K.blk .ready none []) :: R none
 | some r => (b, K.blk .done (some .ret) []) :: R (some r)
structure RgK.Ok {ρ : Type} (K : RgK) (b : Nat) (R : Option ρ → List (Nat × Blk)) : Prop where
 vs : ∀ σ, Idl b σ → fitL σ [] K.vs K.vs
 rows : ∀ c, rowsB b (R c)
section
variable {ρ : Type} {K : RgK} {b : Nat} {R : Option ρ → List (Nat × Blk)}
theorem RgK.Ok.self (h : K.Ok b R) (st : LoopState) (pend : Option Code) (ts : List (Nat × AV)) : ∀ σ, Idl (b + 1) σ → fitB σ [] (K.blk st pend ts) (K.blk st pend []) := fun σ hσ =>
 ⟨rfl, rfl, rfl, h.vs σ fun i hi => hσ i (by omega), rfl, rfl, rfl, rfl, rfl⟩
theorem RgK.Ok.fit (h : K.Ok b R) {N m : Nat} {st : LoopState} {pend : Option Code} {ts : List (Nat × AV)} {c : Option ρ} {H : Heap} (hN : N ≤ b + 1) (hm : b + 1 ≤ m) (hb : H.get b = some (K.blk st pend ts)) (hr : ∀ e, e ∈ R c → H.get e.1 = some e.2)
  {fs : List (List (Nat × Blk))} (hfs : fs.flatten = (b, K.blk st pend []) :: R c) : FitH N (idn (b + 1)) [] H ⟨m, fs⟩ where
 nd1 := by simpa using idn_nd (b + 1)
 nd2 := idn_nd2 (b + 1)
 nd3 := by
  simp only [Heap.ents, hfs, List.map_cons, List.nodup_cons]
  refine ⟨fun hx => ?_, (h.rows c).1⟩
  obtain ⟨e, he, hx⟩ := List.mem_map.1 hx
  have := ((h.rows c).2 e he).1
  omega
 lt := fun x hx => by
  obtain ⟨i, hi, rfl⟩ := List.mem_map.1 hx
  have : i < b + 1 := by simpa using hi
  show i < m; omega
 idn := fun x hx hlt => by
  obtain ⟨i, hi, rfl⟩ := List.mem_map.1 hx
  rfl
 num := by show N ≤ m; omega
 src := fun e he => by
  simp only [Heap.ents, hfs, List.mem_cons] at he
  rcases he with rfl | he
  ·exact ⟨b, _, idn_mem (Nat.lt_succ_self b), hb, h.self _ _ _ _ (idl_idn (b + 1))⟩
  ·obtain ⟨h1, cs, h2, h3⟩ := (h.rows c).2 e he
   refine ⟨e.1, e.2, idn_mem (by omega), hr e he, ?_⟩
   rw [h2]
   exact fitL_pure h3
 frz := fun x h => by cases h
end
section
variable {ρ : Type} {K : RgK} {b : Nat} {R : Option ρ → List (Nat × Blk)}
end
def lexedI (x : Str) : Int := if x = [116, 101, 120, 116, 97, 114, 101, 97] ∨ x = [116, 105, 116, 108, 101] then 1 else if x = [105, 102, 114, 97, 109, 101] ∨ x = [110, 111, 101, 109, 98, 101, 100] ∨ x = [110, 111, 102, 114, 97, 109, 101, 115] ∨ x = [115, 116, 121, 108, 101] ∨ x = [120, 109, 112] then 2 else if x = [115, 99, 114, 105, 112, 116] then 3 else if x = [112, 108, 97, 105, 110, 116, 101, 120, 116] then 4 else 0
theorem c11 {T : List (Entry Tryz.prog)} (x : Str) : CallAt (ctx T) 11 [.str x] ⟨0, []⟩ (.int .i64 (lexedI x)) ⟨0, []⟩ := by
 refine callAt_body (fn := Tryz.f11) (s0 := ⟨[0, 2, 3, 4, 7], [.str x, .undef, .undef, .undef, .undef], [], 17, ⟨0, [[]]⟩⟩) Tryz.func11 rfl rfl rfl ?_
 (repeat' (first
  | with_reducible refine wps_seq ?_
  | with_reducible refine wps_block ?_
  | (with_reducible refine wps_label ?_; simp only [thenQ, blockQ])
  | (with_reducible refine wps_region callOK ?_; apply runE; simp [zS, *]; exact rfl)
  | (refine wps_drawK mixed callOK (by decide +kernel) (by decide +kernel) ?_; apply runE; simp [zS, evalK_c, evalK_nil, thenK_some, *]; exact rfl)
  | (with_reducible refine run_end ?_; simp only [thenQ, blockQ])
  | (with_reducible refine gate_splitK (fun hc => ?_) (fun hc => ?_) <;> ((have hd := hc); (try simp at hd); (try subst hd); apply runE; simp [zS, evalK_c, evalK_nil, thenK_some, *]; exact rfl))
  | (with_reducible refine pick_splitK (fun hc => ?_) (fun hc => ?_) <;> ((have hd := hc); (try simp at hd); (try subst hd); apply runE; simp [zS, evalK_c, evalK_nil, thenK_some, *]; exact rfl))
  | (with_reducible refine gate_split (fun hc => ?_) (fun hc => ?_) <;> ((have hd := hc); (try simp at hd); (try subst hd); apply runE; simp [zS, *]; exact rfl))
  | (with_reducible refine pick_split (fun hc => ?_) (fun hc => ?_) <;> ((have hd := hc); (try simp at hd); (try subst hd); apply runE; simp [zS, *]; exact rfl))
  | (refine wps_ct rfl ?_)
  | (refine wps_cf rfl ?_)
  | (refine wps_cond rfl (fun hc => ?_) (fun hc => ?_) <;> ((have hd := hc); (try simp at hd); (try subst hd)))
  | (with_reducible refine wps_skip ?_; simp only [thenQ, blockQ])
  | (with_reducible refine wps_exit ?_; simp [thenQ, blockQ])
  | (with_reducible refine wps_ret ?_; simp [retVal, Tryz.f11, oneOr, thenQ, blockQ])))
 all_goals first | exact ends_pure rfl (by simp [lexedI, *]) | (exfalso; omega)
theorem inj_11 (x y : Str) (h : (fun z : Str => ([.str z] : List AV)) x = (fun z : Str => ([.str z] : List AV)) y) : x = y := by
 simp only [List.cons.injEq, and_true] at h
 exact AV.str.inj h
noncomputable def e11 : Entry Tryz.prog := mkE 11 [[]] (fun z : Str => [.str z]) (fun z => True) (fun z => .int .i64 (lexedI z)) fun z h => c11 (T := [])  z 
theorem k11 {T : List (Entry Tryz.prog)} (hT : findE 11 T = some e11.g) (x : Str) (H : Heap) : callL (ctx T) (.fn 11) [.str x] H = some (.int .i64 (lexedI x), H) :=
 mkE_scalar hT inj_11 (x) trivial rfl (by simp [thawA_ok])
end Go.Proofs.YtfgdcciaecajpaaGreatDoor