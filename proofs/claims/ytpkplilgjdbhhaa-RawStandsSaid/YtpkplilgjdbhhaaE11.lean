/- How E's single operations meet the model's: copy, clear, make, conversions, least and most. No condition. -/
import Derived.Test.YtpkplilgjdbhhaaE10
import Derived.Laws.IdiomStrings
import Derived.MapKept
namespace Go.Proofs.Ytpkplilgjdbhhaa
set_option linter.unusedSimpArgs false
set_option linter.unusedVariables false
open Go Go.RowKit

theorem allSingle_replL {z : List AV} (h : allSingle z = true) : ∀ n, allSingle (replL z n) = true
  | 0 => rfl
  | n + 1 => by
    have app : ∀ (x y : List AV), allSingle x = true → allSingle y = true → allSingle (x ++ y) = true := by
      intro x
      induction x with
      | nil => intro y _ hy; exact hy
      | cons v r ih =>
        intro y hx hy
        simp only [List.cons_append, allSingle] at hx ⊢
        split at hx
        · rename_i hv; exact ih y hx hy
        · cases hx
    exact app _ _ h (allSingle_replL h n)
theorem foldl_push : ∀ (ns : List Int) (l : List UInt8), ns.foldl (fun r n => r.push (UInt8.ofNat n.toNat)) (⟨l.toArray⟩ : ByteArray) = ⟨(l ++ ns.map fun n => UInt8.ofNat n.toNat).toArray⟩
  | [], l => by simp
  | n :: ns, l => by
    simp only [List.foldl_cons, List.map_cons]
    have e : (⟨l.toArray⟩ : ByteArray).push (UInt8.ofNat n.toNat) = ⟨(l ++ [UInt8.ofNat n.toNat]).toArray⟩ := by simp [ByteArray.push]
    rw [e, foldl_push ns]
    simp

section
variable {P : Program} {ρ : Place} {H H' : Heap} {w : World}

theorem copy_run (s : Sim ρ H w) {ts : Array TypeId} {t ty elem : TypeId} (ht : ts[0]? = some t) (hd : P.underlying t = some (.slice elem))
    {x y v : AV} {x' y' : Value} (h : copyA P H elem x y = some (v, H')) (hx : VR ρ x x') (hy : VR ρ y y') :
    Good ρ H w ((Builtin.copy_ ts ty #[x', y']).run P w) v H' := by
  replace h := Option.bind_eq_some_iff.1 h; obtain ⟨sz, hsz, h⟩ := h
  replace h := Option.bind_eq_some_iff.1 h; obtain ⟨n, hn, h⟩ := h
  have hl := srcLen_run (P := P) hn hy w
  have hS := sizeT_run hsz w
  have slc : ∀ (b o len c : Nat) (l : Loc), ρ b = some l → ((srcCells H sz (Nat.min n len) y).bind fun cs => match allSingle cs with
      | true => (writeCells H b o cs).bind fun H' => some (AV.int .i64 (Nat.min n len : Nat), H')
      | false => none) = some (v, H') → Good ρ H w ((Builtin.copy_ ts ty #[.slice (some ⟨l.cb, l.off + o, none⟩) len c, y']).run P w) v H' := fun b o len c l hl0 h => by
    replace h := Option.bind_eq_some_iff.1 h; obtain ⟨cs, hcs, h⟩ := h
    split at h
    · rename_i hsing
      replace h := Option.bind_eq_some_iff.1 h; obtain ⟨H1, hw, h⟩ := h
      simp only [Option.some.injEq, Prod.mk.injEq] at h
      obtain ⟨rfl, rfl⟩ := h
      obtain ⟨cn, hr, hcv, _⟩ := srcCells_run (P := P) s hcs hn (Nat.min_le_left _ _) hy
      obtain ⟨h1, h2, h3⟩ := write_run (P := P) s hw hl0 hcv (hcv.oneCell hsing)
      exact ⟨_, ρ, _, by simp [Builtin.copy_, ht, run_underlying hd, hl, hS, hr, h1, goInt], .int _ _, h2, h3⟩
    · simp at h
  cases hx with
  | nilS =>
    simp only [Option.some.injEq, Prod.mk.injEq] at h
    obtain ⟨rfl, rfl⟩ := h
    obtain ⟨c, hc, _⟩ := firstCells_zero (P := P) hn hy sz w
    exact Good.pure s (.int _ _) (by simp [Builtin.copy_, ht, run_underlying hd, hl, hS, hc, goInt])
  | eslc a c =>
    simp only [Option.some.injEq, Prod.mk.injEq] at h
    obtain ⟨rfl, rfl⟩ := h
    obtain ⟨cn, hc, hcn⟩ := firstCells_zero (P := P) hn hy sz w
    exact Good.pure s (.int _ _) (by simp [Builtin.copy_, ht, run_underlying hd, hl, hS, hc, goInt, hcn, storeCells])
  | zslcN =>
    simp only [Option.some.injEq, Prod.mk.injEq] at h
    obtain ⟨rfl, rfl⟩ := h
    obtain ⟨c, hc, _⟩ := firstCells_zero (P := P) hn hy sz w
    exact Good.pure s (.int _ _) (by simp [Builtin.copy_, ht, run_underlying hd, hl, hS, hc, goInt])
  | zslcE a =>
    simp only [Option.some.injEq, Prod.mk.injEq] at h
    obtain ⟨rfl, rfl⟩ := h
    obtain ⟨cn, hc, hcn⟩ := firstCells_zero (P := P) hn hy sz w
    exact Good.pure s (.int _ _) (by simp [Builtin.copy_, ht, run_underlying hd, hl, hS, hc, goInt, hcn, storeCells])
  | slcE b o len c l hl0 hlen => exact slc b o len c l hl0 h
  | slcR b o len sz' c l hl0 hlen hf => exact slc b o len c l hl0 h
  | _ => simp at h

/-- a map's row is laid anew -/
theorem set_map_run (s : Sim ρ H w) {b : Nat} {es es' : List (AV × AV)} {vs : List AV} {l : Loc} {ents ents' : Array MapEntry} {clock clock' : Nat} (hg : H.get b = some (.map es)) (hl : ρ b = some l)
    (hw : w.heap[l.cb]? = some (.map ents clock)) (h : (H.ready b vs).set b (.map es') = some H') (hsz : ents'.size = es'.length)
    (hv : ∀ i (h : i < es'.length) (h' : i < ents'.size), VR ρ es'[i].1 ents'[i].key ∧ VR ρ es'[i].2 ents'[i].val) :
    (setObj l.cb (.map ents' clock')).run P w = .ok () { w with heap := w.heap.setIfInBounds l.cb (.map ents' clock') } ∧
    Sim ρ H' { w with heap := w.heap.setIfInBounds l.cb (.map ents' clock') } ∧ Step ρ H w ρ H' { w with heap := w.heap.setIfInBounds l.cb (.map ents' clock') } := by
  obtain ⟨l', hl', _, hlt, _⟩ := s.block hg
  rw [hl] at hl'; cases hl'
  obtain ⟨hn, hd, hk', ⟨k0, hk0⟩, hs⟩ := set_spec h s.nodup
  refine ⟨MapKept.run_setObj_map _ hw, s.turned hk0 hl hn hd hk' hs (by simp) (fun j hj => ?_) rfl rfl rfl ?_⟩
  · show (w.heap.setIfInBounds l.cb _)[j]? = _
    rw [Array.getElem?_setIfInBounds, if_neg (fun e => hj e.symm)]
  · refine ⟨ents', clock', ?_, hsz, hv⟩
    show (w.heap.setIfInBounds l.cb _)[l.cb]? = _
    rw [Array.getElem?_setIfInBounds]
    simp [hlt]
theorem ready_nil (H : Heap) (b : Nat) : H.ready b [] = H := rfl
theorem clear_run (s : Sim ρ H w) {ts : Array TypeId} {t ty : TypeId} (ht : ts[0]? = some t) {x : AV} {x' : Value} (h : clearA P H t x = some H') (hx : VR ρ x x') :
    Good ρ H w ((Builtin.clear_ ts ty #[x']).run P w) (.tup []) H' := by
  replace h := Option.bind_eq_some_iff.1 h; obtain ⟨d, hd, h⟩ := h
  have unit : VR ρ (.tup []) (.tuple #[]) := .tup [] #[] rfl (fun i h => absurd h (Nat.not_lt_zero i))
  have slc : ∀ (elem : TypeId) (b o len c : Nat) (l : Loc), d = .slice elem → ρ b = some l → ((zeroOf P elem).bind fun z => (sizeT P elem).bind fun sz => match Nat.beq z.cells.length sz && allSingle z.cells with
      | true => writeCells H b o (replL z.cells len)
      | false => none) = some H' → Good ρ H w ((Builtin.clear_ ts ty #[.slice (some ⟨l.cb, l.off + o, none⟩) len c]).run P w) (.tup []) H' := fun elem b o len c l hde hl0 g => by
    subst hde
    replace g := Option.bind_eq_some_iff.1 g; obtain ⟨z, hz, g⟩ := g
    replace g := Option.bind_eq_some_iff.1 g; obtain ⟨sz, hsz, g⟩ := g
    split at g
    · rename_i hc
      simp only [Bool.and_eq_true] at hc
      obtain ⟨zv, rfl, hzr, _⟩ := zeroOf_run hz
      have hzl := Nat.eq_of_beq_eq_true hc.1
      have hzs : zv.cells.size = sz := by have := (VRs.const (ρ := ρ) zv).1; simp at this; omega
      have hzv := zeros_run (ρ := ρ) (n := len) hzl hzs
      obtain ⟨h1, h2, h3⟩ := write_run (P := P) s g hl0 hzv (hzv.oneCell (allSingle_replL hc.2 len))
      have hzc : (Builtin.zeroCells zv.cells len).toList = ((Array.range (len * sz)).map fun i => zv.cells[i % zv.cells.size]!).toList := by simp [Builtin.zeroCells, hzs]
      cases len with
      | zero =>
        refine ⟨.tuple #[], ρ, w, by simp [Builtin.clear_, ht, run_underlying hd], unit, ?_, ?_⟩
        · simpa [World.setCells] using h2
        · simpa [World.setCells] using h3
      | succ len =>
        rw [← hzc] at h1 h2 h3
        refine ⟨_, ρ, _, ?_, unit, h2, h3⟩
        simp [Builtin.clear_, ht, run_underlying hd, hzr, h1]
    · simp at g
  cases hx with
  | nilS =>
    have : H' = H := by cases d <;> simpa using h.symm
    subst this
    exact Good.pure s unit (by cases d <;> simp [Builtin.clear_, ht, run_underlying hd])
  | eslc a c =>
    have : H' = H := by cases d <;> simpa using h.symm
    subst this
    exact Good.pure s unit (by cases d <;> simp [Builtin.clear_, ht, run_underlying hd])
  | zslcN =>
    have : H' = H := by cases d <;> simpa using h.symm
    subst this
    exact Good.pure s unit (by cases d <;> simp [Builtin.clear_, ht, run_underlying hd])
  | zslcE a =>
    have : H' = H := by cases d <;> simpa using h.symm
    subst this
    exact Good.pure s unit (by cases d <;> simp [Builtin.clear_, ht, run_underlying hd])
  | nilM =>
    have : H' = H := by cases d <;> simpa using h.symm
    subst this
    exact Good.pure s unit (by cases d <;> simp [Builtin.clear_, ht, run_underlying hd])
  | slcE b o len c l hl0 hlen => cases d <;> first | exact slc _ b o len c l rfl hl0 h | simp at h
  | slcR b o len sz' c l hl0 hlen hf => cases d <;> first | exact slc _ b o len c l rfl hl0 h | simp at h
  | map b l hl0 =>
    cases d <;> try (simp at h; done)
    case map k e =>
    replace h := Option.bind_eq_some_iff.1 h; obtain ⟨k, hk, h⟩ := h
    cases k with
    | map es =>
      obtain ⟨l', hl', _, _, hr⟩ := s.block hk
      rw [hl0] at hl'; cases hl'
      obtain ⟨ents, clock, hw, _, _⟩ := hr
      obtain ⟨h1, h2, h3⟩ := set_map_run (P := P) (vs := []) (ents' := #[]) (clock' := clock) s hk hl0 hw h rfl (fun i h => absurd h (Nat.not_lt_zero i))
      exact ⟨_, ρ, _, by simp [Builtin.clear_, ht, run_underlying hd, MapKept.run_getObj_map hw, h1], unit, h2, h3⟩
    | _ => simp at h
  | _ => cases d <;> simp at h

theorem makeSlice_run (s : Sim ρ H w) {t : TypeId} {l c v : AV} {l' c' : Value} (h : makeSliceA P H t l c = some (v, H')) (hl : VR ρ l l') (hc : VR ρ c c') :
    Good ρ H w ((Instr.makeSlice t l' c').run P w) v H' := by
  replace h := Option.bind_eq_some_iff.1 h; obtain ⟨d, hd, h⟩ := h
  cases d with
  | slice elem =>
    replace h := Option.bind_eq_some_iff.1 h; obtain ⟨sz, hsz, h⟩ := h
    replace h := Option.bind_eq_some_iff.1 h; obtain ⟨by_, hby, h⟩ := h
    split at h
    · rename_i ci li
      cases hl
      cases hc
      replace h := Option.bind_eq_some_iff.1 h; obtain ⟨c, hci, h⟩ := h
      replace h := Option.bind_eq_some_iff.1 h; obtain ⟨l, hli, h⟩ := h
      obtain ⟨rfl, hclt⟩ := idx_spec hci
      obtain ⟨rfl, hllt⟩ := idx_spec hli
      split at h
      · rename_i hroom
        have hroom := Nat.le_of_ble_eq_true hroom
        replace h := Option.bind_eq_some_iff.1 h; obtain ⟨z, hz, h⟩ := h
        obtain ⟨zv, rfl, hzr, _⟩ := zeroOf_run hz
        split at h
        · rename_i hzl
          have hzl := Nat.eq_of_beq_eq_true hzl
          simp only [Option.some.injEq, Prod.mk.injEq] at h
          obtain ⟨rfl, rfl⟩ := h
          have hzs : zv.cells.size = sz := by have := (VRs.const (ρ := ρ) zv).1; simp at this; omega
          have hzv := zeros_run (ρ := ρ) (n := c) hzl hzs
          obtain ⟨ti, hti, rfl⟩ := bytesT_run hby
          have hwl : IntKind.i64.wrap (l : Int) = l := IntWalk.i64_in _ (by omega)
          have hwc : IntKind.i64.wrap (c : Int) = c := IntWalk.i64_in _ (by omega)
          have hcast : ((ti.bytes : Int) * (c : Int)) = ((c * ti.bytes : Nat) : Int) := by rw [Nat.mul_comm]; simp
          have hA : ¬ (281474976710656 < (ti.bytes : Int) * (c : Int)) := by rw [hcast]; omega
          have hB' : ¬ c < l := by omega
          have hS := sizeT_run hsz w
          have hc0 : ¬ ((c : Nat) : Int) < 0 := by omega
          have hl0 : ¬ ((l : Nat) : Int) < 0 := by omega
          have hbase : VR (ρ.upd H.n ⟨w.heap.size, 0, ((Array.range (c * sz)).map fun i => zv.cells[i % zv.cells.size]!).size⟩) (.slc H.n 0 l (.ex c)) (.slice (some ⟨w.heap.size, 0, none⟩) l c) :=
            .slcE H.n 0 l c _ Place.upd_same (by omega)
          have := good_new (t := elem) s hzv _ _ hbase
          refine (?_ : (Instr.makeSlice t (.int .i64 l) (.int .i64 c)).run P w = _) ▸ this
          by_cases h0 : c * sz = 0
          · simp [Instr.makeSlice, run_underlying hd, asInt, asIntOf, hti, hwl, hwc, hA, hB', hc0, hl0, hS, h0, newRow, newObj, Sem.run]
            have e0 : ∀ f : Nat → Value, (Array.range 0).map f = #[] := fun f => by apply Array.ext'; simp
            rw [e0, e0]
          · simp [Instr.makeSlice, run_underlying hd, asInt, asIntOf, hti, hwl, hwc, hA, hB', hc0, hl0, hS, h0, hzr, newRow, newObj, Sem.run]
        · simp at h
      · simp at h
    · simp at h
  | _ => simp at h

theorem bytes_cells : ∀ {cs : List AV} {st : List UInt8} {xs : List Value}, bytesOf cs = some st → VRs ρ cs xs → ∃ ns : List Int, xs = ns.map (Value.int .u8) ∧ st = ns.map fun n => UInt8.ofNat n.toNat
  | [], st, xs, h, hv => by
    simp only [bytesOf, Option.some.injEq] at h
    subst h
    cases xs with
    | nil => exact ⟨[], rfl, rfl⟩
    | cons _ _ => have := hv.1; simp at this
  | v :: r, st, xs, h, hv => by
    replace h := Option.bind_eq_some_iff.1 h; obtain ⟨c, hc, h⟩ := h
    replace h := Option.bind_eq_some_iff.1 h; obtain ⟨rs, hrs, h⟩ := h
    simp only [Option.some.injEq] at h
    subst h
    cases xs with
    | nil => have := hv.1; simp at this
    | cons x xs =>
      obtain ⟨ns, rfl, rfl⟩ := bytes_cells hrs hv.tail
      have hh := hv.head
      unfold byteOf1 at hc
      split at hc
      · rename_i n
        cases hh
        simp only [Option.some.injEq] at hc
        subst hc
        exact ⟨n :: ns, rfl, rfl⟩
      · simp at hc
theorem conv_run (s : Sim ρ H w) {src dst : TypeId} {x v : AV} {x' : Value} (h : convA P H src dst x = some (v, H')) (hx : VR ρ x x') :
    Good ρ H w ((convert src dst x').run P w) v H' := by
  replace h := Option.bind_eq_some_iff.1 h; obtain ⟨sd, hsd, h⟩ := h
  replace h := Option.bind_eq_some_iff.1 h; obtain ⟨dd, hdd, h⟩ := h
  split at h
  · cases hx
    simp only [Option.some.injEq, Prod.mk.injEq] at h
    obtain ⟨rfl, rfl⟩ := h
    exact Good.pure s (.int _ _) (by simp [convert, run_underlying hsd, run_underlying hdd, Conv.intToInt])
  · cases hx
    simp only [Option.some.injEq, Prod.mk.injEq] at h
    obtain ⟨rfl, rfl⟩ := h
    exact Good.pure s (.str _) (by cases sd <;> simp [convert, run_underlying hsd, run_underlying hdd])
  · rename_i e st
    cases hx
    replace h := Option.bind_eq_some_iff.1 h; obtain ⟨ed, hed, h⟩ := h
    split at h
    · split at h
      · rename_i hroom
        simp only [Option.some.injEq, Prod.mk.injEq] at h
        obtain ⟨rfl, rfl⟩ := h
        have hrun := run_bytes_of_string (P := P) w src dst e ⟨st.toArray⟩ hsd hdd hed
        have hcap : st.length ≤ grownCap w (⟨st.toArray⟩ : ByteArray).size 0 e := by
          rw [bytes_size]; simp [grownCap, Question.cut]
        generalize hgc : grownCap w (⟨st.toArray⟩ : ByteArray).size 0 e = cap at hrun hcap
        have hrow : (bytesRow ⟨st.toArray⟩ cap).size = cap := by simp [bytesRow, bytes_size]; omega
        have hle : ρ.le (ρ.upd H.n ⟨w.heap.size, 0, (bytesRow ⟨st.toArray⟩ cap).size⟩) := Place.le_upd (s.dom _ (Nat.le_refl _))
        obtain ⟨g1, g2⟩ := s.drew.new (.cells (bytesRow ⟨st.toArray⟩ cap) e ((bytesRow ⟨st.toArray⟩ cap).size, (bytesRow ⟨st.toArray⟩ cap).size + 1)) (bytesRow ⟨st.toArray⟩ cap).size (.cells (bytesAV st))
          (blk_new (by rw [bytesAV_length, hrow]; exact hcap) (fun i h1 h2 => by
            rw [bytesAV_get]
            rw [bytesAV_length] at h1
            have : (bytesRow ⟨st.toArray⟩ cap)[i]? = some (.int .u8 (st[i].toNat : Int)) := by
              have := bytesRow_at ⟨st.toArray⟩ cap i (by simpa using h1)
              simpa using this
            rw [Array.getElem?_eq_getElem h2] at this
            simp only [Option.some.injEq] at this
            rw [this]
            exact .int _ _) (fun i hi => by simp; omega))
        refine ⟨_, _, _, hrun, ?_, g1, (Step.drew _ _ _).trans g2⟩
        rw [bytes_size]
        exact .slcR H.n 0 st.length 1 cap ⟨w.heap.size, 0, (bytesRow ⟨st.toArray⟩ cap).size⟩ Place.upd_same hcap (by simp [hrow])
      · simp at h
    · simp at h
  · rename_i e hne
    replace h := Option.bind_eq_some_iff.1 h; obtain ⟨ed, hed, h⟩ := h
    split at h
    · replace h := Option.bind_eq_some_iff.1 h; obtain ⟨n, hn, h⟩ := h
      replace h := Option.bind_eq_some_iff.1 h; obtain ⟨cs, hcs, h⟩ := h
      replace h := Option.bind_eq_some_iff.1 h; obtain ⟨st, hst, h⟩ := h
      simp only [Option.some.injEq, Prod.mk.injEq] at h
      obtain ⟨rfl, rfl⟩ := h
      obtain ⟨cn, hr, hcv, _⟩ := srcCells_run (P := P) s hcs hn (Nat.le_refl _) hx
      obtain ⟨ns, hns, rfl⟩ := bytes_cells hst hcv
      have some_ : ∀ (a : Addr) (c : Nat), x' = .slice (some a) n c → Good ρ H w ((convert src dst x').run P w) (.str (ns.map fun n => UInt8.ofNat n.toNat)) H := fun a c hxe => by
        subst hxe
        refine Good.pure s (.str _) ?_
        rw [run_convert_bytes_string w src dst e (some a) n c hsd hed hdd]
        have hload : (loadCells a n).run P w = .ok (ns.map (Value.int .u8)).toArray w := by
          simp only [Builtin.firstCells, Nat.mul_one] at hr
          rw [hr, ← hns, Array.toArray_toList]
        have := run_bytesToString (P := P) w a n c ns hload
        rw [this]
        have e0 : ByteArray.empty = (⟨([] : List UInt8).toArray⟩ : ByteArray) := rfl
        rw [e0, foldl_push]
        simp
      cases hx with
      | nilS =>
        simp only [srcLen, Option.some.injEq] at hn
        subst hn
        simp only [Builtin.firstCells, Sem.run_pure, Result.ok.injEq, and_true] at hr
        subst hr
        have : ns = [] := by simpa using hns.symm
        subst this
        exact Good.pure s (.str []) (by rw [run_convert_bytes_string w src dst e none 0 0 hsd hed hdd]; rfl)
      | fnil sz =>
        have hn : 0 = n := by simpa [srcLen] using hn
        subst hn
        simp only [Builtin.firstCells, Sem.run_pure, Result.ok.injEq, and_true] at hr
        subst hr
        have : ns = [] := by simpa using hns.symm
        subst this
        exact Good.pure s (.str []) (by rw [run_convert_bytes_string w src dst e none 0 0 hsd hed hdd]; rfl)
      | fnone sz a c =>
        have hn : 0 = n := by simpa [srcLen] using hn
        subst hn
        exact some_ _ _ rfl
      | zslcN =>
        have hn : 0 = n := by simpa [srcLen] using hn
        subst hn
        simp only [Builtin.firstCells, Sem.run_pure, Result.ok.injEq, and_true] at hr
        subst hr
        have : ns = [] := by simpa using hns.symm
        subst this
        exact Good.pure s (.str []) (by rw [run_convert_bytes_string w src dst e none 0 0 hsd hed hdd]; rfl)
      | zslcE a =>
        have hn : 0 = n := by simpa [srcLen] using hn
        subst hn
        exact some_ _ _ rfl
      | eslc a c => simp only [srcLen, Option.some.injEq] at hn; subst hn; exact some_ _ _ rfl
      | slcE b o len c l hl0 hlen => simp only [srcLen, Option.some.injEq] at hn; subst hn; exact some_ _ _ rfl
      | slcR b o len sz' c l hl0 hlen hf => simp only [srcLen, Option.some.injEq] at hn; subst hn; exact some_ _ _ rfl
      | fslc sz es cb off cap vs hB hcap hz hc hv => simp only [srcLen, Option.some.injEq] at hn; subst hn; exact some_ _ _ rfl
      | str st => exact (hne st rfl).elim
      | _ => simp [srcLen] at hn
    · simp at h
  · simp at h
end
end Go.Proofs.Ytpkplilgjdbhhaa
