/- When nodes are gone into, and left, as floats; order.Inside. No condition. -/
import Derived.Test.YthclkpplpdnffaaGreatDoorRI
namespace Go.Proofs.YthclkpplpdnffaaGreatDoor
set_option linter.unusedSimpArgs false
set_option linter.unusedVariables false
open Go Go.RowKit
set_option maxRecDepth 100000
def flTbl : List Nat := [13830554455654793216, 0, 4607182418800017408, 4611686018427387904, 4613937818241073152, 4616189618054758400, 4617315517961601024, 4618441417868443648, 4619567317775286272, 4620693217682128896, 4621256167635550208, 4621819117588971520, 4622382067542392832, 4622945017495814144, 4623507967449235456, 4624070917402656768, 4624633867356078080, 4625196817309499392, 4625478292286210048, 4625759767262920704, 4626041242239631360, 4626322717216342016, 4626604192193052672, 4626885667169763328, 4627167142146473984, 4627448617123184640, 4627730092099895296, 4628011567076605952, 4628293042053316608, 4628574517030027264, 4628855992006737920, 4629137466983448576, 4629418941960159232, 4629700416936869888, 4629841154425225216, 4629981891913580544, 4630122629401935872, 4630263366890291200, 4630404104378646528, 4630544841867001856, 4630685579355357184, 4630826316843712512, 4630967054332067840, 4631107791820423168, 4631248529308778496, 4631389266797133824, 4631530004285489152, 4631670741773844480, 4631811479262199808, 4631952216750555136, 4632092954238910464, 4632233691727265792, 4632374429215621120, 4632515166703976448, 4632655904192331776, 4632796641680687104, 4632937379169042432, 4633078116657397760, 4633218854145753088, 4633359591634108416, 4633500329122463744, 4633641066610819072, 4633781804099174400, 4633922541587529728, 4634063279075885056, 4634204016564240384, 4634274385308418048, 4634344754052595712, 4634415122796773376, 4634485491540951040, 4634555860285128704, 4634626229029306368, 4634696597773484032, 4634766966517661696, 4634837335261839360, 4634907704006017024, 4634978072750194688, 4635048441494372352, 4635118810238550016, 4635189178982727680, 4635259547726905344, 4635329916471083008, 4635400285215260672, 4635470653959438336, 4635541022703616000, 4635611391447793664, 4635681760191971328, 4635752128936148992, 4635822497680326656, 4635892866424504320, 4635963235168681984, 4636033603912859648, 4636103972657037312, 4636174341401214976, 4636244710145392640, 4636315078889570304, 4636385447633747968, 4636455816377925632, 4636526185122103296, 4636596553866280960, 4636666922610458624, 4636737291354636288, 4636807660098813952, 4636878028842991616, 4636948397587169280, 4637018766331346944, 4637089135075524608, 4637159503819702272, 4637229872563879936, 4637300241308057600, 4637370610052235264, 4637440978796412928, 4637511347540590592, 4637581716284768256, 4637652085028945920, 4637722453773123584, 4637792822517301248, 4637863191261478912, 4637933560005656576]
def fl (a : Int) : Nat := flTbl.getD (a + 1).toNat 0
def pairOK (x y : Nat × Nat) : Bool := match FloatKind.f64.format.sub x.1 y.1 with
  | some d => ((FloatKind.f64.format.order d 0 == some .gt) == Nat.blt y.2 x.2) && ((FloatKind.f64.format.order d 0 == some .lt) == Nat.blt x.2 y.2)
  | none => false
theorem pairs_ok : (flTbl.zipIdx.all fun x => flTbl.zipIdx.all fun y => pairOK x y) = true := by decide +kernel
theorem signs_ok : (flTbl.zipIdx.all fun x => (FloatKind.f64.format.order x.1 0 == some .lt) == Nat.beq x.2 0) = true := by decide +kernel
def cntTbl : Nat → Nat → List Nat → Bool
  | _, _, [] => true
  | k, c, x :: r => Nat.beq x c && (match FloatKind.f64.format.add c 4607182418800017408 with
    | some d => cntTbl (k + 1) d r
    | none => false)
theorem cntTbl_spec : ∀ (l : List Nat) (k c : Nat), c = cnt k → cntTbl k c l = true → ∀ i (h : i < l.length), l[i] = cnt (k + i)
  | [], _, _, _, _, i, h => absurd h (Nat.not_lt_zero i)
  | x :: r, k, c, hc, h, i, hi => by
    simp only [cntTbl, Bool.and_eq_true] at h
    obtain ⟨h1, h2⟩ := h
    have hx := Nat.eq_of_beq_eq_true h1
    cases hd : FloatKind.f64.format.add c 4607182418800017408 with
    | none => rw [hd] at h2; cases h2
    | some d =>
      rw [hd] at h2
      cases i with
      | zero => rw [List.getElem_cons_zero, hx, hc]; rfl
      | succ j =>
        have hk : d = cnt (k + 1) := by show d = Option.getD _ 0; rw [← hc, hd]; rfl
        have := cntTbl_spec r (k + 1) d hk h2 j (by simpa using hi)
        rw [List.getElem_cons_succ, this]
        congr 1; omega
theorem cnt_tbl : cntTbl 0 4607182418800017408 (flTbl.drop 2) = true := by decide +kernel
theorem fl_len : flTbl.length = 119 := rfl
theorem fl_at {a : Int} (h1 : -1 ≤ a) (h2 : a ≤ 117) : ∃ h : (a + 1).toNat < flTbl.length, fl a = flTbl[(a + 1).toNat] := by
  have h : (a + 1).toNat < flTbl.length := by rw [fl_len]; omega
  exact ⟨h, by simp [fl, List.getD_eq_getElem?_getD, h]⟩
theorem fl_mem {a : Int} (h1 : -1 ≤ a) (h2 : a ≤ 117) : (fl a, (a + 1).toNat) ∈ flTbl.zipIdx := by
  obtain ⟨h, e⟩ := fl_at h1 h2
  rw [List.mem_zipIdx_iff_getElem?, List.getElem?_eq_getElem h, e]
theorem fl_cnt {c : Nat} (h : c < 117) : cnt c = fl ((c + 1 : Nat) : Int) := by
  have h2 := cntTbl_spec (flTbl.drop 2) 0 _ rfl cnt_tbl c (by rw [List.length_drop, fl_len]; omega)
  obtain ⟨h3, e⟩ := fl_at (a := ((c + 1 : Nat) : Int)) (by omega) (by omega)
  rw [e]
  rw [List.getElem_drop, Nat.zero_add] at h2
  rw [← h2]
  have : ((((c + 1 : Nat) : Int)) + 1).toNat = 2 + c := by omega
  simp only [this]
theorem fl_neg {a : Int} (h1 : -1 ≤ a) (h2 : a ≤ 117) : (FloatKind.f64.format.order (fl a) 0 == some .lt) = decide (a < 0) := by
  have h := List.all_eq_true.1 signs_ok _ (fl_mem h1 h2)
  simp only [beq_iff_eq] at h
  rw [h]
  by_cases ha : a < 0
  · have : (a + 1).toNat = 0 := by omega
    simp [ha, this]
  · have : (a + 1).toNat ≠ 0 := by omega
    rw [decide_eq_false ha]
    exact beqN_ne this
theorem fl_sub {a b : Int} (h1 : -1 ≤ a) (h2 : a ≤ 117) (h3 : -1 ≤ b) (h4 : b ≤ 117) : ∃ d, FloatKind.f64.format.sub (fl a) (fl b) = some d ∧ (FloatKind.f64.format.order d 0 == some .gt) = decide (b < a) ∧ (FloatKind.f64.format.order d 0 == some .lt) = decide (a < b) := by
  have h := List.all_eq_true.1 (List.all_eq_true.1 pairs_ok _ (fl_mem h1 h2)) _ (fl_mem h3 h4)
  unfold pairOK at h
  split at h
  · rename_i d hd
    simp only [Bool.and_eq_true, beq_iff_eq] at h
    refine ⟨d, hd, ?_, ?_⟩
    · rw [h.1, Bool.eq_iff_iff, decide_eq_true_eq]
      show Nat.ble _ _ = true ↔ _
      rw [Nat.ble_eq]; omega
    · rw [h.2, Bool.eq_iff_iff, decide_eq_true_eq]
      show Nat.ble _ _ = true ↔ _
      rw [Nat.ble_eq]; omega
  · cases h
@[simp] theorem blt_real {H : Heap} {ts : Array TypeId} {k : FloatKind} {a b : Nat} : builtinA Tryz.prog H .real ts [.cplx k a b] = some (.float k a, H) := rfl
@[simp] theorem blt_imag {H : Heap} {ts : Array TypeId} {k : FloatKind} {a b : Nat} : builtinA Tryz.prog H .imag ts [.cplx k a b] = some (.float k b, H) := rfl
@[simp] theorem blt_cplx {H : Heap} {ts : Array TypeId} {a b : Nat} : builtinA Tryz.prog H .complex ts [.float .f64 a, .float .f64 b] = some (.cplx .f64 a b, H) := rfl
@[simp] theorem flt_lss {t : TypeId} {a b : Nat} : binA Tryz.prog .lss t (.float .f64 a) (.float .f64 b) = some (.bool (FloatKind.f64.format.order a b == some .lt)) := rfl
@[simp] theorem flt_gtr {t : TypeId} {a b : Nat} : binA Tryz.prog .gtr t (.float .f64 a) (.float .f64 b) = some (.bool (FloatKind.f64.format.order a b == some .gt)) := rfl
@[simp] theorem cpx_sub {t : TypeId} {a b c d : Nat} : binA Tryz.prog .sub t (.cplx .f64 a b) (.cplx .f64 c d) = (FloatKind.f64.format.sub a c).bind fun r => (FloatKind.f64.format.sub b d).bind fun i => some (.cplx .f64 r i) := rfl
def cx (p : Int × Int) : AV := .cplx .f64 (fl p.1) (fl p.2)
def okM (p : Int × Int) : Prop := (-1 ≤ p.1 ∧ p.1 ≤ 117) ∧ (-1 ≤ p.2 ∧ p.2 ≤ 117)
def insB (p q : Int × Int) : Bool := decide (0 ≤ p.1) && decide (0 ≤ q.1) && decide (q.1 < p.1) && decide (p.2 < q.2)
theorem fl_inj {a b : Int} (h1 : -1 ≤ a) (h2 : a ≤ 117) (h3 : -1 ≤ b) (h4 : b ≤ 117) (h : fl a = fl b) : a = b := by
  obtain ⟨d, d1, d2, d3⟩ := fl_sub h1 h2 h3 h4
  obtain ⟨e, e1, e2, e3⟩ := fl_sub h3 h4 h3 h4
  rw [h, e1, Option.some.injEq] at d1
  subst d1
  rw [d2] at e2
  rw [d3] at e3
  simp only [Int.lt_irrefl, decide_false, decide_eq_false_iff_not] at e2 e3
  omega
end Go.Proofs.YthclkpplpdnffaaGreatDoor
