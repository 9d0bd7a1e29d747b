/- A byte looked for in a text. No condition. -/
import Derived.Test.YtlpknhpalcapmaaDoorMG
import Derived.Lib.Bytealg
namespace Go.Proofs.YtlpknhpalcapmaaDoor
set_option linter.unusedSimpArgs false
set_option linter.unusedVariables false
open Go Go.RowKit
set_option maxRecDepth 100000

theorem c54 {T : List (Entry Tryd.prog)} (s : Str) (c : UInt8) : CallAt (ctx T) 54 [.str s, .int .u8 (c.toNat : Int)] ⟨0, []⟩ (.int .i64 (Lib.indexByte s c)) ⟨0, []⟩ := by
  intro ρ w xs sm hx
  match xs, hx with
  | [x, y], hx =>
    have h0 := hx.2 0 (by simp) (by simp)
    have h1 := hx.2 1 (by simp) (by simp)
    simp only [List.getElem_cons_zero, List.getElem_cons_succ] at h0 h1
    cases h0; cases h1
    have hr := Lib.run_indexByteString (P := Tryd.prog) ⟨s.toArray⟩ (c.toNat : Int) w
    have hf : (ctx T).P.funcs[54]? = some Tryd.f54 := Tryd.func54
    have hn : ¬ Tryd.f54.name = "runtime.NumGoroutine" := by decide +kernel
    have e1 : (Extern.findNext Tryd.f54).isNone = true := by decide +kernel
    have e2 : Extern.find Tryd.f54 = some Extern.BytealgIndexByte.indexByte := by rfl
    have e1' : Extern.findNext Tryd.f54 = none := Option.isNone_iff_eq_none.1 e1
    have hb : Tryd.f54.body.isNone = true := rfl
    refine .inl ⟨_, ρ, w, ?_, .int _ _, sm, Step.refl _ _ _⟩
    have hc : (c.toNat : Int).toNat.toUInt8 = c := by simp
    rw [hc] at hr
    have hr' : Sem.run (ctx T).P (Extern.BytealgIndexByte.indexByte #[.string ⟨s.toArray⟩, .int .u8 (c.toNat : Int)]) w = .ok (.int .i64 (Lib.indexByte s c)) w := hr
    have hb2 : Tryd.f54.body = none := rfl
    have hr2 : Sem.run Tryd.prog (Extern.BytealgIndexByte.indexByte #[.string ⟨s.toArray⟩, .int .u8 (c.toNat : Int)]) w = .ok (.int .i64 (Lib.indexByte s c)) w := hr
    simp [callFunc, hf, hn, hb2, e1', e2, hr2]
theorem inj_sb (x y : Str × UInt8) (h : [AV.str x.1, AV.int .u8 (x.2.toNat : Int)] = [AV.str y.1, AV.int .u8 (y.2.toNat : Int)]) : x = y := by
  simp at h
  exact Prod.ext h.1 (UInt8.toNat_inj.1 (by omega))
noncomputable def r54 : Entry Tryd.prog := ⟨54, fun args H => match args with
  | [.str s, .int .u8 n] => match n with
    | .ofNat m => match Nat.blt m 256 with
      | true => some (.int .i64 (Lib.indexByte s (UInt8.ofNat m)), H)
      | false => none
    | _ => none
  | _ => none, fun args H v H' h => by
    split at h
    · rename_i s n
      split at h
      · rename_i m
        split at h
        · rename_i hm
          simp only [Option.some.injEq, Prod.mk.injEq] at h
          obtain ⟨rfl, rfl⟩ := h
          have hm : m < 256 := by simpa using hm
          have e : (UInt8.ofNat m).toNat = m := by simp; omega
          have := (c54 (T := []) s (UInt8.ofNat m)).lift (by simp [pureL, pureV]) H
          rw [e] at this
          exact this
        · cases h
      · cases h
    · cases h⟩
end Go.Proofs.YtlpknhpalcapmaaDoor
