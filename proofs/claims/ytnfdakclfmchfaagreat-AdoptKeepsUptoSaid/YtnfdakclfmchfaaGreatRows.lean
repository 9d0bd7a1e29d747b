/-
  No cell of these rows narrows 'for every input' (looked for: loops, veiled, ifaces, maps, wideKeys, modest, calm, conditions, laid).
  DERIVED. THE GIVEN ROWS OF THIS SEAT. 4 by the template 'for every input the law returns true; each argument reads behind the call as it read before'; 0 by the template 'total and deterministic' (their statements: YtnfdakclfmchfaaGreatTotals.lean).
  GIVEN WITH THE SEED: the statements are not yours to turn. If you find one false, say at which input.
  Laid BY PROGRAM, IN A SANDBOX (cutbox-rows.mjs): the forced cells as the released guide's own fill.sh prints them over the translation 5c5dc1cc8a42172b… (all of the seat's roots in one cut). By AI agents, Wed Nov 11 2026. No macro, syntax, notation, axiom, sorry.
-/
import Derived.Test.YtnfdakclfmchfaaGreatChecked
import GoSem.Claim
import GoSem.ClaimJoined
import GoSem.ClaimMapViews
import Derived.JoinedTies
import Derived.KernelRfl
namespace Go.Proofs.YtnfdakclfmchfaaGreat
/- THE CELL 'sum', in the pinned program and in every row, IS THE sha256 OF THE DUMP (.gsa) THAT YtnfdakclfmchfaaGreatProg.lean LOADS. Nothing in Lean hashes anything: it is a label: what it is worth is what the hold of that sum in a sandbox is worth. -/
noncomputable def Tryz.pinned : Pinned := { name := "ytnfdakclfmchfaagreat", sum := "5c5dc1cc8a42172b3424d24054aef2a8dfa590a2d6b4181111c5c46ca57f5145", checked := Tryz.checked }
namespace Rows
def none {H : Type} : Left H := { results := [], args := [] }

/-- 'hoardinglaw19.AdoptKeeps': WHATEVER THE INPUT: true; the input reads as it did. -/
def adoptKeepsSpec : ChangeSpec := { name := "adoptKeeps", fn := fun _ => fun
  | [d1, d2] => { results := [.lit (.bool true)], args := [d1, d2] }
  | _ => none }
def adoptKeepsRow : OpenClaim := { program := "ytnfdakclfmchfaagreat", sum := "5c5dc1cc8a42172b3424d24054aef2a8dfa590a2d6b4181111c5c46ca57f5145", func := "hoarding/hoardinglaw19.AdoptKeeps", spec := "adoptKeeps", inPlace := ["slices.overlaps[int]", "internal/bytealg.IndexByteString", "internal/bytealg.IndexString"], unfollowed := true, recurses := true, named := ["internal/bytealg.MaxLen"], plainKeys := false, apart := false }
def AdoptKeepsSaid : Prop := adoptKeepsRow.holds Tryz.pinned (OpenSpec.ofChange adoptKeepsSpec)

/-- ITS FALSE NEIGHBOUR: 'it returns false'. Refute it at one input. -/
def adoptKeepsWrong : ChangeSpec := { name := "adoptKeeps", fn := fun _ => fun
  | [d1, d2] => { results := [.lit (.bool false)], args := [d1, d2] }
  | _ => none }
def AdoptKeepsWrongFalsely : Prop := adoptKeepsRow.holds Tryz.pinned (OpenSpec.ofChange adoptKeepsWrong)

/-- 'hoardinglaw21.EndsPlay': WHATEVER THE INPUT: true; the input reads as it did. -/
def endsPlaySpec : ChangeSpec := { name := "endsPlay", fn := fun _ => fun
  | [d1, d2] => { results := [.lit (.bool true)], args := [d1, d2] }
  | _ => none }
def endsPlayRow : OpenClaim := { program := "ytnfdakclfmchfaagreat", sum := "5c5dc1cc8a42172b3424d24054aef2a8dfa590a2d6b4181111c5c46ca57f5145", func := "hoarding/hoardinglaw21.EndsPlay", spec := "endsPlay", inPlace := ["slices.overlaps[int]", "internal/bytealg.IndexByteString", "internal/bytealg.IndexString"], unfollowed := true, recurses := true, named := ["internal/bytealg.MaxLen"], plainKeys := false, apart := false }
def EndsPlaySaid : Prop := endsPlayRow.holds Tryz.pinned (OpenSpec.ofChange endsPlaySpec)

/-- ITS FALSE NEIGHBOUR: 'it returns false'. Refute it at one input. -/
def endsPlayWrong : ChangeSpec := { name := "endsPlay", fn := fun _ => fun
  | [d1, d2] => { results := [.lit (.bool false)], args := [d1, d2] }
  | _ => none }
def EndsPlayWrongFalsely : Prop := endsPlayRow.holds Tryz.pinned (OpenSpec.ofChange endsPlayWrong)

/-- 'hoardinglaw21.EndsOther': WHATEVER THE INPUT: true; the input reads as it did. -/
def endsOtherSpec : ChangeSpec := { name := "endsOther", fn := fun _ => fun
  | [d1, d2] => { results := [.lit (.bool true)], args := [d1, d2] }
  | _ => none }
def endsOtherRow : OpenClaim := { program := "ytnfdakclfmchfaagreat", sum := "5c5dc1cc8a42172b3424d24054aef2a8dfa590a2d6b4181111c5c46ca57f5145", func := "hoarding/hoardinglaw21.EndsOther", spec := "endsOther", inPlace := ["slices.overlaps[int]", "internal/bytealg.IndexByteString", "internal/bytealg.IndexString"], unfollowed := true, recurses := true, named := ["internal/bytealg.MaxLen"], plainKeys := false, apart := false }
def EndsOtherSaid : Prop := endsOtherRow.holds Tryz.pinned (OpenSpec.ofChange endsOtherSpec)

/-- ITS FALSE NEIGHBOUR: 'it returns false'. Refute it at one input. -/
def endsOtherWrong : ChangeSpec := { name := "endsOther", fn := fun _ => fun
  | [d1, d2] => { results := [.lit (.bool false)], args := [d1, d2] }
  | _ => none }
def EndsOtherWrongFalsely : Prop := endsOtherRow.holds Tryz.pinned (OpenSpec.ofChange endsOtherWrong)

/-- 'hoardinglaw22.BodyGrows': WHATEVER THE INPUT: true; the input reads as it did. -/
def bodyGrowsSpec : ChangeSpec := { name := "bodyGrows", fn := fun _ => fun
  | [d] => { results := [.lit (.bool true)], args := [d] }
  | _ => none }
def bodyGrowsRow : OpenClaim := { program := "ytnfdakclfmchfaagreat", sum := "5c5dc1cc8a42172b3424d24054aef2a8dfa590a2d6b4181111c5c46ca57f5145", func := "hoarding/hoardinglaw22.BodyGrows", spec := "bodyGrows", inPlace := ["slices.overlaps[int]", "internal/bytealg.IndexByteString", "internal/bytealg.IndexString"], unfollowed := true, recurses := true, named := ["internal/bytealg.MaxLen"], plainKeys := false, apart := false }
def BodyGrowsSaid : Prop := bodyGrowsRow.holds Tryz.pinned (OpenSpec.ofChange bodyGrowsSpec)

/-- ITS FALSE NEIGHBOUR: 'it returns false'. Refute it at one input. -/
def bodyGrowsWrong : ChangeSpec := { name := "bodyGrows", fn := fun _ => fun
  | [d] => { results := [.lit (.bool false)], args := [d] }
  | _ => none }
def BodyGrowsWrongFalsely : Prop := bodyGrowsRow.holds Tryz.pinned (OpenSpec.ofChange bodyGrowsWrong)

/- THE SECOND FORM. 'bulk': how many values and letters a reading holds, each counted each time it is reached (what is shared counts as often as it is met; a slice's spare places count too). A statement '..UptoSaid' is the law's where the arguments, and the package variables that the reading takes, are together of bulk at most 1048576: NARROWER than '..Said'. Prove '..Said' where nothing that the law and all that it calls make is longer than what came in: it says more and counts as full. Else prove '..UptoSaid'. A law counts once. -/
mutual
def uptoBulk {H : Type} : DataW H → Nat
  | .lit (.string bytes) => bytes.length + 1
  | .lit _ => 1
  | .nil => 1
  | .ptr d => uptoBulk d + 1
  | .slice elems spare => uptoBulkAll elems + uptoBulkAll spare + 1
  | .agg parts => uptoBulkAll parts + 1
  | .iface _ d => uptoBulk d + 1
  | .map entries => uptoBulkEntries entries + 1
  | .held _ => 1
def uptoBulkAll {H : Type} : List (DataW H) → Nat
  | [] => 0
  | d :: r => uptoBulk d + uptoBulkAll r
def uptoBulkEntries {H : Type} : List (Lit × DataW H) → Nat
  | [] => 0
  | x :: r => uptoBulkEntry x + uptoBulkEntries r
def uptoBulkEntry {H : Type} : Lit × DataW H → Nat
  | (.string bytes, d) => bytes.length + uptoBulk d + 1
  | (_, d) => uptoBulk d + 1
 end
def uptoSmall : (H : Type) → List (DataW H) → Bool := fun _ ds => decide (uptoBulkAll ds ≤ 1048576)
def OpenSpec.upto (s : _root_.Go.ChangeSpec) : _root_.Go.OpenSpec := { _root_.Go.OpenSpec.ofChange s with cond := some uptoSmall }

/-- 'hoardinglaw19.AdoptKeeps', WHERE WHAT IT READS IS OF BULK AT MOST 1048576: true; the input reads as it did. -/
def adoptKeepsUptoRow : OpenClaim := { program := "ytnfdakclfmchfaagreat", sum := "5c5dc1cc8a42172b3424d24054aef2a8dfa590a2d6b4181111c5c46ca57f5145", func := "hoarding/hoardinglaw19.AdoptKeeps", spec := "adoptKeeps", inPlace := ["slices.overlaps[int]", "internal/bytealg.IndexByteString", "internal/bytealg.IndexString"], unfollowed := true, recurses := true, named := ["internal/bytealg.MaxLen"], plainKeys := false, apart := false, narrowed := true }
def AdoptKeepsUptoSaid : Prop := adoptKeepsUptoRow.holds Tryz.pinned (OpenSpec.upto adoptKeepsSpec)

/-- 'hoardinglaw21.EndsPlay', WHERE WHAT IT READS IS OF BULK AT MOST 1048576: true; the input reads as it did. -/
def endsPlayUptoRow : OpenClaim := { program := "ytnfdakclfmchfaagreat", sum := "5c5dc1cc8a42172b3424d24054aef2a8dfa590a2d6b4181111c5c46ca57f5145", func := "hoarding/hoardinglaw21.EndsPlay", spec := "endsPlay", inPlace := ["slices.overlaps[int]", "internal/bytealg.IndexByteString", "internal/bytealg.IndexString"], unfollowed := true, recurses := true, named := ["internal/bytealg.MaxLen"], plainKeys := false, apart := false, narrowed := true }
def EndsPlayUptoSaid : Prop := endsPlayUptoRow.holds Tryz.pinned (OpenSpec.upto endsPlaySpec)

/-- 'hoardinglaw21.EndsOther', WHERE WHAT IT READS IS OF BULK AT MOST 1048576: true; the input reads as it did. -/
def endsOtherUptoRow : OpenClaim := { program := "ytnfdakclfmchfaagreat", sum := "5c5dc1cc8a42172b3424d24054aef2a8dfa590a2d6b4181111c5c46ca57f5145", func := "hoarding/hoardinglaw21.EndsOther", spec := "endsOther", inPlace := ["slices.overlaps[int]", "internal/bytealg.IndexByteString", "internal/bytealg.IndexString"], unfollowed := true, recurses := true, named := ["internal/bytealg.MaxLen"], plainKeys := false, apart := false, narrowed := true }
def EndsOtherUptoSaid : Prop := endsOtherUptoRow.holds Tryz.pinned (OpenSpec.upto endsOtherSpec)

/-- 'hoardinglaw22.BodyGrows', WHERE WHAT IT READS IS OF BULK AT MOST 1048576: true; the input reads as it did. -/
def bodyGrowsUptoRow : OpenClaim := { program := "ytnfdakclfmchfaagreat", sum := "5c5dc1cc8a42172b3424d24054aef2a8dfa590a2d6b4181111c5c46ca57f5145", func := "hoarding/hoardinglaw22.BodyGrows", spec := "bodyGrows", inPlace := ["slices.overlaps[int]", "internal/bytealg.IndexByteString", "internal/bytealg.IndexString"], unfollowed := true, recurses := true, named := ["internal/bytealg.MaxLen"], plainKeys := false, apart := false, narrowed := true }
def BodyGrowsUptoSaid : Prop := bodyGrowsUptoRow.holds Tryz.pinned (OpenSpec.upto bodyGrowsSpec)

end Rows
end Go.Proofs.YtnfdakclfmchfaaGreat
