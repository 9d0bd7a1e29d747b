/-
  No cell of these rows narrows 'for every input' (looked for: loops, veiled, ifaces, maps, wideKeys, modest, calm, conditions, laid).
  DERIVED. THE GIVEN ROWS OF THIS SEAT. 3 by the template 'for every input the law returns true; each argument reads behind the call as it read before'; 0 by the template 'total and deterministic' (their statements: YtohkgmnoamfmgaaTotals.lean).
  GIVEN WITH THE SEED: the statements are not yours to turn. If you find one false, say at which input.
  Laid BY PROGRAM, IN A SANDBOX (cutbox-rows.mjs): the forced cells as the released guide's own fill.sh prints them over the translation 5df8d55483235ac7… (all of the seat's roots in one cut). By AI agents, Wed Nov 11 2026. No macro, syntax, notation, axiom, sorry.
-/
import Derived.Test.YtohkgmnoamfmgaaChecked
import GoSem.Claim
import GoSem.ClaimJoined
import GoSem.ClaimMapViews
import Derived.JoinedTies
import Derived.KernelRfl
namespace Go.Proofs.Ytohkgmnoamfmgaa
/- THE CELL 'sum', in the pinned program and in every row, IS THE sha256 OF THE DUMP (.gsa) THAT YtohkgmnoamfmgaaProg.lean LOADS. Nothing in Lean hashes anything: it is a label: what it is worth is what the hold of that sum in a sandbox is worth. -/
noncomputable def Try.pinned : Pinned := { name := "ytohkgmnoamfmgaa", sum := "5df8d55483235ac7c569d803de99a5bbf46acbe0232aaf9bae4708b5d7a5aec2", checked := Try.checked }
namespace Rows
def none {H : Type} : Left H := { results := [], args := [] }

/-- 'hoardinglaw27.SerialTells': WHATEVER THE INPUT: true; the input reads as it did. -/
def serialTellsSpec : ChangeSpec := { name := "serialTells", fn := fun _ => fun
  | [d1, d2, d3] => { results := [.lit (.bool true)], args := [d1, d2, d3] }
  | _ => none }
def serialTellsRow : OpenClaim := { program := "ytohkgmnoamfmgaa", sum := "5df8d55483235ac7c569d803de99a5bbf46acbe0232aaf9bae4708b5d7a5aec2", func := "hoarding/hoardinglaw27.SerialTells", spec := "serialTells", inPlace := ["slices.overlaps[int]", "internal/abi.NoEscape", "internal/bytealg.IndexByteString", "internal/bytealg.IndexString"], unfollowed := true, recurses := true, named := ["internal/bytealg.MaxLen"], apart := false }
def SerialTellsSaid : Prop := serialTellsRow.holds Try.pinned (OpenSpec.ofChange serialTellsSpec)

/-- ITS FALSE NEIGHBOUR: 'it returns false'. Refute it at one input. -/
def serialTellsWrong : ChangeSpec := { name := "serialTells", fn := fun _ => fun
  | [d1, d2, d3] => { results := [.lit (.bool false)], args := [d1, d2, d3] }
  | _ => none }
def SerialTellsWrongFalsely : Prop := serialTellsRow.holds Try.pinned (OpenSpec.ofChange serialTellsWrong)

/-- 'hoardinglaw27.SerialJoins': WHATEVER THE INPUT: true; the input reads as it did. -/
def serialJoinsSpec : ChangeSpec := { name := "serialJoins", fn := fun _ => fun
  | [d] => { results := [.lit (.bool true)], args := [d] }
  | _ => none }
def serialJoinsRow : OpenClaim := { program := "ytohkgmnoamfmgaa", sum := "5df8d55483235ac7c569d803de99a5bbf46acbe0232aaf9bae4708b5d7a5aec2", func := "hoarding/hoardinglaw27.SerialJoins", spec := "serialJoins", inPlace := ["slices.overlaps[int]", "internal/abi.NoEscape", "internal/bytealg.IndexByteString", "internal/bytealg.IndexString"], unfollowed := true, recurses := true, named := ["internal/bytealg.MaxLen"], apart := false }
def SerialJoinsSaid : Prop := serialJoinsRow.holds Try.pinned (OpenSpec.ofChange serialJoinsSpec)

/-- ITS FALSE NEIGHBOUR: 'it returns false'. Refute it at one input. -/
def serialJoinsWrong : ChangeSpec := { name := "serialJoins", fn := fun _ => fun
  | [d] => { results := [.lit (.bool false)], args := [d] }
  | _ => none }
def SerialJoinsWrongFalsely : Prop := serialJoinsRow.holds Try.pinned (OpenSpec.ofChange serialJoinsWrong)

/-- 'hoardinglaw27.SerialSigns': WHATEVER THE INPUT: true; the input reads as it did. -/
def serialSignsSpec : ChangeSpec := { name := "serialSigns", fn := fun _ => fun
  | [d] => { results := [.lit (.bool true)], args := [d] }
  | _ => none }
def serialSignsRow : OpenClaim := { program := "ytohkgmnoamfmgaa", sum := "5df8d55483235ac7c569d803de99a5bbf46acbe0232aaf9bae4708b5d7a5aec2", func := "hoarding/hoardinglaw27.SerialSigns", spec := "serialSigns", inPlace := ["slices.overlaps[int]", "internal/abi.NoEscape", "internal/bytealg.IndexByteString", "internal/bytealg.IndexString", "internal/bytealg.CountString"], unfollowed := true, recurses := true, named := ["internal/bytealg.MaxLen"], apart := false }
def SerialSignsSaid : Prop := serialSignsRow.holds Try.pinned (OpenSpec.ofChange serialSignsSpec)

/-- ITS FALSE NEIGHBOUR: 'it returns false'. Refute it at one input. -/
def serialSignsWrong : ChangeSpec := { name := "serialSigns", fn := fun _ => fun
  | [d] => { results := [.lit (.bool false)], args := [d] }
  | _ => none }
def SerialSignsWrongFalsely : Prop := serialSignsRow.holds Try.pinned (OpenSpec.ofChange serialSignsWrong)

/- THE SECOND FORM. 'bulk': how many values and letters a reading holds, each counted each time it is reached (what is shared counts as often as it is met; a slice's spare places count too). A statement '..UptoSaid' is the law's where the arguments, and the package variables that the reading takes, are together of bulk at most 1048576: NARROWER than '..Said'. Prove '..Said' where nothing that the law and all that it calls make is longer than what came in: it says more and counts as full. Else prove '..UptoSaid'. A law counts once. -/
mutual
def uptoBulk {H : Type} : DataW H → Nat
  | .lit (.string bytes) => bytes.length + 1
  | .lit _ => 1
  | .nil => 1
  | .ptr d => uptoBulk d + 1
  | .slice elems spare => uptoBulkAll elems + uptoBulkAll spare + 1
  | .agg parts => uptoBulkAll parts + 1
  | .iface _ d => uptoBulk d + 1
  | .map entries => uptoBulkEntries entries + 1
  | .held _ => 1
def uptoBulkAll {H : Type} : List (DataW H) → Nat
  | [] => 0
  | d :: r => uptoBulk d + uptoBulkAll r
def uptoBulkEntries {H : Type} : List (Lit × DataW H) → Nat
  | [] => 0
  | x :: r => uptoBulkEntry x + uptoBulkEntries r
def uptoBulkEntry {H : Type} : Lit × DataW H → Nat
  | (.string bytes, d) => bytes.length + uptoBulk d + 1
  | (_, d) => uptoBulk d + 1
 end
def uptoSmall : (H : Type) → List (DataW H) → Bool := fun _ ds => decide (uptoBulkAll ds ≤ 1048576)
def OpenSpec.upto (s : _root_.Go.ChangeSpec) : _root_.Go.OpenSpec := { _root_.Go.OpenSpec.ofChange s with cond := some uptoSmall }

/-- 'hoardinglaw27.SerialTells', WHERE WHAT IT READS IS OF BULK AT MOST 1048576: true; the input reads as it did. -/
def serialTellsUptoRow : OpenClaim := { program := "ytohkgmnoamfmgaa", sum := "5df8d55483235ac7c569d803de99a5bbf46acbe0232aaf9bae4708b5d7a5aec2", func := "hoarding/hoardinglaw27.SerialTells", spec := "serialTells", inPlace := ["slices.overlaps[int]", "internal/abi.NoEscape", "internal/bytealg.IndexByteString", "internal/bytealg.IndexString"], unfollowed := true, recurses := true, named := ["internal/bytealg.MaxLen"], apart := false, narrowed := true }
def SerialTellsUptoSaid : Prop := serialTellsUptoRow.holds Try.pinned (OpenSpec.upto serialTellsSpec)

/-- 'hoardinglaw27.SerialJoins', WHERE WHAT IT READS IS OF BULK AT MOST 1048576: true; the input reads as it did. -/
def serialJoinsUptoRow : OpenClaim := { program := "ytohkgmnoamfmgaa", sum := "5df8d55483235ac7c569d803de99a5bbf46acbe0232aaf9bae4708b5d7a5aec2", func := "hoarding/hoardinglaw27.SerialJoins", spec := "serialJoins", inPlace := ["slices.overlaps[int]", "internal/abi.NoEscape", "internal/bytealg.IndexByteString", "internal/bytealg.IndexString"], unfollowed := true, recurses := true, named := ["internal/bytealg.MaxLen"], apart := false, narrowed := true }
def SerialJoinsUptoSaid : Prop := serialJoinsUptoRow.holds Try.pinned (OpenSpec.upto serialJoinsSpec)

/-- 'hoardinglaw27.SerialSigns', WHERE WHAT IT READS IS OF BULK AT MOST 1048576: true; the input reads as it did. -/
def serialSignsUptoRow : OpenClaim := { program := "ytohkgmnoamfmgaa", sum := "5df8d55483235ac7c569d803de99a5bbf46acbe0232aaf9bae4708b5d7a5aec2", func := "hoarding/hoardinglaw27.SerialSigns", spec := "serialSigns", inPlace := ["slices.overlaps[int]", "internal/abi.NoEscape", "internal/bytealg.IndexByteString", "internal/bytealg.IndexString", "internal/bytealg.CountString"], unfollowed := true, recurses := true, named := ["internal/bytealg.MaxLen"], apart := false, narrowed := true }
def SerialSignsUptoSaid : Prop := serialSignsUptoRow.holds Try.pinned (OpenSpec.upto serialSignsSpec)

end Rows
end Go.Proofs.Ytohkgmnoamfmgaa
