/-
  No cell of these rows narrows 'for every input' (looked for: loops, veiled, ifaces, maps, wideKeys, modest, calm, conditions, laid).
  DERIVED. THE GIVEN ROWS OF THIS SEAT. 5 by the template 'for every input the law returns true; each argument reads behind the call as it read before'; 0 by the template 'total and deterministic' (their statements: YtpkplilgjdbhhaaTotals.lean).
  GIVEN WITH THE SEED: the statements are not yours to turn. If you find one false, say at which input.
  Laid BY PROGRAM, IN A SANDBOX (cutbox-rows.mjs): the forced cells as the released guide's own fill.sh prints them over the translation f7e51aa15d2f6f39… (all of the seat's roots in one cut). By AI agents, Wed Nov 11 2026. No macro, syntax, notation, axiom, sorry.
-/
import Derived.Test.YtpkplilgjdbhhaaChecked
import GoSem.Claim
import GoSem.ClaimJoined
import GoSem.ClaimMapViews
import Derived.JoinedTies
import Derived.KernelRfl
namespace Go.Proofs.Ytpkplilgjdbhhaa
/- THE CELL 'sum', in the pinned program and in every row, IS THE sha256 OF THE DUMP (.gsa) THAT YtpkplilgjdbhhaaProg.lean LOADS. Nothing in Lean hashes anything: it is a label: what it is worth is what the hold of that sum in a sandbox is worth. -/
noncomputable def Try.pinned : Pinned := { name := "ytpkplilgjdbhhaa", sum := "f7e51aa15d2f6f397de2a6609538304ac85ba745214820a4a8d7674dbdfafe1f", checked := Try.checked }
namespace Rows
def none {H : Type} : Left H := { results := [], args := [] }

/-- 'hoardinglaw10.RawFinds': WHATEVER THE INPUT: true; the input reads as it did. -/
def rawFindsSpec : ChangeSpec := { name := "rawFinds", fn := fun _ => fun
  | [d1, d2, d3] => { results := [.lit (.bool true)], args := [d1, d2, d3] }
  | _ => none }
def rawFindsRow : OpenClaim := { program := "ytpkplilgjdbhhaa", sum := "f7e51aa15d2f6f397de2a6609538304ac85ba745214820a4a8d7674dbdfafe1f", func := "hoarding/hoardinglaw10.RawFinds", spec := "rawFinds", inPlace := ["internal/bytealg.IndexByteString", "internal/bytealg.IndexString"], named := ["internal/bytealg.MaxLen"], apart := false }
def RawFindsSaid : Prop := rawFindsRow.holds Try.pinned (OpenSpec.ofChange rawFindsSpec)

/-- ITS FALSE NEIGHBOUR: 'it returns false'. Refute it at one input. -/
def rawFindsWrong : ChangeSpec := { name := "rawFinds", fn := fun _ => fun
  | [d1, d2, d3] => { results := [.lit (.bool false)], args := [d1, d2, d3] }
  | _ => none }
def RawFindsWrongFalsely : Prop := rawFindsRow.holds Try.pinned (OpenSpec.ofChange rawFindsWrong)

/-- 'hoardinglaw10.RawStands': WHATEVER THE INPUT: true; the input reads as it did. -/
def rawStandsSpec : ChangeSpec := { name := "rawStands", fn := fun _ => fun
  | [d1, d2, d3] => { results := [.lit (.bool true)], args := [d1, d2, d3] }
  | _ => none }
def rawStandsRow : OpenClaim := { program := "ytpkplilgjdbhhaa", sum := "f7e51aa15d2f6f397de2a6609538304ac85ba745214820a4a8d7674dbdfafe1f", func := "hoarding/hoardinglaw10.RawStands", spec := "rawStands", inPlace := ["internal/bytealg.IndexByteString", "internal/bytealg.IndexString"], named := ["internal/bytealg.MaxLen"], apart := false }
def RawStandsSaid : Prop := rawStandsRow.holds Try.pinned (OpenSpec.ofChange rawStandsSpec)

/-- ITS FALSE NEIGHBOUR: 'it returns false'. Refute it at one input. -/
def rawStandsWrong : ChangeSpec := { name := "rawStands", fn := fun _ => fun
  | [d1, d2, d3] => { results := [.lit (.bool false)], args := [d1, d2, d3] }
  | _ => none }
def RawStandsWrongFalsely : Prop := rawStandsRow.holds Try.pinned (OpenSpec.ofChange rawStandsWrong)

/-- 'hoardinglaw27.SerialTells': WHATEVER THE INPUT: true; the input reads as it did. -/
def serialTellsSpec : ChangeSpec := { name := "serialTells", fn := fun _ => fun
  | [d1, d2, d3] => { results := [.lit (.bool true)], args := [d1, d2, d3] }
  | _ => none }
def serialTellsRow : OpenClaim := { program := "ytpkplilgjdbhhaa", sum := "f7e51aa15d2f6f397de2a6609538304ac85ba745214820a4a8d7674dbdfafe1f", func := "hoarding/hoardinglaw27.SerialTells", spec := "serialTells", inPlace := ["slices.overlaps[int]", "internal/abi.NoEscape", "internal/bytealg.IndexByteString", "internal/bytealg.IndexString"], unfollowed := true, recurses := true, named := ["internal/bytealg.MaxLen"], apart := false }
def SerialTellsSaid : Prop := serialTellsRow.holds Try.pinned (OpenSpec.ofChange serialTellsSpec)

/-- ITS FALSE NEIGHBOUR: 'it returns false'. Refute it at one input. -/
def serialTellsWrong : ChangeSpec := { name := "serialTells", fn := fun _ => fun
  | [d1, d2, d3] => { results := [.lit (.bool false)], args := [d1, d2, d3] }
  | _ => none }
def SerialTellsWrongFalsely : Prop := serialTellsRow.holds Try.pinned (OpenSpec.ofChange serialTellsWrong)

/-- 'hoardinglaw27.SerialJoins': WHATEVER THE INPUT: true; the input reads as it did. -/
def serialJoinsSpec : ChangeSpec := { name := "serialJoins", fn := fun _ => fun
  | [d] => { results := [.lit (.bool true)], args := [d] }
  | _ => none }
def serialJoinsRow : OpenClaim := { program := "ytpkplilgjdbhhaa", sum := "f7e51aa15d2f6f397de2a6609538304ac85ba745214820a4a8d7674dbdfafe1f", func := "hoarding/hoardinglaw27.SerialJoins", spec := "serialJoins", inPlace := ["slices.overlaps[int]", "internal/abi.NoEscape", "internal/bytealg.IndexByteString", "internal/bytealg.IndexString"], unfollowed := true, recurses := true, named := ["internal/bytealg.MaxLen"], apart := false }
def SerialJoinsSaid : Prop := serialJoinsRow.holds Try.pinned (OpenSpec.ofChange serialJoinsSpec)

/-- ITS FALSE NEIGHBOUR: 'it returns false'. Refute it at one input. -/
def serialJoinsWrong : ChangeSpec := { name := "serialJoins", fn := fun _ => fun
  | [d] => { results := [.lit (.bool false)], args := [d] }
  | _ => none }
def SerialJoinsWrongFalsely : Prop := serialJoinsRow.holds Try.pinned (OpenSpec.ofChange serialJoinsWrong)

/-- 'hoardinglaw27.SerialSigns': WHATEVER THE INPUT: true; the input reads as it did. -/
def serialSignsSpec : ChangeSpec := { name := "serialSigns", fn := fun _ => fun
  | [d] => { results := [.lit (.bool true)], args := [d] }
  | _ => none }
def serialSignsRow : OpenClaim := { program := "ytpkplilgjdbhhaa", sum := "f7e51aa15d2f6f397de2a6609538304ac85ba745214820a4a8d7674dbdfafe1f", func := "hoarding/hoardinglaw27.SerialSigns", spec := "serialSigns", inPlace := ["slices.overlaps[int]", "internal/abi.NoEscape", "internal/bytealg.IndexByteString", "internal/bytealg.IndexString", "internal/bytealg.CountString"], unfollowed := true, recurses := true, named := ["internal/bytealg.MaxLen"], apart := false }
def SerialSignsSaid : Prop := serialSignsRow.holds Try.pinned (OpenSpec.ofChange serialSignsSpec)

/-- ITS FALSE NEIGHBOUR: 'it returns false'. Refute it at one input. -/
def serialSignsWrong : ChangeSpec := { name := "serialSigns", fn := fun _ => fun
  | [d] => { results := [.lit (.bool false)], args := [d] }
  | _ => none }
def SerialSignsWrongFalsely : Prop := serialSignsRow.holds Try.pinned (OpenSpec.ofChange serialSignsWrong)

/- THE SECOND FORM. 'bulk': how many values and letters a reading holds, each counted each time it is reached (what is shared counts as often as it is met; a slice's spare places count too). A statement '..UptoSaid' is the law's where the arguments, and the package variables that the reading takes, are together of bulk at most 1048576: NARROWER than '..Said'. Prove '..Said' where nothing that the law and all that it calls make is longer than what came in: it says more and counts as full. Else prove '..UptoSaid'. A law counts once. -/
mutual
def uptoBulk {H : Type} : DataW H → Nat
  | .lit (.string bytes) => bytes.length + 1
  | .lit _ => 1
  | .nil => 1
  | .ptr d => uptoBulk d + 1
  | .slice elems spare => uptoBulkAll elems + uptoBulkAll spare + 1
  | .agg parts => uptoBulkAll parts + 1
  | .iface _ d => uptoBulk d + 1
  | .map entries => uptoBulkEntries entries + 1
  | .held _ => 1
def uptoBulkAll {H : Type} : List (DataW H) → Nat
  | [] => 0
  | d :: r => uptoBulk d + uptoBulkAll r
def uptoBulkEntries {H : Type} : List (Lit × DataW H) → Nat
  | [] => 0
  | x :: r => uptoBulkEntry x + uptoBulkEntries r
def uptoBulkEntry {H : Type} : Lit × DataW H → Nat
  | (.string bytes, d) => bytes.length + uptoBulk d + 1
  | (_, d) => uptoBulk d + 1
 end
def uptoSmall : (H : Type) → List (DataW H) → Bool := fun _ ds => decide (uptoBulkAll ds ≤ 1048576)
def OpenSpec.upto (s : _root_.Go.ChangeSpec) : _root_.Go.OpenSpec := { _root_.Go.OpenSpec.ofChange s with cond := some uptoSmall }

/-- 'hoardinglaw10.RawFinds', WHERE WHAT IT READS IS OF BULK AT MOST 1048576: true; the input reads as it did. -/
def rawFindsUptoRow : OpenClaim := { program := "ytpkplilgjdbhhaa", sum := "f7e51aa15d2f6f397de2a6609538304ac85ba745214820a4a8d7674dbdfafe1f", func := "hoarding/hoardinglaw10.RawFinds", spec := "rawFinds", inPlace := ["internal/bytealg.IndexByteString", "internal/bytealg.IndexString"], named := ["internal/bytealg.MaxLen"], apart := false, narrowed := true }
def RawFindsUptoSaid : Prop := rawFindsUptoRow.holds Try.pinned (OpenSpec.upto rawFindsSpec)

/-- 'hoardinglaw10.RawStands', WHERE WHAT IT READS IS OF BULK AT MOST 1048576: true; the input reads as it did. -/
def rawStandsUptoRow : OpenClaim := { program := "ytpkplilgjdbhhaa", sum := "f7e51aa15d2f6f397de2a6609538304ac85ba745214820a4a8d7674dbdfafe1f", func := "hoarding/hoardinglaw10.RawStands", spec := "rawStands", inPlace := ["internal/bytealg.IndexByteString", "internal/bytealg.IndexString"], named := ["internal/bytealg.MaxLen"], apart := false, narrowed := true }
def RawStandsUptoSaid : Prop := rawStandsUptoRow.holds Try.pinned (OpenSpec.upto rawStandsSpec)

/-- 'hoardinglaw27.SerialTells', WHERE WHAT IT READS IS OF BULK AT MOST 1048576: true; the input reads as it did. -/
def serialTellsUptoRow : OpenClaim := { program := "ytpkplilgjdbhhaa", sum := "f7e51aa15d2f6f397de2a6609538304ac85ba745214820a4a8d7674dbdfafe1f", func := "hoarding/hoardinglaw27.SerialTells", spec := "serialTells", inPlace := ["slices.overlaps[int]", "internal/abi.NoEscape", "internal/bytealg.IndexByteString", "internal/bytealg.IndexString"], unfollowed := true, recurses := true, named := ["internal/bytealg.MaxLen"], apart := false, narrowed := true }
def SerialTellsUptoSaid : Prop := serialTellsUptoRow.holds Try.pinned (OpenSpec.upto serialTellsSpec)

/-- 'hoardinglaw27.SerialJoins', WHERE WHAT IT READS IS OF BULK AT MOST 1048576: true; the input reads as it did. -/
def serialJoinsUptoRow : OpenClaim := { program := "ytpkplilgjdbhhaa", sum := "f7e51aa15d2f6f397de2a6609538304ac85ba745214820a4a8d7674dbdfafe1f", func := "hoarding/hoardinglaw27.SerialJoins", spec := "serialJoins", inPlace := ["slices.overlaps[int]", "internal/abi.NoEscape", "internal/bytealg.IndexByteString", "internal/bytealg.IndexString"], unfollowed := true, recurses := true, named := ["internal/bytealg.MaxLen"], apart := false, narrowed := true }
def SerialJoinsUptoSaid : Prop := serialJoinsUptoRow.holds Try.pinned (OpenSpec.upto serialJoinsSpec)

/-- 'hoardinglaw27.SerialSigns', WHERE WHAT IT READS IS OF BULK AT MOST 1048576: true; the input reads as it did. -/
def serialSignsUptoRow : OpenClaim := { program := "ytpkplilgjdbhhaa", sum := "f7e51aa15d2f6f397de2a6609538304ac85ba745214820a4a8d7674dbdfafe1f", func := "hoarding/hoardinglaw27.SerialSigns", spec := "serialSigns", inPlace := ["slices.overlaps[int]", "internal/abi.NoEscape", "internal/bytealg.IndexByteString", "internal/bytealg.IndexString", "internal/bytealg.CountString"], unfollowed := true, recurses := true, named := ["internal/bytealg.MaxLen"], apart := false, narrowed := true }
def SerialSignsUptoSaid : Prop := serialSignsUptoRow.holds Try.pinned (OpenSpec.upto serialSignsSpec)

end Rows
end Go.Proofs.Ytpkplilgjdbhhaa
