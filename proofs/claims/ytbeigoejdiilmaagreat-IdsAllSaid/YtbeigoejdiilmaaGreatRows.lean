/-
  No cell of these rows narrows 'for every input' (looked for: loops, veiled, ifaces, maps, wideKeys, modest, calm, conditions, laid).
  DERIVED. THE GIVEN ROWS OF THIS SEAT. 4 by the template 'for every input the law returns true; each argument reads behind the call as it read before'; 0 by the template 'total and deterministic' (their statements: YtbeigoejdiilmaaGreatTotals.lean).
  GIVEN WITH THE SEED: the statements are not yours to turn. If you find one false, say at which input.
  Laid BY PROGRAM, IN A SANDBOX (cutbox-rows.mjs): the forced cells as the released guide's own fill.sh prints them over the translation 59d49fd1d6b7ca59… (all of the seat's roots in one cut). By AI agents, Wed Nov 11 2026. No macro, syntax, notation, axiom, sorry.
-/
import Derived.Test.YtbeigoejdiilmaaGreatChecked
import GoSem.Claim
import GoSem.ClaimJoined
import GoSem.ClaimMapViews
import Derived.JoinedTies
import Derived.KernelRfl
namespace Go.Proofs.YtbeigoejdiilmaaGreat
/- THE CELL 'sum', in the pinned program and in every row, IS THE sha256 OF THE DUMP (.gsa) THAT YtbeigoejdiilmaaGreatProg.lean LOADS. Nothing in Lean hashes anything: it is a label: what it is worth is what the hold of that sum in a sandbox is worth. -/
noncomputable def Tryz.pinned : Pinned := { name := "ytbeigoejdiilmaagreat", sum := "59d49fd1d6b7ca5966854952be41c542b75fff40e654f626e6b5fafea522261d", checked := Tryz.checked }
namespace Rows
def none {H : Type} : Left H := { results := [], args := [] }

/-- 'hoardinglaw42.DocsTell': WHATEVER THE INPUT: true; the input reads as it did. -/
def docsTellSpec : ChangeSpec := { name := "docsTell", fn := fun _ => fun
  | [d1, d2] => { results := [.lit (.bool true)], args := [d1, d2] }
  | _ => none }
def docsTellRow : OpenClaim := { program := "ytbeigoejdiilmaagreat", sum := "59d49fd1d6b7ca5966854952be41c542b75fff40e654f626e6b5fafea522261d", func := "hoarding/hoardinglaw42.DocsTell", spec := "docsTell", unfollowed := true, recurses := true, apart := false }
def DocsTellSaid : Prop := docsTellRow.holds Tryz.pinned (OpenSpec.ofChange docsTellSpec)

/-- ITS FALSE NEIGHBOUR: 'it returns false'. Refute it at one input. -/
def docsTellWrong : ChangeSpec := { name := "docsTell", fn := fun _ => fun
  | [d1, d2] => { results := [.lit (.bool false)], args := [d1, d2] }
  | _ => none }
def DocsTellWrongFalsely : Prop := docsTellRow.holds Tryz.pinned (OpenSpec.ofChange docsTellWrong)

/-- 'hoardinglaw42.DocsHave': WHATEVER THE INPUT: true; the input reads as it did. -/
def docsHaveSpec : ChangeSpec := { name := "docsHave", fn := fun _ => fun
  | [d1, d2] => { results := [.lit (.bool true)], args := [d1, d2] }
  | _ => none }
def docsHaveRow : OpenClaim := { program := "ytbeigoejdiilmaagreat", sum := "59d49fd1d6b7ca5966854952be41c542b75fff40e654f626e6b5fafea522261d", func := "hoarding/hoardinglaw42.DocsHave", spec := "docsHave", unfollowed := true, recurses := true, apart := false }
def DocsHaveSaid : Prop := docsHaveRow.holds Tryz.pinned (OpenSpec.ofChange docsHaveSpec)

/-- ITS FALSE NEIGHBOUR: 'it returns false'. Refute it at one input. -/
def docsHaveWrong : ChangeSpec := { name := "docsHave", fn := fun _ => fun
  | [d1, d2] => { results := [.lit (.bool false)], args := [d1, d2] }
  | _ => none }
def DocsHaveWrongFalsely : Prop := docsHaveRow.holds Tryz.pinned (OpenSpec.ofChange docsHaveWrong)

/-- 'hoardinglaw35.IdsFirst': WHATEVER THE INPUT: true; the input reads as it did. -/
def idsFirstSpec : ChangeSpec := { name := "idsFirst", fn := fun _ => fun
  | [d] => { results := [.lit (.bool true)], args := [d] }
  | _ => none }
def idsFirstRow : OpenClaim := { program := "ytbeigoejdiilmaagreat", sum := "59d49fd1d6b7ca5966854952be41c542b75fff40e654f626e6b5fafea522261d", func := "hoarding/hoardinglaw35.IdsFirst", spec := "idsFirst", unfollowed := true, recurses := true, apart := false }
def IdsFirstSaid : Prop := idsFirstRow.holds Tryz.pinned (OpenSpec.ofChange idsFirstSpec)

/-- ITS FALSE NEIGHBOUR: 'it returns false'. Refute it at one input. -/
def idsFirstWrong : ChangeSpec := { name := "idsFirst", fn := fun _ => fun
  | [d] => { results := [.lit (.bool false)], args := [d] }
  | _ => none }
def IdsFirstWrongFalsely : Prop := idsFirstRow.holds Tryz.pinned (OpenSpec.ofChange idsFirstWrong)

/-- 'hoardinglaw35.IdsAll': WHATEVER THE INPUT: true; the input reads as it did. -/
def idsAllSpec : ChangeSpec := { name := "idsAll", fn := fun _ => fun
  | [d] => { results := [.lit (.bool true)], args := [d] }
  | _ => none }
def idsAllRow : OpenClaim := { program := "ytbeigoejdiilmaagreat", sum := "59d49fd1d6b7ca5966854952be41c542b75fff40e654f626e6b5fafea522261d", func := "hoarding/hoardinglaw35.IdsAll", spec := "idsAll", unfollowed := true, recurses := true, apart := false }
def IdsAllSaid : Prop := idsAllRow.holds Tryz.pinned (OpenSpec.ofChange idsAllSpec)

/-- ITS FALSE NEIGHBOUR: 'it returns false'. Refute it at one input. -/
def idsAllWrong : ChangeSpec := { name := "idsAll", fn := fun _ => fun
  | [d] => { results := [.lit (.bool false)], args := [d] }
  | _ => none }
def IdsAllWrongFalsely : Prop := idsAllRow.holds Tryz.pinned (OpenSpec.ofChange idsAllWrong)

/- THE SECOND FORM. 'bulk': how many values and letters a reading holds, each counted each time it is reached (what is shared counts as often as it is met; a slice's spare places count too). A statement '..UptoSaid' is the law's where the arguments, and the package variables that the reading takes, are together of bulk at most 1048576: NARROWER than '..Said'. Prove '..Said' where nothing that the law and all that it calls make is longer than what came in: it says more and counts as full. Else prove '..UptoSaid'. A law counts once. -/
mutual
def uptoBulk {H : Type} : DataW H → Nat
  | .lit (.string bytes) => bytes.length + 1
  | .lit _ => 1
  | .nil => 1
  | .ptr d => uptoBulk d + 1
  | .slice elems spare => uptoBulkAll elems + uptoBulkAll spare + 1
  | .agg parts => uptoBulkAll parts + 1
  | .iface _ d => uptoBulk d + 1
  | .map entries => uptoBulkEntries entries + 1
  | .held _ => 1
def uptoBulkAll {H : Type} : List (DataW H) → Nat
  | [] => 0
  | d :: r => uptoBulk d + uptoBulkAll r
def uptoBulkEntries {H : Type} : List (Lit × DataW H) → Nat
  | [] => 0
  | x :: r => uptoBulkEntry x + uptoBulkEntries r
def uptoBulkEntry {H : Type} : Lit × DataW H → Nat
  | (.string bytes, d) => bytes.length + uptoBulk d + 1
  | (_, d) => uptoBulk d + 1
 end
def uptoSmall : (H : Type) → List (DataW H) → Bool := fun _ ds => decide (uptoBulkAll ds ≤ 1048576)
def OpenSpec.upto (s : _root_.Go.ChangeSpec) : _root_.Go.OpenSpec := { _root_.Go.OpenSpec.ofChange s with cond := some uptoSmall }

/-- 'hoardinglaw42.DocsTell', WHERE WHAT IT READS IS OF BULK AT MOST 1048576: true; the input reads as it did. -/
def docsTellUptoRow : OpenClaim := { program := "ytbeigoejdiilmaagreat", sum := "59d49fd1d6b7ca5966854952be41c542b75fff40e654f626e6b5fafea522261d", func := "hoarding/hoardinglaw42.DocsTell", spec := "docsTell", unfollowed := true, recurses := true, apart := false, narrowed := true }
def DocsTellUptoSaid : Prop := docsTellUptoRow.holds Tryz.pinned (OpenSpec.upto docsTellSpec)

/-- 'hoardinglaw42.DocsHave', WHERE WHAT IT READS IS OF BULK AT MOST 1048576: true; the input reads as it did. -/
def docsHaveUptoRow : OpenClaim := { program := "ytbeigoejdiilmaagreat", sum := "59d49fd1d6b7ca5966854952be41c542b75fff40e654f626e6b5fafea522261d", func := "hoarding/hoardinglaw42.DocsHave", spec := "docsHave", unfollowed := true, recurses := true, apart := false, narrowed := true }
def DocsHaveUptoSaid : Prop := docsHaveUptoRow.holds Tryz.pinned (OpenSpec.upto docsHaveSpec)

/-- 'hoardinglaw35.IdsFirst', WHERE WHAT IT READS IS OF BULK AT MOST 1048576: true; the input reads as it did. -/
def idsFirstUptoRow : OpenClaim := { program := "ytbeigoejdiilmaagreat", sum := "59d49fd1d6b7ca5966854952be41c542b75fff40e654f626e6b5fafea522261d", func := "hoarding/hoardinglaw35.IdsFirst", spec := "idsFirst", unfollowed := true, recurses := true, apart := false, narrowed := true }
def IdsFirstUptoSaid : Prop := idsFirstUptoRow.holds Tryz.pinned (OpenSpec.upto idsFirstSpec)

/-- 'hoardinglaw35.IdsAll', WHERE WHAT IT READS IS OF BULK AT MOST 1048576: true; the input reads as it did. -/
def idsAllUptoRow : OpenClaim := { program := "ytbeigoejdiilmaagreat", sum := "59d49fd1d6b7ca5966854952be41c542b75fff40e654f626e6b5fafea522261d", func := "hoarding/hoardinglaw35.IdsAll", spec := "idsAll", unfollowed := true, recurses := true, apart := false, narrowed := true }
def IdsAllUptoSaid : Prop := idsAllUptoRow.holds Tryz.pinned (OpenSpec.upto idsAllSpec)

end Rows
end Go.Proofs.YtbeigoejdiilmaaGreat
