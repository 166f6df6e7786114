/-
  No cell of these rows narrows 'for every input' (looked for: loops, veiled, ifaces, maps, wideKeys, modest, calm, conditions, laid).
  DERIVED. THE GIVEN ROWS OF THIS SEAT. 9 by the template 'for every input the law returns true; each argument reads behind the call as it read before'; 0 by the template 'total and deterministic' (their statements: YtlahejakcgoheaaTotals.lean).
  GIVEN WITH THE SEED: the statements are not yours to turn. If you find one false, say at which input.
  Laid BY PROGRAM, IN A SANDBOX (cutbox-rows.mjs): the forced cells as the released guide's own fill.sh prints them over the translation ccc37c8e79ef2d98… (all of the seat's roots in one cut). By AI agents, Wed Nov 11 2026. No macro, syntax, notation, axiom, sorry.
-/
import Derived.Test.YtlahejakcgoheaaChecked
import GoSem.Claim
import GoSem.ClaimJoined
import GoSem.ClaimMapViews
import Derived.JoinedTies
import Derived.KernelRfl
namespace Go.Proofs.Ytlahejakcgoheaa
/- THE CELL 'sum', in the pinned program and in every row, IS THE sha256 OF THE DUMP (.gsa) THAT YtlahejakcgoheaaProg.lean LOADS. Nothing in Lean hashes anything: it is a label: what it is worth is what the hold of that sum in a sandbox is worth. -/
noncomputable def Try.pinned : Pinned := { name := "ytlahejakcgoheaa", sum := "ccc37c8e79ef2d98e6719eb87c0355bfd357236859f79f3c78447b73ad668618", checked := Try.checked }
namespace Rows
def none {H : Type} : Left H := { results := [], args := [] }

/-- 'venturilaw11.VaultDigests': WHATEVER THE INPUT: true; the input reads as it did. -/
def vaultDigestsSpec : ChangeSpec := { name := "vaultDigests", fn := fun _ => fun
  | [d1, d2, d3] => { results := [.lit (.bool true)], args := [d1, d2, d3] }
  | _ => none }
def vaultDigestsRow : OpenClaim := { program := "ytlahejakcgoheaa", sum := "ccc37c8e79ef2d98e6719eb87c0355bfd357236859f79f3c78447b73ad668618", func := "venturi/venturilaw11.VaultDigests", spec := "vaultDigests", inPlace := ["math/bits.Add64"], named := ["math/bits.divideError", "math/bits.overflowError"], plainKeys := false, apart := false }
def VaultDigestsSaid : Prop := vaultDigestsRow.holds Try.pinned (OpenSpec.ofChange vaultDigestsSpec)

/-- ITS FALSE NEIGHBOUR: 'it returns false'. Refute it at one input. -/
def vaultDigestsWrong : ChangeSpec := { name := "vaultDigests", fn := fun _ => fun
  | [d1, d2, d3] => { results := [.lit (.bool false)], args := [d1, d2, d3] }
  | _ => none }
def VaultDigestsWrongFalsely : Prop := vaultDigestsRow.holds Try.pinned (OpenSpec.ofChange vaultDigestsWrong)

/-- 'venturilaw11.VaultDigestsDiffer': WHATEVER THE INPUT: true; the input reads as it did. -/
def vaultDigestsDifferSpec : ChangeSpec := { name := "vaultDigestsDiffer", fn := fun _ => fun
  | [d1, d2, d3] => { results := [.lit (.bool true)], args := [d1, d2, d3] }
  | _ => none }
def vaultDigestsDifferRow : OpenClaim := { program := "ytlahejakcgoheaa", sum := "ccc37c8e79ef2d98e6719eb87c0355bfd357236859f79f3c78447b73ad668618", func := "venturi/venturilaw11.VaultDigestsDiffer", spec := "vaultDigestsDiffer", inPlace := ["math/bits.Add64"], named := ["math/bits.divideError", "math/bits.overflowError"], plainKeys := false, apart := false }
def VaultDigestsDifferSaid : Prop := vaultDigestsDifferRow.holds Try.pinned (OpenSpec.ofChange vaultDigestsDifferSpec)

/-- ITS FALSE NEIGHBOUR: 'it returns false'. Refute it at one input. -/
def vaultDigestsDifferWrong : ChangeSpec := { name := "vaultDigestsDiffer", fn := fun _ => fun
  | [d1, d2, d3] => { results := [.lit (.bool false)], args := [d1, d2, d3] }
  | _ => none }
def VaultDigestsDifferWrongFalsely : Prop := vaultDigestsDifferRow.holds Try.pinned (OpenSpec.ofChange vaultDigestsDifferWrong)

/-- 'venturilaw11.VaultPlays': WHATEVER THE INPUT: true; the input reads as it did. -/
def vaultPlaysSpec : ChangeSpec := { name := "vaultPlays", fn := fun _ => fun
  | [d] => { results := [.lit (.bool true)], args := [d] }
  | _ => none }
def vaultPlaysRow : OpenClaim := { program := "ytlahejakcgoheaa", sum := "ccc37c8e79ef2d98e6719eb87c0355bfd357236859f79f3c78447b73ad668618", func := "venturi/venturilaw11.VaultPlays", spec := "vaultPlays", inPlace := ["math/bits.Add64"], named := ["math/bits.divideError", "math/bits.overflowError"], plainKeys := false, apart := false }
def VaultPlaysSaid : Prop := vaultPlaysRow.holds Try.pinned (OpenSpec.ofChange vaultPlaysSpec)

/-- ITS FALSE NEIGHBOUR: 'it returns false'. Refute it at one input. -/
def vaultPlaysWrong : ChangeSpec := { name := "vaultPlays", fn := fun _ => fun
  | [d] => { results := [.lit (.bool false)], args := [d] }
  | _ => none }
def VaultPlaysWrongFalsely : Prop := vaultPlaysRow.holds Try.pinned (OpenSpec.ofChange vaultPlaysWrong)

/-- 'venturilaw11.VaultLoads': WHATEVER THE INPUT: true; the input reads as it did. -/
def vaultLoadsSpec : ChangeSpec := { name := "vaultLoads", fn := fun _ => fun
  | [d] => { results := [.lit (.bool true)], args := [d] }
  | _ => none }
def vaultLoadsRow : OpenClaim := { program := "ytlahejakcgoheaa", sum := "ccc37c8e79ef2d98e6719eb87c0355bfd357236859f79f3c78447b73ad668618", func := "venturi/venturilaw11.VaultLoads", spec := "vaultLoads", inPlace := ["math/bits.Add64"], named := ["math/bits.divideError", "math/bits.overflowError"], plainKeys := false, apart := false }
def VaultLoadsSaid : Prop := vaultLoadsRow.holds Try.pinned (OpenSpec.ofChange vaultLoadsSpec)

/-- ITS FALSE NEIGHBOUR: 'it returns false'. Refute it at one input. -/
def vaultLoadsWrong : ChangeSpec := { name := "vaultLoads", fn := fun _ => fun
  | [d] => { results := [.lit (.bool false)], args := [d] }
  | _ => none }
def VaultLoadsWrongFalsely : Prop := vaultLoadsRow.holds Try.pinned (OpenSpec.ofChange vaultLoadsWrong)

/-- 'venturilaw11.VaultNothing': WHATEVER THE INPUT: true; the input reads as it did. -/
def vaultNothingSpec : ChangeSpec := { name := "vaultNothing", fn := fun _ => fun
  | [d] => { results := [.lit (.bool true)], args := [d] }
  | _ => none }
def vaultNothingRow : OpenClaim := { program := "ytlahejakcgoheaa", sum := "ccc37c8e79ef2d98e6719eb87c0355bfd357236859f79f3c78447b73ad668618", func := "venturi/venturilaw11.VaultNothing", spec := "vaultNothing", inPlace := ["math/bits.Add64"], named := ["math/bits.divideError", "math/bits.overflowError"], plainKeys := false, apart := false }
def VaultNothingSaid : Prop := vaultNothingRow.holds Try.pinned (OpenSpec.ofChange vaultNothingSpec)

/-- ITS FALSE NEIGHBOUR: 'it returns false'. Refute it at one input. -/
def vaultNothingWrong : ChangeSpec := { name := "vaultNothing", fn := fun _ => fun
  | [d] => { results := [.lit (.bool false)], args := [d] }
  | _ => none }
def VaultNothingWrongFalsely : Prop := vaultNothingRow.holds Try.pinned (OpenSpec.ofChange vaultNothingWrong)

/-- 'venturilaw11.VaultChangesSeen': WHATEVER THE INPUT: true; the input reads as it did. -/
def vaultChangesSeenSpec : ChangeSpec := { name := "vaultChangesSeen", fn := fun _ => fun
  | [d] => { results := [.lit (.bool true)], args := [d] }
  | _ => none }
def vaultChangesSeenRow : OpenClaim := { program := "ytlahejakcgoheaa", sum := "ccc37c8e79ef2d98e6719eb87c0355bfd357236859f79f3c78447b73ad668618", func := "venturi/venturilaw11.VaultChangesSeen", spec := "vaultChangesSeen", inPlace := ["math/bits.Add64"], named := ["math/bits.divideError", "math/bits.overflowError"], plainKeys := false, apart := false }
def VaultChangesSeenSaid : Prop := vaultChangesSeenRow.holds Try.pinned (OpenSpec.ofChange vaultChangesSeenSpec)

/-- ITS FALSE NEIGHBOUR: 'it returns false'. Refute it at one input. -/
def vaultChangesSeenWrong : ChangeSpec := { name := "vaultChangesSeen", fn := fun _ => fun
  | [d] => { results := [.lit (.bool false)], args := [d] }
  | _ => none }
def VaultChangesSeenWrongFalsely : Prop := vaultChangesSeenRow.holds Try.pinned (OpenSpec.ofChange vaultChangesSeenWrong)

/-- 'venturilaw11.VaultApart': WHATEVER THE INPUT: true; the input reads as it did. -/
def vaultApartSpec : ChangeSpec := { name := "vaultApart", fn := fun _ => fun
  | [d] => { results := [.lit (.bool true)], args := [d] }
  | _ => none }
def vaultApartRow : OpenClaim := { program := "ytlahejakcgoheaa", sum := "ccc37c8e79ef2d98e6719eb87c0355bfd357236859f79f3c78447b73ad668618", func := "venturi/venturilaw11.VaultApart", spec := "vaultApart", inPlace := ["math/bits.Add64"], named := ["math/bits.divideError", "math/bits.overflowError"], plainKeys := false, apart := false }
def VaultApartSaid : Prop := vaultApartRow.holds Try.pinned (OpenSpec.ofChange vaultApartSpec)

/-- ITS FALSE NEIGHBOUR: 'it returns false'. Refute it at one input. -/
def vaultApartWrong : ChangeSpec := { name := "vaultApart", fn := fun _ => fun
  | [d] => { results := [.lit (.bool false)], args := [d] }
  | _ => none }
def VaultApartWrongFalsely : Prop := vaultApartRow.holds Try.pinned (OpenSpec.ofChange vaultApartWrong)

/-- 'venturilaw11.VaultYears': WHATEVER THE INPUT: true; the input reads as it did. -/
def vaultYearsSpec : ChangeSpec := { name := "vaultYears", fn := fun _ => fun
  | [d1, d2] => { results := [.lit (.bool true)], args := [d1, d2] }
  | _ => none }
def vaultYearsRow : OpenClaim := { program := "ytlahejakcgoheaa", sum := "ccc37c8e79ef2d98e6719eb87c0355bfd357236859f79f3c78447b73ad668618", func := "venturi/venturilaw11.VaultYears", spec := "vaultYears", inPlace := ["math/bits.Add64"], named := ["math/bits.divideError", "math/bits.overflowError"], plainKeys := false, apart := false }
def VaultYearsSaid : Prop := vaultYearsRow.holds Try.pinned (OpenSpec.ofChange vaultYearsSpec)

/-- ITS FALSE NEIGHBOUR: 'it returns false'. Refute it at one input. -/
def vaultYearsWrong : ChangeSpec := { name := "vaultYears", fn := fun _ => fun
  | [d1, d2] => { results := [.lit (.bool false)], args := [d1, d2] }
  | _ => none }
def VaultYearsWrongFalsely : Prop := vaultYearsRow.holds Try.pinned (OpenSpec.ofChange vaultYearsWrong)

/-- 'venturilaw11.VaultGivesBack': WHATEVER THE INPUT: true; the input reads as it did. -/
def vaultGivesBackSpec : ChangeSpec := { name := "vaultGivesBack", fn := fun _ => fun
  | [d1, d2, d3] => { results := [.lit (.bool true)], args := [d1, d2, d3] }
  | _ => none }
def vaultGivesBackRow : OpenClaim := { program := "ytlahejakcgoheaa", sum := "ccc37c8e79ef2d98e6719eb87c0355bfd357236859f79f3c78447b73ad668618", func := "venturi/venturilaw11.VaultGivesBack", spec := "vaultGivesBack", inPlace := ["math/bits.Add64"], named := ["math/bits.divideError", "math/bits.overflowError"], plainKeys := false, apart := false }
def VaultGivesBackSaid : Prop := vaultGivesBackRow.holds Try.pinned (OpenSpec.ofChange vaultGivesBackSpec)

/-- ITS FALSE NEIGHBOUR: 'it returns false'. Refute it at one input. -/
def vaultGivesBackWrong : ChangeSpec := { name := "vaultGivesBack", fn := fun _ => fun
  | [d1, d2, d3] => { results := [.lit (.bool false)], args := [d1, d2, d3] }
  | _ => none }
def VaultGivesBackWrongFalsely : Prop := vaultGivesBackRow.holds Try.pinned (OpenSpec.ofChange vaultGivesBackWrong)

/- THE SECOND FORM. 'bulk': how many values and letters a reading holds, each counted each time it is reached (what is shared counts as often as it is met; a slice's spare places count too). A statement '..UptoSaid' is the law's where the arguments, and the package variables that the reading takes, are together of bulk at most 1048576: NARROWER than '..Said'. Prove '..Said' where nothing that the law and all that it calls make is longer than what came in: it says more and counts as full. Else prove '..UptoSaid'. A law counts once. -/
mutual
def uptoBulk {H : Type} : DataW H → Nat
  | .lit (.string bytes) => bytes.length + 1
  | .lit _ => 1
  | .nil => 1
  | .ptr d => uptoBulk d + 1
  | .slice elems spare => uptoBulkAll elems + uptoBulkAll spare + 1
  | .agg parts => uptoBulkAll parts + 1
  | .iface _ d => uptoBulk d + 1
  | .map entries => uptoBulkEntries entries + 1
  | .held _ => 1
def uptoBulkAll {H : Type} : List (DataW H) → Nat
  | [] => 0
  | d :: r => uptoBulk d + uptoBulkAll r
def uptoBulkEntries {H : Type} : List (Lit × DataW H) → Nat
  | [] => 0
  | x :: r => uptoBulkEntry x + uptoBulkEntries r
def uptoBulkEntry {H : Type} : Lit × DataW H → Nat
  | (.string bytes, d) => bytes.length + uptoBulk d + 1
  | (_, d) => uptoBulk d + 1
 end
def uptoSmall : (H : Type) → List (DataW H) → Bool := fun _ ds => decide (uptoBulkAll ds ≤ 1048576)
def OpenSpec.upto (s : _root_.Go.ChangeSpec) : _root_.Go.OpenSpec := { _root_.Go.OpenSpec.ofChange s with cond := some uptoSmall }

/-- 'venturilaw11.VaultDigests', WHERE WHAT IT READS IS OF BULK AT MOST 1048576: true; the input reads as it did. -/
def vaultDigestsUptoRow : OpenClaim := { program := "ytlahejakcgoheaa", sum := "ccc37c8e79ef2d98e6719eb87c0355bfd357236859f79f3c78447b73ad668618", func := "venturi/venturilaw11.VaultDigests", spec := "vaultDigests", inPlace := ["math/bits.Add64"], named := ["math/bits.divideError", "math/bits.overflowError"], plainKeys := false, apart := false, narrowed := true }
def VaultDigestsUptoSaid : Prop := vaultDigestsUptoRow.holds Try.pinned (OpenSpec.upto vaultDigestsSpec)

/-- 'venturilaw11.VaultDigestsDiffer', WHERE WHAT IT READS IS OF BULK AT MOST 1048576: true; the input reads as it did. -/
def vaultDigestsDifferUptoRow : OpenClaim := { program := "ytlahejakcgoheaa", sum := "ccc37c8e79ef2d98e6719eb87c0355bfd357236859f79f3c78447b73ad668618", func := "venturi/venturilaw11.VaultDigestsDiffer", spec := "vaultDigestsDiffer", inPlace := ["math/bits.Add64"], named := ["math/bits.divideError", "math/bits.overflowError"], plainKeys := false, apart := false, narrowed := true }
def VaultDigestsDifferUptoSaid : Prop := vaultDigestsDifferUptoRow.holds Try.pinned (OpenSpec.upto vaultDigestsDifferSpec)

/-- 'venturilaw11.VaultPlays', WHERE WHAT IT READS IS OF BULK AT MOST 1048576: true; the input reads as it did. -/
def vaultPlaysUptoRow : OpenClaim := { program := "ytlahejakcgoheaa", sum := "ccc37c8e79ef2d98e6719eb87c0355bfd357236859f79f3c78447b73ad668618", func := "venturi/venturilaw11.VaultPlays", spec := "vaultPlays", inPlace := ["math/bits.Add64"], named := ["math/bits.divideError", "math/bits.overflowError"], plainKeys := false, apart := false, narrowed := true }
def VaultPlaysUptoSaid : Prop := vaultPlaysUptoRow.holds Try.pinned (OpenSpec.upto vaultPlaysSpec)

/-- 'venturilaw11.VaultLoads', WHERE WHAT IT READS IS OF BULK AT MOST 1048576: true; the input reads as it did. -/
def vaultLoadsUptoRow : OpenClaim := { program := "ytlahejakcgoheaa", sum := "ccc37c8e79ef2d98e6719eb87c0355bfd357236859f79f3c78447b73ad668618", func := "venturi/venturilaw11.VaultLoads", spec := "vaultLoads", inPlace := ["math/bits.Add64"], named := ["math/bits.divideError", "math/bits.overflowError"], plainKeys := false, apart := false, narrowed := true }
def VaultLoadsUptoSaid : Prop := vaultLoadsUptoRow.holds Try.pinned (OpenSpec.upto vaultLoadsSpec)

/-- 'venturilaw11.VaultNothing', WHERE WHAT IT READS IS OF BULK AT MOST 1048576: true; the input reads as it did. -/
def vaultNothingUptoRow : OpenClaim := { program := "ytlahejakcgoheaa", sum := "ccc37c8e79ef2d98e6719eb87c0355bfd357236859f79f3c78447b73ad668618", func := "venturi/venturilaw11.VaultNothing", spec := "vaultNothing", inPlace := ["math/bits.Add64"], named := ["math/bits.divideError", "math/bits.overflowError"], plainKeys := false, apart := false, narrowed := true }
def VaultNothingUptoSaid : Prop := vaultNothingUptoRow.holds Try.pinned (OpenSpec.upto vaultNothingSpec)

/-- 'venturilaw11.VaultChangesSeen', WHERE WHAT IT READS IS OF BULK AT MOST 1048576: true; the input reads as it did. -/
def vaultChangesSeenUptoRow : OpenClaim := { program := "ytlahejakcgoheaa", sum := "ccc37c8e79ef2d98e6719eb87c0355bfd357236859f79f3c78447b73ad668618", func := "venturi/venturilaw11.VaultChangesSeen", spec := "vaultChangesSeen", inPlace := ["math/bits.Add64"], named := ["math/bits.divideError", "math/bits.overflowError"], plainKeys := false, apart := false, narrowed := true }
def VaultChangesSeenUptoSaid : Prop := vaultChangesSeenUptoRow.holds Try.pinned (OpenSpec.upto vaultChangesSeenSpec)

/-- 'venturilaw11.VaultApart', WHERE WHAT IT READS IS OF BULK AT MOST 1048576: true; the input reads as it did. -/
def vaultApartUptoRow : OpenClaim := { program := "ytlahejakcgoheaa", sum := "ccc37c8e79ef2d98e6719eb87c0355bfd357236859f79f3c78447b73ad668618", func := "venturi/venturilaw11.VaultApart", spec := "vaultApart", inPlace := ["math/bits.Add64"], named := ["math/bits.divideError", "math/bits.overflowError"], plainKeys := false, apart := false, narrowed := true }
def VaultApartUptoSaid : Prop := vaultApartUptoRow.holds Try.pinned (OpenSpec.upto vaultApartSpec)

/-- 'venturilaw11.VaultYears', WHERE WHAT IT READS IS OF BULK AT MOST 1048576: true; the input reads as it did. -/
def vaultYearsUptoRow : OpenClaim := { program := "ytlahejakcgoheaa", sum := "ccc37c8e79ef2d98e6719eb87c0355bfd357236859f79f3c78447b73ad668618", func := "venturi/venturilaw11.VaultYears", spec := "vaultYears", inPlace := ["math/bits.Add64"], named := ["math/bits.divideError", "math/bits.overflowError"], plainKeys := false, apart := false, narrowed := true }
def VaultYearsUptoSaid : Prop := vaultYearsUptoRow.holds Try.pinned (OpenSpec.upto vaultYearsSpec)

/-- 'venturilaw11.VaultGivesBack', WHERE WHAT IT READS IS OF BULK AT MOST 1048576: true; the input reads as it did. -/
def vaultGivesBackUptoRow : OpenClaim := { program := "ytlahejakcgoheaa", sum := "ccc37c8e79ef2d98e6719eb87c0355bfd357236859f79f3c78447b73ad668618", func := "venturi/venturilaw11.VaultGivesBack", spec := "vaultGivesBack", inPlace := ["math/bits.Add64"], named := ["math/bits.divideError", "math/bits.overflowError"], plainKeys := false, apart := false, narrowed := true }
def VaultGivesBackUptoSaid : Prop := vaultGivesBackUptoRow.holds Try.pinned (OpenSpec.upto vaultGivesBackSpec)

end Rows
end Go.Proofs.Ytlahejakcgoheaa
