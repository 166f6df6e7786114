/-
  No cell of these rows narrows 'for every input' (looked for: loops, veiled, ifaces, maps, wideKeys, modest, calm, conditions, laid).
  DERIVED. THE GIVEN ROWS OF THIS SEAT. 12 by the template 'for every input the law returns true; each argument reads behind the call as it read before'; 0 by the template 'total and deterministic' (their statements: YtplbofhgmflnlaaGreatTotals.lean).
  GIVEN WITH THE SEED: the statements are not yours to turn. If you find one false, say at which input.
  Laid BY PROGRAM, IN A SANDBOX (cutbox-rows.mjs): the forced cells as the released guide's own fill.sh prints them over the translation b4189d7025ab8dae… (all of the seat's roots in one cut). By AI agents, Wed Nov 11 2026. No macro, syntax, notation, axiom, sorry.
-/
import Derived.Test.YtplbofhgmflnlaaGreatChecked
import GoSem.Claim
import GoSem.ClaimJoined
import GoSem.ClaimMapViews
import Derived.JoinedTies
import Derived.KernelRfl
namespace Go.Proofs.YtplbofhgmflnlaaGreat
/- THE CELL 'sum', in the pinned program and in every row, IS THE sha256 OF THE DUMP (.gsa) THAT YtplbofhgmflnlaaGreatProg.lean LOADS. Nothing in Lean hashes anything: it is a label: what it is worth is what the hold of that sum in a sandbox is worth. -/
noncomputable def Tryz.pinned : Pinned := { name := "ytplbofhgmflnlaagreat", sum := "b4189d7025ab8dae7a2dede163f5e44d41988e03d48b42adfc68fe897932c557", checked := Tryz.checked }
namespace Rows
def none {H : Type} : Left H := { results := [], args := [] }

/-- 'venturilaw06.MatrixNoneCheaper': WHATEVER THE INPUT: true; the input reads as it did. -/
def matrixNoneCheaperSpec : ChangeSpec := { name := "matrixNoneCheaper", fn := fun _ => fun
  | [d1, d2, d3] => { results := [.lit (.bool true)], args := [d1, d2, d3] }
  | _ => none }
def matrixNoneCheaperRow : OpenClaim := { program := "ytplbofhgmflnlaagreat", sum := "b4189d7025ab8dae7a2dede163f5e44d41988e03d48b42adfc68fe897932c557", func := "venturi/venturilaw06.MatrixNoneCheaper", spec := "matrixNoneCheaper", unfollowed := true, recurses := true, plainKeys := false, apart := false }
def MatrixNoneCheaperSaid : Prop := matrixNoneCheaperRow.holds Tryz.pinned (OpenSpec.ofChange matrixNoneCheaperSpec)

/-- ITS FALSE NEIGHBOUR: 'it returns false'. Refute it at one input. -/
def matrixNoneCheaperWrong : ChangeSpec := { name := "matrixNoneCheaper", fn := fun _ => fun
  | [d1, d2, d3] => { results := [.lit (.bool false)], args := [d1, d2, d3] }
  | _ => none }
def MatrixNoneCheaperWrongFalsely : Prop := matrixNoneCheaperRow.holds Tryz.pinned (OpenSpec.ofChange matrixNoneCheaperWrong)

/-- 'venturilaw06.MatrixMixes': WHATEVER THE INPUT: true; the input reads as it did. -/
def matrixMixesSpec : ChangeSpec := { name := "matrixMixes", fn := fun _ => fun
  | [d1, d2] => { results := [.lit (.bool true)], args := [d1, d2] }
  | _ => none }
def matrixMixesRow : OpenClaim := { program := "ytplbofhgmflnlaagreat", sum := "b4189d7025ab8dae7a2dede163f5e44d41988e03d48b42adfc68fe897932c557", func := "venturi/venturilaw06.MatrixMixes", spec := "matrixMixes", unfollowed := true, recurses := true, plainKeys := false, apart := false }
def MatrixMixesSaid : Prop := matrixMixesRow.holds Tryz.pinned (OpenSpec.ofChange matrixMixesSpec)

/-- ITS FALSE NEIGHBOUR: 'it returns false'. Refute it at one input. -/
def matrixMixesWrong : ChangeSpec := { name := "matrixMixes", fn := fun _ => fun
  | [d1, d2] => { results := [.lit (.bool false)], args := [d1, d2] }
  | _ => none }
def MatrixMixesWrongFalsely : Prop := matrixMixesRow.holds Tryz.pinned (OpenSpec.ofChange matrixMixesWrong)

/-- 'venturilaw06.MatrixShuffles': WHATEVER THE INPUT: true; the input reads as it did. -/
def matrixShufflesSpec : ChangeSpec := { name := "matrixShuffles", fn := fun _ => fun
  | [d1, d2] => { results := [.lit (.bool true)], args := [d1, d2] }
  | _ => none }
def matrixShufflesRow : OpenClaim := { program := "ytplbofhgmflnlaagreat", sum := "b4189d7025ab8dae7a2dede163f5e44d41988e03d48b42adfc68fe897932c557", func := "venturi/venturilaw06.MatrixShuffles", spec := "matrixShuffles", unfollowed := true, recurses := true, plainKeys := false, apart := false }
def MatrixShufflesSaid : Prop := matrixShufflesRow.holds Tryz.pinned (OpenSpec.ofChange matrixShufflesSpec)

/-- ITS FALSE NEIGHBOUR: 'it returns false'. Refute it at one input. -/
def matrixShufflesWrong : ChangeSpec := { name := "matrixShuffles", fn := fun _ => fun
  | [d1, d2] => { results := [.lit (.bool false)], args := [d1, d2] }
  | _ => none }
def MatrixShufflesWrongFalsely : Prop := matrixShufflesRow.holds Tryz.pinned (OpenSpec.ofChange matrixShufflesWrong)

/-- 'venturilaw06.MatrixFractions': WHATEVER THE INPUT: true; the input reads as it did. -/
def matrixFractionsSpec : ChangeSpec := { name := "matrixFractions", fn := fun _ => fun
  | [d1, d2] => { results := [.lit (.bool true)], args := [d1, d2] }
  | _ => none }
def matrixFractionsRow : OpenClaim := { program := "ytplbofhgmflnlaagreat", sum := "b4189d7025ab8dae7a2dede163f5e44d41988e03d48b42adfc68fe897932c557", func := "venturi/venturilaw06.MatrixFractions", spec := "matrixFractions", unfollowed := true, recurses := true, plainKeys := false, apart := false }
def MatrixFractionsSaid : Prop := matrixFractionsRow.holds Tryz.pinned (OpenSpec.ofChange matrixFractionsSpec)

/-- ITS FALSE NEIGHBOUR: 'it returns false'. Refute it at one input. -/
def matrixFractionsWrong : ChangeSpec := { name := "matrixFractions", fn := fun _ => fun
  | [d1, d2] => { results := [.lit (.bool false)], args := [d1, d2] }
  | _ => none }
def MatrixFractionsWrongFalsely : Prop := matrixFractionsRow.holds Tryz.pinned (OpenSpec.ofChange matrixFractionsWrong)

/-- 'venturilaw06.MatrixAliased': WHATEVER THE INPUT: true; the input reads as it did. -/
def matrixAliasedSpec : ChangeSpec := { name := "matrixAliased", fn := fun _ => fun
  | [d1, d2, d3] => { results := [.lit (.bool true)], args := [d1, d2, d3] }
  | _ => none }
def matrixAliasedRow : OpenClaim := { program := "ytplbofhgmflnlaagreat", sum := "b4189d7025ab8dae7a2dede163f5e44d41988e03d48b42adfc68fe897932c557", func := "venturi/venturilaw06.MatrixAliased", spec := "matrixAliased", unfollowed := true, recurses := true, plainKeys := false, apart := false }
def MatrixAliasedSaid : Prop := matrixAliasedRow.holds Tryz.pinned (OpenSpec.ofChange matrixAliasedSpec)

/-- ITS FALSE NEIGHBOUR: 'it returns false'. Refute it at one input. -/
def matrixAliasedWrong : ChangeSpec := { name := "matrixAliased", fn := fun _ => fun
  | [d1, d2, d3] => { results := [.lit (.bool false)], args := [d1, d2, d3] }
  | _ => none }
def MatrixAliasedWrongFalsely : Prop := matrixAliasedRow.holds Tryz.pinned (OpenSpec.ofChange matrixAliasedWrong)

/-- 'venturilaw06.MatrixSettings': WHATEVER THE INPUT: true; the input reads as it did. -/
def matrixSettingsSpec : ChangeSpec := { name := "matrixSettings", fn := fun _ => fun
  | [d1, d2] => { results := [.lit (.bool true)], args := [d1, d2] }
  | _ => none }
def matrixSettingsRow : OpenClaim := { program := "ytplbofhgmflnlaagreat", sum := "b4189d7025ab8dae7a2dede163f5e44d41988e03d48b42adfc68fe897932c557", func := "venturi/venturilaw06.MatrixSettings", spec := "matrixSettings", unfollowed := true, recurses := true, plainKeys := false, apart := false }
def MatrixSettingsSaid : Prop := matrixSettingsRow.holds Tryz.pinned (OpenSpec.ofChange matrixSettingsSpec)

/-- ITS FALSE NEIGHBOUR: 'it returns false'. Refute it at one input. -/
def matrixSettingsWrong : ChangeSpec := { name := "matrixSettings", fn := fun _ => fun
  | [d1, d2] => { results := [.lit (.bool false)], args := [d1, d2] }
  | _ => none }
def MatrixSettingsWrongFalsely : Prop := matrixSettingsRow.holds Tryz.pinned (OpenSpec.ofChange matrixSettingsWrong)

/-- 'venturilaw06.MatrixOrders': WHATEVER THE INPUT: true; the input reads as it did. -/
def matrixOrdersSpec : ChangeSpec := { name := "matrixOrders", fn := fun _ => fun
  | [d1, d2, d3] => { results := [.lit (.bool true)], args := [d1, d2, d3] }
  | _ => none }
def matrixOrdersRow : OpenClaim := { program := "ytplbofhgmflnlaagreat", sum := "b4189d7025ab8dae7a2dede163f5e44d41988e03d48b42adfc68fe897932c557", func := "venturi/venturilaw06.MatrixOrders", spec := "matrixOrders", unfollowed := true, recurses := true, plainKeys := false, apart := false }
def MatrixOrdersSaid : Prop := matrixOrdersRow.holds Tryz.pinned (OpenSpec.ofChange matrixOrdersSpec)

/-- ITS FALSE NEIGHBOUR: 'it returns false'. Refute it at one input. -/
def matrixOrdersWrong : ChangeSpec := { name := "matrixOrders", fn := fun _ => fun
  | [d1, d2, d3] => { results := [.lit (.bool false)], args := [d1, d2, d3] }
  | _ => none }
def MatrixOrdersWrongFalsely : Prop := matrixOrdersRow.holds Tryz.pinned (OpenSpec.ofChange matrixOrdersWrong)

/-- 'venturilaw06.MatrixKeepsRules': WHATEVER THE INPUT: true; the input reads as it did. -/
def matrixKeepsRulesSpec : ChangeSpec := { name := "matrixKeepsRules", fn := fun _ => fun
  | [d1, d2, d3] => { results := [.lit (.bool true)], args := [d1, d2, d3] }
  | _ => none }
def matrixKeepsRulesRow : OpenClaim := { program := "ytplbofhgmflnlaagreat", sum := "b4189d7025ab8dae7a2dede163f5e44d41988e03d48b42adfc68fe897932c557", func := "venturi/venturilaw06.MatrixKeepsRules", spec := "matrixKeepsRules", unfollowed := true, recurses := true, plainKeys := false, apart := false }
def MatrixKeepsRulesSaid : Prop := matrixKeepsRulesRow.holds Tryz.pinned (OpenSpec.ofChange matrixKeepsRulesSpec)

/-- ITS FALSE NEIGHBOUR: 'it returns false'. Refute it at one input. -/
def matrixKeepsRulesWrong : ChangeSpec := { name := "matrixKeepsRules", fn := fun _ => fun
  | [d1, d2, d3] => { results := [.lit (.bool false)], args := [d1, d2, d3] }
  | _ => none }
def MatrixKeepsRulesWrongFalsely : Prop := matrixKeepsRulesRow.holds Tryz.pinned (OpenSpec.ofChange matrixKeepsRulesWrong)

/-- 'venturilaw06.MatrixBooks': WHATEVER THE INPUT: true; the input reads as it did. -/
def matrixBooksSpec : ChangeSpec := { name := "matrixBooks", fn := fun _ => fun
  | [d] => { results := [.lit (.bool true)], args := [d] }
  | _ => none }
def matrixBooksRow : OpenClaim := { program := "ytplbofhgmflnlaagreat", sum := "b4189d7025ab8dae7a2dede163f5e44d41988e03d48b42adfc68fe897932c557", func := "venturi/venturilaw06.MatrixBooks", spec := "matrixBooks", unfollowed := true, recurses := true, plainKeys := false, apart := false }
def MatrixBooksSaid : Prop := matrixBooksRow.holds Tryz.pinned (OpenSpec.ofChange matrixBooksSpec)

/-- ITS FALSE NEIGHBOUR: 'it returns false'. Refute it at one input. -/
def matrixBooksWrong : ChangeSpec := { name := "matrixBooks", fn := fun _ => fun
  | [d] => { results := [.lit (.bool false)], args := [d] }
  | _ => none }
def MatrixBooksWrongFalsely : Prop := matrixBooksRow.holds Tryz.pinned (OpenSpec.ofChange matrixBooksWrong)

/-- 'venturilaw06.MatrixNothing': WHATEVER THE INPUT: true; the input reads as it did. -/
def matrixNothingSpec : ChangeSpec := { name := "matrixNothing", fn := fun _ => fun
  | [d] => { results := [.lit (.bool true)], args := [d] }
  | _ => none }
def matrixNothingRow : OpenClaim := { program := "ytplbofhgmflnlaagreat", sum := "b4189d7025ab8dae7a2dede163f5e44d41988e03d48b42adfc68fe897932c557", func := "venturi/venturilaw06.MatrixNothing", spec := "matrixNothing", unfollowed := true, recurses := true, plainKeys := false, apart := false }
def MatrixNothingSaid : Prop := matrixNothingRow.holds Tryz.pinned (OpenSpec.ofChange matrixNothingSpec)

/-- ITS FALSE NEIGHBOUR: 'it returns false'. Refute it at one input. -/
def matrixNothingWrong : ChangeSpec := { name := "matrixNothing", fn := fun _ => fun
  | [d] => { results := [.lit (.bool false)], args := [d] }
  | _ => none }
def MatrixNothingWrongFalsely : Prop := matrixNothingRow.holds Tryz.pinned (OpenSpec.ofChange matrixNothingWrong)

/-- 'venturilaw06.MatrixOnce': WHATEVER THE INPUT: true; the input reads as it did. -/
def matrixOnceSpec : ChangeSpec := { name := "matrixOnce", fn := fun _ => fun
  | [d] => { results := [.lit (.bool true)], args := [d] }
  | _ => none }
def matrixOnceRow : OpenClaim := { program := "ytplbofhgmflnlaagreat", sum := "b4189d7025ab8dae7a2dede163f5e44d41988e03d48b42adfc68fe897932c557", func := "venturi/venturilaw06.MatrixOnce", spec := "matrixOnce", unfollowed := true, recurses := true, plainKeys := false, apart := false }
def MatrixOnceSaid : Prop := matrixOnceRow.holds Tryz.pinned (OpenSpec.ofChange matrixOnceSpec)

/-- ITS FALSE NEIGHBOUR: 'it returns false'. Refute it at one input. -/
def matrixOnceWrong : ChangeSpec := { name := "matrixOnce", fn := fun _ => fun
  | [d] => { results := [.lit (.bool false)], args := [d] }
  | _ => none }
def MatrixOnceWrongFalsely : Prop := matrixOnceRow.holds Tryz.pinned (OpenSpec.ofChange matrixOnceWrong)

/-- 'venturilaw06.MatrixChanges': WHATEVER THE INPUT: true; the input reads as it did. -/
def matrixChangesSpec : ChangeSpec := { name := "matrixChanges", fn := fun _ => fun
  | [d1, d2, d3] => { results := [.lit (.bool true)], args := [d1, d2, d3] }
  | _ => none }
def matrixChangesRow : OpenClaim := { program := "ytplbofhgmflnlaagreat", sum := "b4189d7025ab8dae7a2dede163f5e44d41988e03d48b42adfc68fe897932c557", func := "venturi/venturilaw06.MatrixChanges", spec := "matrixChanges", unfollowed := true, recurses := true, plainKeys := false, apart := false }
def MatrixChangesSaid : Prop := matrixChangesRow.holds Tryz.pinned (OpenSpec.ofChange matrixChangesSpec)

/-- ITS FALSE NEIGHBOUR: 'it returns false'. Refute it at one input. -/
def matrixChangesWrong : ChangeSpec := { name := "matrixChanges", fn := fun _ => fun
  | [d1, d2, d3] => { results := [.lit (.bool false)], args := [d1, d2, d3] }
  | _ => none }
def MatrixChangesWrongFalsely : Prop := matrixChangesRow.holds Tryz.pinned (OpenSpec.ofChange matrixChangesWrong)

/- THE SECOND FORM. 'bulk': how many values and letters a reading holds, each counted each time it is reached (what is shared counts as often as it is met; a slice's spare places count too). A statement '..UptoSaid' is the law's where the arguments, and the package variables that the reading takes, are together of bulk at most 1048576: NARROWER than '..Said'. Prove '..Said' where nothing that the law and all that it calls make is longer than what came in: it says more and counts as full. Else prove '..UptoSaid'. A law counts once. -/
mutual
def uptoBulk {H : Type} : DataW H → Nat
  | .lit (.string bytes) => bytes.length + 1
  | .lit _ => 1
  | .nil => 1
  | .ptr d => uptoBulk d + 1
  | .slice elems spare => uptoBulkAll elems + uptoBulkAll spare + 1
  | .agg parts => uptoBulkAll parts + 1
  | .iface _ d => uptoBulk d + 1
  | .map entries => uptoBulkEntries entries + 1
  | .held _ => 1
def uptoBulkAll {H : Type} : List (DataW H) → Nat
  | [] => 0
  | d :: r => uptoBulk d + uptoBulkAll r
def uptoBulkEntries {H : Type} : List (Lit × DataW H) → Nat
  | [] => 0
  | x :: r => uptoBulkEntry x + uptoBulkEntries r
def uptoBulkEntry {H : Type} : Lit × DataW H → Nat
  | (.string bytes, d) => bytes.length + uptoBulk d + 1
  | (_, d) => uptoBulk d + 1
 end
def uptoSmall : (H : Type) → List (DataW H) → Bool := fun _ ds => decide (uptoBulkAll ds ≤ 1048576)
def OpenSpec.upto (s : _root_.Go.ChangeSpec) : _root_.Go.OpenSpec := { _root_.Go.OpenSpec.ofChange s with cond := some uptoSmall }

/-- 'venturilaw06.MatrixNoneCheaper', WHERE WHAT IT READS IS OF BULK AT MOST 1048576: true; the input reads as it did. -/
def matrixNoneCheaperUptoRow : OpenClaim := { program := "ytplbofhgmflnlaagreat", sum := "b4189d7025ab8dae7a2dede163f5e44d41988e03d48b42adfc68fe897932c557", func := "venturi/venturilaw06.MatrixNoneCheaper", spec := "matrixNoneCheaper", unfollowed := true, recurses := true, plainKeys := false, apart := false, narrowed := true }
def MatrixNoneCheaperUptoSaid : Prop := matrixNoneCheaperUptoRow.holds Tryz.pinned (OpenSpec.upto matrixNoneCheaperSpec)

/-- 'venturilaw06.MatrixMixes', WHERE WHAT IT READS IS OF BULK AT MOST 1048576: true; the input reads as it did. -/
def matrixMixesUptoRow : OpenClaim := { program := "ytplbofhgmflnlaagreat", sum := "b4189d7025ab8dae7a2dede163f5e44d41988e03d48b42adfc68fe897932c557", func := "venturi/venturilaw06.MatrixMixes", spec := "matrixMixes", unfollowed := true, recurses := true, plainKeys := false, apart := false, narrowed := true }
def MatrixMixesUptoSaid : Prop := matrixMixesUptoRow.holds Tryz.pinned (OpenSpec.upto matrixMixesSpec)

/-- 'venturilaw06.MatrixShuffles', WHERE WHAT IT READS IS OF BULK AT MOST 1048576: true; the input reads as it did. -/
def matrixShufflesUptoRow : OpenClaim := { program := "ytplbofhgmflnlaagreat", sum := "b4189d7025ab8dae7a2dede163f5e44d41988e03d48b42adfc68fe897932c557", func := "venturi/venturilaw06.MatrixShuffles", spec := "matrixShuffles", unfollowed := true, recurses := true, plainKeys := false, apart := false, narrowed := true }
def MatrixShufflesUptoSaid : Prop := matrixShufflesUptoRow.holds Tryz.pinned (OpenSpec.upto matrixShufflesSpec)

/-- 'venturilaw06.MatrixFractions', WHERE WHAT IT READS IS OF BULK AT MOST 1048576: true; the input reads as it did. -/
def matrixFractionsUptoRow : OpenClaim := { program := "ytplbofhgmflnlaagreat", sum := "b4189d7025ab8dae7a2dede163f5e44d41988e03d48b42adfc68fe897932c557", func := "venturi/venturilaw06.MatrixFractions", spec := "matrixFractions", unfollowed := true, recurses := true, plainKeys := false, apart := false, narrowed := true }
def MatrixFractionsUptoSaid : Prop := matrixFractionsUptoRow.holds Tryz.pinned (OpenSpec.upto matrixFractionsSpec)

/-- 'venturilaw06.MatrixAliased', WHERE WHAT IT READS IS OF BULK AT MOST 1048576: true; the input reads as it did. -/
def matrixAliasedUptoRow : OpenClaim := { program := "ytplbofhgmflnlaagreat", sum := "b4189d7025ab8dae7a2dede163f5e44d41988e03d48b42adfc68fe897932c557", func := "venturi/venturilaw06.MatrixAliased", spec := "matrixAliased", unfollowed := true, recurses := true, plainKeys := false, apart := false, narrowed := true }
def MatrixAliasedUptoSaid : Prop := matrixAliasedUptoRow.holds Tryz.pinned (OpenSpec.upto matrixAliasedSpec)

/-- 'venturilaw06.MatrixSettings', WHERE WHAT IT READS IS OF BULK AT MOST 1048576: true; the input reads as it did. -/
def matrixSettingsUptoRow : OpenClaim := { program := "ytplbofhgmflnlaagreat", sum := "b4189d7025ab8dae7a2dede163f5e44d41988e03d48b42adfc68fe897932c557", func := "venturi/venturilaw06.MatrixSettings", spec := "matrixSettings", unfollowed := true, recurses := true, plainKeys := false, apart := false, narrowed := true }
def MatrixSettingsUptoSaid : Prop := matrixSettingsUptoRow.holds Tryz.pinned (OpenSpec.upto matrixSettingsSpec)

/-- 'venturilaw06.MatrixOrders', WHERE WHAT IT READS IS OF BULK AT MOST 1048576: true; the input reads as it did. -/
def matrixOrdersUptoRow : OpenClaim := { program := "ytplbofhgmflnlaagreat", sum := "b4189d7025ab8dae7a2dede163f5e44d41988e03d48b42adfc68fe897932c557", func := "venturi/venturilaw06.MatrixOrders", spec := "matrixOrders", unfollowed := true, recurses := true, plainKeys := false, apart := false, narrowed := true }
def MatrixOrdersUptoSaid : Prop := matrixOrdersUptoRow.holds Tryz.pinned (OpenSpec.upto matrixOrdersSpec)

/-- 'venturilaw06.MatrixKeepsRules', WHERE WHAT IT READS IS OF BULK AT MOST 1048576: true; the input reads as it did. -/
def matrixKeepsRulesUptoRow : OpenClaim := { program := "ytplbofhgmflnlaagreat", sum := "b4189d7025ab8dae7a2dede163f5e44d41988e03d48b42adfc68fe897932c557", func := "venturi/venturilaw06.MatrixKeepsRules", spec := "matrixKeepsRules", unfollowed := true, recurses := true, plainKeys := false, apart := false, narrowed := true }
def MatrixKeepsRulesUptoSaid : Prop := matrixKeepsRulesUptoRow.holds Tryz.pinned (OpenSpec.upto matrixKeepsRulesSpec)

/-- 'venturilaw06.MatrixBooks', WHERE WHAT IT READS IS OF BULK AT MOST 1048576: true; the input reads as it did. -/
def matrixBooksUptoRow : OpenClaim := { program := "ytplbofhgmflnlaagreat", sum := "b4189d7025ab8dae7a2dede163f5e44d41988e03d48b42adfc68fe897932c557", func := "venturi/venturilaw06.MatrixBooks", spec := "matrixBooks", unfollowed := true, recurses := true, plainKeys := false, apart := false, narrowed := true }
def MatrixBooksUptoSaid : Prop := matrixBooksUptoRow.holds Tryz.pinned (OpenSpec.upto matrixBooksSpec)

/-- 'venturilaw06.MatrixNothing', WHERE WHAT IT READS IS OF BULK AT MOST 1048576: true; the input reads as it did. -/
def matrixNothingUptoRow : OpenClaim := { program := "ytplbofhgmflnlaagreat", sum := "b4189d7025ab8dae7a2dede163f5e44d41988e03d48b42adfc68fe897932c557", func := "venturi/venturilaw06.MatrixNothing", spec := "matrixNothing", unfollowed := true, recurses := true, plainKeys := false, apart := false, narrowed := true }
def MatrixNothingUptoSaid : Prop := matrixNothingUptoRow.holds Tryz.pinned (OpenSpec.upto matrixNothingSpec)

/-- 'venturilaw06.MatrixOnce', WHERE WHAT IT READS IS OF BULK AT MOST 1048576: true; the input reads as it did. -/
def matrixOnceUptoRow : OpenClaim := { program := "ytplbofhgmflnlaagreat", sum := "b4189d7025ab8dae7a2dede163f5e44d41988e03d48b42adfc68fe897932c557", func := "venturi/venturilaw06.MatrixOnce", spec := "matrixOnce", unfollowed := true, recurses := true, plainKeys := false, apart := false, narrowed := true }
def MatrixOnceUptoSaid : Prop := matrixOnceUptoRow.holds Tryz.pinned (OpenSpec.upto matrixOnceSpec)

/-- 'venturilaw06.MatrixChanges', WHERE WHAT IT READS IS OF BULK AT MOST 1048576: true; the input reads as it did. -/
def matrixChangesUptoRow : OpenClaim := { program := "ytplbofhgmflnlaagreat", sum := "b4189d7025ab8dae7a2dede163f5e44d41988e03d48b42adfc68fe897932c557", func := "venturi/venturilaw06.MatrixChanges", spec := "matrixChanges", unfollowed := true, recurses := true, plainKeys := false, apart := false, narrowed := true }
def MatrixChangesUptoSaid : Prop := matrixChangesUptoRow.holds Tryz.pinned (OpenSpec.upto matrixChangesSpec)

end Rows
end Go.Proofs.YtplbofhgmflnlaaGreat
