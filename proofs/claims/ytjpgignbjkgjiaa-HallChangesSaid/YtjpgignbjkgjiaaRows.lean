/-
  No cell of these rows narrows 'for every input' (looked for: loops, veiled, ifaces, maps, wideKeys, modest, calm, conditions, laid).
  DERIVED. THE GIVEN ROWS OF THIS SEAT. 9 by the template 'for every input the law returns true; each argument reads behind the call as it read before'; 0 by the template 'total and deterministic' (their statements: YtjpgignbjkgjiaaTotals.lean).
  GIVEN WITH THE SEED: the statements are not yours to turn. If you find one false, say at which input.
  Laid BY PROGRAM, IN A SANDBOX (cutbox-rows.mjs): the forced cells as the released guide's own fill.sh prints them over the translation b8445c1ea3554ec8… (all of the seat's roots in one cut). By AI agents, Wed Nov 11 2026. No macro, syntax, notation, axiom, sorry.
-/
import Derived.Test.YtjpgignbjkgjiaaChecked
import GoSem.Claim
import GoSem.ClaimJoined
import GoSem.ClaimMapViews
import Derived.JoinedTies
import Derived.KernelRfl
namespace Go.Proofs.Ytjpgignbjkgjiaa
/- THE CELL 'sum', in the pinned program and in every row, IS THE sha256 OF THE DUMP (.gsa) THAT YtjpgignbjkgjiaaProg.lean LOADS. Nothing in Lean hashes anything: it is a label: what it is worth is what the hold of that sum in a sandbox is worth. -/
noncomputable def Try.pinned : Pinned := { name := "ytjpgignbjkgjiaa", sum := "b8445c1ea3554ec8b952cd3d8497977ec0e6cdbe9e965d36f1e128585a6a1aa9", checked := Try.checked }
namespace Rows
def none {H : Type} : Left H := { results := [], args := [] }

/-- 'venturilaw10.HallViews': WHATEVER THE INPUT: true; the input reads as it did. -/
def hallViewsSpec : ChangeSpec := { name := "hallViews", fn := fun _ => fun
  | [d1, d2, d3] => { results := [.lit (.bool true)], args := [d1, d2, d3] }
  | _ => none }
def hallViewsRow : OpenClaim := { program := "ytjpgignbjkgjiaa", sum := "b8445c1ea3554ec8b952cd3d8497977ec0e6cdbe9e965d36f1e128585a6a1aa9", func := "venturi/venturilaw10.HallViews", spec := "hallViews", unfollowed := true, recurses := true, apart := false }
def HallViewsSaid : Prop := hallViewsRow.holds Try.pinned (OpenSpec.ofChange hallViewsSpec)

/-- ITS FALSE NEIGHBOUR: 'it returns false'. Refute it at one input. -/
def hallViewsWrong : ChangeSpec := { name := "hallViews", fn := fun _ => fun
  | [d1, d2, d3] => { results := [.lit (.bool false)], args := [d1, d2, d3] }
  | _ => none }
def HallViewsWrongFalsely : Prop := hallViewsRow.holds Try.pinned (OpenSpec.ofChange hallViewsWrong)

/-- 'venturilaw10.HallSecret': WHATEVER THE INPUT: true; the input reads as it did. -/
def hallSecretSpec : ChangeSpec := { name := "hallSecret", fn := fun _ => fun
  | [d1, d2, d3] => { results := [.lit (.bool true)], args := [d1, d2, d3] }
  | _ => none }
def hallSecretRow : OpenClaim := { program := "ytjpgignbjkgjiaa", sum := "b8445c1ea3554ec8b952cd3d8497977ec0e6cdbe9e965d36f1e128585a6a1aa9", func := "venturi/venturilaw10.HallSecret", spec := "hallSecret", unfollowed := true, recurses := true, apart := false }
def HallSecretSaid : Prop := hallSecretRow.holds Try.pinned (OpenSpec.ofChange hallSecretSpec)

/-- ITS FALSE NEIGHBOUR: 'it returns false'. Refute it at one input. -/
def hallSecretWrong : ChangeSpec := { name := "hallSecret", fn := fun _ => fun
  | [d1, d2, d3] => { results := [.lit (.bool false)], args := [d1, d2, d3] }
  | _ => none }
def HallSecretWrongFalsely : Prop := hallSecretRow.holds Try.pinned (OpenSpec.ofChange hallSecretWrong)

/-- 'venturilaw10.HallFits': WHATEVER THE INPUT: true; the input reads as it did. -/
def hallFitsSpec : ChangeSpec := { name := "hallFits", fn := fun _ => fun
  | [d1, d2, d3] => { results := [.lit (.bool true)], args := [d1, d2, d3] }
  | _ => none }
def hallFitsRow : OpenClaim := { program := "ytjpgignbjkgjiaa", sum := "b8445c1ea3554ec8b952cd3d8497977ec0e6cdbe9e965d36f1e128585a6a1aa9", func := "venturi/venturilaw10.HallFits", spec := "hallFits", unfollowed := true, recurses := true, apart := false }
def HallFitsSaid : Prop := hallFitsRow.holds Try.pinned (OpenSpec.ofChange hallFitsSpec)

/-- ITS FALSE NEIGHBOUR: 'it returns false'. Refute it at one input. -/
def hallFitsWrong : ChangeSpec := { name := "hallFits", fn := fun _ => fun
  | [d1, d2, d3] => { results := [.lit (.bool false)], args := [d1, d2, d3] }
  | _ => none }
def HallFitsWrongFalsely : Prop := hallFitsRow.holds Try.pinned (OpenSpec.ofChange hallFitsWrong)

/-- 'venturilaw10.HallReplans': WHATEVER THE INPUT: true; the input reads as it did. -/
def hallReplansSpec : ChangeSpec := { name := "hallReplans", fn := fun _ => fun
  | [d1, d2, d3] => { results := [.lit (.bool true)], args := [d1, d2, d3] }
  | _ => none }
def hallReplansRow : OpenClaim := { program := "ytjpgignbjkgjiaa", sum := "b8445c1ea3554ec8b952cd3d8497977ec0e6cdbe9e965d36f1e128585a6a1aa9", func := "venturi/venturilaw10.HallReplans", spec := "hallReplans", unfollowed := true, recurses := true, apart := false }
def HallReplansSaid : Prop := hallReplansRow.holds Try.pinned (OpenSpec.ofChange hallReplansSpec)

/-- ITS FALSE NEIGHBOUR: 'it returns false'. Refute it at one input. -/
def hallReplansWrong : ChangeSpec := { name := "hallReplans", fn := fun _ => fun
  | [d1, d2, d3] => { results := [.lit (.bool false)], args := [d1, d2, d3] }
  | _ => none }
def HallReplansWrongFalsely : Prop := hallReplansRow.holds Try.pinned (OpenSpec.ofChange hallReplansWrong)

/-- 'venturilaw10.HallBests': WHATEVER THE INPUT: true; the input reads as it did. -/
def hallBestsSpec : ChangeSpec := { name := "hallBests", fn := fun _ => fun
  | [d1, d2] => { results := [.lit (.bool true)], args := [d1, d2] }
  | _ => none }
def hallBestsRow : OpenClaim := { program := "ytjpgignbjkgjiaa", sum := "b8445c1ea3554ec8b952cd3d8497977ec0e6cdbe9e965d36f1e128585a6a1aa9", func := "venturi/venturilaw10.HallBests", spec := "hallBests", unfollowed := true, recurses := true, apart := false }
def HallBestsSaid : Prop := hallBestsRow.holds Try.pinned (OpenSpec.ofChange hallBestsSpec)

/-- ITS FALSE NEIGHBOUR: 'it returns false'. Refute it at one input. -/
def hallBestsWrong : ChangeSpec := { name := "hallBests", fn := fun _ => fun
  | [d1, d2] => { results := [.lit (.bool false)], args := [d1, d2] }
  | _ => none }
def HallBestsWrongFalsely : Prop := hallBestsRow.holds Try.pinned (OpenSpec.ofChange hallBestsWrong)

/-- 'venturilaw10.HallNothingBetter': WHATEVER THE INPUT: true; the input reads as it did. -/
def hallNothingBetterSpec : ChangeSpec := { name := "hallNothingBetter", fn := fun _ => fun
  | [d1, d2, d3] => { results := [.lit (.bool true)], args := [d1, d2, d3] }
  | _ => none }
def hallNothingBetterRow : OpenClaim := { program := "ytjpgignbjkgjiaa", sum := "b8445c1ea3554ec8b952cd3d8497977ec0e6cdbe9e965d36f1e128585a6a1aa9", func := "venturi/venturilaw10.HallNothingBetter", spec := "hallNothingBetter", unfollowed := true, recurses := true, apart := false }
def HallNothingBetterSaid : Prop := hallNothingBetterRow.holds Try.pinned (OpenSpec.ofChange hallNothingBetterSpec)

/-- ITS FALSE NEIGHBOUR: 'it returns false'. Refute it at one input. -/
def hallNothingBetterWrong : ChangeSpec := { name := "hallNothingBetter", fn := fun _ => fun
  | [d1, d2, d3] => { results := [.lit (.bool false)], args := [d1, d2, d3] }
  | _ => none }
def HallNothingBetterWrongFalsely : Prop := hallNothingBetterRow.holds Try.pinned (OpenSpec.ofChange hallNothingBetterWrong)

/-- 'venturilaw10.HallChanges': WHATEVER THE INPUT: true; the input reads as it did. -/
def hallChangesSpec : ChangeSpec := { name := "hallChanges", fn := fun _ => fun
  | [d1, d2, d3] => { results := [.lit (.bool true)], args := [d1, d2, d3] }
  | _ => none }
def hallChangesRow : OpenClaim := { program := "ytjpgignbjkgjiaa", sum := "b8445c1ea3554ec8b952cd3d8497977ec0e6cdbe9e965d36f1e128585a6a1aa9", func := "venturi/venturilaw10.HallChanges", spec := "hallChanges", unfollowed := true, recurses := true, apart := false }
def HallChangesSaid : Prop := hallChangesRow.holds Try.pinned (OpenSpec.ofChange hallChangesSpec)

/-- ITS FALSE NEIGHBOUR: 'it returns false'. Refute it at one input. -/
def hallChangesWrong : ChangeSpec := { name := "hallChanges", fn := fun _ => fun
  | [d1, d2, d3] => { results := [.lit (.bool false)], args := [d1, d2, d3] }
  | _ => none }
def HallChangesWrongFalsely : Prop := hallChangesRow.holds Try.pinned (OpenSpec.ofChange hallChangesWrong)

/-- 'venturilaw10.HallRooms': WHATEVER THE INPUT: true; the input reads as it did. -/
def hallRoomsSpec : ChangeSpec := { name := "hallRooms", fn := fun _ => fun
  | [d1, d2, d3] => { results := [.lit (.bool true)], args := [d1, d2, d3] }
  | _ => none }
def hallRoomsRow : OpenClaim := { program := "ytjpgignbjkgjiaa", sum := "b8445c1ea3554ec8b952cd3d8497977ec0e6cdbe9e965d36f1e128585a6a1aa9", func := "venturi/venturilaw10.HallRooms", spec := "hallRooms", unfollowed := true, recurses := true, apart := false }
def HallRoomsSaid : Prop := hallRoomsRow.holds Try.pinned (OpenSpec.ofChange hallRoomsSpec)

/-- ITS FALSE NEIGHBOUR: 'it returns false'. Refute it at one input. -/
def hallRoomsWrong : ChangeSpec := { name := "hallRooms", fn := fun _ => fun
  | [d1, d2, d3] => { results := [.lit (.bool false)], args := [d1, d2, d3] }
  | _ => none }
def HallRoomsWrongFalsely : Prop := hallRoomsRow.holds Try.pinned (OpenSpec.ofChange hallRoomsWrong)

/-- 'venturilaw10.HallChecks': WHATEVER THE INPUT: true; the input reads as it did. -/
def hallChecksSpec : ChangeSpec := { name := "hallChecks", fn := fun _ => fun
  | [d1, d2, d3] => { results := [.lit (.bool true)], args := [d1, d2, d3] }
  | _ => none }
def hallChecksRow : OpenClaim := { program := "ytjpgignbjkgjiaa", sum := "b8445c1ea3554ec8b952cd3d8497977ec0e6cdbe9e965d36f1e128585a6a1aa9", func := "venturi/venturilaw10.HallChecks", spec := "hallChecks", unfollowed := true, recurses := true, apart := false }
def HallChecksSaid : Prop := hallChecksRow.holds Try.pinned (OpenSpec.ofChange hallChecksSpec)

/-- ITS FALSE NEIGHBOUR: 'it returns false'. Refute it at one input. -/
def hallChecksWrong : ChangeSpec := { name := "hallChecks", fn := fun _ => fun
  | [d1, d2, d3] => { results := [.lit (.bool false)], args := [d1, d2, d3] }
  | _ => none }
def HallChecksWrongFalsely : Prop := hallChecksRow.holds Try.pinned (OpenSpec.ofChange hallChecksWrong)

/- THE SECOND FORM. 'bulk': how many values and letters a reading holds, each counted each time it is reached (what is shared counts as often as it is met; a slice's spare places count too). A statement '..UptoSaid' is the law's where the arguments, and the package variables that the reading takes, are together of bulk at most 1048576: NARROWER than '..Said'. Prove '..Said' where nothing that the law and all that it calls make is longer than what came in: it says more and counts as full. Else prove '..UptoSaid'. A law counts once. -/
mutual
def uptoBulk {H : Type} : DataW H → Nat
  | .lit (.string bytes) => bytes.length + 1
  | .lit _ => 1
  | .nil => 1
  | .ptr d => uptoBulk d + 1
  | .slice elems spare => uptoBulkAll elems + uptoBulkAll spare + 1
  | .agg parts => uptoBulkAll parts + 1
  | .iface _ d => uptoBulk d + 1
  | .map entries => uptoBulkEntries entries + 1
  | .held _ => 1
def uptoBulkAll {H : Type} : List (DataW H) → Nat
  | [] => 0
  | d :: r => uptoBulk d + uptoBulkAll r
def uptoBulkEntries {H : Type} : List (Lit × DataW H) → Nat
  | [] => 0
  | x :: r => uptoBulkEntry x + uptoBulkEntries r
def uptoBulkEntry {H : Type} : Lit × DataW H → Nat
  | (.string bytes, d) => bytes.length + uptoBulk d + 1
  | (_, d) => uptoBulk d + 1
 end
def uptoSmall : (H : Type) → List (DataW H) → Bool := fun _ ds => decide (uptoBulkAll ds ≤ 1048576)
def OpenSpec.upto (s : _root_.Go.ChangeSpec) : _root_.Go.OpenSpec := { _root_.Go.OpenSpec.ofChange s with cond := some uptoSmall }

/-- 'venturilaw10.HallViews', WHERE WHAT IT READS IS OF BULK AT MOST 1048576: true; the input reads as it did. -/
def hallViewsUptoRow : OpenClaim := { program := "ytjpgignbjkgjiaa", sum := "b8445c1ea3554ec8b952cd3d8497977ec0e6cdbe9e965d36f1e128585a6a1aa9", func := "venturi/venturilaw10.HallViews", spec := "hallViews", unfollowed := true, recurses := true, apart := false, narrowed := true }
def HallViewsUptoSaid : Prop := hallViewsUptoRow.holds Try.pinned (OpenSpec.upto hallViewsSpec)

/-- 'venturilaw10.HallSecret', WHERE WHAT IT READS IS OF BULK AT MOST 1048576: true; the input reads as it did. -/
def hallSecretUptoRow : OpenClaim := { program := "ytjpgignbjkgjiaa", sum := "b8445c1ea3554ec8b952cd3d8497977ec0e6cdbe9e965d36f1e128585a6a1aa9", func := "venturi/venturilaw10.HallSecret", spec := "hallSecret", unfollowed := true, recurses := true, apart := false, narrowed := true }
def HallSecretUptoSaid : Prop := hallSecretUptoRow.holds Try.pinned (OpenSpec.upto hallSecretSpec)

/-- 'venturilaw10.HallFits', WHERE WHAT IT READS IS OF BULK AT MOST 1048576: true; the input reads as it did. -/
def hallFitsUptoRow : OpenClaim := { program := "ytjpgignbjkgjiaa", sum := "b8445c1ea3554ec8b952cd3d8497977ec0e6cdbe9e965d36f1e128585a6a1aa9", func := "venturi/venturilaw10.HallFits", spec := "hallFits", unfollowed := true, recurses := true, apart := false, narrowed := true }
def HallFitsUptoSaid : Prop := hallFitsUptoRow.holds Try.pinned (OpenSpec.upto hallFitsSpec)

/-- 'venturilaw10.HallReplans', WHERE WHAT IT READS IS OF BULK AT MOST 1048576: true; the input reads as it did. -/
def hallReplansUptoRow : OpenClaim := { program := "ytjpgignbjkgjiaa", sum := "b8445c1ea3554ec8b952cd3d8497977ec0e6cdbe9e965d36f1e128585a6a1aa9", func := "venturi/venturilaw10.HallReplans", spec := "hallReplans", unfollowed := true, recurses := true, apart := false, narrowed := true }
def HallReplansUptoSaid : Prop := hallReplansUptoRow.holds Try.pinned (OpenSpec.upto hallReplansSpec)

/-- 'venturilaw10.HallBests', WHERE WHAT IT READS IS OF BULK AT MOST 1048576: true; the input reads as it did. -/
def hallBestsUptoRow : OpenClaim := { program := "ytjpgignbjkgjiaa", sum := "b8445c1ea3554ec8b952cd3d8497977ec0e6cdbe9e965d36f1e128585a6a1aa9", func := "venturi/venturilaw10.HallBests", spec := "hallBests", unfollowed := true, recurses := true, apart := false, narrowed := true }
def HallBestsUptoSaid : Prop := hallBestsUptoRow.holds Try.pinned (OpenSpec.upto hallBestsSpec)

/-- 'venturilaw10.HallNothingBetter', WHERE WHAT IT READS IS OF BULK AT MOST 1048576: true; the input reads as it did. -/
def hallNothingBetterUptoRow : OpenClaim := { program := "ytjpgignbjkgjiaa", sum := "b8445c1ea3554ec8b952cd3d8497977ec0e6cdbe9e965d36f1e128585a6a1aa9", func := "venturi/venturilaw10.HallNothingBetter", spec := "hallNothingBetter", unfollowed := true, recurses := true, apart := false, narrowed := true }
def HallNothingBetterUptoSaid : Prop := hallNothingBetterUptoRow.holds Try.pinned (OpenSpec.upto hallNothingBetterSpec)

/-- 'venturilaw10.HallChanges', WHERE WHAT IT READS IS OF BULK AT MOST 1048576: true; the input reads as it did. -/
def hallChangesUptoRow : OpenClaim := { program := "ytjpgignbjkgjiaa", sum := "b8445c1ea3554ec8b952cd3d8497977ec0e6cdbe9e965d36f1e128585a6a1aa9", func := "venturi/venturilaw10.HallChanges", spec := "hallChanges", unfollowed := true, recurses := true, apart := false, narrowed := true }
def HallChangesUptoSaid : Prop := hallChangesUptoRow.holds Try.pinned (OpenSpec.upto hallChangesSpec)

/-- 'venturilaw10.HallRooms', WHERE WHAT IT READS IS OF BULK AT MOST 1048576: true; the input reads as it did. -/
def hallRoomsUptoRow : OpenClaim := { program := "ytjpgignbjkgjiaa", sum := "b8445c1ea3554ec8b952cd3d8497977ec0e6cdbe9e965d36f1e128585a6a1aa9", func := "venturi/venturilaw10.HallRooms", spec := "hallRooms", unfollowed := true, recurses := true, apart := false, narrowed := true }
def HallRoomsUptoSaid : Prop := hallRoomsUptoRow.holds Try.pinned (OpenSpec.upto hallRoomsSpec)

/-- 'venturilaw10.HallChecks', WHERE WHAT IT READS IS OF BULK AT MOST 1048576: true; the input reads as it did. -/
def hallChecksUptoRow : OpenClaim := { program := "ytjpgignbjkgjiaa", sum := "b8445c1ea3554ec8b952cd3d8497977ec0e6cdbe9e965d36f1e128585a6a1aa9", func := "venturi/venturilaw10.HallChecks", spec := "hallChecks", unfollowed := true, recurses := true, apart := false, narrowed := true }
def HallChecksUptoSaid : Prop := hallChecksUptoRow.holds Try.pinned (OpenSpec.upto hallChecksSpec)

end Rows
end Go.Proofs.Ytjpgignbjkgjiaa
