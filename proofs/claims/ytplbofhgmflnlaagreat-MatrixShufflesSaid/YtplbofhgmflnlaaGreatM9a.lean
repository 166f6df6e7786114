/-
  Plain: bits of small numbers, as the walk spells them.
-/
import Derived.Test.YtplbofhgmflnlaaGreatMC
set_option linter.unusedVariables false
set_option linter.unusedSimpArgs false
namespace Go.Proofs.YtplbofhgmflnlaaGreat
open Go.RowKit
theorem shr_and : ∀ x : Nat, x < 512 → ∀ q : Nat, q < 9 → bits .and .i64 ((x : Int) / 2 ^ q) 1 = if x.testBit q then 1 else 0 := by decide +kernel
theorem andNot_bit : ∀ x : Nat, x < 512 → ∀ q : Nat, q < 9 → x.testBit q = true → bits .andNot .i64 (x : Int) (((2 ^ q : Nat) : Int)) = ((x - 2 ^ q : Nat) : Int) := by decide +kernel
theorem sub_bit : ∀ x : Nat, x < 512 → ∀ q : Nat, q < 9 → x.testBit q = true → (x - 2 ^ q).testBit q = false := by decide +kernel
end Go.Proofs.YtplbofhgmflnlaaGreat
