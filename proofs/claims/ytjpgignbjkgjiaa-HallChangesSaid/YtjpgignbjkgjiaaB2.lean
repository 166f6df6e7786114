/-
  More base words: slices that a call makes.
-/
import Derived.Test.YtjpgignbjkgjiaaBase
namespace Go.Proofs.Ytjpgignbjkgjiaa
open Go.RowKit
/-- The world behind 'make([]int, n)'. -/
def madeI (W : World) (n : Nat) : World := W.alloc (.cells (madeCells #[.int .i64 0] n) 3)
theorem run_madeI (n : Nat) (hn : n ≤ 1000000) (W : World) : (Instr.makeSlice 22 (.int .i64 (n : Int)) (.int .i64 (n : Int))).run Try.prog W = .ok (.slice (some ⟨W.heap.size, 0, none⟩) n n) (madeI W n) := by
  obtain ⟨i0, hi, hz0, hz1, hz2⟩ := info_parts info3
  have := run_make (P := Try.prog) W 22 3 i0 (.int .i64 0) Try.underlying22 hi hz0 .i64 .i64 n n
  rw [hz1, hz2] at this
  have h := this (by omega) (by omega) (by omega) (by omega)
  rw [Int.toNat_natCast, Nat.mul_one] at h
  exact h
theorem madeI_facts {W w1 : World} {n : Nat} (hn : n ≤ 1000000) (h : madeI W n = w1) : Ext W w1 ∧ OwnI w1 W.heap.size (.slice (some ⟨W.heap.size, 0, none⟩) n n) (fl n fun _ => 0) ∧ w1.heap.size = W.heap.size + 1 := by
  subst h
  obtain ⟨w', h1, h2, h3, h4⟩ := make_ints W n hn
  rw [run_madeI n hn W] at h1
  simp only [Result.ok.injEq, true_and] at h1
  subst h1
  exact ⟨h3, h2, heap_size _ _⟩
end Go.Proofs.Ytjpgignbjkgjiaa
