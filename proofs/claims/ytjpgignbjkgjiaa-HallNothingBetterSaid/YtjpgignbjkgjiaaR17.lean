import Derived.Test.YtjpgignbjkgjiaaR16
import Derived.Test.YtjpgignbjkgjiaaP10
set_option linter.unusedVariables false
set_option linter.unusedSimpArgs false
namespace Go.Proofs.Ytjpgignbjkgjiaa
open Go.RowKit
def RetB (ha : Hal) (l : List Camp) (w : World) (e : Ending) (w' : World) : Prop :=
  ∃ a c, e = .returned (.tuple #[.slice a (bestP ha l).length c, .int .i64 (bestK ha l), .int .i64 (bestE ha l)]) ∧ Ext w w' ∧ Ints w' a (bestP ha l)
theorem Best_any2 (ha : Hal) (x : HP) (l : List Camp) (la : Option Addr) (lc : Nat) (w : World) (hh : HallAt w ha x) (hl : Camps w la l) : Calls Try.prog 31 #[hval ha x, .slice la l.length lc] w (RetB ha l w) := by
  refine (Best_any ha x l la lc w hh hl).mono fun e w' ⟨a, c, he, hx, hi⟩ => ?_
  by_cases h1 : campsB ha l = true
  · by_cases h2 : l.length ≤ 4
    · have hi2 := hi h1 h2
      have e1 : bestP ha l = stP (bestSt ha l) := by rw [bestP, if_pos h1, if_pos h2]
      have e2 : bestK ha l = stCost (bestSt ha l) := by rw [bestK, if_pos h1, if_pos h2]
      have e3 : bestE ha l = if stFound (bestSt ha l) then 0 else 101 := by rw [bestE, if_pos h1, if_pos h2]
      have e4 : bestV ha l a c = solV (bestSt ha l) a c := by rw [bestV, if_pos h1, if_pos h2]
      rw [he, e4]
      unfold RetB
      rw [e1, e2, e3]
      cases hs : bestSt ha l with
      | none => exact ⟨none, 0, rfl, hx, .inl rfl⟩
      | some pc =>
        obtain ⟨p, k⟩ := pc
        rw [hs] at hi2
        exact ⟨a, c, rfl, hx, hi2⟩
    · rw [he, bestV, if_pos h1, if_neg h2]
      unfold RetB
      rw [bestP, bestK, bestE, if_pos h1, if_pos h1, if_pos h1, if_neg h2, if_neg h2, if_neg h2]
      exact ⟨none, 0, rfl, hx, .inl rfl⟩
  · rw [he, bestV, if_neg h1]
    unfold RetB
    rw [bestP, bestK, bestE, if_neg h1, if_neg h1, if_neg h1]
    exact ⟨none, 0, rfl, hx, .inl rfl⟩
end Go.Proofs.Ytjpgignbjkgjiaa
