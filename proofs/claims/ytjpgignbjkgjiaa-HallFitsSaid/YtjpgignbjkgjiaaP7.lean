/-
  Plain words of chapter 10 (hall), the seventh part: what the document's answer computes. No program in sight.
-/
import Derived.Test.YtjpgignbjkgjiaaP6
namespace Go.Proofs.Ytjpgignbjkgjiaa
def runB (c : Camp) (t hour : Int) : Bool := decide (t ≤ hour) && decide (hour - t < c.ho)
theorem all_nth_false {α : Type} (get : List α → Nat → α) (hg : ∀ (l : List α) (i : Nat) (h : i < l.length), get l i = l[i]) (q : α → Bool) (xs : List α) (k : Nat) (hk : k < xs.length) (h : q (get xs k) = false) : xs.all q = false := by
  rw [hg xs k hk] at h
  rw [List.all_eq_false]
  exact ⟨_, List.getElem_mem hk, by simp [h]⟩
theorem all_nth_true {α : Type} (get : List α → Nat → α) (hg : ∀ (l : List α) (i : Nat) (h : i < l.length), get l i = l[i]) (q : α → Bool) (xs : List α) (h : ∀ j, j < xs.length → q (get xs j) = true) : xs.all q = true := by
  rw [List.all_eq_true]
  intro x hx
  obtain ⟨j, hj, rfl⟩ := List.getElem_of_mem hx
  rw [← hg xs j hj]; exact h j hj
/-- Whether two runs are too near, hour by hour. -/
def nearG (ha : Hal) (a b : Camp) (s t : Int) (hour : Nat) : Bool :=
  (runB { a with ho := a.ho + gapS ha a b } s hour && runB b t hour) || (runB a s hour && runB { b with ho := b.ho + gapS ha a b } t hour)
def nearB (ha : Hal) (a b : Camp) (s t : Int) : Bool := (fIdx (nearG ha a b s t) ha.st.length).isSome
end Go.Proofs.Ytjpgignbjkgjiaa
