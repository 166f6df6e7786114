/-
  Plans that are not too wide, and their copies.
-/
import Derived.Test.YtplbofhgmflnlaaGreatOW3
import Derived.Test.YtplbofhgmflnlaaGreatWP
set_option linter.unusedVariables false
set_option linter.unusedSimpArgs false
namespace Go.Proofs.YtplbofhgmflnlaaGreat
open Go.RowKit
theorem PlanB.same {P Q : Pw} (h : PlanB P) (s : SameP P Q) : PlanB Q :=
  ⟨by rw [← s.fs]; exact h.fl, by rw [← s.len]; exact h.gl, fun i hi => by rw [← s.len] at hi; rw [← s.xs i hi]; exact h.pl i hi⟩
/-- A plan that is not too wide is within what its copy's contract asks. -/
theorem own_wide (P : Pw) (w : World) (hp : PlanAt w P) (h : wideP P.fs P.fo = false) : Calls Tryz.prog 40 #[planV P] w (fun e w' => ∃ Q, e = .returned (planV Q) ∧ Ext w w' ∧ PlanAt w' Q ∧ SameP P Q) := by
  obtain ⟨h1, -, h2, -, h3⟩ := wideP_no h
  exact own_any P w hp (by omega) (by omega) fun i hi => by have := h3 i hi; omega
theorem planB_wide {P : Pw} (h : wideP P.fs P.fo = false) : PlanB P := by
  obtain ⟨h1, -, h2, -, h3⟩ := wideP_no h
  exact ⟨by omega, by omega, fun i hi => by have := h3 i hi; omega⟩
end Go.Proofs.YtplbofhgmflnlaaGreat
