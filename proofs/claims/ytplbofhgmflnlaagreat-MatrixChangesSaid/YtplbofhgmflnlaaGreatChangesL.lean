/-
  MatrixChanges answers true for every input, and each argument reads afterwards as it read before.
-/
import Derived.Test.YtplbofhgmflnlaaGreatCJ3
import Derived.Test.YtplbofhgmflnlaaGreatOD
set_option linter.unusedVariables false
set_option linter.unusedSimpArgs false
namespace Go.Proofs.YtplbofhgmflnlaaGreat
open Go.ChangeShapes Go.WideShapes Go.ChangeAt Go.RowKit Go.Joins
set_option maxRecDepth 100000 in
theorem changes_lifted (os : Os) (started : os.Started) (H : Type) (enc : TypeId × Value → H) :
    ReturnsInHanded {} Tryz.checked os 14 .any (Rows.matrixChangesSpec.pre6 enc Tryz.prog Tryz.f14 Rows.matrixChangesRow.domain false) (Rows.matrixChangesSpec.post enc Tryz.prog Tryz.f14 false true false false) := by
  refine returnsInHanded_of_change (C := Tryz.checked) Tryz.own started (by kernel_rfl) Tryz.func14
    (ChangeSpec.witness6 (enc := enc) (C := Tryz.checked) false ⟨#[], #[.agg #[.slice none 0 0, .slice none 0 0], .slice none 0 0, .slice none 0 0], []⟩ 8 (by kernel_rfl) (by kernel_rfl) (by kernel_rfl) (by kernel_rfl)) ?_
  intro W base args ds gs before hval0 hW hcnd _
  have hval : ∀ (j : Nat) t v, Tryz.f14.params[j]? = some t → args[j]? = some v → Value.okWide Tryz.prog W .any base t v := hval0
  have hW' := hW
  obtain ⟨p, q, hA0, hV, rfl, hfz, hnd⟩ := hW
  have hA : DataW.TrodAll enc Tryz.prog W 0 (fun _ => true) true Tryz.f14.params.toList args.toList ds p := hA0
  have hA1 := hA
  rw [Tryz.params14] at hA hval
  obtain ⟨v0, v1, v2, d0, d1, d2, p0, p1, p2, rfl, rfl, rfl, h0, h1, h2⟩ := trodAll_three hA
  obtain ⟨rfl, rfl⟩ := trodVars_none hV
  obtain ⟨P, rfl, hP, hP1, hP2, hP3⟩ := open_plan (hval 0 25 v0 rfl rfl) h0
  obtain ⟨n1, h1⟩ := h1
  obtain ⟨n2, h2⟩ := h2
  obtain ⟨_, _, _, e1⟩ := okWide_slice Tryz.underlying26 (hval 1 26 v1 rfl rfl)
  subst e1
  obtain ⟨_, _, _, e2⟩ := okWide_slice Tryz.underlying31 (hval 2 31 v2 rfl rfl)
  subst e2
  obtain ⟨a1, ss, c1, e1, hS, hS1, hS2⟩ := open_sets h1
  simp only [Value.slice.injEq] at e1
  obtain ⟨rfl, rfl, rfl⟩ := e1
  have hc1 := slice_cap Tryz.underlying26 h1
  obtain ⟨a2, As, c2, e2, hA2, hA3⟩ := open_ints31 h2
  simp only [Value.slice.injEq] at e2
  obtain ⟨rfl, rfl, rfl⟩ := e2
  unfold maxLen at hP1 hP2 hP3 hS1 hS2 hA3
  clear hA0 hval0
  simp only [List.append_nil] at hW'
  refine (changes_law P _ ss _ _ As _ W hP hP3 hS hS2 hS1 hA2 (by omega)).mono fun e W' he => ?_
  exact law_post hW' hA1 (by kernel_rfl) rfl rfl rfl rfl (by kernel_rfl) he
theorem matrixChanges_holds : Rows.MatrixChangesSaid :=
  OpenClaim.holds_of_wide 14 Tryz.f14 rfl rfl rfl rfl rfl rfl rfl ⟨rfl, rfl, rfl, rfl, rfl⟩ rfl rfl rfl rfl rfl (by kernel_rfl) Tryz.func14 (by kernel_rfl)
    (of_decide_eq_true (by kernel_rfl)) (by unfold Func.isWrapper; first | (rw [if_pos (by decide +kernel)]; kernel_rfl) | (rw [if_neg (by decide +kernel)]; exact ⟨rfl, rfl⟩))
    (fun os started H enc _ => changes_lifted os started H enc)
end Go.Proofs.YtplbofhgmflnlaaGreat
