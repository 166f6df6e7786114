/-
  MatrixAliased answers true for every input, and each argument reads afterwards as it read before.
-/
import Derived.Test.YtplbofhgmflnlaaGreatLB
import Derived.Test.YtplbofhgmflnlaaGreatOC2
set_option linter.unusedVariables false
set_option linter.unusedSimpArgs false
namespace Go.Proofs.YtplbofhgmflnlaaGreat
open Go.ChangeShapes Go.WideShapes Go.ChangeAt Go.RowKit Go.Joins
set_option maxRecDepth 100000 in
theorem aliased_lifted (os : Os) (started : os.Started) (H : Type) (enc : TypeId × Value → H) :
    ReturnsInHanded {} Tryz.checked os 7 .any (Rows.matrixAliasedSpec.pre6 enc Tryz.prog Tryz.f7 Rows.matrixAliasedRow.domain false) (Rows.matrixAliasedSpec.post enc Tryz.prog Tryz.f7 false true false false) := by
  refine returnsInHanded_of_change (C := Tryz.checked) Tryz.own started (by kernel_rfl) Tryz.func7
    (ChangeSpec.witness6 (enc := enc) (C := Tryz.checked) false ⟨#[], #[.agg #[.int .i64 0, .slice none 0 0], .int .u16 0, .int .u16 0], []⟩ 8 (by kernel_rfl) (by kernel_rfl) (by kernel_rfl) (by kernel_rfl)) ?_
  intro W base args ds gs before hval0 hW hcnd _
  have hval : ∀ (j : Nat) t v, Tryz.f7.params[j]? = some t → args[j]? = some v → Value.okWide Tryz.prog W .any base t v := hval0
  have hW' := hW
  obtain ⟨p, q, hA0, hV, rfl, hfz, hnd⟩ := hW
  have hA : DataW.TrodAll enc Tryz.prog W 0 (fun _ => true) true Tryz.f7.params.toList args.toList ds p := hA0
  have hA1 := hA
  rw [Tryz.params7] at hA hval
  obtain ⟨v0, v1, v2, d0, d1, d2, p0, p1, p2, rfl, rfl, rfl, h0, h1, h2⟩ := trodAll_three hA
  obtain ⟨rfl, rfl⟩ := trodVars_none hV
  obtain ⟨F, rfl, hF, hFb⟩ := open_frac (hval 0 58 v0 rfl rfl) h0
  obtain ⟨z1, rfl⟩ := okWide_int Tryz.underlying59 (hval 1 59 v1 rfl rfl)
  obtain ⟨z2, rfl⟩ := okWide_int Tryz.underlying59 (hval 2 59 v2 rfl rfl)
  obtain ⟨n1, h1⟩ := h1
  obtain ⟨n2, h2⟩ := h2
  obtain ⟨q1, e1, w1⟩ := open_u Tryz.underlying59 h1
  obtain ⟨q2, e2, w2⟩ := open_u Tryz.underlying59 h2
  cases e1
  cases e2
  obtain ⟨a, rfl, ha⟩ := wf_u16 w1
  obtain ⟨b, rfl, hb⟩ := wf_u16 w2
  clear hA0 hval0
  simp only [List.append_nil] at hW'
  refine (aliased_any F a b W hF hFb ha hb).mono fun e W' he => ?_
  exact law_post hW' hA1 (by kernel_rfl) rfl rfl rfl rfl (by kernel_rfl) he
theorem matrixAliased_holds : Rows.MatrixAliasedSaid :=
  OpenClaim.holds_of_wide 7 Tryz.f7 rfl rfl rfl rfl rfl rfl rfl ⟨rfl, rfl, rfl, rfl, rfl⟩ rfl rfl rfl rfl rfl (by kernel_rfl) Tryz.func7 (by kernel_rfl)
    (of_decide_eq_true (by kernel_rfl)) (by unfold Func.isWrapper; first | (rw [if_pos (by decide +kernel)]; kernel_rfl) | (rw [if_neg (by decide +kernel)]; exact ⟨rfl, rfl⟩))
    (fun os started H enc _ => aliased_lifted os started H enc)
end Go.Proofs.YtplbofhgmflnlaaGreat
