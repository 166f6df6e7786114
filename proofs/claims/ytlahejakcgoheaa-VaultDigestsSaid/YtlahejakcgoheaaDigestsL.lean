/-
  VaultDigests answers true for every input, and each argument reads afterwards as it read before.
-/
import Derived.Test.YtlahejakcgoheaaLE
import Derived.Test.YtlahejakcgoheaaO1
set_option linter.unusedVariables false
set_option linter.unusedSimpArgs false
namespace Go.Proofs.Ytlahejakcgoheaa
open Go.ChangeShapes Go.WideShapes Go.ChangeAt Go.RowKit Go.Joins
set_option maxRecDepth 100000 in
theorem digests_lifted (os : Os) (started : os.Started) (H : Type) (enc : TypeId × Value → H) :
    ReturnsInHanded {} Try.checked os 3 .any (Rows.vaultDigestsSpec.pre6 enc Try.prog Try.f3 Rows.vaultDigestsRow.domain false) (Rows.vaultDigestsSpec.post enc Try.prog Try.f3 false true false false) := by
  refine returnsInHanded_of_change (C := Try.checked) Try.own started (by kernel_rfl) Try.func3
    (ChangeSpec.witness6 (enc := enc) (C := Try.checked) false ⟨#[], #[.int .u64 0, .slice none 0 0, .string ⟨#[]⟩], []⟩ 8 (by kernel_rfl) (by kernel_rfl) (by kernel_rfl) (by kernel_rfl)) ?_
  intro W base args ds gs before hval0 hW hcnd _
  have hval : ∀ (j : Nat) t v, Try.f3.params[j]? = some t → args[j]? = some v → Value.okWide Try.prog W .any base t v := hval0
  have hW' := hW
  obtain ⟨p, q, hA0, hV, rfl, hfz, hnd⟩ := hW
  have hA : DataW.TrodAll enc Try.prog W 0 (fun _ => true) true Try.f3.params.toList args.toList ds p := hA0
  have hA1 := hA
  rw [Try.params3] at hA hval
  obtain ⟨v0, v1, v2, d0, d1, d2, p0, p1, p2, rfl, rfl, rfl, h0, h1, h2⟩ := trodAll_three hA
  obtain ⟨rfl, rfl⟩ := trodVars_none hV
  obtain ⟨z0, e0⟩ := okWide_int Try.underlying22 (hval 0 22 v0 rfl rfl)
  subst e0
  obtain ⟨n0, hf0⟩ := field_of_Trod h0 rfl
  obtain ⟨z0', e0, w0⟩ := open_u Try.underlying22 hf0
  simp only [Value.int.injEq, true_and] at e0
  subst e0
  obtain ⟨s, rfl, hs⟩ := wf_u64 w0
  obtain ⟨a1, l1, k1, e1⟩ := okWide_slice Try.underlying23 (hval 1 23 v1 rfl rfl)
  obtain ⟨n1, hf1⟩ := field_of_Trod h1 (by rw [e1]; rfl)
  obtain ⟨xa, xs, xc, hv1, hx, -⟩ := open_bytes hf1
  subst hv1
  obtain ⟨nm, e2⟩ := okWide_string Try.underlying9 (hval 2 9 v2 rfl rfl)
  subst e2
  clear hA0 hval0
  simp only [List.append_nil] at hW'
  refine (digests_any s xa xs xc nm W hs hx).mono fun e W' he => ?_
  exact law_post hW' hA1 (by kernel_rfl) rfl rfl rfl rfl (by kernel_rfl) he
theorem vaultDigests_holds : Rows.VaultDigestsSaid :=
  OpenClaim.holds_of_wide 3 Try.f3 rfl rfl rfl rfl rfl rfl rfl ⟨rfl, rfl, rfl, rfl, rfl⟩ rfl rfl rfl rfl rfl (by kernel_rfl) Try.func3 (by kernel_rfl)
    (of_decide_eq_true (by kernel_rfl)) (by unfold Func.isWrapper; first | (rw [if_pos (by decide +kernel)]; kernel_rfl) | (rw [if_neg (by decide +kernel)]; exact ⟨rfl, rfl⟩))
    (fun os started H enc _ => digests_lifted os started H enc)
end Go.Proofs.Ytlahejakcgoheaa
