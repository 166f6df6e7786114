/-
  VaultGivesBack answers true for every input, and each argument reads afterwards as it read before.
-/
import Derived.Test.YtlahejakcgoheaaLG
import Derived.Test.YtlahejakcgoheaaO1
set_option linter.unusedVariables false
set_option linter.unusedSimpArgs false
namespace Go.Proofs.Ytlahejakcgoheaa
open Go.ChangeShapes Go.WideShapes Go.ChangeAt Go.RowKit Go.Joins
set_option maxRecDepth 100000 in
theorem gives_lifted (os : Os) (started : os.Started) (H : Type) (enc : TypeId × Value → H) :
    ReturnsInHanded {} Try.checked os 11 .any (Rows.vaultGivesBackSpec.pre6 enc Try.prog Try.f11 Rows.vaultGivesBackRow.domain false) (Rows.vaultGivesBackSpec.post enc Try.prog Try.f11 false true false false) := by
  refine returnsInHanded_of_change (C := Try.checked) Try.own started (by kernel_rfl) Try.func11
    (ChangeSpec.witness6 (enc := enc) (C := Try.checked) false ⟨#[], #[.slice none 0 0, .string ⟨#[]⟩, .string ⟨#[]⟩], []⟩ 8 (by kernel_rfl) (by kernel_rfl) (by kernel_rfl) (by kernel_rfl)) ?_
  intro W base args ds gs before hval0 hW hcnd _
  have hval : ∀ (j : Nat) t v, Try.f11.params[j]? = some t → args[j]? = some v → Value.okWide Try.prog W .any base t v := hval0
  have hW' := hW
  obtain ⟨p, q, hA0, hV, rfl, hfz, hnd⟩ := hW
  have hA : DataW.TrodAll enc Try.prog W 0 (fun _ => true) true Try.f11.params.toList args.toList ds p := hA0
  have hA1 := hA
  rw [Try.params11] at hA hval
  obtain ⟨v0, v1, v2, d0, d1, d2, p0, p1, p2, rfl, rfl, rfl, h0, h1, h2⟩ := trodAll_three hA
  obtain ⟨rfl, rfl⟩ := trodVars_none hV
  obtain ⟨a0, l0, k0, e0⟩ := okWide_slice Try.underlying84 (hval 0 84 v0 rfl rfl)
  obtain ⟨n0, hf0⟩ := field_of_Trod h0 (by rw [e0]; rfl)
  obtain ⟨xa, xs, xc, hv0, hx, hxl⟩ := open_txts hf0
  subst hv0
  obtain ⟨s1, e1⟩ := okWide_string Try.underlying9 (hval 1 9 v1 rfl rfl)
  obtain ⟨n1, hf1⟩ := field_of_Trod h1 (by rw [e1]; rfl)
  obtain ⟨t1, e1', ht1⟩ := open_str Try.underlying9 hf1
  obtain ⟨s2, e2⟩ := okWide_string Try.underlying9 (hval 2 9 v2 rfl rfl)
  obtain ⟨n2, hf2⟩ := field_of_Trod h2 (by rw [e2]; rfl)
  obtain ⟨t2, e2', ht2⟩ := open_str Try.underlying9 hf2
  subst e1' e2'
  clear hA0 hval0
  simp only [List.append_nil] at hW'
  unfold maxLen at hxl
  refine (gives_any xa xs xc t1 t2 W hx ht1 ht2 (by omega)).mono fun e W' he => ?_
  exact law_post hW' hA1 (by kernel_rfl) rfl rfl rfl rfl (by kernel_rfl) he
theorem vaultGivesBack_holds : Rows.VaultGivesBackSaid :=
  OpenClaim.holds_of_wide 11 Try.f11 rfl rfl rfl rfl rfl rfl rfl ⟨rfl, rfl, rfl, rfl, rfl⟩ rfl rfl rfl rfl rfl (by kernel_rfl) Try.func11 (by kernel_rfl)
    (of_decide_eq_true (by kernel_rfl)) (by unfold Func.isWrapper; first | (rw [if_pos (by decide +kernel)]; kernel_rfl) | (rw [if_neg (by decide +kernel)]; exact ⟨rfl, rfl⟩))
    (fun os started H enc _ => gives_lifted os started H enc)
end Go.Proofs.Ytlahejakcgoheaa
