/-
  HallSecret answers true for every input, and each argument reads afterwards as it read before.
-/
import Derived.Test.YtjpgignbjkgjiaaL12
import Derived.Test.YtjpgignbjkgjiaaOpen3
set_option linter.unusedVariables false
set_option linter.unusedSimpArgs false
namespace Go.Proofs.Ytjpgignbjkgjiaa
open Go.ChangeShapes Go.WideShapes Go.ChangeAt Go.RowKit Go.Joins
set_option maxRecDepth 100000 in
theorem secret_lifted (os : Os) (started : os.Started) (H : Type) (enc : TypeId × Value → H) :
    ReturnsInHanded {} Try.checked os 4 .any (Rows.hallSecretSpec.pre6 enc Try.prog Try.f4 Rows.hallSecretRow.domain false) (Rows.hallSecretSpec.post enc Try.prog Try.f4 false true false false) := by
  refine returnsInHanded_of_change (C := Try.checked) Try.own started (by kernel_rfl) Try.func4
    (ChangeSpec.witness6 (enc := enc) (C := Try.checked) false ⟨#[], #[.agg #[.int .i64 0, .int .i64 0, .slice none 0 0, .slice none 0 0], .slice none 0 0, .agg #[.slice none 0 0, .int .i64 0, .slice none 0 0]], []⟩ 8 (by kernel_rfl) (by kernel_rfl) (by kernel_rfl) (by kernel_rfl)) ?_
  intro W base args ds gs before hval0 hW hcnd _
  have hval : ∀ (j : Nat) t v, Try.f4.params[j]? = some t → args[j]? = some v → Value.okWide Try.prog W .any base t v := hval0
  have hW' := hW
  obtain ⟨p, q, hA0, hV, rfl, hfz, hnd⟩ := hW
  have hA : DataW.TrodAll enc Try.prog W 0 (fun _ => true) true Try.f4.params.toList args.toList ds p := hA0
  have hA1 := hA
  rw [Try.params4] at hA hval
  obtain ⟨v0, v1, v2, d0, d1, d2, p0, p1, p2, rfl, rfl, rfl, h0, h1, h2⟩ := trodAll_three hA
  obtain ⟨rfl, rfl⟩ := trodVars_none hV
  obtain ⟨ha, x, rfl, hh, -, -⟩ := open_hall (hval 0 24 v0 rfl rfl) h0
  obtain ⟨a1, l1, k1, e1⟩ := okWide_slice Try.underlying25 (hval 1 25 v1 rfl rfl)
  obtain ⟨la, l, lc, hv1, hl, -⟩ := open_camps (field_of_Trod h1 (by rw [e1]; rfl))
  subst hv1
  obtain ⟨pa, pl, pc, cu, ga, ch, gc, e2, hp, hb, hm, hch⟩ := open_guise (hval 2 43 v2 rfl rfl) h2
  subst e2
  clear hA0 hval0
  simp only [List.append_nil] at hW'
  refine (secret_any ha x l la lc pl pa pl.length pc cu ch ga ch.length gc W hh hl hp rfl hb rfl (by unfold maxLen at hm; omega) hch).mono fun e W' he => ?_
  exact law_post hW' hA1 (by kernel_rfl) rfl rfl rfl rfl (by kernel_rfl) he
theorem hallSecret_holds : Rows.HallSecretSaid :=
  OpenClaim.holds_of_wide 4 Try.f4 rfl rfl rfl rfl rfl rfl rfl ⟨rfl, rfl, rfl, rfl, rfl⟩ rfl rfl rfl rfl rfl (by kernel_rfl) Try.func4 (by kernel_rfl)
    (of_decide_eq_true (by kernel_rfl)) (by unfold Func.isWrapper; first | (rw [if_pos (by decide +kernel)]; kernel_rfl) | (rw [if_neg (by decide +kernel)]; exact ⟨rfl, rfl⟩))
    (fun os started H enc _ => secret_lifted os started H enc)
end Go.Proofs.Ytjpgignbjkgjiaa
