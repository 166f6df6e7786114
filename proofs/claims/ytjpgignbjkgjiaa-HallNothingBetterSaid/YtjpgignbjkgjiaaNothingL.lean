/-
  HallNothingBetter answers true for every input, and each argument reads afterwards as it read before.
-/
import Derived.Test.YtjpgignbjkgjiaaL8
import Derived.Test.YtjpgignbjkgjiaaOpen2
set_option linter.unusedVariables false
set_option linter.unusedSimpArgs false
namespace Go.Proofs.Ytjpgignbjkgjiaa
open Go.ChangeShapes Go.WideShapes Go.ChangeAt Go.RowKit Go.Joins
set_option maxRecDepth 100000 in
theorem nothing_lifted (os : Os) (started : os.Started) (H : Type) (enc : TypeId × Value → H) :
    ReturnsInHanded {} Try.checked os 8 .any (Rows.hallNothingBetterSpec.pre6 enc Try.prog Try.f8 Rows.hallNothingBetterRow.domain false) (Rows.hallNothingBetterSpec.post enc Try.prog Try.f8 false true false false) := by
  refine returnsInHanded_of_change_sized (C := Try.checked) Try.own started (by kernel_rfl) Try.func8
    (ChangeSpec.witness6 (enc := enc) (C := Try.checked) false ⟨#[], #[.agg #[.int .i64 0, .int .i64 0, .slice none 0 0, .slice none 0 0], .slice none 0 0, .slice none 0 0], []⟩ 8 (by kernel_rfl) (by kernel_rfl) (by kernel_rfl) (by kernel_rfl)) ?_
  intro W base args ds gs before hval0 hW hcnd hsz _
  have hval : ∀ (j : Nat) t v, Try.f8.params[j]? = some t → args[j]? = some v → Value.okWide Try.prog W .any base t v := hval0
  have hW' := hW
  obtain ⟨p, q, hA0, hV, rfl, hfz, hnd⟩ := hW
  have hA : DataW.TrodAll enc Try.prog W 0 (fun _ => true) true Try.f8.params.toList args.toList ds p := hA0
  have hA1 := hA
  have hszp : (DataW.weightsEach Try.prog (Try.f8.params.toList ++ Rows.hallNothingBetterSpec.plain.varTypes Try.prog) (ds ++ gs)).all (· ≤ reachBytes) = true := hsz
  rw [Try.params8] at hA hval hszp
  obtain ⟨v0, v1, v2, d0, d1, d2, p0, p1, p2, rfl, rfl, rfl, h0, h1, h2⟩ := trodAll_three hA
  obtain ⟨rfl, rfl⟩ := trodVars_none hV
  obtain ⟨ha, x, rfl, hh, -, -⟩ := open_hall (hval 0 24 v0 rfl rfl) h0
  obtain ⟨a1, l1, k1, e1⟩ := okWide_slice Try.underlying25 (hval 1 25 v1 rfl rfl)
  obtain ⟨la, l, lc, hv1, hl, -⟩ := open_camps (field_of_Trod h1 (by rw [e1]; rfl))
  subst hv1
  obtain ⟨a2, l2, k2, e2⟩ := okWide_slice Try.underlying62 (hval 2 62 v2 rfl rfl)
  obtain ⟨n, hf2⟩ := field_of_Trod h2 (by rw [e2]; rfl)
  have hs2 : ∀ m ∈ d2.weights Try.prog 62, m ≤ reachBytes := fun m hm => by
    have := List.all_eq_true.1 hszp m (DataW.weights_mem_each (j := 2) (t := 62) (d := d2) rfl rfl m hm)
    simpa using this
  obtain ⟨qa, P, qc, e0, hP, hPb⟩ := open_plans hf2 hs2
  subst e0
  clear hA0 hval0 hsz hszp
  simp only [List.append_nil] at hW'
  refine (nothing_any ha x l la lc P qa qc W hh hl hP hPb).mono fun e W' he => ?_
  exact law_post hW' hA1 (by kernel_rfl) rfl rfl rfl rfl (by kernel_rfl) he
theorem hallNothingBetter_holds : Rows.HallNothingBetterSaid :=
  OpenClaim.holds_of_wide 8 Try.f8 rfl rfl rfl rfl rfl rfl rfl ⟨rfl, rfl, rfl, rfl, rfl⟩ rfl rfl rfl rfl rfl (by kernel_rfl) Try.func8 (by kernel_rfl)
    (of_decide_eq_true (by kernel_rfl)) (by unfold Func.isWrapper; first | (rw [if_pos (by decide +kernel)]; kernel_rfl) | (rw [if_neg (by decide +kernel)]; exact ⟨rfl, rfl⟩))
    (fun os started H enc _ => nothing_lifted os started H enc)
end Go.Proofs.Ytjpgignbjkgjiaa
