/-
  VaultLoads answers true for every input, and each argument reads afterwards as it read before.
-/
import Derived.Test.YtlahejakcgoheaaTI
import Derived.Test.YtlahejakcgoheaaO1
set_option linter.unusedVariables false
set_option linter.unusedSimpArgs false
namespace Go.Proofs.Ytlahejakcgoheaa
open Go.ChangeShapes Go.WideShapes Go.ChangeAt Go.RowKit Go.Joins
set_option maxRecDepth 100000 in
theorem loads_lifted (os : Os) (started : os.Started) (H : Type) (enc : TypeId × Value → H) :
    ReturnsInHanded {} Try.checked os 6 .any (Rows.vaultLoadsSpec.pre6 enc Try.prog Try.f6 Rows.vaultLoadsRow.domain false) (Rows.vaultLoadsSpec.post enc Try.prog Try.f6 false true false false) := by
  refine returnsInHanded_of_change (C := Try.checked) Try.own started (by kernel_rfl) Try.func6
    (ChangeSpec.witness6 (enc := enc) (C := Try.checked) false ⟨#[], #[.agg #[.slice none 0 0, .slice none 0 0, .int .u8 0, .int .u8 0, .string ⟨#[]⟩, .int .i64 0, .bool false]], []⟩ 8 (by kernel_rfl) (by kernel_rfl) (by kernel_rfl) (by kernel_rfl)) ?_
  intro W base args ds gs before hval0 hW hcnd _
  have hval : ∀ (j : Nat) t v, Try.f6.params[j]? = some t → args[j]? = some v → Value.okWide Try.prog W .any base t v := hval0
  have hW' := hW
  obtain ⟨p, q, hA0, hV, rfl, hfz, hnd⟩ := hW
  have hA : DataW.TrodAll enc Try.prog W 0 (fun _ => true) true Try.f6.params.toList args.toList ds p := hA0
  have hA1 := hA
  rw [Try.params6] at hA hval
  obtain ⟨v0, d0, rfl, rfl, h0⟩ := trodAll_one hA
  obtain ⟨rfl, rfl⟩ := trodVars_none hV
  obtain ⟨cs, n, rfl, hsz, hf⟩ := open_aggN Try.underlying61 (by kernel_rfl) (by kernel_rfl) (hval 0 61 v0 rfl rfl) h0
  obtain ⟨u0, y0, k0, g0⟩ := hf 0 _ rfl
  obtain ⟨u1, y1, k1, g1⟩ := hf 1 _ rfl
  obtain ⟨u2, y2, k2, g2⟩ := hf 2 _ rfl
  obtain ⟨u3, y3, k3, g3⟩ := hf 3 _ rfl
  obtain ⟨u4, y4, k4, g4⟩ := hf 4 _ rfl
  obtain ⟨u5, y5, k5, g5⟩ := hf 5 _ rfl
  obtain ⟨u6, y6, k6, g6⟩ := hf 6 _ rfl
  have hcs : cs = #[u0, u1, u2, u3, u4, u5, u6] := by
    have hs6 : cs.size = 7 := hsz
    apply Array.ext
    · rw [hs6]; rfl
    · intro i h1 h2
      rw [hs6] at h1
      have e : cs[i]? = (#[u0, u1, u2, u3, u4, u5, u6] : Array Value)[i]? := by
        match i, h1 with
        | 0, _ => exact k0
        | 1, _ => exact k1
        | 2, _ => exact k2
        | 3, _ => exact k3
        | 4, _ => exact k4
        | 5, _ => exact k5
        | 6, _ => exact k6
      rw [Array.getElem?_eq_getElem (by omega), Array.getElem?_eq_getElem h2] at e
      exact Option.some.inj e
  subst hcs
  obtain ⟨xa, xs, xc, rfl, hx, hxl⟩ := open_ops g0
  obtain ⟨ya, ys, yc, rfl, hy, hyl⟩ := open_ops g1
  obtain ⟨z2, rfl, w2⟩ := open_u Try.underlying5 g2
  obtain ⟨z3, rfl, w3⟩ := open_u Try.underlying5 g3
  obtain ⟨tx, rfl, htx⟩ := open_str Try.underlying9 g4
  obtain ⟨num, rfl, w5⟩ := open_u Try.underlying3 g5
  obtain ⟨rt, er, -⟩ := DataW.trod_bool Try.underlying4 g6
  simp only [List.cons.injEq, and_true] at er
  subst er
  obtain ⟨at0, rfl, hat⟩ := wf_u8 w2
  obtain ⟨wt, rfl, hwt⟩ := wf_u8 w3
  obtain ⟨hn0, hn1⟩ := wf_i64 w5
  clear hA0 hval0
  simp only [List.append_nil] at hW'
  unfold maxLen at hxl hyl htx
  refine (loads_any xa ya xs ys xc yc ⟨at0, wt, tx, num, rt⟩ W hx hy (by omega) (by omega) (by show tx.size ≤ _; omega) hat hwt hn0 hn1).mono fun e W' he => ?_
  exact law_post hW' hA1 (by kernel_rfl) rfl rfl rfl rfl (by kernel_rfl) he
theorem vaultLoads_holds : Rows.VaultLoadsSaid :=
  OpenClaim.holds_of_wide 6 Try.f6 rfl rfl rfl rfl rfl rfl rfl ⟨rfl, rfl, rfl, rfl, rfl⟩ rfl rfl rfl rfl rfl (by kernel_rfl) Try.func6 (by kernel_rfl)
    (of_decide_eq_true (by kernel_rfl)) (by unfold Func.isWrapper; first | (rw [if_pos (by decide +kernel)]; kernel_rfl) | (rw [if_neg (by decide +kernel)]; exact ⟨rfl, rfl⟩))
    (fun os started H enc _ => loads_lifted os started H enc)
end Go.Proofs.Ytlahejakcgoheaa
