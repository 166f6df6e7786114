/-
  VaultChangesSeen answers true for every input, and each argument reads afterwards as it read before.
-/
import Derived.Test.YtlahejakcgoheaaLC2
import Derived.Test.YtlahejakcgoheaaLC4
import Derived.Test.YtlahejakcgoheaaLC6
import Derived.Test.YtlahejakcgoheaaLC8
import Derived.Test.YtlahejakcgoheaaLC9
import Derived.Test.YtlahejakcgoheaaLC10
import Derived.Test.YtlahejakcgoheaaO1
set_option linter.unusedVariables false
set_option linter.unusedSimpArgs false
namespace Go.Proofs.Ytlahejakcgoheaa
open Go.ChangeShapes Go.WideShapes Go.ChangeAt Go.RowKit Go.Joins
theorem seen_any (ca ba : Option Addr) (xs : List Op) (bs : List UInt8) (cc bc lk at0 fd vl : Nat) (w : World) (hx : Ops w ca xs) (hb : Byts w ba bs) (hl : xs.length ≤ 9223372036854775807) (hbl : bs.length ≤ 9223372036854775807) (hlk : lk < 256) (hat : at0 < 65536) (hfd : fd < 256) (hvl : vl < 4294967296) :
    Calls Try.prog 8 #[.agg #[.slice ca xs.length cc, .int .u8 lk, .slice ba bs.length bc, .int .u16 at0, .int .u8 fd, .int .u32 vl]] w (Ret (.bool true) w) := by
  by_cases q1 : fd = 1
  · exact seen_1 ca ba xs bs cc bc lk at0 fd vl w hx hb hl hbl hlk hat q1 hvl
  by_cases q2 : fd = 2
  · exact seen_2 ca ba xs bs cc bc lk at0 fd vl w hx hb hl hbl hlk hat q2 hvl
  by_cases q3 : fd = 3
  · exact seen_3 ca ba xs bs cc bc lk at0 fd vl w hx hb hl hbl hlk hat q3 hvl
  by_cases q4 : fd = 4
  · exact seen_4 ca ba xs bs cc bc lk at0 fd vl w hx hb hl hbl hlk hat q4 hvl
  by_cases q5 : fd = 5
  · exact seen_5 ca ba xs bs cc bc lk at0 fd vl w hx hb hl hbl hlk hat q5 hvl
  by_cases q0 : fd = 0
  · by_cases q7 : bs.length ≤ 7
    · exact seen_06 ca ba xs bs cc bc lk at0 fd vl w hx hb hl hbl hlk hat q0 hvl q7
    · exact seen_08 ca ba xs bs cc bc lk at0 fd vl w hx hb hl hbl hlk hat q0 hvl (by omega)
  · by_cases q7 : bs.length ≤ 7
    · exact seen_09 ca ba xs bs cc bc lk at0 fd vl w hx hb hl hbl hlk hat ⟨by omega, hfd⟩ hvl q7
    · exact seen_010 ca ba xs bs cc bc lk at0 fd vl w hx hb hl hbl hlk hat ⟨by omega, hfd⟩ hvl (by omega)
set_option maxRecDepth 100000 in
theorem seen_lifted (os : Os) (started : os.Started) (H : Type) (enc : TypeId × Value → H) :
    ReturnsInHanded {} Try.checked os 8 .any (Rows.vaultChangesSeenSpec.pre6 enc Try.prog Try.f8 Rows.vaultChangesSeenRow.domain false) (Rows.vaultChangesSeenSpec.post enc Try.prog Try.f8 false true false false) := by
  refine returnsInHanded_of_change (C := Try.checked) Try.own started (by kernel_rfl) Try.func8
    (ChangeSpec.witness6 (enc := enc) (C := Try.checked) false ⟨#[], #[.agg #[.slice none 0 0, .int .u8 0, .slice none 0 0, .int .u16 0, .int .u8 0, .int .u32 0]], []⟩ 8 (by kernel_rfl) (by kernel_rfl) (by kernel_rfl) (by kernel_rfl)) ?_
  intro W base args ds gs before hval0 hW hcnd _
  have hval : ∀ (j : Nat) t v, Try.f8.params[j]? = some t → args[j]? = some v → Value.okWide Try.prog W .any base t v := hval0
  have hW' := hW
  obtain ⟨p, q, hA0, hV, rfl, hfz, hnd⟩ := hW
  have hA : DataW.TrodAll enc Try.prog W 0 (fun _ => true) true Try.f8.params.toList args.toList ds p := hA0
  have hA1 := hA
  rw [Try.params8] at hA hval
  obtain ⟨v0, d0, rfl, rfl, h0⟩ := trodAll_one hA
  obtain ⟨rfl, rfl⟩ := trodVars_none hV
  obtain ⟨cs, n, rfl, hsz, hf⟩ := open_aggN Try.underlying72 (by kernel_rfl) (by kernel_rfl) (hval 0 72 v0 rfl rfl) h0
  obtain ⟨u0, y0, k0, g0⟩ := hf 0 _ rfl
  obtain ⟨u1, y1, k1, g1⟩ := hf 1 _ rfl
  obtain ⟨u2, y2, k2, g2⟩ := hf 2 _ rfl
  obtain ⟨u3, y3, k3, g3⟩ := hf 3 _ rfl
  obtain ⟨u4, y4, k4, g4⟩ := hf 4 _ rfl
  obtain ⟨u5, y5, k5, g5⟩ := hf 5 _ rfl
  have hcs : cs = #[u0, u1, u2, u3, u4, u5] := by
    have hs6 : cs.size = 6 := hsz
    apply Array.ext
    · rw [hs6]; rfl
    · intro i h1 h2
      rw [hs6] at h1
      have e : cs[i]? = (#[u0, u1, u2, u3, u4, u5] : Array Value)[i]? := by
        match i, h1 with
        | 0, _ => exact k0
        | 1, _ => exact k1
        | 2, _ => exact k2
        | 3, _ => exact k3
        | 4, _ => exact k4
        | 5, _ => exact k5
      rw [Array.getElem?_eq_getElem (by omega), Array.getElem?_eq_getElem h2] at e
      exact Option.some.inj e
  subst hcs
  obtain ⟨xa, xs, xc, rfl, hx, hxl⟩ := open_ops g0
  obtain ⟨z1, rfl, w1⟩ := open_u Try.underlying5 g1
  obtain ⟨ba, bs, bc, rfl, hb, hbl⟩ := open_bytes g2
  obtain ⟨z3, rfl, w3⟩ := open_u Try.underlying30 g3
  obtain ⟨z4, rfl, w4⟩ := open_u Try.underlying5 g4
  obtain ⟨z5, rfl, w5⟩ := open_u Try.underlying70 g5
  obtain ⟨lk, rfl, hlk⟩ := wf_u8 w1
  obtain ⟨at0, rfl, hat⟩ := wf_u16 w3
  obtain ⟨fd, rfl, hfd⟩ := wf_u8 w4
  obtain ⟨vl, rfl, hvl⟩ := wf_u32 w5
  clear hA0 hval0
  simp only [List.append_nil] at hW'
  unfold maxLen at hxl hbl
  refine (seen_any xa ba xs bs xc bc lk at0 fd vl W hx hb (by omega) (by omega) hlk hat hfd hvl).mono fun e W' he => ?_
  exact law_post hW' hA1 (by kernel_rfl) rfl rfl rfl rfl (by kernel_rfl) he
theorem vaultChangesSeen_holds : Rows.VaultChangesSeenSaid :=
  OpenClaim.holds_of_wide 8 Try.f8 rfl rfl rfl rfl rfl rfl rfl ⟨rfl, rfl, rfl, rfl, rfl⟩ rfl rfl rfl rfl rfl (by kernel_rfl) Try.func8 (by kernel_rfl)
    (of_decide_eq_true (by kernel_rfl)) (by unfold Func.isWrapper; first | (rw [if_pos (by decide +kernel)]; kernel_rfl) | (rw [if_neg (by decide +kernel)]; exact ⟨rfl, rfl⟩))
    (fun os started H enc _ => seen_lifted os started H enc)
end Go.Proofs.Ytlahejakcgoheaa
