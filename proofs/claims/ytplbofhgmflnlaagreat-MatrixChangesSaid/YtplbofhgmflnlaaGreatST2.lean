/-
  Walk: MatrixSettings, where the plan is too wide, or bad.
-/
import Derived.Test.YtplbofhgmflnlaaGreatOW3
import Derived.Test.YtplbofhgmflnlaaGreatRF2
import Derived.Test.YtplbofhgmflnlaaGreatRF3
import Derived.Test.YtplbofhgmflnlaaGreatST1
import Derived.Test.YtplbofhgmflnlaaGreatKD3
import Derived.Test.YtplbofhgmflnlaaGreatWP
set_option linter.unusedVariables false
set_option linter.unusedSimpArgs false
namespace Go.Proofs.YtplbofhgmflnlaaGreat
open Go.RowKit
theorem PlanB.same {P Q : Pw} (h : PlanB P) (s : SameP P Q) : PlanB Q :=
  ⟨by rw [← s.fs]; exact h.fl, by rw [← s.len]; exact h.gl, fun i hi => by rw [← s.len] at hi; rw [← s.xs i hi]; exact h.pl i hi⟩
/-- A plan that is not too wide is within what its copy's contract asks. -/
theorem own_wide (P : Pw) (w : World) (hp : PlanAt w P) (h : wideP P.fs P.fo = false) : Calls Tryz.prog 40 #[planV P] w (fun e w' => ∃ Q, e = .returned (planV Q) ∧ Ext w w' ∧ PlanAt w' Q ∧ SameP P Q) := by
  obtain ⟨h1, -, h2, -, h3⟩ := wideP_no h
  exact own_any P w hp (by omega) (by omega) fun i hi => by have := h3 i hi; omega
theorem planB_wide {P : Pw} (h : wideP P.fs P.fo = false) : PlanB P := by
  obtain ⟨h1, -, h2, -, h3⟩ := wideP_no h
  exact ⟨by omega, by omega, fun i hi => by have := h3 i hi; omega⟩
set_option maxRecDepth 100000 in
set_option maxHeartbeats 4000000 in
theorem st_wide (P : Pw) (a : Option Addr) (n c : Nat) (w : World) (hp : PlanAt w P) (hgl : ∀ i, i < P.fo.length → (gth P.fo i).xs.length ≤ 9223372036854775807) (hn : n ≤ 9223372036854775807)
    (h : wideP P.fs P.fo = true ∨ 10 < n) : Calls Tryz.prog 8 #[planV P, .slice a n c] w (Ret (.bool true) w) := by
  have hwp := fun W (e : Ext w W) => wideP_any P.fs P.fo P.fa P.ga P.fc P.gc W (hp.ext e).fo hgl
  obtain ⟨x, hx⟩ : ∃ x, x = wideP P.fs P.fo := ⟨_, rfl⟩
  obtain ⟨fs, fa, fc, fo, ga, gc⟩ := P
  simp only at hwp hx h
  rw [← hx] at hwp h
  have HWP := Lib.hid hwp
  clear hwp hp hgl hx
  have hd : x = true ∨ (x = false ∧ 10 < n) := by
    cases x
    · right; exact ⟨rfl, by simpa using h⟩
    · left; rfl
  clear h
  rcases hd with rfl | ⟨rfl, h10⟩ <;> (
  go_enter Tryz.func8, Tryz.ntmps8
  go_wp2_with (fail)
  generalize hw1 : World.alloc _ _ = w1
  obtain ⟨he, o1, -⟩ := alloc1 hw1
  obtain ⟨b0, b1⟩ := obj_cells2 o1
  have E1 := Ext.refl w1
  have HE := Lib.hid he
  clear hw1 o1 he
  go_wp2_with (first
    | (go_at_call 15; (with_reducible refine (HWP.out _ HE.out).mono ?_); rintro e w2 ⟨rfl, he2⟩)
    | (go_at_call 17; (with_reducible refine (known_any _).mono ?_); rintro e w4 ⟨rfl, he4⟩))
  go_ret
  exact ⟨rfl, HE.out.trans (he2.trans he4)⟩)
set_option maxRecDepth 100000 in
set_option maxHeartbeats 4000000 in
theorem st_bad (P : Pw) (a : Option Addr) (ls : List Int) (c : Nat) (w : World) (hp : PlanAt w P) (hl : Ints w a ls) (hn : ls.length ≤ 10) (h1 : wideP P.fs P.fo = false) (h0 : planBad P = true) :
    Calls Tryz.prog 8 #[planV P, .slice a ls.length c] w (Ret (.bool true) w) := by
  have hb := planB_wide h1
  have hwp := fun W (e : Ext w W) => wideP_any P.fs P.fo P.fa P.ga P.fc P.gc W (hp.ext e).fo (fun i hi => by have := hb.pl i hi; omega)
  have hov := fun W (e : Ext w W) => own_wide P W (hp.ext e) h1
  have hrp := fun W (e : Ext w W) => rPlan_any P W (hp.ext e) hb
  have hse : ∀ Q W, SameP P Q → PlanAt W Q → Calls Tryz.prog 22 #[planV Q] W (Ret (.tuple #[.slice none 0 0, .int .i64 2]) W) := fun Q W s hq => settings_err1 Q W hq (hb.same s) (by rw [← s.bad]; exact h0)
  have hal : ∀ Q W a' c', SameP P Q → PlanAt W Q → Ints W a' ls → Calls Tryz.prog 23 #[planV Q, .slice a' ls.length c'] W (Ret (.tuple #[.bool false, .int .i64 2]) W) := fun Q W a' c' s hq hi => by
    have := Allowed_any Q a' ls c' W hq (hb.same s) hi (by omega)
    rwa [show AllowedV Q ls = .tuple #[.bool false, .int .i64 2] by unfold AllowedV; rw [← s.bad, h0]; rfl] at this
  have hcp : ∀ Q W, SameP P Q → PlanAt W Q → Calls Tryz.prog 42 #[planV Q] W (Ret (.int .i64 2) W) := fun Q W s hq => by
    have hbq := hb.same s
    have := checkPlan_any Q W hq (fun i hi => by have := hbq.pl i hi; omega) (by have := hbq.fl; omega) (by have := hbq.gl; omega)
    rwa [show planE Q = 2 by unfold planE; rw [← s.bad, h0]; rfl] at this
  rw [h1] at hwp
  rw [h0] at hrp
  obtain ⟨fs, fa, fc, fo, ga, gc⟩ := P
  have HWP := Lib.hid hwp; have HOV := Lib.hid hov; have HRP := Lib.hid hrp; have HSE := Lib.hid hse; have HAL := Lib.hid hal; have HCP := Lib.hid hcp
  have HL := Lib.hid hl
  clear hwp hov hrp hse hal hcp hl hp h0 h1 hb
  go_enter Tryz.func8, Tryz.ntmps8
  go_wp2_with (fail)
  generalize hw1 : World.alloc _ _ = w1
  obtain ⟨he, o1, -⟩ := alloc1 hw1
  obtain ⟨b0, b1⟩ := obj_cells2 o1
  have E1 := Ext.refl w1
  have HE := Lib.hid he
  clear hw1 o1 he
  go_wp2_with (fail)
  (with_reducible refine (HWP.out _ HE.out).mono ?_); rintro e w2 ⟨rfl, he2⟩
  go_wp2_with (fail)
  (with_reducible refine (HOV.out _ (HE.out.trans he2)).mono ?_); rintro e w3 ⟨Q, rfl, he3, hq3, hsp⟩
  have HSP := Lib.hid hsp; have HQ3 := Lib.hid hq3
  have HE3 := Lib.hid (he2.trans he3)
  clear hsp hq3 HWP HOV
  obtain ⟨qs, qa, qc, qo, pa, pc⟩ := Q
  have B0 := fun W (e : Ext w3 W) => b0 W (HE3.out.trans e)
  have B1 := fun W (e : Ext w3 W) => b1 W (HE3.out.trans e)
  clear b0 b1 E1 he2 he3
  go_upto_region 4 with fail
  generalize hw4 : World.alloc _ _ = w4
  obtain ⟨he4, o4, hs4⟩ := alloc1 hw4
  obtain ⟨q0, q1⟩ := obj_cells2 o4
  have C0 := fun W (e : Ext w4 W) => B0 W (he4.trans e)
  have C1 := fun W (e : Ext w4 W) => B1 W (he4.trans e)
  have HE4 := Lib.hid (HE.out.trans (HE3.out.trans he4))
  have HQ4 := Lib.hid (HQ3.out.ext he4)
  obtain ⟨bq, hbq⟩ : ∃ bq, bq = w3.heap.size := ⟨_, rfl⟩
  rw [← hbq] at q0 q1 ⊢
  have E4 := Ext.refl w4
  clear hw4 o4 hs4 he4 hbq B0 B1
  go_wp2_with (fail)
  (with_reducible refine (HSE.out ⟨qs, qa, qc, qo, pa, pc⟩ _ HSP.out HQ4.out).mono ?_); rintro e w5 ⟨rfl, he5⟩
  have HC0 : Hid (∀ W, Ext w5 W → W.cell? ⟨bq, 0, none⟩ = some (.slice qa qs.length qc)) := fun W e => q0 W (he5.trans e)
  have HC1 : Hid (∀ W, Ext w5 W → W.cell? ⟨bq, 1, none⟩ = some (.slice pa qo.length pc)) := fun W e => q1 W (he5.trans e)
  have HI : Hid (Ints w5 a ls ∧ ls.length ≤ 1000000) := ⟨HL.out.ext (HE4.out.trans he5), by omega⟩
  have HCALL : Hid (∀ W, Ext w5 W → ∀ a c, Ints W a ls → Calls Tryz.prog 23 #[.agg #[.slice qa qs.length qc, .slice pa qo.length pc], .slice a ls.length c] W (Ret (.tuple #[.bool false, .int .i64 2]) W)) := fun W e a c hi => HAL.out ⟨qs, qa, qc, qo, pa, pc⟩ W a c HSP.out (HQ4.out.ext (he5.trans e)) hi
  have HE5 := Lib.hid (HE4.out.trans he5); have HX5 := Lib.hid he5
  clear he5
  go_upto_region 5 with fail
  refine al_law HC0 HC1 HI HCALL _ (by rfl) rfl rfl ?_
  intro vs w9 ls9 hl9 hJ9 e0 e1 e2 e3 e4 e5 e6 e7 e8 e9
  simp only [Act.put, List.setIfInBounds_toArray, List.set_cons_zero, List.set_cons_succ]
  rw [e0, e2, e4, e5, e6, e7, e8, e9]
  have he9 := hJ9.1
  have D0 := fun W (e : Ext w9 W) => C0 W ((HX5.out.trans he9).trans e)
  have D1 := fun W (e : Ext w9 W) => C1 W ((HX5.out.trans he9).trans e)
  have Q0 := fun W (e : Ext w9 W) => q0 W ((HX5.out.trans he9).trans e)
  have Q1 := fun W (e : Ext w9 W) => q1 W ((HX5.out.trans he9).trans e)
  have HE9 := Lib.hid (HE5.out.trans he9)
  have HQ9 := Lib.hid (HQ4.out.ext (HX5.out.trans he9))
  have E9 := Ext.refl w9
  clear hJ9 hl9 HCALL HC0 HC1 HI he9 C0 C1 q0 q1 E4 HX5
  generalize vs 1 = v1
  generalize vs 3 = v3
  go_wp2_with (fail)
  (with_reducible refine (HRP.out _ HE9.out).mono ?_); rintro e w10 ⟨rfl, he10⟩
  go_wp2_with (fail)
  (with_reducible refine (HCP.out ⟨qs, qa, qc, qo, pa, pc⟩ _ HSP.out (HQ9.out.ext he10)).mono ?_); rintro e w11 ⟨rfl, he11⟩
  go_wp2_with (fail)
  (with_reducible refine (known_any _).mono ?_); rintro e w12 ⟨rfl, he12⟩
  go_wp2_with (fail)
  go_ret
  exact ⟨rfl, HE9.out.trans (he10.trans (he11.trans he12))⟩
end Go.Proofs.YtplbofhgmflnlaaGreat
