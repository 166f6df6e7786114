/-
  Walk: MatrixFractions, too wide or refused.
-/
import Derived.Test.YtplbofhgmflnlaaGreatQE3
import Derived.Test.YtplbofhgmflnlaaGreatQF1
import Derived.Test.YtplbofhgmflnlaaGreatLB
set_option linter.unusedVariables false
set_option linter.unusedSimpArgs false
namespace Go.Proofs.YtplbofhgmflnlaaGreat
open Go.RowKit
set_option maxRecDepth 100000 in
set_option maxHeartbeats 4000000 in
theorem fq_wide (F : Fr) (u : Int) (w : World) (hw : wideN F.n F.ws.length = true) : Calls Tryz.prog 6 #[frV F, .int .u16 u] w (Ret (.bool true) w) := by
  have HW := Lib.hid (fun W => wideF_any F.n F.ws.length F.wa F.wc W)
  rw [hw] at HW
  obtain ⟨n, ws, wa, wc⟩ := F
  clear hw
  go_enter Tryz.func6, Tryz.ntmps6
  go_upto_region 1 with fail
  generalize hw1 : World.alloc _ _ = w1
  obtain ⟨he, o1, -⟩ := alloc1 hw1
  obtain ⟨b0, b1⟩ := obj_cells2 o1
  have HE := Lib.hid he
  have E1 := Ext.refl w1
  clear hw1 o1 he
  go_wp2_with (first
    | (go_at_call 27; (with_reducible refine (HW.out _).mono ?_); rintro e w2 ⟨rfl, he2⟩)
    | (go_at_call 17; (with_reducible refine (known_any _).mono ?_); rintro e w3 ⟨rfl, he3⟩))
  go_ret
  exact ⟨rfl, HE.out.trans (he2.trans he3)⟩
set_option maxRecDepth 100000 in
set_option maxHeartbeats 8000000 in
theorem fq_bad (F : Fr) (u : Nat) (w : World) (hw : wideN F.n F.ws.length = false) (h : FrAt w F) (hb : FrB F) (hv : checkF F ≠ 0) : Calls Tryz.prog 6 #[frV F, .int .u16 (u : Int)] w (Ret (.bool true) w) := by
  have hwd := fun W => wideF_any F.n F.ws.length F.wa F.wc W
  rw [hw] at hwd
  have hl15 : F.ws.length ≤ 15 := by unfold wideN at hw; simp only [Bool.or_eq_false_iff, Bool.and_eq_false_iff, decide_eq_false_iff_not] at hw; omega
  have h28 := fun a c W (hq : Wds W a F.ws) => Runs_no ⟨F.n, F.ws, a, c⟩ W hq hb hv
  have h29 := fun a c W (hq : Wds W a F.ws) => Relation_no ⟨F.n, F.ws, a, c⟩ W hq hb hv
  have h30 := fun a c W (hq : Wds W a F.ws) => Resolution_no ⟨F.n, F.ws, a, c⟩ W hq hb hv
  have h31 := fun a c W (hq : Wds W a F.ws) => Aliases_no ⟨F.n, F.ws, a, c⟩ u W hq hb hv
  have h33 := fun a c W (hq : Wds W a F.ws) => checkF_any ⟨F.n, F.ws, a, c⟩ W hq hb
  have h32 := fun W (e : Ext w W) => rFraction_any F W (h.ext e) hb
  have e2 : ∀ a c, checkF ⟨F.n, F.ws, a, c⟩ = 2 := fun a c => checkF_two (F := F) hv
  simp only [e2] at h28 h33
  rw [checkF_two hv] at h32
  obtain ⟨fn, ws, wa, wc⟩ := F
  try simp only at h28
  try simp only at h29
  try simp only at h30
  try simp only at h31
  try simp only at h32
  try simp only at h33
  have HWD := Lib.hid hwd; have H28 := Lib.hid h28; have H29 := Lib.hid h29; have H30 := Lib.hid h30; have H31 := Lib.hid h31; have H32 := Lib.hid h32; have H33 := Lib.hid h33
  have H : Hid (Wds w wa ws) := h
  have HL15 : Hid (ws.length ≤ 15) := hl15
  clear hwd h28 h29 h30 h31 h32 h33 e2 h hb hv hw hl15
  go_enter Tryz.func6, Tryz.ntmps6
  go_upto_region 1 with fail
  generalize hw1 : World.alloc _ _ = w1
  obtain ⟨he, o1, -⟩ := alloc1 hw1
  obtain ⟨b0, b1⟩ := obj_cells2 o1
  have HE := Lib.hid he
  have E1 := Ext.refl w1
  clear hw1 o1 he
  go_wp2_with (fail)
  (with_reducible refine (HWD.out _).mono ?_); rintro e w2 ⟨rfl, he2⟩
  have HX2 := Lib.hid he2
  have HC0 : Hid (∀ W, Ext w2 W → W.cell? ⟨w.heap.size, 0, none⟩ = some (.int .i64 fn)) := fun W e => b0 W (HX2.out.trans e)
  have HC1 : Hid (∀ W, Ext w2 W → W.cell? ⟨w.heap.size, 1, none⟩ = some (.slice wa ws.length wc)) := fun W e => b1 W (HX2.out.trans e)
  have HI : Hid (Wds w2 wa ws ∧ ws.length ≤ 100000) := ⟨RowAt.ext wdC_len H.out (HE.out.trans he2), by have := HL15.out; omega⟩
  clear he2
  go_upto_region 3 with fail
  refine fr_law HC0 HC1 HI _ (by rfl) rfl ?_
  intro vs w9 ls9 hl9 hJ9 e0 e1 e2 e3 e4 e5 e6 e7
  simp only [Act.put, List.setIfInBounds_toArray, List.set_cons_zero, List.set_cons_succ]
  rw [e0, e1, e3, e4]
  obtain ⟨he9, -, -, -, -, j8⟩ := hJ9
  obtain ⟨bq, qa, qc, hv7, hv5, hv6, hb9, hw9⟩ := j8 (hl9 8 (by omega))
  rw [hv7, hv5, hv6]
  obtain ⟨q0, q1⟩ := obj_cells2 hb9
  have hx9 : Ext w1 w9 := HX2.out.trans he9
  have hq9 : Ext w9 w9 := Ext.refl _
  have HW9 := Lib.hid hw9
  clear he9 j8 hv7 hv5 hv6 hb9 hw9 hl9 e0 e1 e2 e3 e4 e5 e6 e7 HC0 HC1 HI HX2 HWD
  generalize vs 2 = v2
  go_wp2_with (fail)
  (with_reducible refine (H28.out qa qc w9 (RowAt.ext wdC_len HW9.out hq9)).mono ?_); rintro e w10 ⟨rfl, he⟩
  have hx10 : Ext w1 w10 := hx9.trans he
  have hq10 : Ext w9 w10 := hq9.trans he
  clear he hx9 hq9
  go_wp2_with (fail)
  (with_reducible refine (H29.out qa qc w10 (RowAt.ext wdC_len HW9.out hq10)).mono ?_); rintro e w11 ⟨rfl, he⟩
  have hx11 : Ext w1 w11 := hx10.trans he
  have hq11 : Ext w9 w11 := hq10.trans he
  clear he hx10 hq10
  go_wp2_with (fail)
  (with_reducible refine (H30.out qa qc w11 (RowAt.ext wdC_len HW9.out hq11)).mono ?_); rintro e w12 ⟨rfl, he⟩
  have hx12 : Ext w1 w12 := hx11.trans he
  have hq12 : Ext w9 w12 := hq11.trans he
  clear he hx11 hq11
  go_wp2_with (fail)
  (with_reducible refine (H31.out qa qc w12 (RowAt.ext wdC_len HW9.out hq12)).mono ?_); rintro e w13 ⟨rfl, he⟩
  have hx13 : Ext w1 w13 := hx12.trans he
  have hq13 : Ext w9 w13 := hq12.trans he
  clear he hx12 hq12
  go_wp2_with (fail)
  (with_reducible refine (H32.out w13 (HE.out.trans hx13)).mono ?_); rintro e w14 ⟨rfl, he⟩
  have hx14 : Ext w1 w14 := hx13.trans he
  have hq14 : Ext w9 w14 := hq13.trans he
  clear he hx13 hq13
  go_wp2_with (fail)
  (with_reducible refine (H33.out qa qc w14 (RowAt.ext wdC_len HW9.out hq14)).mono ?_); rintro e w15 ⟨rfl, he⟩
  have hx15 : Ext w1 w15 := hx14.trans he
  have hq15 : Ext w9 w15 := hq14.trans he
  clear he hx14 hq14
  go_wp2_with (fail)
  (with_reducible refine (known_any _).mono ?_); rintro e w16 ⟨rfl, he⟩
  go_wp2_with (fail)
  go_ret
  exact ⟨rfl, HE.out.trans (hx15.trans he)⟩
end Go.Proofs.YtplbofhgmflnlaaGreat
