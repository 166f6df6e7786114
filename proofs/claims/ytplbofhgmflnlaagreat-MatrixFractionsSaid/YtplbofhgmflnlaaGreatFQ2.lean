/-
  Walk: MatrixFractions, contradicting words.
-/
import Derived.Test.YtplbofhgmflnlaaGreatFQ1
set_option linter.unusedVariables false
set_option linter.unusedSimpArgs false
namespace Go.Proofs.YtplbofhgmflnlaaGreat
open Go.RowKit
set_option maxRecDepth 100000 in
set_option maxHeartbeats 8000000 in
theorem fq_clash (F : Fr) (u : Nat) (w : World) (hw : wideN F.n F.ws.length = false) (h : FrAt w F) (hb : FrB F) (hv : checkF F = 0) (hc : clashW F.ws = true) (hu : u < 65536) : Calls Tryz.prog 6 #[frV F, .int .u16 (u : Int)] w (Ret (.bool true) w) := by
  have hwd := fun W => wideF_any F.n F.ws.length F.wa F.wc W
  rw [hw] at hwd
  obtain ⟨m, hm, hm1, hm12, hl, hms⟩ := checkF_ok hv
  have hwn := wideN_no (n := 0) (by rw [hm] at hw; exact hw) hm12 hl
  have hmk : ∀ j, j < F.ws.length → (wth F.ws j).mask < 65536 := hb.1
  obtain ⟨rs, hrs⟩ : ∃ rs, rs = runsTo F.ws (2 ^ m) := ⟨_, rfl⟩
  have hrl : rs.length ≤ 128 := by
    rw [hrs]
    exact Nat.le_trans (runsTo_len _ _) (Nat.pow_le_pow_right (n := 2) (by omega) hwn.1)
  have h28 : ∀ a c W, Wds W a F.ws → Calls Tryz.prog 28 #[frV ⟨F.n, F.ws, a, c⟩] W (fun e w' => ∃ a c, e = .returned (.tuple #[.slice a rs.length c, .int .i64 0]) ∧ Ext W w' ∧ OwnU w' W.heap.size (.slice a rs.length c) rs) := fun a c W hq => (Runs_ok ⟨F.n, F.ws, a, c⟩ m W hq hb hv hm hm12 hl).mono (by
    rintro e w' ⟨a, c, rfl, he, ho⟩
    simp only [← hrs] at ho ⊢
    exact ⟨a, c, rfl, he, ho⟩)
  have h34 : ∀ W, Ext w W → Calls Tryz.prog 34 #[frV F] W (fun e w' => ∃ a c, e = .returned (.slice a rs.length c) ∧ Ext W w' ∧ OwnU w' W.heap.size (.slice a rs.length c) rs) := fun W e => (rRuns_any F m W (h.ext e) hb hm hm12 hl).mono (by
    rintro e w' ⟨a, c, rfl, he, ho⟩
    rw [← hrs] at ho ⊢
    exact ⟨a, c, rfl, he, ho⟩)
  have h33 := fun a c W (hq : Wds W a F.ws) => checkF_any ⟨F.n, F.ws, a, c⟩ W hq hb
  have h32 := fun W (e : Ext w W) => rFraction_any F W (h.ext e) hb
  have e0 : ∀ a c, checkF ⟨F.n, F.ws, a, c⟩ = 0 := fun a c => hv
  simp only [e0] at h33
  rw [hv] at h32
  have h29 : ∀ a c W, Wds W a F.ws → Calls Tryz.prog 29 #[frV ⟨F.n, F.ws, a, c⟩] W (Ret (.tuple #[.slice none 0 0, .int .i64 60]) W) := fun a c W hq => (Relation_ok ⟨F.n, F.ws, a, c⟩ W hq hb hv).mono (by
    rintro e w' ⟨he, ⟨-, rfl⟩ | ⟨h2, -⟩⟩
    · exact ⟨rfl, he⟩
    · have h3 : clashW F.ws = false := h2
      rw [hc] at h3; cases h3)
  have h30 : ∀ a c W, Wds W a F.ws → Calls Tryz.prog 30 #[frV ⟨F.n, F.ws, a, c⟩] W (Ret (.tuple #[.int .i64 0, .int .i64 60]) W) := fun a c W hq => (Resolution_ok ⟨F.n, F.ws, a, c⟩ W hq hb hv).mono (by
    rintro e w' ⟨he, ⟨-, rfl⟩ | ⟨h2, -⟩⟩
    · exact ⟨rfl, he⟩
    · have h3 : clashW F.ws = false := h2
      rw [hc] at h3; cases h3)
  have h31n : ∀ a c W, 2 ^ m ≤ u → Wds W a F.ws → Calls Tryz.prog 31 #[frV ⟨F.n, F.ws, a, c⟩, .int .u16 (u : Int)] W (Ret (.tuple #[.slice none 0 0, .int .i64 2]) W) := fun a c W ho hq => Aliases_out ⟨F.n, F.ws, a, c⟩ u m W hq hb hv hm ho
  have h31y : ∀ a c W, u < 2 ^ m → Wds W a F.ws → Calls Tryz.prog 31 #[frV ⟨F.n, F.ws, a, c⟩, .int .u16 (u : Int)] W (Ret (.tuple #[.slice none 0 0, .int .i64 60]) W) := fun a c W ho hq => (Aliases_ok ⟨F.n, F.ws, a, c⟩ u m W hq hb hv hm ho).mono (by
    rintro e w' ⟨he, ⟨-, rfl⟩ | ⟨h2, -⟩⟩
    · exact ⟨rfl, he⟩
    · have h3 : clashW F.ws = false := h2
      rw [hc] at h3; cases h3)
  have h35 : ∀ W, Ext w W → Calls Tryz.prog 35 #[frV F] W (Ret (.tuple #[.slice none 0 0, .bool false]) W) := fun W e => (rRel_any F W (h.ext e) (by omega) hmk).mono (by
    rintro e w' ⟨he, ⟨-, rfl⟩ | ⟨h2, -⟩⟩
    · exact ⟨rfl, he⟩
    · rw [hc] at h2; cases h2)
  obtain ⟨Q, hQ⟩ : ∃ Q : Nat, Q = 2 ^ m := ⟨_, rfl⟩
  have hQi : (2 : Int) ^ m = (Q : Int) := by rw [hQ]; norm_cast
  have hQ128 : Q ≤ 128 := by rw [hQ]; exact Nat.pow_le_pow_right (n := 2) (by omega) hwn.1
  rw [← hQ] at h31n h31y
  obtain ⟨fn, ws, wa, wc⟩ := F
  simp only at hm
  subst hm
  have hm7 : m ≤ 7 := hwn.1
  have h0 : (0 : Int) ≤ (m : Int) := by omega
  obtain ⟨nr, hnr⟩ : ∃ nr, nr = rs.length := ⟨_, rfl⟩
  have HNR : Hid (rs.length = nr) := hnr.symm
  rw [← hnr] at h28 h34 hrl
  try simp only at h28
  try simp only at h29
  try simp only at h30
  try simp only at h31n
  try simp only at h31y
  try simp only at h32
  try simp only at h33
  try simp only at h34
  try simp only at h35
  have HWD := Lib.hid hwd; have H28 := Lib.hid h28; have H29 := Lib.hid h29; have H30 := Lib.hid h30; have H31N := Lib.hid h31n; have H31Y := Lib.hid h31y; have H32 := Lib.hid h32; have H33 := Lib.hid h33; have H34 := Lib.hid h34; have H35 := Lib.hid h35
  have H : Hid (Wds w wa ws) := h
  have HL15 : Hid (ws.length ≤ 15) := Nat.le_trans hwn.2 (by decide)
  clear hwd h28 h29 h30 h31n h31y h32 h33 h34 h35 e0 h hb hv hw hc hl hms hmk hrs hwn hm12 hm1 hQ hnr 
  rcases Nat.lt_or_ge u Q with hoth | hoth <;> (
  go_enter Tryz.func6, Tryz.ntmps6
  go_upto_region 1 with fail
  generalize hw1 : World.alloc _ _ = w1
  obtain ⟨he, o1, -⟩ := alloc1 hw1
  obtain ⟨b0, b1⟩ := obj_cells2 o1
  have HE := Lib.hid he
  have E1 := Ext.refl w1
  clear hw1 o1 he
  go_wp2_with (fail)
  (with_reducible refine (HWD.out _).mono ?_); rintro e w2 ⟨rfl, he2⟩
  have HX2 := Lib.hid he2
  have HC0 : Hid (∀ W, Ext w2 W → W.cell? ⟨w.heap.size, 0, none⟩ = some (.int .i64 (m : Int))) := fun W e => b0 W (HX2.out.trans e)
  have HC1 : Hid (∀ W, Ext w2 W → W.cell? ⟨w.heap.size, 1, none⟩ = some (.slice wa ws.length wc)) := fun W e => b1 W (HX2.out.trans e)
  have HI : Hid (Wds w2 wa ws ∧ ws.length ≤ 100000) := ⟨RowAt.ext wdC_len H.out (HE.out.trans he2), by have := HL15.out; omega⟩
  clear he2
  go_upto_region 3 with fail
  refine fr_law HC0 HC1 HI _ (by rfl) rfl ?_
  intro vs w9 ls9 hl9 hJ9 e0 e1 e2 e3 e4 e5 e6 e7
  simp only [Act.put, List.setIfInBounds_toArray, List.set_cons_zero, List.set_cons_succ]
  rw [e0, e1, e3, e4]
  obtain ⟨he9, -, -, -, -, j8⟩ := hJ9
  obtain ⟨bq, qa, qc, hv7, hv5, hv6, hb9, hw9⟩ := j8 (hl9 8 (by omega))
  rw [hv7, hv5, hv6]
  obtain ⟨q0, q1⟩ := obj_cells2 hb9
  have hx9 : Ext w1 w9 := HX2.out.trans he9
  have hq9 : Ext w9 w9 := Ext.refl _
  have HW9 := Lib.hid hw9
  clear he9 j8 hv7 hv5 hv6 hb9 hw9 hl9 e0 e1 e2 e3 e4 e5 e6 e7 HC0 HC1 HI HX2 HWD
  generalize vs 2 = v2
  go_wp2_with (fail)
  (with_reducible refine (H28.out qa qc w9 (RowAt.ext wdC_len HW9.out hq9)).mono ?_); rintro e w10 ⟨ra, rc, rfl, he, hor⟩
  have hx10 : Ext w1 w10 := hx9.trans he
  have hq10 : Ext w9 w10 := hq9.trans he
  have HRA := Lib.hid hor
  have hr10 : Ext w10 w10 := Ext.refl _
  clear hor
  clear he hx9 hq9
  go_wp2_with (fail)
  (with_reducible refine (H29.out qa qc w10 (RowAt.ext wdC_len HW9.out hq10)).mono ?_); rintro e w11 ⟨rfl, he⟩
  have hx11 : Ext w1 w11 := hx10.trans he
  have hq11 : Ext w9 w11 := hq10.trans he
  have hr11 : Ext w10 w11 := hr10.trans he
  clear he hx10 hq10
  go_wp2_with (fail)
  (with_reducible refine (H30.out qa qc w11 (RowAt.ext wdC_len HW9.out hq11)).mono ?_); rintro e w12 ⟨rfl, he⟩
  have hx12 : Ext w1 w12 := hx11.trans he
  have hq12 : Ext w9 w12 := hq11.trans he
  have hr12 : Ext w10 w12 := hr11.trans he
  clear he hx11 hq11
  go_wp2_with (fail)
  first
    | ((with_reducible refine (H31Y.out qa qc w12 hoth (RowAt.ext wdC_len HW9.out hq12)).mono ?_); rintro e w13 ⟨rfl, he⟩)
    | ((with_reducible refine (H31N.out qa qc w12 hoth (RowAt.ext wdC_len HW9.out hq12)).mono ?_); rintro e w13 ⟨rfl, he⟩)
  have hx13 : Ext w1 w13 := hx12.trans he
  have hq13 : Ext w9 w13 := hq12.trans he
  have hr13 : Ext w10 w13 := hr12.trans he
  clear he hx12 hq12
  go_wp2_with (fail)
  (with_reducible refine (H32.out w13 (HE.out.trans hx13)).mono ?_); rintro e w14 ⟨rfl, he⟩
  have hx14 : Ext w1 w14 := hx13.trans he
  have hq14 : Ext w9 w14 := hq13.trans he
  have hr14 : Ext w10 w14 := hr13.trans he
  clear he hx13 hq13
  go_wp2_with (fail)
  (with_reducible refine (H33.out qa qc w14 (RowAt.ext wdC_len HW9.out hq14)).mono ?_); rintro e w15 ⟨rfl, he⟩
  have hx15 : Ext w1 w15 := hx14.trans he
  have hq15 : Ext w9 w15 := hq14.trans he
  have hr15 : Ext w10 w15 := hr14.trans he
  clear he hx14 hq14
  go_wp2_with (fail)
  (with_reducible refine (H34.out w15 (HE.out.trans hx15)).mono ?_); rintro e w16 ⟨sa, sc, rfl, he, hos⟩
  have hx16 : Ext w1 w16 := hx15.trans he
  have hq16 : Ext w9 w16 := hq15.trans he
  have hr16 : Ext w10 w16 := hr15.trans he
  have HSA := Lib.hid hos
  have HRA2 : Hid (OwnU w16 w9.heap.size (.slice ra nr rc) rs) := OwnF.ext HRA.out hr16
  clear he hx15 hq15
  have HX16 := Lib.hid hx16
  have b1k := Lib.hid b1
  clear hx16 hq16 hr16 hr10 hr11 hr12 hr13 hr14 hr15 HRA hos b1 q0 q1
  go_wp2_with (fail)
  go_loopw [17] (fun iv wr => ∃ (k : Nat), k ≤ nr ∧ iv = .int .i64 k ∧ Hid (Ext w16 wr)) (fun iv _ => nr - (intOf iv).toNat)
  case atStart => exact ⟨0, Nat.zero_le _, rfl, Ext.refl _⟩
  case round =>
    obtain ⟨k, hk, rfl, HX⟩ := hrel
    have hx := HX.out
    have hr0 := Ext.refl wr
    by_cases hlt : k < nr
    · obtain ⟨g1, rfl, -, -, hc1⟩ := OwnF.cell u16C_len (OwnF.ext HRA2.out hx) k (by rw [HNR.out]; exact hlt)
      obtain ⟨g2, rfl, -, -, hc2⟩ := OwnF.cell u16C_len (OwnF.ext HSA.out hx) k (by rw [HNR.out]; exact hlt)
      have hc1' := hc1 0 (by omega)
      have hc2' := hc2 0 (by omega)
      rw [Nat.mul_one, Nat.add_zero] at hc1' hc2'
      obtain ⟨r, hrr⟩ : ∃ r, r = rs[k]'(by rw [HNR.out]; exact hlt) := ⟨_, rfl⟩
      rw [← hrr] at hc1' hc2'
      have p0 : ∀ W, Ext wr W → W.cell? ⟨g1, k, none⟩ = some (.int .u16 (r : Int)) := fun W e => e.cell (by simpa [u16C] using hc1')
      have p1 : ∀ W, Ext wr W → W.cell? ⟨g2, k, none⟩ = some (.int .u16 (r : Int)) := fun W e => e.cell (by simpa [u16C] using hc2')
      clear hc1 hc2 hc1' hc2' hrr
      go_upto_region 20 with fail
      refine wp_region_ext (by kernel_rfl) (by kernel_rfl) hr0 ?_
      repeat (first | go_big_quiet_step (((fail))) | quiet_step (((fail))))
      refine wpQuiet_nil ?_
      rintro _ ⟨nq, rfl⟩
      have HX3 := Lib.hid (hx.trans nq.ok)
      go_wp2_with (fail)
      go_roundw
      case rel => exact ⟨k + 1, by omega, by go_num, HX3.out⟩
      case measure => simp [intOf]; omega
    · obtain rfl : k = nr := by omega
      have HX17 := Lib.hid (HX16.out.trans hx)
      have B0 := fun W (e : Ext wr W) => b0 W (HX17.out.trans e)
      have B1 := fun W (e : Ext wr W) => b1k.out W (HX17.out.trans e)
      have Er := Ext.refl wr
      go_wp2_with (fail)
      (with_reducible refine (H35.out wr (HE.out.trans HX17.out)).mono ?_); rintro e w18 ⟨rfl, he18⟩
      have B0 := fun W (e : Ext w18 W) => b0 W (HX17.out.trans (he18.trans e))
      have E18 := Ext.refl w18
      have hoi : (Q : Int) ≤ (u : Int) ∨ ¬ (Q : Int) ≤ (u : Int) := by omega
      first
        | (have hof : ¬ (Q : Int) ≤ (u : Int) := by omega)
        | (have hof : (Q : Int) ≤ (u : Int) := by omega)
      clear hoi
      have HX18 := Lib.hid (HX17.out.trans he18)
      clear he18
      go_wp2_with (fail)
      (with_reducible refine (known_any _).mono ?_); rintro e w19 ⟨rfl, he19⟩
      go_wp2_with (fail)
      go_ret
      exact ⟨rfl, HE.out.trans (HX18.out.trans he19)⟩)
end Go.Proofs.YtplbofhgmflnlaaGreat
