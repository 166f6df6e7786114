/-
  Walk: the law's alike.
-/
import Derived.Test.YtplbofhgmflnlaaGreatBR9
set_option linter.unusedVariables false
set_option linter.unusedSimpArgs false
namespace Go.Proofs.YtplbofhgmflnlaaGreat
open Go.RowKit
set_option maxRecDepth 100000 in
set_option maxHeartbeats 4000000 in
theorem alike_any (B : Nat) (x : Bp) (y : Rb) (pts : List Pt) (ord : List Int) (w : World) (hx : BkAt w B x pts ord) (hy : RbAt w y pts ord) (hb : InB pts.length ord) (hn : ord.length ≤ 100000) (hm : pts.length ≤ 100000) :
    Calls Tryz.prog 60 #[bkV x, rbV y pts.length ord.length] w (Ret (.bool true) w) := by
  have h61 := fun W (e : Ext w W) => Open_any B x pts ord W (hx.ext e) hb (by omega)
  have h62 := fun W (e : Ext w W) => Next_any B x pts ord W (hx.ext e) hb (by omega)
  have h64 := fun W (e : Ext w W) => Done_any B x pts ord W (hx.ext e) hb (by omega)
  have h102 := fun W (e : Ext w W) => rOpen_any y pts ord W (hy.ext e) hb (by omega) (by omega)
  have h63 := fun k (hk : k < pts.length) W (e : Ext w W) => State_ok B x pts ord k W (hx.ext e) hk
  have h63a := fun W (e : Ext w W) => State_no B x pts ord (pts.length : Int) W (hx.ext e) (.inr (Int.le_refl _))
  have h63b := fun W (e : Ext w W) => State_no B x pts ord (-1) W (hx.ext e) (.inl (by decide))
  have hol := openL_len pts ord
  obtain ⟨L, hL⟩ : ∃ L, L = openL pts ord := ⟨_, rfl⟩
  rw [← hL] at h61 h62 h64 h102 hol
  obtain ⟨l, hl⟩ : ∃ l, l = L.length := ⟨_, rfl⟩
  have HLL : Hid (L.length = l) := hl.symm
  have HNX0 : Hid (l = 0 → nextV L = .tuple #[.int .i64 0, .bool false]) := fun h => by
    have : L = [] := List.length_eq_zero_iff.1 (by rw [← hl]; exact h)
    rw [this]; rfl
  have HNX1 : Hid (0 < l → nextV L = .tuple #[.int .i64 (nth L 0), .bool true]) := fun h => by
    cases hc : L with
    | nil => rw [hl, hc] at h; simp at h
    | cons i t => rfl
  have h61' : ∀ W, Ext w W → Calls Tryz.prog 61 #[bkV x] W (fun e w' => ∃ a c, e = .returned (.slice a l c) ∧ Ext W w' ∧ Ints w' a L) := fun W e => (h61 W e).mono (by
    rintro e w' ⟨a, c, rfl, he, ho⟩
    rw [← hl] at ho ⊢
    exact ⟨a, c, rfl, he, ho.ints.1⟩)
  have h102' : ∀ W, Ext w W → Calls Tryz.prog 102 #[rbV y pts.length ord.length] W (fun e w' => ∃ a c, e = .returned (.slice a l c) ∧ Ext W w' ∧ Ints w' a L) := fun W e => (h102 W e).mono (by
    rintro e w' ⟨a, c, rfl, he, ho⟩
    rw [← hl] at ho ⊢
    exact ⟨a, c, rfl, he, ho.ints.1⟩)
  rw [← hl] at h64 hol
  have H61 := Lib.hid h61'; have H62 := Lib.hid h62; have H64 := Lib.hid h64; have H102 := Lib.hid h102'; have H63 := Lib.hid h63; have H63A := Lib.hid h63a; have H63B := Lib.hid h63b
  have HY := Lib.hid hy
  obtain ⟨ba, bc, oa, oc, sa, sc, ra, rc⟩ := y
  obtain ⟨gb, pa, pc, qa, qc⟩ := x
  clear h61 h61' h62 h64 h102 h102' h63 h63a h63b hx hy hb hL hl
  go_enter Tryz.func60, Tryz.ntmps60
  go_upto_region 1 with fail
  generalize hw1 : World.alloc _ _ = w1
  obtain ⟨he, o1, -⟩ := alloc1 hw1
  obtain ⟨b0, b1, b2, b3⟩ := obj_cells4 o1
  have HE := Lib.hid he
  have E1 := Ext.refl w1
  clear hw1 o1 he
  go_wp2_with (fail)
  (with_reducible refine (H102.out _ HE.out).mono ?_); rintro e w2 ⟨va, vc, rfl, he, hi⟩
  have HX2 := Lib.hid he; have HV := Lib.hid hi
  have hx2 := HX2.out
  clear he hi E1
  go_wp2_with (fail)
  (with_reducible refine (H61.out _ (HE.out.trans hx2)).mono ?_); rintro e w3 ⟨ua, uc, rfl, he, hi⟩
  have hx3 := hx2.trans he
  have HV3 := Lib.hid (HV.out.ext he); have HU3 := Lib.hid hi
  clear he hi hx2
  go_wp2_with (fail)
  (with_reducible refine (same_any L L ua va l l uc vc w3 HU3.out HV3.out HLL.out HLL.out (by omega) (by omega)).mono ?_); rintro e w4 ⟨rfl, he⟩
  rw [show sameB L L = true by simp [sameB]]
  have hx4 := hx3.trans he
  have HV4 := Lib.hid (HV3.out.ext he)
  clear he hx3
  by_cases hl0 : 0 < l
  · have HN := Lib.hid (HNX1.out hl0)
    have hdf : decide (l = 0) = false := decide_eq_false (by omega)
    rw [hdf] at H64
    have hlf : ((l : Int) == 0) = false := by rw [beq_eq_false_iff_ne]; omega
    have hlp : (0 : Int) < (l : Int) := by omega
    go_wp2_with (fail)
    (with_reducible refine (H64.out _ (HE.out.trans hx4)).mono ?_); rintro e w5 ⟨rfl, he⟩
    have hx5 := hx4.trans he
    have HV5 := Lib.hid (HV4.out.ext he)
    clear he hx4
    go_wp2_with (fail)
    (with_reducible refine (H62.out _ (HE.out.trans hx5)).mono ?_); rintro e w6 ⟨rfl, he⟩
    have hx6 := hx5.trans he
    have HV6 := Lib.hid (HV5.out.ext he)
    rw [HN.out]
    clear he hx5
    obtain ⟨vb, vo, rfl, d0⟩ := HV6.out.at 0 (by rw [HLL.out]; exact hl0)
    simp only [Nat.add_zero] at d0
    have E6 := Ext.refl w6
    obtain ⟨z, hz⟩ : ∃ z, z = nth L 0 := ⟨_, rfl⟩
    rw [← hz] at d0 ⊢
    clear hz
    have B2 := fun W (e : Ext w6 W) => b2 W (hx6.trans e)
    have B3 := fun W (e : Ext w6 W) => b3 W (hx6.trans e)
    have HX6 := Lib.hid hx6
    clear b0 b1 hx6 HV6
    go_wp2_with (fail)
    go_loopw [9] (fun i wr => ∃ (k : Nat), k ≤ pts.length ∧ i = .int .i64 k ∧ Hid (Ext w6 wr)) (fun i _ => pts.length - (intOf i).toNat)
    case atStart => exact ⟨0, Nat.zero_le _, rfl, Ext.refl _⟩
    case round =>
      obtain ⟨k, hk, rfl, HX⟩ := hrel
      have hr := HX.out
      have Er := Ext.refl wr
      have C2 := fun W (e : Ext wr W) => B2 W (hr.trans e)
      by_cases hlt : k < pts.length
      · obtain ⟨sb, so, rfl, s0⟩ := st_at (RowAt.ext stC_len HY.out.st (HE.out.trans (HX6.out.trans hr))) k hlt
        obtain ⟨rb, ro, rfl, r0⟩ := rs_at (RowAt.ext rsC_len HY.out.rs (HE.out.trans (HX6.out.trans hr))) k hlt
        go_wp2_with (fail)
        (with_reducible refine (H63.out k hlt _ (HE.out.trans (HX6.out.trans hr))).mono ?_); rintro e w8 ⟨rfl, he⟩
        have hr8 := hr.trans he
        have D2 := fun W (e : Ext w8 W) => B2 W (hr8.trans e)
        have D3 := fun W (e : Ext w8 W) => B3 W (hr8.trans e)
        have S0 := fun W (e : Ext w8 W) => s0 W (he.trans e)
        have R0 := fun W (e : Ext w8 W) => r0 W (he.trans e)
        have E8 := Ext.refl w8
        obtain ⟨st, hst⟩ : ∃ st, st = (qth pts k).st := ⟨_, rfl⟩
        obtain ⟨rs, hrs⟩ : ∃ rs, rs = (qth pts k).rs := ⟨_, rfl⟩
        rw [← hst] at S0
        rw [← hrs] at R0
        rw [← hst, ← hrs]
        clear hst hrs s0 r0 C2 hr Er
        go_wp2_with (fail)
        go_roundw
        case rel => exact ⟨k + 1, by omega, by go_num, hr8⟩
        case measure => simp [intOf]; omega
      · obtain rfl : k = pts.length := by omega
        go_wp2_with (fail)
        (with_reducible refine (H63A.out _ (HE.out.trans (HX6.out.trans hr))).mono ?_); rintro e w8 ⟨rfl, he⟩
        have hr8 := hr.trans he
        go_wp2_with (fail)
        (with_reducible refine (H63B.out _ (HE.out.trans (HX6.out.trans hr8))).mono ?_); rintro e w9 ⟨rfl, he9⟩
        go_wp2_with (fail)
        go_ret
        exact ⟨rfl, HE.out.trans (HX6.out.trans (hr8.trans he9))⟩
  · have HN := Lib.hid (HNX0.out (by omega))
    obtain rfl : l = 0 := by omega
    have hdf : decide (0 = 0) = true := rfl
    rw [hdf] at H64
    go_wp2_with (fail)
    (with_reducible refine (H64.out _ (HE.out.trans hx4)).mono ?_); rintro e w5 ⟨rfl, he⟩
    have hx5 := hx4.trans he
    have HV5 := Lib.hid (HV4.out.ext he)
    clear he hx4
    go_wp2_with (fail)
    (with_reducible refine (H62.out _ (HE.out.trans hx5)).mono ?_); rintro e w6 ⟨rfl, he⟩
    have hx6 := hx5.trans he
    have HV6 := Lib.hid (HV5.out.ext he)
    rw [HN.out]
    clear he hx5
    have E6 := Ext.refl w6
    have B2 := fun W (e : Ext w6 W) => b2 W (hx6.trans e)
    have B3 := fun W (e : Ext w6 W) => b3 W (hx6.trans e)
    have HX6 := Lib.hid hx6
    clear b0 b1 hx6 HV6
    go_wp2_with (fail)
    go_loopw [9] (fun i wr => ∃ (k : Nat), k ≤ pts.length ∧ i = .int .i64 k ∧ Hid (Ext w6 wr)) (fun i _ => pts.length - (intOf i).toNat)
    case atStart => exact ⟨0, Nat.zero_le _, rfl, Ext.refl _⟩
    case round =>
      obtain ⟨k, hk, rfl, HX⟩ := hrel
      have hr := HX.out
      have Er := Ext.refl wr
      have C2 := fun W (e : Ext wr W) => B2 W (hr.trans e)
      by_cases hlt : k < pts.length
      · obtain ⟨sb, so, rfl, s0⟩ := st_at (RowAt.ext stC_len HY.out.st (HE.out.trans (HX6.out.trans hr))) k hlt
        obtain ⟨rb, ro, rfl, r0⟩ := rs_at (RowAt.ext rsC_len HY.out.rs (HE.out.trans (HX6.out.trans hr))) k hlt
        go_wp2_with (fail)
        (with_reducible refine (H63.out k hlt _ (HE.out.trans (HX6.out.trans hr))).mono ?_); rintro e w8 ⟨rfl, he⟩
        have hr8 := hr.trans he
        have D2 := fun W (e : Ext w8 W) => B2 W (hr8.trans e)
        have D3 := fun W (e : Ext w8 W) => B3 W (hr8.trans e)
        have S0 := fun W (e : Ext w8 W) => s0 W (he.trans e)
        have R0 := fun W (e : Ext w8 W) => r0 W (he.trans e)
        have E8 := Ext.refl w8
        obtain ⟨st, hst⟩ : ∃ st, st = (qth pts k).st := ⟨_, rfl⟩
        obtain ⟨rs, hrs⟩ : ∃ rs, rs = (qth pts k).rs := ⟨_, rfl⟩
        rw [← hst] at S0
        rw [← hrs] at R0
        rw [← hst, ← hrs]
        clear hst hrs s0 r0 C2 hr Er
        go_wp2_with (fail)
        go_roundw
        case rel => exact ⟨k + 1, by omega, by go_num, hr8⟩
        case measure => simp [intOf]; omega
      · obtain rfl : k = pts.length := by omega
        go_wp2_with (fail)
        (with_reducible refine (H63A.out _ (HE.out.trans (HX6.out.trans hr))).mono ?_); rintro e w8 ⟨rfl, he⟩
        have hr8 := hr.trans he
        go_wp2_with (fail)
        (with_reducible refine (H63B.out _ (HE.out.trans (HX6.out.trans hr8))).mono ?_); rintro e w9 ⟨rfl, he9⟩
        go_wp2_with (fail)
        go_ret
        exact ⟨rfl, HE.out.trans (HX6.out.trans (hr8.trans he9))⟩
end Go.Proofs.YtplbofhgmflnlaaGreat
