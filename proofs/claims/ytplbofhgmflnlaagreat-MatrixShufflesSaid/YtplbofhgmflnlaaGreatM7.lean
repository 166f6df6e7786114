/-
  Walks: cost.
-/
import Derived.Test.YtplbofhgmflnlaaGreatMR
set_option linter.unusedVariables false
set_option linter.unusedSimpArgs false
namespace Go.Proofs.YtplbofhgmflnlaaGreat
open Go.RowKit
/-- What the factors below k cost from one setting to another. -/
def costTo (fs : List Fac) (a b : List Int) : Nat → Int
  | 0 => 0
  | k + 1 => costTo fs a b k + if nth a k != nth b k then (fth fs k).cost else 0
def costS (fs : List Fac) (a b : List Int) : Int := costTo fs a b fs.length
theorem costTo_bd {fs : List Fac} (a b : List Int) (h : ∀ i, i < fs.length → 0 ≤ (fth fs i).cost ∧ (fth fs i).cost ≤ 1000) : ∀ k, k ≤ fs.length → 0 ≤ costTo fs a b k ∧ costTo fs a b k ≤ 1000 * k
  | 0, _ => ⟨Int.le_refl _, by simp [costTo]⟩
  | k + 1, hk => by
    have ih := costTo_bd a b h k (by omega)
    have hc := h k (by omega)
    simp only [costTo]
    split <;> constructor <;> omega
set_option maxRecDepth 100000 in
set_option maxHeartbeats 2000000 in
theorem cost_any (P : Pw) (s u : Se) (w : World) (h : PlanAt w P) (hf : P.fs.length ≤ 8) (hc : ∀ i, i < P.fs.length → 0 ≤ (fth P.fs i).cost ∧ (fth P.fs i).cost ≤ 1000) (hs : Ints w s.lv.a s.lv.xs) (hu : Ints w u.lv.a u.lv.xs)
    (ls : s.lv.xs.length = P.fs.length) (lu : u.lv.xs.length = P.fs.length) :
    Calls Tryz.prog 75 #[planV P, setV s, setV u] w (Ret (.int .i64 (costS P.fs s.lv.xs u.lv.xs)) w) := by
  obtain ⟨fs, fa, fc, fo, ga, gc⟩ := P
  obtain ⟨⟨xa, xs, xc⟩, xb⟩ := s
  obtain ⟨⟨ya, ys, yc⟩, yb⟩ := u
  have HH := Lib.hid h; have HX := Lib.hid hs; have HY := Lib.hid hu
  have HC := Lib.hid hc; have HBD := Lib.hid (costTo_bd xs ys hc)
  have LX := Lib.hid ls; have LY := Lib.hid lu
  simp only at hf ⊢
  clear h hs hu hc ls lu
  have hxn : fs.length ≤ xs.length := by have := LX.out; simp only at this; omega
  have hyn : fs.length ≤ ys.length := by have := LY.out; simp only at this; omega
  go_enter Tryz.func75, Tryz.ntmps75
  go_wp2_with (fail)
  generalize hw1 : World.alloc _ _ = w1
  obtain ⟨he, o1, o2, o3, -⟩ := alloc3 hw1
  obtain ⟨b0, b1⟩ := obj_cells2 o1
  obtain ⟨s0, s1⟩ := obj_cells2 o2
  obtain ⟨t0, t1⟩ := obj_cells2 o3
  clear hw1 o1 o2 o3
  have HE := Lib.hid he
  have E1 := Ext.refl w1
  clear he
  go_wp2_with (fail)
  go_loopw [7, 13] (fun s i wr => ∃ k : Nat, k ≤ fs.length ∧ i = .int .i64 k ∧ s = .int .i64 (costTo fs xs ys k) ∧ Ext w1 wr) (fun _ i _ => fs.length - (intOf i).toNat)
  case atStart => exact ⟨0, Nat.zero_le _, rfl, rfl, Ext.refl _⟩
  case round =>
    obtain ⟨k, hk, rfl, rfl, hr⟩ := hrel
    by_cases hlt : k < fs.length
    · obtain ⟨fb, fu, rfl, g0, g1, g2⟩ := fac_at (HH.out.fs.ext facC_len (HE.out.trans hr)) k hlt
      obtain ⟨xo, xp, rfl, d0⟩ := (HX.out.ext (HE.out.trans hr)).at k (by show k < xs.length; omega)
      obtain ⟨yo, yp, rfl, e0⟩ := (HY.out.ext (HE.out.trans hr)).at k (by show k < ys.length; omega)
      have hxk : k < xs.length := by omega
      have hyk : k < ys.length := by omega
      have hcb := HC.out k hlt
      have hbd := HBD.out k hk
      obtain ⟨z, hz⟩ : ∃ z, z = costTo fs xs ys k := ⟨_, rfl⟩
      obtain ⟨q, hq⟩ : ∃ q, q = (fth fs k).cost := ⟨_, rfl⟩
      have HNX : Hid (costTo fs xs ys (k + 1) = z + if nth xs k != nth ys k then q else 0) := by rw [Hid, hz, hq]; rfl
      rw [← hz] at hbd ⊢
      rw [← hq] at hcb g1
      have Er := Ext.refl wr
      clear hz hq
      go_wp2_with (fail)
      generalize hw3 : World.alloc wr _ = w3
      obtain ⟨he3, o3, hs3⟩ := alloc1 hw3
      obtain ⟨z0, z1, z2⟩ := obj_cells3 o3
      have d3 := fun W (e : Ext w3 W) => d0 W (he3.trans e)
      have e3 := fun W (e : Ext w3 W) => e0 W (he3.trans e)
      have hr3 := hr.trans he3
      have s3 := fun W (e : Ext w3 W) => s0 W (hr3.trans e)
      have t3 := fun W (e : Ext w3 W) => t0 W (hr3.trans e)
      have hr0 := Ext.refl w3
      clear hw3 o3 d0 e0 g0 g1 g2 Er
      cases T : (nth xs k != nth ys k)
      · rw [T] at HNX
        have HN2 := Lib.hid (show costTo fs xs ys (k + 1) = z by have := HNX.out; simpa using this)
        clear HNX
        refine wp_region_ext (by kernel_rfl) (by kernel_rfl) hr0 ?_
        repeat (first | go_big_quiet_step (((fail))) | quiet_step (((fail))))
        refine wpQuiet_nil ?_
        rintro _ ⟨nq, rfl⟩
        have hq2 := nq.ok
        have hrq := hr3.trans hq2
        go_wp2_with (fail)
        go_roundw
        case rel => exact ⟨k + 1, by omega, by go_num, by rw [HN2.out], hrq⟩
        case measure => simp [intOf]; omega
      · rw [T] at HNX
        have HN2 := Lib.hid (show costTo fs xs ys (k + 1) = z + q by have := HNX.out; simpa using this)
        clear HNX
        refine wp_region_ext (by kernel_rfl) (by kernel_rfl) hr0 ?_
        repeat (first | go_big_quiet_step (((fail))) | quiet_step (((fail))))
        refine wpQuiet_nil ?_
        rintro _ ⟨nq, rfl⟩
        have hq2 := nq.ok
        have hrq := hr3.trans hq2
        go_wp2_with (fail)
        go_roundw
        case rel => exact ⟨k + 1, by omega, by go_num, by rw [HN2.out], hrq⟩
        case measure => simp [intOf]; omega
    · obtain rfl : k = fs.length := by omega
      have HR : Hid (costTo fs xs ys fs.length = costS fs xs ys) := rfl
      go_wp2_with (fail)
      go_ret
      exact ⟨by rw [← HR.out]; rfl, HE.out.trans hr⟩
end Go.Proofs.YtplbofhgmflnlaaGreat
