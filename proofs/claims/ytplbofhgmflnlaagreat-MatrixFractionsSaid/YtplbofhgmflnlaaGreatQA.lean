/-
  Walks: the law's odd and wideFraction.
-/
import Derived.Test.YtplbofhgmflnlaaGreatPX2
import Derived.Test.YtplbofhgmflnlaaGreatMO5
set_option linter.unusedVariables false
set_option linter.unusedSimpArgs false
namespace Go.Proofs.YtplbofhgmflnlaaGreat
open Go.RowKit
/-- Whether a fraction is more than the laws look at. -/
def wideN (n : Int) (k : Nat) : Bool := (decide (7 < n) && decide (n ≤ 12)) || (decide (5 < k) && decide (k ≤ 12)) || decide (15 < k)
set_option maxHeartbeats 4000000 in
theorem wideF_any (n : Int) (k : Nat) (a : Option Addr) (c : Nat) (w : World) : Calls Tryz.prog 27 #[.agg #[.int .i64 n, .slice a k c]] w (Ret (.bool (wideN n k)) w) := by
  have hk : ∀ z : Nat, decide (((z : Nat) : Int) < (k : Int)) = decide (z < k) := fun z => by rw [decide_eq_decide]; omega
  have hd : (7 < n ∧ n ≤ 12) ∨ ((¬ 7 < n ∨ (7 < n ∧ ¬ n ≤ 12)) ∧ ((5 < (k : Int) ∧ (k : Int) ≤ 12) ∨ ((¬ 5 < (k : Int) ∧ ¬ 15 < (k : Int)) ∨ ((5 < (k : Int) ∧ ¬ (k : Int) ≤ 12) ∧ (15 < (k : Int) ∨ ¬ 15 < (k : Int)))))) := by omega
  have HW : Hid (wideN n k = ((decide (7 < n) && decide (n ≤ 12)) || (decide (5 < (k : Int)) && decide ((k : Int) ≤ 12)) || decide (15 < (k : Int)))) := by
    rw [Hid, wideN]
    congr 1
    · congr 1
      congr 1
      · rw [decide_eq_decide]; omega
      · rw [decide_eq_decide]; omega
    · rw [decide_eq_decide]; omega
  rw [HW.out]
  clear HW hk
  rcases hd with ⟨h1, h2⟩ | ⟨h1 | ⟨h1, h2⟩, ⟨h3, h4⟩ | ⟨h3, h5⟩ | ⟨⟨h3, h4⟩, h5 | h5⟩⟩ <;> (
  go_enter Tryz.func27, Tryz.ntmps27
  go_wp2_with (fail)
  generalize hw1 : World.alloc _ _ = w1
  obtain ⟨he, o1, -⟩ := alloc1 hw1
  obtain ⟨b0, b1⟩ := obj_cells2 o1
  have E1 := Ext.refl w1
  have HE := Lib.hid he
  clear hw1 o1 he
  go_wp2_with (fail)
  go_ret
  refine ⟨ret_bool ?_, HE.out⟩
  simp [*] <;> omega)
set_option maxHeartbeats 2000000 in
theorem lawOdd_any (a b : Nat) (w : World) (ha : a < 65536) (hb : b < 65536) : Calls Tryz.prog 39 #[.int .u16 (a : Int), .int .u16 (b : Int)] w (fun e w' => e = .returned (.bool (oddB a b)) ∧ w' = w) := by
  obtain ⟨c, hc⟩ : ∃ c, c = a &&& b := ⟨_, rfl⟩
  have hand : bits .and .u16 (a : Int) (b : Int) = (c : Int) := by rw [hc]; exact bits_and_u16_nat a b ha hb
  have hc16 : c < 65536 := by rw [hc]; exact Nat.lt_of_le_of_lt Nat.and_le_left ha
  have HR : Hid (oddB a b = (ones c % 2 == 1)) := by rw [Hid, oddB, hc]
  have HC16 := Lib.hid hc16
  rw [HR.out]
  clear hc HR ha hb hc16
  go_enter Tryz.func39, Tryz.ntmps39
  go_wp2_with (fail)
  go_loopw [5, 6] (fun x y wr => ∃ d k : Nat, d < 65536 ∧ k ≤ 16 ∧ x = .int .u16 d ∧ y = .int .i64 k ∧ Hid (k + ones d = ones c) ∧ wr = w) (fun x _ _ => (intOf x).toNat)
  case atStart => exact ⟨c, 0, HC16.out, by omega, rfl, rfl, Lib.hid (by omega), rfl⟩
  case round =>
    obtain ⟨d, k, hd, hk, rfl, rfl, HK, rfl⟩ := hrel
    by_cases h0 : 0 < d
    · have h1 := ones_and h0 hd
      obtain ⟨d', hd'⟩ : ∃ d', d' = d &&& (d - 1) := ⟨_, rfl⟩
      have hlt : d' < d := by rw [hd']; exact Nat.lt_of_le_of_lt Nat.and_le_right (by omega)
      have hand2 : bits .and .u16 (d : Int) ((d : Int) - 1) = (d' : Int) := by
        rw [hd', show ((d : Int) - 1) = ((d - 1 : Nat) : Int) by omega]
        exact bits_and_u16_nat d (d - 1) hd (by omega)
      rw [← hd'] at h1
      have HN : Hid (k + 1 + ones d' = ones c) := by have := HK.out; rw [Hid]; omega
      have hk16 : k + 1 ≤ 16 := by have := HN.out; have := ones_le c; omega
      clear hd' h1
      go_wp2_with (fail)
      refine ⟨⟨d', k + 1, by omega, hk16, rfl, by simp, HN, trivial⟩, ?_⟩
      show ((d' : Nat) : Int).toNat < ((d : Nat) : Int).toNat
      omega
    · obtain rfl : d = 0 := by omega
      have HN : Hid (k = ones c) := by have := HK.out; rw [Hid]; have : ones 0 = 0 := rfl; omega
      go_wp2_with (fail)
      go_ret
      refine ⟨ret_bool ?_, rfl⟩
      rw [← HN.out]
      rcases Nat.mod_two_eq_zero_or_one k with h | h
      · rw [h, show (k : Int) % 2 = 0 by omega]; rfl
      · rw [h, show (k : Int) % 2 = 1 by omega]; rfl
end Go.Proofs.YtplbofhgmflnlaaGreat
