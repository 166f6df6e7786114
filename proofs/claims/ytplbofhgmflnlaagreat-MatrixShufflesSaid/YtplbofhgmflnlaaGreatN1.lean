/-
  Walks: the reference's Bits and Odd.
-/
import Derived.Test.YtplbofhgmflnlaaGreatM32
set_option linter.unusedVariables false
set_option linter.unusedSimpArgs false
namespace Go.Proofs.YtplbofhgmflnlaaGreat
open Go.RowKit
theorem ones_half (y : Nat) (hy : y < 65536) : ones y = y % 2 + ones (y / 2) := by
  have h := onesF_split 15 1 (y / 2)
  have e : y / 2 / 2 ^ 15 = 0 := by
    rw [show (2 : Nat) ^ 15 = 32768 from rfl]; omega
  rw [e] at h
  have h1 : onesF 1 0 = 0 := rfl
  rw [h1, Nat.add_zero] at h
  show y % 2 + onesF 15 (y / 2) = y % 2 + onesF 16 (y / 2)
  rw [show onesF 16 (y / 2) = onesF (15 + 1) (y / 2) from rfl, h, Nat.add_zero]
theorem and_one (x : Nat) (hx : x < 65536) : bits .and .u16 (x : Int) 1 = ((x % 2 : Nat) : Int) := by
  have := bits_and_u16_nat x 1 hx (by omega)
  rw [show ((1 : Nat) : Int) = 1 from rfl] at this
  rw [this, show (1 : Nat) = 2 ^ 1 - 1 from rfl, Nat.and_two_pow_sub_one_eq_mod]
set_option maxHeartbeats 1000000 in
theorem bits_any (x : Nat) (w : World) (hx : x < 65536) : Calls Tryz.prog 36 #[.int .u16 (x : Int)] w (fun e w' => e = .returned (.int .i64 (ones x : Int)) ∧ w' = w) := by
  go_enter Tryz.func36, Tryz.ntmps36
  go_wp2_with (fail)
  go_loopw [0, 3] (fun v n wr => ∃ y q : Nat, v = .int .u16 (y : Int) ∧ n = .int .i64 (q : Int) ∧ y < 65536 ∧ q ≤ 16 ∧ Hid (q + ones y = ones x) ∧ wr = w) (fun v _ _ => (intOf v).toNat)
  case atStart => exact ⟨x, 0, rfl, rfl, hx, by omega, Nat.zero_add _, rfl⟩
  case round =>
    obtain ⟨y, q, rfl, rfl, hy, hq, hh, rfl⟩ := hrel
    by_cases hlt : 0 < y
    · have hand := and_one y hy
      obtain ⟨b, hb⟩ : ∃ b, b = y % 2 := ⟨_, rfl⟩
      have hb2 : b < 2 := by omega
      rw [← hb] at hand
      obtain ⟨z, hz⟩ : ∃ z, z = y / 2 := ⟨_, rfl⟩
      have hz2 : z < y := by omega
      have hdiv : (y : Int) / 2 = (z : Int) := by omega
      have HN : Hid (q + b + ones z = ones x) := by
        rw [Hid, ← hh.out, ones_half y hy, ← hb, ← hz]; omega
      have hsum : q + b ≤ 16 := by
        have h1 := HN.out
        have h2 : ones x ≤ 16 := onesF_le 16 x
        omega
      have hlti : 0 < (y : Int) := by omega
      clear hb hz hh
      go_wp2_with (fail)
      go_roundw
      case rel => exact ⟨z, q + b, rfl, by go_num, by omega, hsum, HN, by first | exact rfl | trivial⟩
      case measure => simp [intOf]; omega
    · obtain rfl : y = 0 := by omega
      have HN : Hid (ones x = q) := by
        rw [Hid, ← hh.out]; rfl
      go_wp2_with (fail)
      go_ret
      exact ⟨by rw [HN.out]; rfl, rfl⟩
def oddB (k run : Nat) : Bool := ones (k &&& run) % 2 == 1
set_option maxHeartbeats 1000000 in
theorem odd_any (k run : Nat) (w : World) (hk : k < 65536) (hr : run < 65536) : Calls Tryz.prog 89 #[.int .u16 (k : Int), .int .u16 (run : Int)] w (fun e w' => e = .returned (.bool (oddB k run)) ∧ w' = w) := by
  obtain ⟨z, hz⟩ : ∃ z, z = k &&& run := ⟨_, rfl⟩
  have hand : bits .and .u16 (k : Int) (run : Int) = (z : Int) := by rw [hz]; exact bits_and_u16_nat k run hk hr
  have hz16 : z < 65536 := by rw [hz]; exact Nat.lt_of_le_of_lt Nat.and_le_left hk
  have HB := Lib.hid (bits_any z w hz16)
  have HR : Hid (oddB k run = (ones z % 2 == 1)) := by rw [Hid, oddB, hz]
  obtain ⟨q, hq⟩ : ∃ q, q = ones z := ⟨_, rfl⟩
  have hq16 : q ≤ 16 := by rw [hq]; exact onesF_le 16 z
  rw [← hq] at HB HR
  rw [HR.out]
  clear hz hz16 HR hq
  go_enter Tryz.func89, Tryz.ntmps89
  go_wp2_with (go_at_call 36; (with_reducible refine HB.out.mono ?_); rintro e w2 ⟨rfl, rfl⟩)
  go_ret
  refine ⟨ret_bool ?_, rfl⟩
  rcases Nat.mod_two_eq_zero_or_one q with h | h
  · rw [h]; rw [show ((q : Int) % 2 == 1) = false by rw [show (q : Int) % 2 = 0 by omega]; rfl]; rfl
  · rw [h]; rw [show ((q : Int) % 2 == 1) = true by rw [show (q : Int) % 2 = 1 by omega]; rfl]; rfl
end Go.Proofs.YtplbofhgmflnlaaGreat
