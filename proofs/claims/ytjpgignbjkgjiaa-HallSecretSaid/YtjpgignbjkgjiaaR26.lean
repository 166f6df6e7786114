/-
  HallSecret's own functions: what a guise says of a campaign, and whether two views are the same.
-/
import Derived.Test.YtjpgignbjkgjiaaP24
import Derived.Test.YtjpgignbjkgjiaaR9
set_option linter.unusedVariables false
set_option linter.unusedSimpArgs false
namespace Go.Proofs.Ytjpgignbjkgjiaa
open Go.RowKit
set_option maxHeartbeats 1000000 in
theorem pick_any (ch : List Int) (a : Option Addr) (n c i : Nat) (w : World) (hb : Byts w a ch) (hn : ch.length = n) (hi : i < 1000) (hn1 : n ≤ 9223372036854775807) :
    Calls Try.prog 20 #[.slice a n c, .int .i64 i] w (Ret (.int .u8 (pickS ch i)) w) := by
  have HN := Lib.hid hn
  have hns : n ≤ ch.length := by omega
  clear hn
  cases T : ((n : Int) == 0)
  · have hn0 : 0 < n := by have : ¬ (n : Int) = 0 := by simpa using T
                           omega
    have HE : Hid (pickS ch i = nth ch (i % n)) := by rw [Hid, pickS, if_neg (by rw [HN.out]; omega), HN.out]
    have hlt : i % n < n := Nat.mod_lt _ hn0
    obtain ⟨b', o', rfl, c0⟩ := hb.at (i % n) (by omega)
    have hm : Int.tmod (i : Int) (n : Int) = ((i % n : Nat) : Int) := by rw [Int.ofNat_tmod]
    go_enter Try.func20, Try.ntmps20
    go_wp2_with (fail)
    go_ret
    exact ⟨by rw [HE.out]; rfl, Ext.refl _⟩
  · have HE : Hid (pickS ch i = 0) := by
      have : (n : Int) = 0 := by simpa using T
      rw [Hid, pickS, if_pos (by rw [HN.out]; omega)]
    go_enter Try.func20, Try.ntmps20
    go_wp2_with (fail)
    go_ret
    exact ⟨by rw [HE.out]; rfl, Ext.refl _⟩
set_option maxHeartbeats 1000000 in
theorem seen_any (xs ys : List Int) (a b : Option Addr) (n m c d : Nat) (w : World) (hx : Byts w a xs) (hy : Byts w b ys) (hn : xs.length = n) (hm : ys.length = m) (hn1 : n ≤ 1000000) (hm1 : m ≤ 1000000) :
    Calls Try.prog 21 #[.slice a n c, .slice b m d] w (Ret (.bool (sameB xs ys)) w) := by
  have HN := Lib.hid hn; have HM := Lib.hid hm
  have hns : n ≤ xs.length := by omega
  have hms : m ≤ ys.length := by omega
  clear hn hm
  cases T : ((n : Int) != (m : Int))
  · have hnm : n ≤ m := by simp at T; omega
    have hmn : m ≤ n := by simp at T; omega
    go_enter Try.func21, Try.ntmps21
    go_wp2_with (fail)
    go_loopw [5] (fun i wr => ∃ k : Nat, k ≤ n ∧ i = .int .i64 k ∧ Ext w wr ∧ Hid (∀ j, j < k → nth xs j = nth ys j)) (fun i _ => n - (intOf i).toNat)
    case atStart => exact ⟨0, Nat.zero_le _, rfl, Ext.refl _, fun j hj => by omega⟩
    case round =>
      obtain ⟨k, hk, rfl, hr, hf⟩ := hrel
      by_cases hlt : k < n
      · obtain ⟨b', o', rfl, c0⟩ := hx.at k (by omega)
        obtain ⟨b'', o'', rfl, d0⟩ := hy.at k (by omega)
        have hkm : k < m := by omega
        go_wp2_with (fail)
        refine wp_region_ext (by kernel_rfl) (by kernel_rfl) hr ?_
        repeat (first | go_big_quiet_step (fail) | quiet_step (fail))
        refine wpQuiet_nil ?_
        rintro _ ⟨nq, rfl⟩
        have hq := nq.ok
        cases T2 : (nth xs k != nth ys k)
        · have hf2 : Hid (∀ j, j < k + 1 → nth xs j = nth ys j) := fun j hj => by
            rcases Nat.lt_succ_iff_lt_or_eq.1 hj with h | h
            · exact hf.out j h
            · rw [h]; simpa using T2
          go_wp2_with (fail)
          go_roundw
          case rel => exact ⟨k + 1, by omega, by go_num, hq, hf2⟩
          case measure => simp [intOf]; omega
        · have H2 : Hid (sameB xs ys = false) := by
            have : ¬ nth xs k = nth ys k := by simpa using T2
            refine decide_eq_false fun e => this (by rw [e])
          go_wp2_with (fail)
          go_ret
          exact ⟨by rw [H2.out]; rfl, hq⟩
      · obtain rfl : k = n := by omega
        have H2 : Hid (sameB xs ys = true) := decide_eq_true (ext_nth _ _ (by rw [HN.out, HM.out]; omega) fun i hi => hf.out i (by rw [HN.out] at hi; exact hi))
        go_wp2_with (fail)
        go_ret
        exact ⟨by rw [H2.out]; rfl, hr⟩
  · have H2 : Hid (sameB xs ys = false) := by
      have : ¬ (n : Int) = m := by simpa using T
      refine decide_eq_false fun e => this (by rw [← HN.out, ← HM.out, e])
    go_enter Try.func21, Try.ntmps21
    go_wp2_with (fail)
    go_ret
    exact ⟨by rw [H2.out]; rfl, Ext.refl _⟩
end Go.Proofs.Ytjpgignbjkgjiaa
