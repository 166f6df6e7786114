import Derived.Test.YtjpgignbjkgjiaaBase
namespace Go.Proofs.Ytjpgignbjkgjiaa
open Go.RowKit
set_option maxHeartbeats 400000 in
theorem within_any (n a b : Int) (w : World) :
    Calls Try.prog 48 #[.int .i64 n, .int .i64 a, .int .i64 b] w fun e w' => e = .returned (.bool (wi n a b)) ∧ w = w' := by
  go_enter Try.func48, Try.ntmps48
  go_wp2
  all_goals go_ret
  all_goals exact ⟨by simp [wi, *]; try omega, rfl⟩
set_option maxHeartbeats 400000 in
theorem indexFunc_int (f : Nat) (cap : Array Value) (a : Option Addr) (n c : Nat) (xs : List Int) (p : Int → Bool) (w : World) (hn : xs.length = n) (hm : n ≤ 1000000) (hx : Ints w a xs)
    (hp : ∀ i, i < n → Asks Try.prog f cap w (.int .i64 (nth xs i)) (p (nth xs i))) :
    Calls Try.prog 66 #[.slice a n c, .func (.func f) #[] cap] w (Ret (.int .i64 (idxOr (xs.findIdx? p))) w) := by
  have HN := Lib.hid hn; clear hn
  go_enter Try.func66, Try.ntmps66
  go_wp2_with (fail)
  go_loopw [5, 8] (fun _ i wr => ∃ k : Nat, k ≤ n ∧ i = .int .i64 k ∧ Ext w wr ∧ Hid (∀ j, j < k → p (nth xs j) = false)) (fun _ i _ => n - (intOf i).toNat)
  case atStart => exact ⟨0, Nat.zero_le _, rfl, Ext.refl _, fun j hj => by omega⟩
  case round =>
    obtain ⟨k, hk, rfl, he, hf⟩ := hrel
    by_cases hlt : k < n
    · obtain ⟨b, o, rfl, hc⟩ := hx.at k (by rw [HN.out]; exact hlt)
      obtain ⟨hen, hq⟩ := hp k hlt
      have HQ := Lib.hid (hq wr he)
      have hen' := hen (#[.int .i64 (nth xs k)] ++ cap) wr
      clear hq hen hp
      go_wp2_with (fail)
      refine HQ.out.mono ?_
      rintro e w' ⟨rfl, he'⟩
      have he2 := he.trans he'
      cases hpk : p (nth xs k)
      · have hf2 : Hid (∀ j, j < k + 1 → p (nth xs j) = false) := fun j hj => by
          rcases Nat.lt_succ_iff_lt_or_eq.1 hj with h | h
          · exact hf.out j h
          · rw [h]; exact hpk
        clear hpk
        go_wp2_with (fail)
        go_roundw
        case rel => exact ⟨k + 1, by omega, by go_num, he2, hf2⟩
        case measure => simp [intOf]; omega
      · have H2 := Lib.hid (findIdx_some nth nth_eq p xs k (by rw [HN.out]; exact hlt) hpk hf.out)
        clear hpk
        go_wp2_with (fail)
        go_ret
        exact ⟨by rw [H2.out]; rfl, he2⟩
    · have H2 := Lib.hid (findIdx_none nth nth_eq p xs (fun j hj => hf.out j (by rw [HN.out] at hj; omega)))
      go_wp2_with (fail)
      go_ret
      exact ⟨by rw [H2.out]; rfl, he⟩
set_option maxHeartbeats 400000 in
theorem containsFunc_int (f : Nat) (cap : Array Value) (a : Option Addr) (n c : Nat) (xs : List Int) (p : Int → Bool) (w : World) (hn : xs.length = n) (hm : n ≤ 1000000) (hx : Ints w a xs)
    (hp : ∀ i, i < n → Asks Try.prog f cap w (.int .i64 (nth xs i)) (p (nth xs i))) :
    Calls Try.prog 71 #[.slice a n c, .func (.func f) #[] cap] w (Ret (.bool (xs.any p)) w) := by
  have H := Lib.hid (indexFunc_int f cap a n c xs p w hn hm hx hp)
  clear hp
  rw [any_idx]
  go_enter Try.func71, Try.ntmps71
  go_wp2_with (go_at_call 66; refine H.out.mono ?_; rintro e w' ⟨rfl, he⟩)
  go_ret
  exact ⟨rfl, he⟩
set_option maxHeartbeats 400000 in
theorem checkHall1 (x : Int) (w : World) : Calls Try.prog 69 #[.int .i64 x] w fun e w' => e = .returned (.bool (!wi x 0 1000)) ∧ w = w' := by
  go_enter Try.func69, Try.ntmps69
  go_wp2_with (go_at_call 48; refine (within_any _ _ _ _).mono ?_; rintro e w' ⟨rfl, rfl⟩)
  go_ret
  exact ⟨rfl, rfl⟩
set_option maxHeartbeats 400000 in
theorem checkHall2 (x : Int) (w : World) : Calls Try.prog 70 #[.int .i64 x] w fun e w' => e = .returned (.bool (!wi x 0 1000)) ∧ w = w' := by
  go_enter Try.func70, Try.ntmps70
  go_wp2_with (go_at_call 48; refine (within_any _ _ _ _).mono ?_; rintro e w' ⟨rfl, rfl⟩)
  go_ret
  exact ⟨rfl, rfl⟩
end Go.Proofs.Ytjpgignbjkgjiaa
