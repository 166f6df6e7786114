/-
  Walks: the laws MatrixNothing and MatrixShuffles.
-/
import Derived.Test.YtplbofhgmflnlaaGreatKC
import Derived.Test.YtplbofhgmflnlaaGreatOA
set_option linter.unusedVariables false
set_option linter.unusedSimpArgs false
namespace Go.Proofs.YtplbofhgmflnlaaGreat
open Go.RowKit
set_option maxRecDepth 100000 in
set_option maxHeartbeats 4000000 in
theorem nothing_any (o : Op) (w : World) : Calls Tryz.prog 12 #[opV o] w (Ret (.bool true) w) := by
  obtain ⟨kd, pt, rs⟩ := o
  go_enter Tryz.func12, Tryz.ntmps12
  go_wp2_with (fail)
  generalize hw1 : World.alloc _ _ = w1
  obtain ⟨he, o1, -⟩ := alloc1 hw1
  obtain ⟨b0, b1, b2⟩ := obj_cells3 o1
  have HE := Lib.hid he
  clear hw1 o1 he
  have E1 := Ext.refl w1
  go_wp2_with (first
    | (go_at_call 62; (with_reducible refine (Next_nil _).mono ?_); rintro e w2 ⟨rfl, he2⟩)
    | (go_at_call 63; (with_reducible refine (State_nil pt _).mono ?_); rintro e w3 ⟨rfl, he3⟩; have he13 := he2.trans he3)
    | (go_at_call 54; (with_reducible refine (Take_nil pt _).mono ?_); rintro e w4 ⟨rfl, he4⟩; have he14 := he13.trans he4)
    | (go_at_call 56; (with_reducible refine (Declare_nil pt rs _).mono ?_); rintro e w5 ⟨rfl, he5⟩; have he15 := he14.trans he5)
    | (go_at_call 58; (with_reducible refine (Reopen_nil pt _).mono ?_); rintro e w6 ⟨rfl, he6⟩; have he16 := he15.trans he6)
    | (go_at_call 61; (with_reducible refine (Open_nil _).mono ?_); rintro e w7 ⟨rfl, he7⟩; have he17 := he16.trans he7)
    | (go_at_call 64; (with_reducible refine (Done_nil _).mono ?_); rintro e w8 ⟨rfl, he8⟩; have he18 := he17.trans he8)
    | (go_at_call 17; (with_reducible refine (known_any _).mono ?_); rintro e w9 ⟨rfl, he9⟩; have he19 := he18.trans he9))
  go_ret
  exact ⟨rfl, HE.out.trans he19⟩
set_option maxHeartbeats 4000000 in
theorem shuffles_wide (s n : Int) (w : World) (h1 : 60 < n) (h2 : n ≤ 2000) : Calls Tryz.prog 5 #[.int .u64 s, .int .i64 n] w (Ret (.bool true) w) := by
  go_enter Tryz.func5, Tryz.ntmps5
  go_wp2_with (go_at_call 17; (with_reducible refine (known_any _).mono ?_); rintro e w2 ⟨rfl, he2⟩)
  go_ret
  exact ⟨rfl, he2⟩
set_option maxHeartbeats 4000000 in
theorem shuffles_low (s n : Int) (w : World) (h1 : n < 0) : Calls Tryz.prog 5 #[.int .u64 s, .int .i64 n] w (Ret (.bool true) w) := by
  have hb := Lib.hid (fun w => Shuffle_bad s n w (.inl h1))
  have h0 : ¬ 60 < n := by omega
  go_enter Tryz.func5, Tryz.ntmps5
  go_wp2_with (first
    | (go_at_call 21; (with_reducible refine (hb.out _).mono ?_); rintro e w2 ⟨rfl, he2⟩)
    | (go_at_call 17; (with_reducible refine (known_any _).mono ?_); rintro e w3 ⟨rfl, he3⟩))
  go_ret
  exact ⟨rfl, he2.trans he3⟩
set_option maxHeartbeats 4000000 in
theorem shuffles_high (s n : Int) (w : World) (h1 : 2000 < n) : Calls Tryz.prog 5 #[.int .u64 s, .int .i64 n] w (Ret (.bool true) w) := by
  have hb := Lib.hid (fun w => Shuffle_bad s n w (.inr h1))
  have h0 : 60 < n := by omega
  have h2 : ¬ n ≤ 2000 := by omega
  have h3 : ¬ n < 0 := by omega
  go_enter Tryz.func5, Tryz.ntmps5
  go_wp2_with (first
    | (go_at_call 21; (with_reducible refine (hb.out _).mono ?_); rintro e w2 ⟨rfl, he2⟩)
    | (go_at_call 17; (with_reducible refine (known_any _).mono ?_); rintro e w3 ⟨rfl, he3⟩))
  go_ret
  exact ⟨rfl, he2.trans he3⟩
set_option maxHeartbeats 4000000 in
theorem shuffles_ok (s : Int) (n : Nat) (w : World) (h1 : n ≤ 60) : Calls Tryz.prog 5 #[.int .u64 s, .int .i64 n] w (Ret (.bool true) w) := by
  have hs := Lib.hid (fun w => Shuffle_ok s n w (by omega))
  have hr := Lib.hid (fun w => refShuffle_any s n w (by omega))
  obtain ⟨xs, hxs⟩ : ∃ xs, xs = shufL s (rngI n) := ⟨_, rfl⟩
  have hl : xs.length = n := by rw [hxs]; unfold shufL; rw [shufK_len, rngI_len]
  have HS : Hid (∀ w, Calls Tryz.prog 21 #[.int .u64 s, .int .i64 n] w (fun e w' => ∃ g c, e = .returned (.tuple #[.slice (some ⟨g, 0, none⟩) n c, .int .i64 0]) ∧ Ext w w' ∧ Ints w' (some ⟨g, 0, none⟩) xs)) := fun w => (hs.out w).mono (by
    rintro e w' ⟨g, c, rfl, he, ho⟩
    rw [hxs]
    exact ⟨g, c, rfl, he, ho.ints.1⟩)
  have HR : Hid (∀ w, Calls Tryz.prog 26 #[.int .u64 s, .int .i64 n] w (fun e w' => ∃ a c, e = .returned (.slice a n c) ∧ Ext w w' ∧ Ints w' a xs)) := fun w => (hr.out w).mono (by
    rintro e w' ⟨a, c, rfl, he, ho⟩
    rw [← hxs] at ho ⊢
    rw [hl] at ho ⊢
    exact ⟨a, c, rfl, he, ho.ints.1⟩)
  have HC : Hid (∀ w a b c d, Ints w a xs → Ints w b xs → Calls Tryz.prog 25 #[.slice a n c, .slice b n d] w (Ret (.bool true) w)) := fun w a b c d ha hb => by
    have := same_any xs xs a b n n c d w ha hb hl hl (by omega) (by omega)
    rwa [show sameB xs xs = true by simp [sameB]] at this
  clear hs hr hxs hl
  have h0 : ¬ 60 < (n : Int) := by omega
  have h2 : ¬ 2000 < (n : Int) := by omega
  have h3 : ¬ (n : Int) < 0 := by omega
  clear h1
  go_enter Tryz.func5, Tryz.ntmps5
  go_wp2_with (first
    | (go_at_call 21; (with_reducible refine (HS.out _).mono ?_); rintro e w2 ⟨g, c, rfl, he2, hi2⟩; have HI2 := Lib.hid hi2; clear hi2)
    | (go_at_call 26; (with_reducible refine (HR.out _).mono ?_); rintro e w3 ⟨b, d, rfl, he3, hi3⟩; have HI3 := Lib.hid hi3; clear hi3)
    | (go_at_call 25; (with_reducible refine (HC.out _ _ _ _ _ (HI2.out.ext he3) HI3.out).mono ?_); rintro e w4 ⟨rfl, he4⟩)
    | (go_at_call 17; (with_reducible refine (known_any _).mono ?_); rintro e w5 ⟨rfl, he5⟩))
  go_ret
  exact ⟨rfl, he2.trans (he3.trans (he4.trans he5))⟩
theorem shuffles_any (s n : Int) (w : World) : Calls Tryz.prog 5 #[.int .u64 s, .int .i64 n] w (Ret (.bool true) w) := by
  by_cases h0 : n < 0
  · exact shuffles_low s n w h0
  · by_cases h1 : 2000 < n
    · exact shuffles_high s n w h1
    · by_cases h2 : 60 < n
      · exact shuffles_wide s n w h2 (by omega)
      · obtain ⟨m, rfl⟩ : ∃ m : Nat, n = (m : Int) := ⟨n.toNat, by omega⟩
        exact shuffles_ok s m w (by omega)
end Go.Proofs.YtplbofhgmflnlaaGreat
