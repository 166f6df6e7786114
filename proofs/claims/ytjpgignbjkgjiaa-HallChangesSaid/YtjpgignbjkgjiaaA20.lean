import Derived.Test.YtjpgignbjkgjiaaA19
import Derived.Test.YtjpgignbjkgjiaaB5
import Derived.Test.YtjpgignbjkgjiaaPlain
import Derived.StillTailTactics
set_option linter.unusedVariables false
set_option linter.unusedSimpArgs false
namespace Go.Proofs.Ytjpgignbjkgjiaa
open Go.RowKit
theorem mark_part (s d : Nat) (v : Int) (F : Nat → Int) : (fun i => if i = s + d then v else (if s ≤ i ∧ i < s + d then v else F i)) = fun i => if s ≤ i ∧ i < s + (d + 1) then v else F i := by
  funext i
  by_cases h : i = s + d
  · rw [if_pos h, if_pos (by omega)]
  · rw [if_neg h]
    by_cases h2 : s ≤ i ∧ i < s + d
    · rw [if_pos h2, if_pos (by omega)]
    · rw [if_neg h2, if_neg (by omega)]
set_option maxHeartbeats 1000000 in
theorem mark_any (a b v : Int) (Bo g n c B : Nat) (F : Nat → Int) (w : World) (hn : n ≤ 1000) (ha0 : -1000 ≤ a ∧ a ≤ 1000) (hb0 : -1000 ≤ b ∧ b ≤ 1000) (hBo : Bo ≠ g)
    (hbox : w.cell? ⟨Bo, 0, none⟩ = some (.slice (some ⟨g, 0, none⟩) n c)) (hown : OwnU w B (.slice (some ⟨g, 0, none⟩) n c) (fl n F)) :
    Calls Try.prog 49 #[.int .i64 a, .int .i64 b, .int .u8 v, .pointer (some ⟨Bo, 0, none⟩)] w (fun e w' => e = .returned (.tuple #[]) ∧ ExtX g w w' ∧ OwnU w' B (.slice (some ⟨g, 0, none⟩) n c) (fl n (markF a b v F))) := by
  obtain ⟨ha1, ha2⟩ := ha0
  obtain ⟨hb1, hb2⟩ := hb0
  have HO := Lib.hid hown; have HBX := Lib.hid hbox; have HBO := Lib.hid hBo
  clear hown hbox hBo
  obtain ⟨s, hs, hs1⟩ : ∃ s : Nat, (a < 0 ∧ s = 0 ∨ 0 ≤ a ∧ a = s) ∧ s ≤ 1000 := by
    rcases Int.lt_or_le a 0 with h | h
    · exact ⟨0, .inl ⟨h, rfl⟩, by omega⟩
    · obtain ⟨q, hq⟩ := Int.eq_ofNat_of_zero_le h; exact ⟨q, .inr ⟨h, hq⟩, by omega⟩
  obtain ⟨m, hm⟩ : ∃ m : Int, (((n : Int) < b ∧ m = n) ∨ (b ≤ n ∧ m = b)) := by
    rcases Int.lt_or_le (n : Int) b with h | h
    · exact ⟨n, .inl ⟨h, rfl⟩⟩
    · exact ⟨b, .inr ⟨h, rfl⟩⟩
  have HM : Hid (fl n (markF a b v F) = fl n fun i => if s ≤ i ∧ (i : Int) < m then v else F i) := by
    refine fl_congr _ _ _ fun i hi => ?_
    unfold markF
    by_cases h : a ≤ (i : Int) ∧ (i : Int) < b
    · rw [if_pos h, if_pos (by omega)]
    · rw [if_neg h, if_neg (by omega)]
  rcases hs with ⟨hs, hs0⟩ | ⟨hs, hs0⟩ <;> rcases hm with ⟨hm, rfl⟩ | ⟨hm, rfl⟩
  · have hmn : (n : Int) ≤ (n : Int) := by omega
    have hbx := HBX.out
    have HS0 := Lib.hid hs0
    clear hs0
    go_enter Try.func49, Try.ntmps49
    go_wp2_with (fail)
    go_loopw [7] (fun k wr => ∃ d : Nat, k = .int .i64 ((s + d : Nat) : Int) ∧ s + d ≤ 3000 ∧ Hid (d = 0 ∨ ((s + d : Nat) : Int) ≤ (n : Int)) ∧ ExtX g w wr ∧ OwnU wr B (.slice (some ⟨g, 0, none⟩) n c) (fl n fun i => if s ≤ i ∧ i < s + d then v else F i)) (fun k _ => (n - intOf k).toNat)
    case atStart =>
      refine ⟨0, by rw [Nat.add_zero]; have := HS0.out; rw [this]; rfl, by omega, .inl rfl, ExtX.refl g w, ?_⟩
      have e : (fl n fun i => if s ≤ i ∧ i < s + 0 then v else F i) = fl n F := fl_congr _ _ _ fun i _ => if_neg (by omega)
      rw [e]; exact HO.out
    case round =>
      obtain ⟨d, rfl, hd3, hdm, hr, hown⟩ := hrel
      have hbox := hr.cell hbx HBO.out
      by_cases hlt : ((s + d : Nat) : Int) < (n : Int)
      · have hsn : s + d < n := by omega
        have hcell := ownU_cell (fl_len _ _) hown (s + d) hsn
        have hfr := ownU_free (fl_len _ _) hown (s + d)
        have hown2 := ownU_set (j := s + d) hown v
        rw [mark_part] at hown2
        have hr2 := hr.set (s + d) (.int .u8 v)
        have HO2 := Lib.hid hown2
        clear hown hown2
        go_wp2_with (fail)
        exact ⟨⟨d + 1, by rw [show (((s : Nat) : Int) + (d : Int) + 1) = ((s + (d + 1) : Nat) : Int) by omega], by omega, .inr (by omega), hr2, HO2.out⟩, by simp [intOf]; omega⟩
      · have he : (fl n fun i => if s ≤ i ∧ i < s + d then v else F i) = fl n (markF a b v F) := by
          rw [HM.out]
          refine fl_congr _ _ _ fun i hi => ?_
          have := hdm.out
          by_cases h : s ≤ i ∧ i < s + d
          · rw [if_pos h, if_pos (by omega)]
          · rw [if_neg h, if_neg (by omega)]
        rw [he] at hown
        have HO2 := Lib.hid hown
        clear hown he
        go_wp2_with (fail)
        go_end0
        exact ⟨rfl, hr, HO2.out⟩
  · have hmn : m ≤ (n : Int) := by omega
    have hbx := HBX.out
    have HS0 := Lib.hid hs0
    clear hs0
    go_enter Try.func49, Try.ntmps49
    go_wp2_with (fail)
    go_loopw [7] (fun k wr => ∃ d : Nat, k = .int .i64 ((s + d : Nat) : Int) ∧ s + d ≤ 3000 ∧ Hid (d = 0 ∨ ((s + d : Nat) : Int) ≤ m) ∧ ExtX g w wr ∧ OwnU wr B (.slice (some ⟨g, 0, none⟩) n c) (fl n fun i => if s ≤ i ∧ i < s + d then v else F i)) (fun k _ => (n - intOf k).toNat)
    case atStart =>
      refine ⟨0, by rw [Nat.add_zero]; have := HS0.out; rw [this]; rfl, by omega, .inl rfl, ExtX.refl g w, ?_⟩
      have e : (fl n fun i => if s ≤ i ∧ i < s + 0 then v else F i) = fl n F := fl_congr _ _ _ fun i _ => if_neg (by omega)
      rw [e]; exact HO.out
    case round =>
      obtain ⟨d, rfl, hd3, hdm, hr, hown⟩ := hrel
      have hbox := hr.cell hbx HBO.out
      by_cases hlt : ((s + d : Nat) : Int) < m
      · have hsn : s + d < n := by omega
        have hcell := ownU_cell (fl_len _ _) hown (s + d) hsn
        have hfr := ownU_free (fl_len _ _) hown (s + d)
        have hown2 := ownU_set (j := s + d) hown v
        rw [mark_part] at hown2
        have hr2 := hr.set (s + d) (.int .u8 v)
        have HO2 := Lib.hid hown2
        clear hown hown2
        go_wp2_with (fail)
        exact ⟨⟨d + 1, by rw [show (((s : Nat) : Int) + (d : Int) + 1) = ((s + (d + 1) : Nat) : Int) by omega], by omega, .inr (by omega), hr2, HO2.out⟩, by simp [intOf]; omega⟩
      · have he : (fl n fun i => if s ≤ i ∧ i < s + d then v else F i) = fl n (markF a m v F) := by
          rw [HM.out]
          refine fl_congr _ _ _ fun i hi => ?_
          have := hdm.out
          by_cases h : s ≤ i ∧ i < s + d
          · rw [if_pos h, if_pos (by omega)]
          · rw [if_neg h, if_neg (by omega)]
        rw [he] at hown
        have HO2 := Lib.hid hown
        clear hown he
        go_wp2_with (fail)
        go_end0
        exact ⟨rfl, hr, HO2.out⟩
  · have hmn : (n : Int) ≤ (n : Int) := by omega
    have hbx := HBX.out
    have HS0 := Lib.hid hs0
    clear hs0
    go_enter Try.func49, Try.ntmps49
    go_wp2_with (fail)
    go_loopw [7] (fun k wr => ∃ d : Nat, k = .int .i64 ((s + d : Nat) : Int) ∧ s + d ≤ 3000 ∧ Hid (d = 0 ∨ ((s + d : Nat) : Int) ≤ (n : Int)) ∧ ExtX g w wr ∧ OwnU wr B (.slice (some ⟨g, 0, none⟩) n c) (fl n fun i => if s ≤ i ∧ i < s + d then v else F i)) (fun k _ => (n - intOf k).toNat)
    case atStart =>
      refine ⟨0, by rw [Nat.add_zero]; have := HS0.out; rw [this], by omega, .inl rfl, ExtX.refl g w, ?_⟩
      have e : (fl n fun i => if s ≤ i ∧ i < s + 0 then v else F i) = fl n F := fl_congr _ _ _ fun i _ => if_neg (by omega)
      rw [e]; exact HO.out
    case round =>
      obtain ⟨d, rfl, hd3, hdm, hr, hown⟩ := hrel
      have hbox := hr.cell hbx HBO.out
      by_cases hlt : ((s + d : Nat) : Int) < (n : Int)
      · have hsn : s + d < n := by omega
        have hcell := ownU_cell (fl_len _ _) hown (s + d) hsn
        have hfr := ownU_free (fl_len _ _) hown (s + d)
        have hown2 := ownU_set (j := s + d) hown v
        rw [mark_part] at hown2
        have hr2 := hr.set (s + d) (.int .u8 v)
        have HO2 := Lib.hid hown2
        clear hown hown2
        go_wp2_with (fail)
        exact ⟨⟨d + 1, by rw [show (((s : Nat) : Int) + (d : Int) + 1) = ((s + (d + 1) : Nat) : Int) by omega], by omega, .inr (by omega), hr2, HO2.out⟩, by simp [intOf]; omega⟩
      · have he : (fl n fun i => if s ≤ i ∧ i < s + d then v else F i) = fl n (markF a b v F) := by
          rw [HM.out]
          refine fl_congr _ _ _ fun i hi => ?_
          have := hdm.out
          by_cases h : s ≤ i ∧ i < s + d
          · rw [if_pos h, if_pos (by omega)]
          · rw [if_neg h, if_neg (by omega)]
        rw [he] at hown
        have HO2 := Lib.hid hown
        clear hown he
        go_wp2_with (fail)
        go_end0
        exact ⟨rfl, hr, HO2.out⟩
  · have hmn : m ≤ (n : Int) := by omega
    have hbx := HBX.out
    have HS0 := Lib.hid hs0
    clear hs0
    go_enter Try.func49, Try.ntmps49
    go_wp2_with (fail)
    go_loopw [7] (fun k wr => ∃ d : Nat, k = .int .i64 ((s + d : Nat) : Int) ∧ s + d ≤ 3000 ∧ Hid (d = 0 ∨ ((s + d : Nat) : Int) ≤ m) ∧ ExtX g w wr ∧ OwnU wr B (.slice (some ⟨g, 0, none⟩) n c) (fl n fun i => if s ≤ i ∧ i < s + d then v else F i)) (fun k _ => (n - intOf k).toNat)
    case atStart =>
      refine ⟨0, by rw [Nat.add_zero]; have := HS0.out; rw [this], by omega, .inl rfl, ExtX.refl g w, ?_⟩
      have e : (fl n fun i => if s ≤ i ∧ i < s + 0 then v else F i) = fl n F := fl_congr _ _ _ fun i _ => if_neg (by omega)
      rw [e]; exact HO.out
    case round =>
      obtain ⟨d, rfl, hd3, hdm, hr, hown⟩ := hrel
      have hbox := hr.cell hbx HBO.out
      by_cases hlt : ((s + d : Nat) : Int) < m
      · have hsn : s + d < n := by omega
        have hcell := ownU_cell (fl_len _ _) hown (s + d) hsn
        have hfr := ownU_free (fl_len _ _) hown (s + d)
        have hown2 := ownU_set (j := s + d) hown v
        rw [mark_part] at hown2
        have hr2 := hr.set (s + d) (.int .u8 v)
        have HO2 := Lib.hid hown2
        clear hown hown2
        go_wp2_with (fail)
        exact ⟨⟨d + 1, by rw [show (((s : Nat) : Int) + (d : Int) + 1) = ((s + (d + 1) : Nat) : Int) by omega], by omega, .inr (by omega), hr2, HO2.out⟩, by simp [intOf]; omega⟩
      · have he : (fl n fun i => if s ≤ i ∧ i < s + d then v else F i) = fl n (markF a m v F) := by
          rw [HM.out]
          refine fl_congr _ _ _ fun i hi => ?_
          have := hdm.out
          by_cases h : s ≤ i ∧ i < s + d
          · rw [if_pos h, if_pos (by omega)]
          · rw [if_neg h, if_neg (by omega)]
        rw [he] at hown
        have HO2 := Lib.hid hown
        clear hown he
        go_wp2_with (fail)
        go_end0
        exact ⟨rfl, hr, HO2.out⟩
end Go.Proofs.Ytjpgignbjkgjiaa
