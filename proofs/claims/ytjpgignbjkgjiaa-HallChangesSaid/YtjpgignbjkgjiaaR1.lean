import Derived.Test.YtjpgignbjkgjiaaA9
import Derived.Test.YtjpgignbjkgjiaaP7
set_option linter.unusedVariables false
set_option linter.unusedSimpArgs false
namespace Go.Proofs.Ytjpgignbjkgjiaa
open Go.RowKit
set_option maxHeartbeats 400000 in
theorem in_any (n a b : Int) (w : World) :
    Calls Try.prog 56 #[.int .i64 n, .int .i64 a, .int .i64 b] w fun e w' => e = .returned (.bool (wi n a b)) ∧ w = w' := by
  go_enter Try.func56, Try.ntmps56
  go_wp2
  all_goals go_ret
  all_goals exact ⟨by simp [wi, *]; try omega, rfl⟩
set_option maxHeartbeats 400000 in
theorem runs_any (c : Camp) (t hour : Int) (w : World) (h1 : -1000 ≤ t ∧ t ≤ 1000) (h2 : -1000 ≤ hour ∧ hour ≤ 1000) :
    Calls Try.prog 50 #[cval c, .int .i64 t, .int .i64 hour] w (Ret (.bool (runB c t hour)) w) := by
  obtain ⟨h3, h4⟩ := h1
  obtain ⟨h5, h6⟩ := h2
  cases T1 : decide (t ≤ hour)
  all_goals
    have HB : Hid (runB c t hour = (decide (t ≤ hour) && decide (hour - t < c.ho))) := rfl
    rw [T1] at HB
    go_enter Try.func50, Try.ntmps50
    go_wp2_with (fail)
    go_ret
    refine ⟨?_, (Ext.refl w).alloc _⟩
    rw [HB.out]; rfl
set_option maxHeartbeats 400000 in
theorem prepares_any (c : Camp) (t hour : Int) (w : World) (h1 : -1000 ≤ t ∧ t ≤ 1000) (h2 : -1000 ≤ hour ∧ hour ≤ 1000) :
    Calls Try.prog 51 #[cval c, .int .i64 t, .int .i64 hour] w (Ret (.bool (prepB c t hour)) w) := by
  obtain ⟨h3, h4⟩ := h1
  obtain ⟨h5, h6⟩ := h2
  cases T1 : decide (hour < t)
  all_goals
    have HB : Hid (prepB c t hour = (decide (hour < t) && decide (t - hour ≤ c.pr))) := rfl
    rw [T1] at HB
    go_enter Try.func51, Try.ntmps51
    go_wp2_with (fail)
    go_ret
    refine ⟨?_, (Ext.refl w).alloc _⟩
    rw [HB.out]; rfl
set_option maxHeartbeats 1000000 in
theorem refHall (ha : Hal) (x : HP) (w : World) (hh : HallAt w ha x) :
    Calls Try.prog 43 #[hval ha x] w (Ret (.bool (halB ha)) w) := by
  obtain ⟨sa, sc, ea, ec⟩ := x
  have HH := Lib.hid hh; clear hh
  have HB : Hid (halB ha = (wi ha.st.length 1 96 && !((ha.en.length : Int) != (ha.st.length : Int)) && wi ha.ro 1 4 && wi ha.cl 0 6 && (ha.st.all (wi · 0 1000) && ha.en.all (wi · 0 1000)))) := by
    simp only [halB, Hid, len_ne]
    cases wi ha.st.length 1 96 <;> cases ((ha.en.length : Int) != (ha.st.length : Int)) <;> cases wi ha.ro 1 4 <;> cases wi ha.cl 0 6 <;> simp
  cases T1 : wi (ha.st.length : Int) 1 96; rotate_left
  cases T2 : ((ha.en.length : Int) != (ha.st.length : Int))
  cases T3 : wi ha.ro 1 4; rotate_left
  cases T4 : wi ha.cl 0 6; rotate_left
  · rw [T1, T2, T3, T4] at HB
    have hn := wi_iff.1 T1
    obtain ⟨hn1, hn2⟩ := hn
    have hle : ha.en.length ≤ ha.st.length ∧ ha.st.length ≤ ha.en.length := by simp at T2; omega
    obtain ⟨hle1, hle2⟩ := hle
    go_enter Try.func43, Try.ntmps43
    go_wp2_with (fail)
    generalize hw1 : World.alloc _ _ = w1
    obtain ⟨he, o1, -⟩ := alloc1 hw1
    obtain ⟨b0, b1, b2, b3⟩ := obj_cells4 o1
    clear hw1 o1
    have hr0 := Ext.refl w1
    go_wp2_with (go_at_call 56; (with_reducible refine (in_any _ _ _ _).mono ?_); rintro e w' ⟨rfl, rfl⟩)
    clear hr0
    go_loopw [3] (fun i wr => ∃ k : Nat, k ≤ ha.st.length ∧ i = .int .i64 k ∧ Ext w1 wr ∧ Hid (∀ j, j < k → wi (nth ha.st j) 0 1000 = true ∧ wi (nth ha.en j) 0 1000 = true)) (fun i _ => ha.st.length - (intOf i).toNat)
    case atStart => exact ⟨0, Nat.zero_le _, rfl, Ext.refl _, fun j hj => by omega⟩
    case round =>
      obtain ⟨k, hk, rfl, hr, hf⟩ := hrel
      by_cases hlt : k < ha.st.length
      · obtain ⟨b, o, rfl, c0⟩ := (HH.out.st.ext he).at k hlt
        obtain ⟨b', o', rfl, d0⟩ := (HH.out.en.ext he).at k (by omega)
        have hke : k < ha.en.length := by omega
        cases T5 : wi (nth ha.st k) 0 1000
        · have H2 : Hid (halB ha = false) := by
            have := all_nth_false nth nth_eq (wi · 0 1000) ha.st k hlt T5
            rw [Hid, HB.out, this]; simp
          go_wp2_with (go_at_call 56; (with_reducible refine (in_any _ _ _ _).mono ?_); rintro e w' ⟨rfl, rfl⟩)
          go_ret
          exact ⟨by rw [H2.out]; rfl, he.trans hr⟩
        · cases T6 : wi (nth ha.en k) 0 1000
          · have H2 : Hid (halB ha = false) := by
              have := all_nth_false nth nth_eq (wi · 0 1000) ha.en k hke T6
              rw [Hid, HB.out, this]; simp
            go_wp2_with (go_at_call 56; (with_reducible refine (in_any _ _ _ _).mono ?_); rintro e w' ⟨rfl, rfl⟩)
            go_ret
            exact ⟨by rw [H2.out]; rfl, he.trans hr⟩
          · have hf2 : Hid (∀ j, j < k + 1 → wi (nth ha.st j) 0 1000 = true ∧ wi (nth ha.en j) 0 1000 = true) := fun j hj => by
              rcases Nat.lt_succ_iff_lt_or_eq.1 hj with h | h
              · exact hf.out j h
              · rw [h]; exact ⟨T5, T6⟩
            go_wp2_with (go_at_call 56; (with_reducible refine (in_any _ _ _ _).mono ?_); rintro e w' ⟨rfl, rfl⟩)
            go_roundw
            case rel => exact ⟨k + 1, by omega, by go_num, hr, hf2⟩
            case measure => simp [intOf]; omega
      · obtain rfl : k = ha.st.length := by omega
        have H2 : Hid (halB ha = true) := by
          have h1 := all_nth_true nth nth_eq (wi · 0 1000) ha.st (fun j hj => (hf.out j hj).1)
          have h2 := all_nth_true nth nth_eq (wi · 0 1000) ha.en (fun j hj => (hf.out j (by omega)).2)
          rw [Hid, HB.out, h1, h2]; rfl
        go_wp2_with (fail)
        go_ret
        exact ⟨by rw [H2.out]; rfl, he.trans hr⟩
  all_goals
    try rw [T1] at HB
    try rw [T2] at HB
    try rw [T3] at HB
    try rw [T4] at HB
    go_enter Try.func43, Try.ntmps43
    go_wp2_with (fail)
    generalize hw1 : World.alloc _ _ = w1
    obtain ⟨he, o1, -⟩ := alloc1 hw1
    obtain ⟨b0, b1, b2, b3⟩ := obj_cells4 o1
    clear hw1 o1
    have hr0 := Ext.refl w1
    go_wp2_with (go_at_call 56; (with_reducible refine (in_any _ _ _ _).mono ?_); rintro e w' ⟨rfl, rfl⟩)
    go_ret
    refine ⟨?_, he⟩
    rw [HB.out]; simp
end Go.Proofs.Ytjpgignbjkgjiaa
