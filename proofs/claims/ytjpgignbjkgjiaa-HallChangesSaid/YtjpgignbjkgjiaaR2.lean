import Derived.Test.YtjpgignbjkgjiaaR1
set_option linter.unusedVariables false
set_option linter.unusedSimpArgs false
namespace Go.Proofs.Ytjpgignbjkgjiaa
open Go.RowKit
theorem wi_split (a b : Int) : wi a 0 b = (decide (0 ≤ a) && decide (a ≤ b)) := rfl
set_option maxHeartbeats 2000000 in
theorem refCampaigns (ha : Hal) (x : HP) (l : List Camp) (la : Option Addr) (lc : Nat) (w : World) (hh : HallAt w ha x) (hl : Camps w la l) :
    Calls Try.prog 23 #[hval ha x, .slice la l.length lc] w (Ret (.bool (campsB ha l)) w) := by
  have hrh := fun W (h : Ext w W) => refHall ha x W (hh.ext h)
  obtain ⟨sa, sc, ea, ec⟩ := x
  clear hh
  have HB : Hid (campsB ha l = (halB ha && !decide ((16 : Int) < (l.length : Int)) && l.all (campB ha.st.length))) := by
    simp only [campsB, Hid, nat_le16]
  have HRH := Lib.hid hrh; clear hrh
  cases T1 : halB ha; rotate_left
  cases T2 : decide ((16 : Int) < (l.length : Int))
  · rw [T1, T2] at HB
    have hl16 : l.length ≤ 16 := by simp at T2; omega
    have hrh := HRH.out
    rw [T1] at hrh
    have HR1 := Lib.hid hrh; clear hrh
    go_enter Try.func23, Try.ntmps23
    go_wp2_with (fail)
    generalize hw1 : World.alloc _ _ = w1
    obtain ⟨he, o1, -⟩ := alloc1 hw1
    obtain ⟨b0, b1, b2, b3⟩ := obj_cells4 o1
    clear hw1 o1
    have hr0 := Ext.refl w1
    go_wp2_with (go_at_call 43; (with_reducible refine (HR1.out _ he).mono ?_); rintro e w2 ⟨rfl, he2⟩)
    go_loopw [5] (fun i wr => ∃ k : Nat, k ≤ l.length ∧ i = .int .i64 k ∧ Ext w1 wr ∧ Hid (∀ j, j < k → campB ha.st.length (cth l j) = true)) (fun i _ => l.length - (intOf i).toNat)
    case atStart => exact ⟨0, Nat.zero_le _, rfl, he2, fun j hj => by omega⟩
    case round =>
      clear hr0 he2
      obtain ⟨k, hk, rfl, hr, hf⟩ := hrel
      by_cases hlt : k < l.length
      · obtain ⟨b, o, rfl, c0, c1, c2, c3, c4, c5, c6⟩ := (hl.ext he).at k hlt
        have HC : Hid (campB ha.st.length (cth l k) = (wi (cth l k).cu 0 20 && wi (cth l k).pr 0 24 && wi (cth l k).ho 1 24 && wi (cth l k).en 0 1000 && wi (cth l k).ea 0 (cth l k).la && !decide ((ha.st.length : Int) < (cth l k).la) && wi (cth l k).we 0 100)) := by
          simp only [Hid, campB, le_lt, wi_split (cth l k).ea, ← Bool.and_assoc]
        cases T3 : wi (cth l k).cu 0 20; rotate_left
        cases T4 : wi (cth l k).pr 0 24; rotate_left
        cases T5 : wi (cth l k).ho 1 24; rotate_left
        cases T6 : wi (cth l k).en 0 1000; rotate_left
        cases T7 : wi (cth l k).ea 0 (cth l k).la; rotate_left
        cases T8 : decide ((ha.st.length : Int) < (cth l k).la)
        cases T9 : wi (cth l k).we 0 100; rotate_left
        · have hf2 : Hid (∀ j, j < k + 1 → campB ha.st.length (cth l j) = true) := fun j hj => by
            rcases Nat.lt_succ_iff_lt_or_eq.1 hj with h | h
            · exact hf.out j h
            · rw [h, HC.out, T3, T4, T5, T6, T7, T8, T9]; rfl
          go_wp2_with (fail)
          generalize hw2 : World.alloc _ _ = w2
          obtain ⟨he2, o1, -⟩ := alloc1 hw2
          obtain ⟨a0, a1, a2, a3, a4, a5, a6⟩ := obj_cells7 o1
          clear hw2 o1 c0 c1 c2 c3 c4 c5 c6
          have hr2 := hr.trans he2
          have hr0 := Ext.refl w2
          go_wp2_with (go_at_call 56; (with_reducible refine (in_any _ _ _ _).mono ?_); rintro e w' ⟨rfl, rfl⟩)
          go_roundw
          case rel => exact ⟨k + 1, by omega, by go_num, hr2, hf2⟩
          case measure => simp [intOf]; omega
        all_goals
          try rw [T3] at HC
          try rw [T4] at HC
          try rw [T5] at HC
          try rw [T6] at HC
          try rw [T7] at HC
          try rw [T8] at HC
          try rw [T9] at HC
          have H2 : Hid (campsB ha l = false) := by
            have h1 : campB ha.st.length (cth l k) = false := by rw [HC.out]; simp
            rw [Hid, HB.out, all_nth_false cth cth_eq _ l k hlt h1]; rfl
          clear hf
          go_wp2_with (fail)
          generalize hw2 : World.alloc _ _ = w2
          obtain ⟨he2, o1, -⟩ := alloc1 hw2
          obtain ⟨a0, a1, a2, a3, a4, a5, a6⟩ := obj_cells7 o1
          clear hw2 o1 c0 c1 c2 c3 c4 c5 c6
          have hr2 := hr.trans he2
          have hr0 := Ext.refl w2
          go_wp2_with (go_at_call 56; (with_reducible refine (in_any _ _ _ _).mono ?_); rintro e w' ⟨rfl, rfl⟩)
          go_ret
          exact ⟨by rw [H2.out]; rfl, he.trans hr2⟩
      · obtain rfl : k = l.length := by omega
        have H2 : Hid (campsB ha l = true) := by
          rw [Hid, HB.out, all_nth_true cth cth_eq _ l hf.out]; rfl
        go_wp2_with (fail)
        go_ret
        exact ⟨by rw [H2.out]; rfl, he.trans hr⟩
  all_goals
    try rw [T1] at HB
    try rw [T2] at HB
    have hrh := HRH.out
    rw [T1] at hrh
    have HR1 := Lib.hid hrh; clear hrh
    go_enter Try.func23, Try.ntmps23
    go_wp2_with (fail)
    generalize hw1 : World.alloc _ _ = w1
    obtain ⟨he, o1, -⟩ := alloc1 hw1
    obtain ⟨b0, b1, b2, b3⟩ := obj_cells4 o1
    clear hw1 o1
    have hr0 := Ext.refl w1
    go_wp2_with (go_at_call 43; (with_reducible refine (HR1.out _ he).mono ?_); rintro e w2 ⟨rfl, he2⟩)
    go_ret
    refine ⟨?_, he.trans he2⟩
    rw [HB.out]; simp
theorem cntTo_step (l : List Camp) (p : List Int) (k : Nat) (hour : Int) (h : prepB (cth l k) (nth p k) hour = true) : cntTo l p (k + 1) hour = cntTo l p k hour + 1 := by simp [cntTo, h]
theorem cntTo_stay (l : List Camp) (p : List Int) (k : Nat) (hour : Int) (h : prepB (cth l k) (nth p k) hour = false) : cntTo l p (k + 1) hour = cntTo l p k hour := by simp [cntTo, h]
set_option maxHeartbeats 1000000 in
theorem count_any (l : List Camp) (la : Option Addr) (lc : Nat) (p : List Int) (pa : Option Addr) (pn pc : Nat) (hour : Int) (w : World) (hl : Camps w la l) (hp : Ints w pa p) (hpl : l.length ≤ p.length) (hpn : p.length = pn) (hl16 : l.length ≤ 1000)
    (ht : ∀ i, i < l.length → -1000 ≤ nth p i ∧ nth p i ≤ 1000) (hh : 0 ≤ hour ∧ hour ≤ 1000) :
    Calls Try.prog 46 #[.slice la l.length lc, .slice pa pn pc, .int .i64 hour] w (Ret (.int .i64 (cntTo l p l.length hour)) w) := by
  have HT := Lib.hid ht; clear ht
  have HPN := Lib.hid hpn; clear hpn
  have hpl' : l.length ≤ pn := by rw [← HPN.out]; exact hpl
  obtain ⟨hh1, hh2⟩ := hh
  go_enter Try.func46, Try.ntmps46
  go_wp2_with (fail)
  go_loopw [7, 8] (fun s i wr => ∃ k : Nat, k ≤ l.length ∧ i = .int .i64 k ∧ s = .int .i64 (cntTo l p k hour) ∧ Ext w wr) (fun _ i _ => l.length - (intOf i).toNat)
  case atStart => exact ⟨0, Nat.zero_le _, rfl, rfl, Ext.refl _⟩
  case round =>
    obtain ⟨k, hk, rfl, rfl, hr⟩ := hrel
    obtain ⟨hb1, hb2⟩ := cntTo_bd l p k hour
    by_cases hlt : k < l.length
    · obtain ⟨b, o, rfl, c0, c1, c2, c3, c4, c5, c6⟩ := hl.at k hlt
      obtain ⟨b', o', rfl, d0⟩ := hp.at k (by omega)
      have hkp : k < pn := by omega
      go_wp2_with (fail)
      refine wp_region_ext (by kernel_rfl) (by kernel_rfl) hr ?_
      repeat (go_big_quiet_step ((go_at_call 51; exact Calls.later (prepares_any _ _ _ _ (HT.out k hlt) (by omega)))))
      refine wpQuiet_nil ?_
      rintro _ ⟨nq, rfl⟩
      have hr3 := nq.ok
      cases T : prepB (cth l k) (nth p k) hour
      · have HS := Lib.hid (cntTo_stay l p k hour T)
        go_wp2_with (fail)
        go_roundw
        case rel => exact ⟨k + 1, by omega, by go_num, by rw [HS.out], hr3⟩
        case measure => simp [intOf]; omega
      · have HS := Lib.hid (cntTo_step l p k hour T)
        go_wp2_with (fail)
        go_roundw
        case rel => exact ⟨k + 1, by omega, by go_num, by rw [HS.out], hr3⟩
        case measure => simp [intOf]; omega
    · obtain rfl : k = l.length := by omega
      go_wp2_with (fail)
      go_ret
      exact ⟨rfl, hr⟩
end Go.Proofs.Ytjpgignbjkgjiaa
