/-
  Walks: the laws' widePlan and wideSettings.
-/
import Derived.Test.YtplbofhgmflnlaaGreatMF6
set_option linter.unusedVariables false
set_option linter.unusedSimpArgs false
namespace Go.Proofs.YtplbofhgmflnlaaGreat
open Go.RowKit
/-- Whether a plan is more than the laws look at. -/
def wideP (fs : List Fac) (fo : List (Sl Pr)) : Bool :=
  (decide (4 < fs.length) && decide (fs.length ≤ 8)) || decide (10 < fs.length) || (decide (8 < fo.length) && decide (fo.length ≤ 40)) || decide (45 < fo.length) || fo.any fun g => decide (6 < g.xs.length)
theorem wideP_no {fs : List Fac} {fo : List (Sl Pr)} (h : wideP fs fo = false) : fs.length ≤ 10 ∧ (fs.length ≤ 4 ∨ 8 < fs.length) ∧ fo.length ≤ 45 ∧ (fo.length ≤ 8 ∨ 40 < fo.length) ∧ ∀ i, i < fo.length → (gth fo i).xs.length ≤ 6 := by
  unfold wideP at h
  simp only [Bool.or_eq_false_iff, Bool.and_eq_false_iff, decide_eq_false_iff_not] at h
  obtain ⟨⟨⟨⟨h1, h2⟩, h3⟩, h4⟩, h5⟩ := h
  refine ⟨by omega, by omega, by omega, by omega, fun i hi => ?_⟩
  rw [List.any_eq_false] at h5
  have := h5 (gth fo i) (by rw [gth_eq _ _ hi]; exact List.getElem_mem hi)
  simpa using this
set_option maxHeartbeats 4000000 in
theorem wideP_early (fs : List Fac) (fo : List (Sl Pr)) (fa ga : Option Addr) (fc gc : Nat) (w : World)
    (h : (4 < fs.length ∧ fs.length ≤ 8) ∨ 10 < fs.length ∨ (8 < fo.length ∧ fo.length ≤ 40) ∨ 45 < fo.length) : Calls Tryz.prog 15 #[.agg #[.slice fa fs.length fc, .slice ga fo.length gc]] w (Ret (.bool (wideP fs fo)) w) := by
  have HW : Hid (wideP fs fo = true) := by
    rw [Hid, wideP]
    rcases h with ⟨h1, h2⟩ | h1 | ⟨h1, h2⟩ | h1 <;> simp [*]
  rw [HW.out]
  generalize fs.length = k at *
  generalize fo.length = m at *
  clear HW
  have hd : (4 < (k : Int) ∧ (k : Int) ≤ 8) ∨ ((¬ 4 < (k : Int) ∨ (4 < (k : Int) ∧ ¬ (k : Int) ≤ 8)) ∧ ((10 < (k : Int) ∧ 4 < (k : Int)) ∨ (¬ 10 < (k : Int) ∧ ((8 < (m : Int) ∧ (m : Int) ≤ 40) ∨ (8 < (m : Int) ∧ ¬ (m : Int) ≤ 40 ∧ 45 < (m : Int)))))) := by omega
  clear h
  rcases hd with ⟨h1, h2⟩ | ⟨h1 | ⟨h1, h2⟩, ⟨h3, h0⟩ | ⟨h3, ⟨h4, h5⟩ | ⟨h4, h5, h6⟩⟩⟩ <;> first | (exfalso; omega) | (
  go_enter Tryz.func15, Tryz.ntmps15
  go_wp2_with (fail)
  generalize hw1 : World.alloc _ _ = w1
  obtain ⟨he, o1, -⟩ := alloc1 hw1
  obtain ⟨b0, b1⟩ := obj_cells2 o1
  have E1 := Ext.refl w1
  have HE := Lib.hid he
  clear hw1 o1 he
  go_wp2_with (fail)
  go_ret
  exact ⟨rfl, HE.out⟩)
set_option maxHeartbeats 4000000 in
theorem wideP_late (fs : List Fac) (fo : List (Sl Pr)) (fa ga : Option Addr) (fc gc : Nat) (w : World) (hg : Grps w ga fo) (hgl : ∀ i, i < fo.length → (gth fo i).xs.length ≤ 9223372036854775807)
    (hk : fs.length ≤ 4 ∨ (8 < fs.length ∧ fs.length ≤ 10)) (hm : fo.length ≤ 8 ∨ (40 < fo.length ∧ fo.length ≤ 45)) : Calls Tryz.prog 15 #[.agg #[.slice fa fs.length fc, .slice ga fo.length gc]] w (Ret (.bool (wideP fs fo)) w) := by
  obtain ⟨A, hA⟩ : ∃ A, A = fo.any (fun g => decide (6 < g.xs.length)) := ⟨_, rfl⟩
  have HW : Hid (wideP fs fo = A) := by
    rw [Hid, wideP, ← hA]
    have e1 : (decide (4 < fs.length) && decide (fs.length ≤ 8)) = false := by simp; omega
    have e2 : decide (10 < fs.length) = false := by simp; omega
    have e3 : (decide (8 < fo.length) && decide (fo.length ≤ 40)) = false := by simp; omega
    have e4 : decide (45 < fo.length) = false := by simp; omega
    rw [e1, e2, e3, e4]; simp
  rw [HW.out]
  have HAT : Hid (∀ i, i < fo.length → 6 < (gth fo i).xs.length → A = true) := fun i hi h => by
    rw [hA, List.any_eq_true]
    exact ⟨gth fo i, by rw [gth_eq _ _ hi]; exact List.getElem_mem hi, by simpa using h⟩
  have HAF : Hid ((∀ i, i < fo.length → ¬ 6 < (gth fo i).xs.length) → A = false) := fun h => by
    rw [hA, List.any_eq_false]
    intro g hg
    obtain ⟨i, hi, e⟩ := List.getElem_of_mem hg
    have := h i hi
    rw [gth_eq _ _ hi, e] at this
    simpa using this
  have HG := Lib.hid hg
  have HGL := Lib.hid hgl
  generalize fs.length = k at *
  obtain ⟨m, hmm⟩ : ∃ m, m = fo.length := ⟨_, rfl⟩
  rw [← hmm] at hm ⊢
  have HM := Lib.hid hmm
  clear hA HW hg hgl hmm
  have hk2 : ¬ 4 < (k : Int) ∧ ¬ 10 < (k : Int) ∨ (4 < (k : Int) ∧ ¬ (k : Int) ≤ 8 ∧ ¬ 10 < (k : Int)) := by omega
  have hm2 : ¬ 8 < (m : Int) ∧ ¬ 45 < (m : Int) ∨ (8 < (m : Int) ∧ ¬ (m : Int) ≤ 40 ∧ ¬ 45 < (m : Int)) := by omega
  have hm45 : m ≤ 45 := by omega
  clear hk hm
  rcases hk2 with ⟨h1, h2⟩ | ⟨h1, h2, h3⟩ <;> rcases hm2 with ⟨h4, h5⟩ | ⟨h4, h5, h6⟩ <;> (
  go_enter Tryz.func15, Tryz.ntmps15
  go_wp2_with (fail)
  generalize hw1 : World.alloc _ _ = w1
  obtain ⟨he, o1, -⟩ := alloc1 hw1
  obtain ⟨b0, b1⟩ := obj_cells2 o1
  have E1 := Ext.refl w1
  have HE := Lib.hid he
  clear hw1 o1 he
  go_wp2_with (fail)
  go_loopw [3] (fun i wr => ∃ j : Nat, j ≤ m ∧ i = .int .i64 j ∧ Hid (∀ q, q < j → ¬ 6 < (gth fo q).xs.length) ∧ wr = w1) (fun i _ => m - (intOf i).toNat)
  case atStart => exact ⟨0, Nat.zero_le _, rfl, fun q hq => by omega, rfl⟩
  case round =>
    obtain ⟨j, hj, rfl, HF, rfl⟩ := hrel
    by_cases hlt : j < m
    · obtain ⟨gb, go, rfl, d0⟩ := grp_at (RowAt.ext grpC_len HG.out HE.out) j (by rw [← HM.out]; exact hlt)
      obtain ⟨z, hz⟩ : ∃ z, z = (gth fo j).xs.length := ⟨_, rfl⟩
      rw [← hz] at d0
      have HZ := Lib.hid hz
      have hz63 : z ≤ 9223372036854775807 := by rw [hz]; exact HGL.out j (by rw [← HM.out]; exact hlt)
      clear hz
      by_cases h6z : 6 < z
      · have hz6 : 6 < (z : Int) := by omega
        have HA2 : Hid (A = true) := HAT.out j (by rw [← HM.out]; exact hlt) (by rw [← HZ.out]; exact h6z)
        go_wp2_with (fail)
        go_ret
        exact ⟨by rw [HA2.out]; rfl, HE.out⟩
      · have hz6 : ¬ 6 < (z : Int) := by omega
        have HF2 : Hid (∀ q, q < j + 1 → ¬ 6 < (gth fo q).xs.length) := fun q hq => by
          rcases Nat.lt_succ_iff_lt_or_eq.1 hq with h | h
          · exact HF.out q h
          · rw [h, ← HZ.out]; exact h6z
        go_wp2_with (fail)
        go_roundw
        case rel => exact ⟨j + 1, by omega, by go_num, HF2, trivial⟩
        case measure => simp [intOf]; omega
    · obtain rfl : j = m := by omega
      have HA2 : Hid (A = false) := HAF.out fun i hi => HF.out i (by rw [HM.out]; exact hi)
      go_wp2_with (fail)
      go_ret
      exact ⟨by rw [HA2.out]; rfl, HE.out⟩)
theorem wideP_any (fs : List Fac) (fo : List (Sl Pr)) (fa ga : Option Addr) (fc gc : Nat) (w : World) (hg : Grps w ga fo) (hgl : ∀ i, i < fo.length → (gth fo i).xs.length ≤ 9223372036854775807) :
    Calls Tryz.prog 15 #[.agg #[.slice fa fs.length fc, .slice ga fo.length gc]] w (Ret (.bool (wideP fs fo)) w) := by
  by_cases h : (4 < fs.length ∧ fs.length ≤ 8) ∨ 10 < fs.length ∨ (8 < fo.length ∧ fo.length ≤ 40) ∨ 45 < fo.length
  · exact wideP_early fs fo fa ga fc gc w h
  · exact wideP_late fs fo fa ga fc gc w hg hgl (by omega) (by omega)
/-- Whether settings are more than the laws look at. -/
def wideS (ss : List Se) : Bool := (decide (12 < ss.length) && decide (ss.length ≤ 2000)) || decide (2005 < ss.length) || ss.any fun s => decide (10 < s.lv.xs.length)
theorem wideS_no {ss : List Se} (h : wideS ss = false) : ss.length ≤ 2005 ∧ (ss.length ≤ 12 ∨ 2000 < ss.length) ∧ ∀ i, i < ss.length → (eth ss i).lv.xs.length ≤ 10 := by
  unfold wideS at h
  simp only [Bool.or_eq_false_iff, Bool.and_eq_false_iff, decide_eq_false_iff_not] at h
  obtain ⟨⟨h1, h2⟩, h5⟩ := h
  refine ⟨by omega, by omega, fun i hi => ?_⟩
  rw [List.any_eq_false] at h5
  have := h5 (eth ss i) (by rw [eth_eq _ _ hi]; exact List.getElem_mem hi)
  simpa using this
set_option maxHeartbeats 4000000 in
theorem wideS_early (ss : List Se) (a : Option Addr) (c : Nat) (w : World) (h : (12 < ss.length ∧ ss.length ≤ 2000) ∨ 2005 < ss.length) : Calls Tryz.prog 16 #[.slice a ss.length c] w (Ret (.bool (wideS ss)) w) := by
  have HW : Hid (wideS ss = true) := by
    rw [Hid, wideS]
    rcases h with ⟨h1, h2⟩ | h1 <;> simp [*]
  rw [HW.out]
  generalize ss.length = k at *
  clear HW
  have hd : (12 < (k : Int) ∧ (k : Int) ≤ 2000) ∨ (12 < (k : Int) ∧ ¬ (k : Int) ≤ 2000 ∧ 2005 < (k : Int)) := by omega
  clear h
  rcases hd with ⟨h1, h2⟩ | ⟨h1, h2, h3⟩ <;> (
  go_enter Tryz.func16, Tryz.ntmps16
  go_wp2_with (fail)
  go_ret
  exact ⟨rfl, Ext.refl _⟩)
set_option maxHeartbeats 4000000 in
theorem wideS_late (ss : List Se) (a : Option Addr) (c : Nat) (w : World) (hs : Sets w a ss) (hgl : ∀ i, i < ss.length → (eth ss i).lv.xs.length ≤ 9223372036854775807) (h : ss.length ≤ 12 ∨ (2000 < ss.length ∧ ss.length ≤ 2005)) : Calls Tryz.prog 16 #[.slice a ss.length c] w (Ret (.bool (wideS ss)) w) := by
  obtain ⟨A, hA⟩ : ∃ A, A = ss.any (fun s => decide (10 < s.lv.xs.length)) := ⟨_, rfl⟩
  have HW : Hid (wideS ss = A) := by
    rw [Hid, wideS, ← hA]
    have e1 : (decide (12 < ss.length) && decide (ss.length ≤ 2000)) = false := by simp; omega
    have e2 : decide (2005 < ss.length) = false := by simp; omega
    rw [e1, e2]; simp
  rw [HW.out]
  have HAT : Hid (∀ i, i < ss.length → 10 < (eth ss i).lv.xs.length → A = true) := fun i hi h => by
    rw [hA, List.any_eq_true]
    exact ⟨eth ss i, by rw [eth_eq _ _ hi]; exact List.getElem_mem hi, by simpa using h⟩
  have HAF : Hid ((∀ i, i < ss.length → ¬ 10 < (eth ss i).lv.xs.length) → A = false) := fun h => by
    rw [hA, List.any_eq_false]
    intro g hg
    obtain ⟨i, hi, e⟩ := List.getElem_of_mem hg
    have := h i hi
    rw [eth_eq _ _ hi, e] at this
    simpa using this
  have HG := Lib.hid hs
  have HGL := Lib.hid hgl
  obtain ⟨m, hmm⟩ : ∃ m, m = ss.length := ⟨_, rfl⟩
  rw [← hmm] at h ⊢
  have HM := Lib.hid hmm
  clear hA HW hs hgl hmm
  have hm2 : ¬ 12 < (m : Int) ∧ ¬ 2005 < (m : Int) ∨ (12 < (m : Int) ∧ ¬ (m : Int) ≤ 2000 ∧ ¬ 2005 < (m : Int)) := by omega
  have hm45 : m ≤ 2005 := by omega
  clear h
  rcases hm2 with ⟨h4, h5⟩ | ⟨h4, h5, h6⟩ <;> (
  go_enter Tryz.func16, Tryz.ntmps16
  go_wp2_with (fail)
  go_loopw [3] (fun i wr => ∃ j : Nat, j ≤ m ∧ i = .int .i64 j ∧ Hid (∀ q, q < j → ¬ 10 < (eth ss q).lv.xs.length) ∧ wr = w) (fun i _ => m - (intOf i).toNat)
  case atStart => exact ⟨0, Nat.zero_le _, rfl, fun q hq => by omega, rfl⟩
  case round =>
    obtain ⟨j, hj, rfl, HF, rfl⟩ := hrel
    have E1 := Ext.refl wr
    by_cases hlt : j < m
    · obtain ⟨gb, go, rfl, d0, d1⟩ := set_at HG.out j (by rw [← HM.out]; exact hlt)
      obtain ⟨z, hz⟩ : ∃ z, z = (eth ss j).lv.xs.length := ⟨_, rfl⟩
      rw [← hz] at d0
      have HZ := Lib.hid hz
      have hz63 : z ≤ 9223372036854775807 := by rw [hz]; exact HGL.out j (by rw [← HM.out]; exact hlt)
      clear hz
      by_cases h6z : 10 < z
      · have hz6 : 10 < (z : Int) := by omega
        have HA2 : Hid (A = true) := HAT.out j (by rw [← HM.out]; exact hlt) (by rw [← HZ.out]; exact h6z)
        go_wp2_with (fail)
        go_ret
        exact ⟨by rw [HA2.out]; rfl, E1⟩
      · have hz6 : ¬ 10 < (z : Int) := by omega
        have HF2 : Hid (∀ q, q < j + 1 → ¬ 10 < (eth ss q).lv.xs.length) := fun q hq => by
          rcases Nat.lt_succ_iff_lt_or_eq.1 hq with h | h
          · exact HF.out q h
          · rw [h, ← HZ.out]; exact h6z
        go_wp2_with (fail)
        go_roundw
        case rel => exact ⟨j + 1, by omega, by go_num, HF2, trivial⟩
        case measure => simp [intOf]; omega
    · obtain rfl : j = m := by omega
      have HA2 : Hid (A = false) := HAF.out fun i hi => HF.out i (by rw [HM.out]; exact hi)
      go_wp2_with (fail)
      go_ret
      exact ⟨by rw [HA2.out]; rfl, E1⟩)
theorem wideS_any (ss : List Se) (a : Option Addr) (c : Nat) (w : World) (hs : Sets w a ss) (hgl : ∀ i, i < ss.length → (eth ss i).lv.xs.length ≤ 9223372036854775807) : Calls Tryz.prog 16 #[.slice a ss.length c] w (Ret (.bool (wideS ss)) w) := by
  by_cases h : (12 < ss.length ∧ ss.length ≤ 2000) ∨ 2005 < ss.length
  · exact wideS_early ss a c w h
  · exact wideS_late ss a c w hs hgl (by omega)
end Go.Proofs.YtplbofhgmflnlaaGreat
