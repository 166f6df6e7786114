import Derived.Test.YtjpgignbjkgjiaaR4
import Derived.Test.YtjpgignbjkgjiaaB6
set_option linter.unusedVariables false
set_option linter.unusedSimpArgs false
namespace Go.Proofs.Ytjpgignbjkgjiaa
open Go.RowKit
set_option maxHeartbeats 1000000 in
theorem wrong_any (ha : Hal) (x : HP) (l : List Camp) (la : Option Addr) (lc : Nat) (p : List Int) (pa : Option Addr) (pn pc : Nat) (w : World) (hh : HallAt w ha x) (hl : Camps w la l) (hp : Ints w pa p) (hpn : p.length = pn) :
    Calls Try.prog 18 #[hval ha x, .slice la l.length lc, .slice pa pn pc] w (Ret (.int .i64 (errS ha l p)) w) := by
  have hcamps := fun W (h : Ext w W) => refCampaigns ha x l la lc W (hh.ext h) (hl.ext h)
  have hbreach := fun W (h : Ext w W) q1 q2 => refBreach ha x l la lc p pa pn pc W (hh.ext h) (hl.ext h) (hp.ext h) q1 hpn q2
  have HB : Hid (errS ha l p = if campsB ha l then (if ((pn : Int) != (l.length : Int)) then 5 else (if ((breachS ha l p).ru != 0) then 100 else 0)) else 2) := by
    unfold Hid errS checkE
    rw [hpn]
    cases campsB ha l
    · rfl
    · simp only [if_true]
      by_cases h : pn = l.length
      · rw [if_pos h, if_pos rfl]
        simp only [h, bne_self_eq_false, Bool.false_eq_true, if_false]
        by_cases h2 : (breachS ha l p).ru = 0
        · rw [if_pos h2]; simp [h2]
        · rw [if_neg h2]; simp [h2]
      · have : ((pn : Int) != (l.length : Int)) = true := by simp; omega
        rw [if_neg h, if_neg (by omega), this]; rfl
  have HC := Lib.hid hcamps; have HBR := Lib.hid hbreach; clear hcamps hbreach
  have HPN := Lib.hid hpn; clear hpn
  obtain ⟨sa, sc, ea, ec⟩ := x
  clear hh hl hp
  cases T1 : campsB ha l; rotate_left
  cases T2 : ((pn : Int) != (l.length : Int))
  · rw [T1, T2] at HB
    have HV := Lib.hid (campsB_vh T1)
    have hle : l.length ≤ p.length := by rw [HPN.out]; simp at T2; omega
    have hcc := HC.out
    rw [T1] at hcc
    replace HC := Lib.hid hcc
    clear hcc
    cases T3 : ((breachS ha l p).ru != 0)
    all_goals
      rw [T3] at HB
      go_enter Try.func18, Try.ntmps18
      go_wp2_with (fail)
      generalize hw1 : World.alloc _ _ = w1
      obtain ⟨he, o1, -⟩ := alloc1 hw1
      obtain ⟨b0, b1, b2, b3⟩ := obj_cells4 o1
      clear hw1 o1
      (with_reducible refine (HC.out _ he).mono ?_); rintro e w2 ⟨rfl, he2⟩
      go_wp2_with (fail)
      (with_reducible refine (HBR.out _ (he.trans he2) hle HV.out).mono ?_); rintro e w3 ⟨rfl, he3⟩
      have he4 := (he.trans he2).trans he3
      go_wp2_with (fail)
      go_ret
      exact ⟨by rw [HB.out]; rfl, he4⟩
  all_goals
    try rw [T1] at HB
    try rw [T2] at HB
    have hcc := HC.out
    rw [T1] at hcc
    replace HC := Lib.hid hcc
    clear hcc
    go_enter Try.func18, Try.ntmps18
    go_wp2_with (fail)
    generalize hw1 : World.alloc _ _ = w1
    obtain ⟨he, o1, -⟩ := alloc1 hw1
    obtain ⟨b0, b1, b2, b3⟩ := obj_cells4 o1
    clear hw1 o1
    (with_reducible refine (HC.out _ he).mono ?_); rintro e w2 ⟨rfl, he2⟩
    go_wp2_with (fail)
    go_ret
    exact ⟨by rw [HB.out]; rfl, he.trans he2⟩
def wideB (n m k : Int) : Bool := (decide (30 < n) && decide (n ≤ 96)) || decide (110 < n) || decide (110 < m) || decide (18 < k)
set_option maxHeartbeats 1000000 in
theorem wide_any (ha : Hal) (x : HP) (la : Option Addr) (ln lc : Nat) (w : World) :
    Calls Try.prog 12 #[hval ha x, .slice la ln lc] w (Ret (.bool (wideB ha.st.length ha.en.length ln)) w) := by
  obtain ⟨sa, sc, ea, ec⟩ := x
  have HB : Hid (wideB ha.st.length ha.en.length ln = ((decide ((30 : Int) < ha.st.length) && decide ((ha.st.length : Int) ≤ 96)) || decide ((110 : Int) < ha.st.length) || decide ((110 : Int) < ha.en.length) || decide ((18 : Int) < ln))) := rfl
  cases T1 : decide ((30 : Int) < ha.st.length) <;> cases T2 : decide ((ha.st.length : Int) ≤ 96) <;> cases T3 : decide ((110 : Int) < ha.st.length) <;> cases T4 : decide ((110 : Int) < ha.en.length)
  all_goals
    rw [T1, T2, T3, T4] at HB
    go_enter Try.func12, Try.ntmps12
    go_wp2_with (fail)
    go_ret
    exact ⟨by rw [HB.out]; rfl, (Ext.refl w).alloc _⟩
def sameB (xs ys : List Int) : Bool := decide (xs = ys)
set_option maxHeartbeats 1000000 in
theorem same_any (xs ys : List Int) (a b : Option Addr) (n m c d : Nat) (w : World) (hx : Ints w a xs) (hy : Ints w b ys) (hn : xs.length = n) (hm : ys.length = m) (hn1 : n ≤ 1000000) (hm1 : m ≤ 1000000) :
    Calls Try.prog 28 #[.slice a n c, .slice b m d] w (Ret (.bool (sameB xs ys)) w) := by
  have HN := Lib.hid hn; have HM := Lib.hid hm
  have hns : n ≤ xs.length := by omega
  have hms : m ≤ ys.length := by omega
  clear hn hm
  cases T : ((n : Int) != (m : Int))
  · have hnm : n ≤ m := by simp at T; omega
    have hmn : m ≤ n := by simp at T; omega
    go_enter Try.func28, Try.ntmps28
    go_wp2_with (fail)
    go_loopw [5] (fun i wr => ∃ k : Nat, k ≤ n ∧ i = .int .i64 k ∧ Ext w wr ∧ Hid (∀ j, j < k → nth xs j = nth ys j)) (fun i _ => n - (intOf i).toNat)
    case atStart => exact ⟨0, Nat.zero_le _, rfl, Ext.refl _, fun j hj => by omega⟩
    case round =>
      obtain ⟨k, hk, rfl, hr, hf⟩ := hrel
      by_cases hlt : k < n
      · obtain ⟨b', o', rfl, c0⟩ := hx.at k (by omega)
        obtain ⟨b'', o'', rfl, d0⟩ := hy.at k (by omega)
        have hkm : k < m := by omega
        go_wp2_with (fail)
        refine wp_region_ext (by kernel_rfl) (by kernel_rfl) hr ?_
        repeat (first | go_big_quiet_step (fail) | quiet_step (fail))
        refine wpQuiet_nil ?_
        rintro _ ⟨nq, rfl⟩
        have hq := nq.ok
        cases T2 : (nth xs k != nth ys k)
        · have hf2 : Hid (∀ j, j < k + 1 → nth xs j = nth ys j) := fun j hj => by
            rcases Nat.lt_succ_iff_lt_or_eq.1 hj with h | h
            · exact hf.out j h
            · rw [h]; simpa using T2
          go_wp2_with (fail)
          go_roundw
          case rel => exact ⟨k + 1, by omega, by go_num, hq, hf2⟩
          case measure => simp [intOf]; omega
        · have H2 : Hid (sameB xs ys = false) := by
            have : ¬ nth xs k = nth ys k := by simpa using T2
            refine decide_eq_false fun e => this (by rw [e])
          go_wp2_with (fail)
          go_ret
          exact ⟨by rw [H2.out]; rfl, hq⟩
      · obtain rfl : k = n := by omega
        have H2 : Hid (sameB xs ys = true) := decide_eq_true (ext_nth _ _ (by rw [HN.out, HM.out]; omega) fun i hi => hf.out i (by rw [HN.out] at hi; exact hi))
        go_wp2_with (fail)
        go_ret
        exact ⟨by rw [H2.out]; rfl, hr⟩
  · have H2 : Hid (sameB xs ys = false) := by
      have : ¬ n = m := by simp at T; omega
      exact decide_eq_false fun e => this (by rw [← HN.out, ← HM.out, e])
    go_enter Try.func28, Try.ntmps28
    go_wp2_with (fail)
    go_ret
    exact ⟨by rw [H2.out]; rfl, Ext.refl _⟩
set_option maxHeartbeats 400000 in
theorem ints_any (a : Option Addr) (n c : Nat) (xs : List Int) (w : World) (hx : Ints w a xs) (hxn : xs.length = n) (hn : xs.length ≤ 1000000) :
    Calls Try.prog 17 #[.slice a n c] w (RetI xs w) := by
  subst hxn
  have happ := app_ints (w.alloc (.cells #[] 3)) w.heap.size 22 _ [] xs a c (own_empty w 3 1) (hx.ext ((Ext.refl w).alloc _)) (by simp; omega) (by simp)
  have HA := Lib.hid happ
  clear hx hn happ
  go_enter Try.func17, Try.ntmps17
  go_wp2_with (at_builtin; refine wpList_app _ rfl _ _ 22 rfl _ HA.out ?_; rintro v' w' ⟨hv, hg⟩)
  obtain ⟨a', n', c', rfl⟩ := own_slice hv
  obtain ⟨-, hn', -⟩ := hv.ints
  go_ret
  refine ⟨a', c', by rw [hn']; rfl, grown_ext ((Ext.refl w).alloc _) hg (by simp [Value.ownBlock]), ?_⟩
  rw [hn'] at hv
  exact hv
set_option maxHeartbeats 400000 in
theorem copied_any (a : Option Addr) (n c : Nat) (xs : List Camp) (w : World) (hx : Camps w a xs) (hxn : xs.length = n) (hn : xs.length ≤ 1000000) :
    Calls Try.prog 16 #[.slice a n c] w (RetC xs w) := by
  subst hxn
  have happ := app_camps (w.alloc (.cells #[] 45)) w.heap.size 25 _ [] xs a c (own_empty w 45 7) (hx.ext ((Ext.refl w).alloc _)) (by simp; omega) (by simp)
  have HA := Lib.hid happ
  clear hx hn happ
  go_enter Try.func16, Try.ntmps16
  go_wp2_with (at_builtin; refine wpList_app _ rfl _ _ 25 rfl _ HA.out ?_; rintro v' w' ⟨hv, hg⟩)
  obtain ⟨a', n', c', rfl⟩ := ownC_slice hv
  obtain ⟨-, hn', -⟩ := hv.camps
  go_ret
  refine ⟨a', c', by rw [hn']; rfl, grown_ext ((Ext.refl w).alloc _) hg (by simp [Value.ownBlock]), ?_⟩
  rw [hn'] at hv
  exact hv
end Go.Proofs.Ytjpgignbjkgjiaa
