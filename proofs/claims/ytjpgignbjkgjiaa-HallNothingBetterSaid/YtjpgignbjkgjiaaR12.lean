import Derived.Test.YtjpgignbjkgjiaaR11
import Derived.Test.YtjpgignbjkgjiaaP10
set_option linter.unusedVariables false
set_option linter.unusedSimpArgs false
namespace Go.Proofs.Ytjpgignbjkgjiaa
open Go.RowKit
set_option maxHeartbeats 2000000 in
theorem Bound_any (ha : Hal) (x : HP) (l : List Camp) (la : Option Addr) (lc : Nat) (w : World) (hh : HallAt w ha x) (hl : Camps w la l) :
    Calls Try.prog 32 #[hval ha x, .slice la l.length lc] w (Ret (.tuple #[.int .i64 (boundT ha l), .int .i64 (boundE ha l)]) w) := by
  have hchk := fun W (h : Ext w W) => checkCampaigns ha x l la lc W (hh.ext h) (hl.ext h)
  have hst := fun (hv : VH ha l) W (h : Ext w W) i (hi : i < l.length) => starts_any ha x (cth l i) 0 l W (hh.ext h) hv (hv.cb i hi) (by omega) (by omega)
  have HC := Lib.hid hchk; have HST := Lib.hid hst
  clear hchk hst
  obtain ⟨sa, sc, ea, ec⟩ := x
  clear hh
  cases T1 : campsB ha l
  · have HB : Hid (boundT ha l = 0 ∧ boundE ha l = 2) := by simp [Hid, boundT, boundE, T1]
    rw [T1] at HC
    simp only [errIf] at HC
    go_enter Try.func32, Try.ntmps32
    go_wp2_with (fail)
    generalize hw1 : World.alloc _ _ = w1
    obtain ⟨he, o1, -⟩ := alloc1 hw1
    obtain ⟨b0, b1, b2, b3⟩ := obj_cells4 o1
    clear hw1 o1
    (with_reducible refine (HC.out _ he).mono ?_); rintro e w2 ⟨rfl, he2⟩
    go_wp2_with (fail)
    go_ret2
    exact ⟨by rw [HB.out.1, HB.out.2]; rfl, he.trans he2⟩
  · have HB : Hid ((boundT ha l = if anyEmpty (leftS ha l 0) then 0 else leastTo l (leftS ha l 0) l.length) ∧ (boundE ha l = if anyEmpty (leftS ha l 0) then 101 else 0)) := by simp [Hid, boundT, boundE, T1]
    rw [T1] at HC
    simp only [errIf] at HC
    have HV := Lib.hid (campsB_vh T1)
    have hl16 := HV.out.ll
    go_enter Try.func32, Try.ntmps32
    go_wp2_with (fail)
    generalize hw1 : World.alloc _ _ = w1
    obtain ⟨he, o1, -⟩ := alloc1 hw1
    obtain ⟨b0, b1, b2, b3⟩ := obj_cells4 o1
    clear hw1 o1
    (with_reducible refine (HC.out _ he).mono ?_); rintro e w2 ⟨rfl, he2⟩
    go_wp2_with (fail)
    go_loopw [6, 16] (fun s i wr => ∃ k : Nat, k ≤ l.length ∧ i = .int .i64 k ∧ s = .int .i64 (leastTo l (leftS ha l 0) k) ∧ Ext w1 wr ∧ Hid (∀ j, j < k → 0 < (startsS ha (cth l j) 0).length)) (fun _ i _ => l.length - (intOf i).toNat)
    case atStart => exact ⟨0, Nat.zero_le _, rfl, rfl, he2, fun j hj => by omega⟩
    case round =>
      clear he2
      obtain ⟨k, hk, rfl, rfl, hr, hf⟩ := hrel
      by_cases hlt : k < l.length
      · obtain ⟨b, o, rfl, c0, c1, c2, c3, c4, c5, c6⟩ := (hl.ext he).at k hlt
        go_wp2_with (fail)
        generalize hw3 : World.alloc _ _ = w3
        obtain ⟨he3, o1, -⟩ := alloc1 hw3
        obtain ⟨a0, a1, a2, a3, a4, a5, a6⟩ := obj_cells7 o1
        clear hw3 o1 c0 c1 c2 c3 c4 c5 c6
        have hr3 := hr.trans he3
        have hr0 := Ext.refl w3
        go_wp2_with (fail)
        (with_reducible refine (HST.out HV.out _ (he.trans hr3) k hlt).mono ?_); rintro e w4 ⟨ta, tc, rfl, he4, ho4⟩
        have hr4 := hr3.trans he4
        obtain ⟨hti, -, -⟩ := ho4.ints
        clear ho4
        have hbd := startsS_bd HV.out (HV.out.cb k hlt) 0
        have hlth := lth_leftS ha l 0 k hlt
        by_cases hem : (startsS ha (cth l k) 0).length ≤ 0
        · have hz : boundT ha l = 0 ∧ boundE ha l = 101 := by
            have := anyEmpty_nth (left := leftS ha l 0) (k := k) (by rw [leftS_len]; exact hlt) (by rw [hlth]; omega)
            rw [HB.out.1, HB.out.2, this]; exact ⟨rfl, rfl⟩
          have HZ := Lib.hid hz
          have T : (((startsS ha (cth l k) 0).length : Int) == 0) = true := by simp; exact List.length_eq_zero_iff.1 (by omega)
          clear hz hlth hbd hti
          generalize startsS ha (cth l k) 0 = ss at *
          go_wp2_with (fail)
          go_ret2
          exact ⟨by rw [HZ.out.1, HZ.out.2]; rfl, he.trans hr4⟩
        · obtain ⟨b2', o2', rfl, t0⟩ := hti.at 0 (by omega)
          rw [Nat.add_zero] at t0
          have hf2 : Hid (∀ j, j < k + 1 → 0 < (startsS ha (cth l j) 0).length) := fun j hj => by
            rcases Nat.lt_succ_iff_lt_or_eq.1 hj with h | h
            · exact hf.out j h
            · rw [h]; omega
          have ht96 : 0 ≤ nth (startsS ha (cth l k) 0) 0 ∧ nth (startsS ha (cth l k) 0) 0 ≤ 96 := hbd.2 _ (nth_mem (by omega))
          have e1 : IntKind.i64.wrap (leastTo l (leftS ha l 0) k + IntKind.i64.wrap ((cth l k).we * IntKind.i64.wrap (nth (startsS ha (cth l k) 0) 0 + (cth l k).ho))) = leastTo l (leftS ha l 0) (k + 1) := by
            have q1 := we_bd (HV.out.cb k hlt) ht96.1 ht96.2
            have q2 : 0 ≤ leastTo l (leftS ha l 0) k ∧ leastTo l (leftS ha l 0) k ≤ 12000 * k := by
              have key : ∀ k', k' ≤ k → 0 ≤ leastTo l (leftS ha l 0) k' ∧ leastTo l (leftS ha l 0) k' ≤ 12000 * k' := by
                intro k'
                induction k' with
                | zero => intro _; simp [leastTo]
                | succ j ih =>
                  intro hj
                  have h1 := ih (by omega)
                  have hb := startsS_bd HV.out (HV.out.cb j (by omega)) 0
                  have hj0 := hb.2 _ (nth_mem (hf.out j (by omega)))
                  have h2 := we_bd (HV.out.cb j (by omega)) hj0.1 hj0.2
                  simp only [leastTo]
                  rw [lth_leftS _ _ _ _ (by omega)]
                  omega
              exact key k (Nat.le_refl _)
            have q3 := (HV.out.cb k hlt).ho0; have q4 := (HV.out.cb k hlt).ho1
            rw [IntWalk.i64_in (nth (startsS ha (cth l k) 0) 0 + (cth l k).ho) (by omega), IntWalk.i64_in ((cth l k).we * (nth (startsS ha (cth l k) 0) 0 + (cth l k).ho)) (by omega), IntWalk.i64_in _ (by omega)]
            simp only [leastTo]
            rw [hlth]
          have E1 := Lib.hid e1
          have T : (((startsS ha (cth l k) 0).length : Int) == 0) = false := by
            have : ¬ ((startsS ha (cth l k) 0).length : Int) = 0 := by omega
            simpa using this
          have hpos : 0 < (startsS ha (cth l k) 0).length := by omega
          clear e1 hlth hbd ht96 hti
          generalize startsS ha (cth l k) 0 = ss at *
          replace t0 := t0
          have hq0 := Ext.refl w4
          replace a2 := fun W (h : Ext w4 W) => a2 W (he4.trans h)
          replace a6 := fun W (h : Ext w4 W) => a6 W (he4.trans h)
          clear hr0 a0 a1 a3 a4 a5
          go_wp2_with (fail)
          refine wp_region_ext (by kernel_rfl) (by kernel_rfl) hq0 ?_
          repeat (quiet_step (fail))
          refine wpQuiet_nil ?_
          rintro _ ⟨nq, rfl⟩
          have hq := nq.ok
          rw [E1.out]
          go_wp2_with (fail)
          go_roundw
          case rel => exact ⟨k + 1, by omega, by go_num, rfl, hr4.trans hq, hf2⟩
          case measure => simp [intOf]; omega
      · obtain rfl : k = l.length := by omega
        have hz : boundT ha l = leastTo l (leftS ha l 0) l.length ∧ boundE ha l = 0 := by
          have := anyEmpty_no (left := leftS ha l 0) fun j hj => by rw [leftS_len] at hj; rw [lth_leftS _ _ _ _ hj]; exact hf.out j hj
          rw [HB.out.1, HB.out.2, this]; exact ⟨rfl, rfl⟩
        have HZ := Lib.hid hz
        clear hz
        go_wp2_with (fail)
        go_ret2
        exact ⟨by rw [HZ.out.1, HZ.out.2]; rfl, he.trans hr⟩
end Go.Proofs.Ytjpgignbjkgjiaa
