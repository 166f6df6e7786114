import Derived.Test.YtjpgignbjkgjiaaR23
import Derived.Test.YtjpgignbjkgjiaaR9
import Derived.Test.YtjpgignbjkgjiaaR20
set_option linter.unusedVariables false
set_option linter.unusedSimpArgs false
namespace Go.Proofs.Ytjpgignbjkgjiaa
open Go.RowKit
attribute [local go_sem ↓] Go.wp_at_zero Go.wp_at_succ
theorem runTo_step (l : List Camp) (p : List Int) (k : Nat) (hour : Int) : runTo l p (k + 1) hour = if runB (cth l k) (nth p k) hour then runTo l p k hour + 1 else runTo l p k hour := by
  unfold runTo; simp only [howMany]; split <;> rfl
theorem runTo_le (l : List Camp) (p : List Int) (hour : Int) : ∀ k, runTo l p k hour ≤ k
  | 0 => Nat.le_refl _
  | k + 1 => by
    have := runTo_le l p hour k
    rw [runTo_step]; split <;> omega
set_option maxRecDepth 100000 in
set_option maxHeartbeats 8000000 in
theorem rooms_law (ha : Hal) (x : HP) (l : List Camp) (la : Option Addr) (lc : Nat) (p : List Int) (pa : Option Addr) (pn pc : Nat) (w : World) (hh : HallAt w ha x) (hl : Camps w la l) (hp : Ints w pa p) (hpn : p.length = pn) :
    Calls Try.prog 10 #[hval ha x, .slice la l.length lc, .slice pa pn pc] w (Ret (.bool true) w) := by
  have hown := fun W (h : Ext w W) q1 q2 => own_any ha x W (hh.ext h) q1 q2
  have hcop := fun W (h : Ext w W) q => copied_any la l.length lc l W (hl.ext h) rfl q
  have hint := fun W (h : Ext w W) q => ints_any pa pn pc p W (hp.ext h) hpn q
  have HOW := Lib.hid hown; have HCP := Lib.hid hcop; have HIN := Lib.hid hint
  have HPN := Lib.hid hpn; have HL := Lib.hid hl; have HP' := Lib.hid hp; have HEN := Lib.hid hh.en; have HSTF := Lib.hid hh.st
  clear hown hcop hint hh hl hp hpn
  obtain ⟨sa, sc, ea, ec⟩ := x
  have hsplit : (decide ((30 : Int) < (ha.st.length : Int)) = true) ∨
      (decide ((30 : Int) < (ha.st.length : Int)) = false ∧ decide ((16 : Int) < (l.length : Int)) = true) ∨
      (decide ((30 : Int) < (ha.st.length : Int)) = false ∧ decide ((16 : Int) < (l.length : Int)) = false ∧ decide ((16 : Int) < (pn : Int)) = true) ∨
      (decide ((30 : Int) < (ha.st.length : Int)) = false ∧ decide ((16 : Int) < (l.length : Int)) = false ∧ decide ((16 : Int) < (pn : Int)) = false ∧ decide ((200 : Int) < (ha.en.length : Int)) = true) ∨
      (decide ((30 : Int) < (ha.st.length : Int)) = false ∧ decide ((16 : Int) < (l.length : Int)) = false ∧ decide ((16 : Int) < (pn : Int)) = false ∧ decide ((200 : Int) < (ha.en.length : Int)) = false) := by
    cases decide ((30 : Int) < (ha.st.length : Int)) <;> cases decide ((16 : Int) < (l.length : Int)) <;> cases decide ((16 : Int) < (pn : Int)) <;> cases decide ((200 : Int) < (ha.en.length : Int)) <;> simp
  rcases hsplit with T1 | ⟨T1, T2⟩ | ⟨T1, T2, T3⟩ | ⟨T1, T2, T3, T4⟩ | ⟨T1, T2, T3, T4⟩
  iterate 4
    · clear HOW HCP HIN
      go_enter Try.func10, Try.ntmps10
      go_wp2_with (fail)
      generalize hw1 : World.alloc _ _ = w1
      obtain ⟨he, o1, -⟩ := alloc1 hw1
      obtain ⟨b0, b1, b2, b3⟩ := obj_cells4 o1
      clear hw1 o1
      have hr := Ext.refl w1
      go_wp2_with (fail)
      (with_reducible refine (known_any _).mono ?_); rintro e w3 ⟨rfl, he3⟩
      go_wp2_with (fail)
      go_ret
      exact ⟨rfl, he.trans he3⟩
  · have hn30 : ha.st.length ≤ 30 := by simp at T1; omega
    have hn16 : l.length ≤ 16 := by simp at T2; omega
    have hpn16 : pn ≤ 16 := by simp at T3; omega
    have hen200 : ha.en.length ≤ 200 := by simp at T4; omega
    go_enter Try.func10, Try.ntmps10
    go_wp2_with (fail)
    generalize hw1 : World.alloc _ _ = w1
    obtain ⟨he, o1, -⟩ := alloc1 hw1
    obtain ⟨b0, b1, b2, b3⟩ := obj_cells4 o1
    clear hw1 o1
    have hr := Ext.refl w1
    go_wp2_with (fail)
    (with_reducible refine (HOW.out _ he (by omega) (by omega)).mono ?_); rintro e w3 ⟨g6, c6, g10, c10, rfl, he3, -, -, -, ho6, ho10⟩
    have HO6 := Lib.hid ho6; have HO10 := Lib.hid ho10
    have hx3 := he.trans he3
    clear ho6 ho10
    go_wp2_with (fail)
    (with_reducible refine (HCP.out _ hx3 (by omega)).mono ?_); rintro e w4 ⟨ca, cc, rfl, he4, ho4⟩
    have HO4 := Lib.hid ho4
    have hx4 := hx3.trans he4
    clear ho4
    go_wp2_with (fail)
    (with_reducible refine (HIN.out _ hx4 (by rw [HPN.out]; omega)).mono ?_); rintro e w5 ⟨ia, ic, rfl, he5, ho5⟩
    have HO5 := Lib.hid ho5
    have hx5 := hx4.trans he5
    clear ho5
    go_wp2_with (fail)
    (with_reducible refine (Rooms_any ha ⟨some ⟨g6, 0, none⟩, c6, some ⟨g10, 0, none⟩, c10⟩ l ca cc p ia p.length ic w5 ⟨HO6.out.ints.1.ext (he4.trans he5), HO10.out.ints.1.ext (he4.trans he5)⟩ (HO4.out.camps.1.ext he5) HO5.out.ints.1 rfl).mono ?_); rintro e w6 ⟨ra, rc, rfl, he6, hri⟩
    have HRI := Lib.hid hri
    have hx6 := hx5.trans he6
    have hE6 := ((he3.trans he4).trans he5).trans he6
    clear hri HO6 HO10 HO4 HO5 he3 he4 he5 he6 hx3 hx4 hx5
    have c0 := fun W (h : Ext w6 W) => b0 W (hE6.trans h)
    have c1 := fun W (h : Ext w6 W) => b1 W (hE6.trans h)
    have c2 := fun W (h : Ext w6 W) => b2 W (hE6.trans h)
    have c3 := fun W (h : Ext w6 W) => b3 W (hE6.trans h)
    have hr6 := Ext.refl w6
    go_wp2_with (fail)
    (with_reducible refine (HOW.out _ hx6 (by omega) (by omega)).mono ?_); rintro e w7 ⟨g7, c7, g11, c11, rfl, he7, -, -, -, ho6, ho10⟩
    have HO6 := Lib.hid ho6; have HO10 := Lib.hid ho10
    have hx7 := hx6.trans he7
    clear ho6 ho10 c0 c1 c2 c3 hr6
    go_wp2_with (fail)
    (with_reducible refine (HCP.out _ hx7 (by omega)).mono ?_); rintro e w8 ⟨ca2, cc2, rfl, he8, ho4⟩
    have HO4 := Lib.hid ho4
    have hx8 := hx7.trans he8
    clear ho4
    go_wp2_with (fail)
    (with_reducible refine (HIN.out _ hx8 (by rw [HPN.out]; omega)).mono ?_); rintro e w9 ⟨ia2, ic2, rfl, he9, ho5⟩
    have HO5 := Lib.hid ho5
    have hx9 := hx8.trans he9
    clear ho5
    go_wp2_with (fail)
    (with_reducible refine (Use_any ha ⟨some ⟨g7, 0, none⟩, c7, some ⟨g11, 0, none⟩, c11⟩ l ca2 cc2 p ia2 p.length ic2 w9 ⟨HO6.out.ints.1.ext (he8.trans he9), HO10.out.ints.1.ext (he8.trans he9)⟩ (HO4.out.camps.1.ext he9) HO5.out.ints.1 rfl).mono ?_); rintro e w10 ⟨ua, uc, va, vc, rfl, he10, hui, hvi⟩
    have hx10 := hx9.trans he10
    have hE10 := ((he7.trans he8).trans he9).trans he10
    have HUI := Lib.hid hui; have HVI := Lib.hid hvi
    have HRI2 := Lib.hid (HRI.out.ext hE10)
    clear HRI hui hvi HO6 HO10 HO4 HO5 he7 he8 he9 he10 hx6 hx7 hx8 hx9 HOW HCP HIN
    have hE := hE6.trans hE10
    replace b0 := fun W (h : Ext w10 W) => b0 W (hE.trans h)
    replace b1 := fun W (h : Ext w10 W) => b1 W (hE.trans h)
    replace b2 := fun W (h : Ext w10 W) => b2 W (hE.trans h)
    replace b3 := fun W (h : Ext w10 W) => b3 W (hE.trans h)
    clear hE6 hE10 hE hr he
    have hr10 := Ext.refl w10
    obtain ⟨n7, hn7⟩ : ∃ n, n = (roomsS ha l p).length := ⟨_, rfl⟩
    obtain ⟨n9, hn9⟩ : ∃ n, n = (useE ha l p).length := ⟨_, rfl⟩
    obtain ⟨n10, hn10⟩ : ∃ n, n = (useR ha l p).length := ⟨_, rfl⟩
    rw [← hn7, ← hn9, ← hn10]
    have HN7 := Lib.hid hn7; have HN9 := Lib.hid hn9; have HN10 := Lib.hid hn10
    clear hn7 hn9 hn10
    cases T5 : (errS ha l p != 0)
    rotate_left
    · have h0 : ¬ errS ha l p = 0 := by simpa using T5
      obtain rfl : n7 = 0 := by rw [HN7.out, roomsS, if_neg h0]; rfl
      obtain rfl : n9 = 0 := by rw [HN9.out, useE, if_neg h0]; rfl
      obtain rfl : n10 = 0 := by rw [HN10.out, useR, if_neg h0]; rfl
      clear h0
      go_wp2_with (fail)
      (with_reducible refine (known_any _).mono ?_); rintro e w11 ⟨rfl, he11⟩
      go_wp2_with (fail)
      go_ret
      exact ⟨rfl, hx10.trans he11⟩
    · have h0 : errS ha l p = 0 := by simpa using T5
      obtain ⟨hv, hpl, hbr⟩ := errS_zero h0
      obtain rfl : n7 = l.length := by rw [HN7.out, roomsS, if_pos h0, fl_len]
      obtain rfl : n9 = ha.st.length := by rw [HN9.out, useE, if_pos h0, fl_len]
      obtain rfl : n10 = ha.st.length := by rw [HN10.out, useR, if_pos h0, prepL_len]
      obtain rfl : pn = l.length := by rw [← HPN.out]; exact hpl
      have HR : Hid (Ints w10 ra (fl l.length (roomF ha l p))) := by have := HRI2.out; rw [roomsS, if_pos h0] at this; exact this
      have HU : Hid (Ints w10 ua (fl ha.st.length (useF l p l.length))) := by have := HUI.out; rw [useE, if_pos h0] at this; exact this
      have HV2 : Hid (Ints w10 va (fl ha.st.length (fun i => cntTo l p l.length i))) := by have := HVI.out; rw [useR, if_pos h0] at this; exact this
      have HV := Lib.hid hv; have HBR := Lib.hid hbr
      have hen := hv.en
      have T6 : ((ha.en.length : Int) != (ha.st.length : Int)) = false := by simp; omega
      clear h0 hv hpl hbr HRI2 HUI HVI HN7 HN9 HN10 hen
      rw [show errS ha l p = 0 by simpa using T5]
      go_wp2_with (fail)
      go_loopw [12] (fun i wr => ∃ k : Nat, k ≤ l.length ∧ i = .int .i64 k ∧ Ext w10 wr) (fun i _ => l.length - (intOf i).toNat)
      case atStart => exact ⟨0, Nat.zero_le _, rfl, hr10⟩
      case round =>
        obtain ⟨k, hk, rfl, hr⟩ := hrel
        by_cases hlt : k < l.length
        · obtain ⟨br, og, rfl, r0⟩ := HR.out.at k (by rw [fl_len]; exact hlt)
          rw [nth_fl _ _ _ hlt] at r0
          obtain ⟨bc, oc, rfl, c0, c1, c2, c3, c4, c5, c6⟩ := HL.out.at k hlt
          obtain ⟨bp, op, rfl, p0⟩ := HP'.out.at k (by rw [HPN.out]; exact hlt)
          have hro := roomF_range HV.out HBR.out hlt
          have A1 : decide (ha.ro ≤ roomF ha l p k) = false := by simp; omega
          have A23 : (decide (roomF ha l p k < 0) = true ∧ ((cth l k).pr == 0) = true) ∨ (decide (roomF ha l p k < 0) = false ∧ ((cth l k).pr == 0) = false) := by
            by_cases h : (cth l k).pr = 0
            · left; exact ⟨by simp [hro.2.2.2 h], by simp [h]⟩
            · right
              have : ¬ roomF ha l p k < 0 := fun e => h (hro.2.2.1 e)
              exact ⟨by simp; omega, by simp [h]⟩
          have HK0 := Lib.hid (bg_in HV.out HBR.out hlt)
          have HKP := Lib.hid (HV.out.cb k hlt)
          clear hro c0 c2 c3 c4 c5 c6
          go_upto_region 12 with fail
          go_cut [145] (fun s wx => s = .bool false ∧ Ext w10 wx)
          case first =>
            have r1 := fun W (h : Ext wr W) => r0 W (hr.trans h)
            have p1 := fun W (h : Ext wr W) => c1 W (hx10.trans (hr.trans h))
            have q0 := fun W (h : Ext wr W) => b0 W (hr.trans h)
            have hrr := Ext.refl wr
            clear r0 c1 p0 b0 b1 b2 b3
            rcases A23 with ⟨A2, A3⟩ | ⟨A2, A3⟩
            all_goals
              refine wp_region_ext (by kernel_rfl) (by kernel_rfl) hrr ?_
              repeat (first | go_big_quiet_step (fail) | quiet_step (fail))
              refine wpQuiet_nil ?_
              rintro _ ⟨nq, rfl⟩
              have hq := hr.trans nq.ok
              go_wp2_with fail
              go_meet
              exact ⟨rfl, hq⟩
          case rest =>
            obtain ⟨rfl, hr⟩ := hcut
            clear A1 A23
            go_wp2_with (fail)
            go_loopw [13] (fun j wq => ∃ q : Nat, q ≤ k ∧ j = .int .i64 q ∧ Ext w10 wq) (fun j _ => k - (intOf j).toNat)
            case atStart => exact ⟨0, Nat.zero_le _, rfl, hr⟩
            case round =>
              obtain ⟨q, hq, rfl, hr⟩ := hrel
              by_cases hqk : q < k
              · have hql : q < l.length := by omega
                obtain ⟨br', og', e1, s0⟩ := HR.out.at q (by rw [fl_len]; exact hql)
                obtain ⟨rfl, rfl⟩ : br = br' ∧ og = og' := by simpa using e1
                rw [nth_fl _ _ _ hql] at s0
                obtain ⟨bc', oc', e2, d0, d1, d2, d3, d4, d5, d6⟩ := HL.out.at q hql
                obtain ⟨rfl, rfl⟩ : bc = bc' ∧ oc = oc' := by simpa using e2
                obtain ⟨bp', op', e3, u0⟩ := HP'.out.at q (by rw [HPN.out]; exact hql)
                obtain ⟨rfl, rfl⟩ : bp = bp' ∧ op = op' := by simpa using e3
                have hbq := bg_in HV.out HBR.out hql
                have hbk := HK0.out
                obtain ⟨x1, x2, x3, x4⟩ := hbq
                obtain ⟨y1, y2, y3, y4⟩ := hbk
                unfold bg at x1 x2 y1 y2
                have hn96 := HV.out.n2
                have hsp : (decide (0 ≤ roomF ha l p k) = false) ∨ (decide (0 ≤ roomF ha l p k) = true ∧ (roomF ha l p k == roomF ha l p q) = false) ∨
                    (decide (0 ≤ roomF ha l p k) = true ∧ (roomF ha l p k == roomF ha l p q) = true ∧ decide (nth p k - (cth l k).pr < nth p q) = false) ∨
                    (decide (0 ≤ roomF ha l p k) = true ∧ (roomF ha l p k == roomF ha l p q) = true ∧ decide (nth p k - (cth l k).pr < nth p q) = true ∧ decide (nth p q - (cth l q).pr < nth p k) = false) := by
                  by_cases h1 : 0 ≤ roomF ha l p k
                  · by_cases h2 : roomF ha l p k = roomF ha l p q
                    · have := roomF_apart HV.out HBR.out (show k ≠ q by omega) h1 h2
                      unfold bg at this
                      by_cases h3 : nth p k - (cth l k).pr < nth p q
                      · right; right; right; refine ⟨by simp [h1], by simp [h2], by simp [h3], by simp; omega⟩
                      · right; right; left; refine ⟨by simp [h1], by simp [h2], by simp; omega⟩
                    · right; left; exact ⟨by simp [h1], by simp [h2]⟩
                  · left; simp; omega
                clear e1 e2 e3 d0 d2 d3 d4 d5 d6
                go_upto_region 17 with fail
                go_cut [200] (fun s wx => s = .bool false ∧ Ext w10 wx)
                case first =>
                  have r1 := fun W (h : Ext wr W) => r0 W (hr.trans h)
                  have s1 := fun W (h : Ext wr W) => s0 W (hr.trans h)
                  have k1 := fun W (h : Ext wr W) => c1 W (hx10.trans (hr.trans h))
                  have k2 := fun W (h : Ext wr W) => d1 W (hx10.trans (hr.trans h))
                  have p1 := fun W (h : Ext wr W) => p0 W (hx10.trans (hr.trans h))
                  have p2 := fun W (h : Ext wr W) => u0 W (hx10.trans (hr.trans h))
                  have hrr := Ext.refl wr
                  clear r0 s0 c1 d1 p0 u0 b0 b1 b2 b3
                  rcases hsp with A1 | ⟨A1, A2⟩ | ⟨A1, A2, A3⟩ | ⟨A1, A2, A3, A4⟩
                  all_goals
                    refine wp_region_ext (by kernel_rfl) (by kernel_rfl) hrr ?_
                    repeat (first | go_big_quiet_step (fail) | quiet_step (fail))
                    refine wpQuiet_nil ?_
                    rintro _ ⟨nq, rfl⟩
                    have hq := hr.trans nq.ok
                    go_wp2_with fail
                    go_meet
                    exact ⟨rfl, hq⟩
                case rest =>
                  obtain ⟨rfl, hr⟩ := hcut
                  go_wp2_with (fail)
                  go_roundw
                  case rel => exact ⟨q + 1, by omega, by go_num, hr⟩
                  case measure => simp [intOf]; omega
              · obtain rfl : q = k := by omega
                go_wp2_with (fail)
                go_roundw
                case rel => exact ⟨q + 1, by omega, by go_num, hr⟩
                case measure => simp [intOf]; omega
        · obtain rfl : k = l.length := by omega
          go_wp2_with (fail)
          go_loopw [14] (fun i wr => ∃ h : Nat, h ≤ ha.st.length ∧ i = .int .i64 h ∧ Ext w10 wr) (fun i _ => ha.st.length - (intOf i).toNat)
          case atStart => exact ⟨0, Nat.zero_le _, rfl, hr⟩
          case round =>
            obtain ⟨h, hh, rfl, hr⟩ := hrel
            by_cases hlt : h < ha.st.length
            · go_wp2_with (fail)
              go_loopw [15, 16] (fun r i wr => ∃ k : Nat, k ≤ l.length ∧ i = .int .i64 k ∧ r = .int .i64 (runTo l p k h : Nat) ∧ Ext w10 wr) (fun _ i _ => l.length - (intOf i).toNat)
              case atStart => exact ⟨0, Nat.zero_le _, rfl, rfl, hr⟩
              case round =>
                obtain ⟨k, hk, rfl, rfl, hr⟩ := hrel
                have hn96 := HV.out.n2
                by_cases hkl : k < l.length
                · obtain ⟨bc, oc, rfl, c0, c1, c2, c3, c4, c5, c6⟩ := HL.out.at k hkl
                  obtain ⟨bp, op, rfl, p0⟩ := HP'.out.at k (by rw [HPN.out]; exact hkl)
                  obtain ⟨y1, y2, y3, y4⟩ := bg_in HV.out HBR.out hkl
                  have hho0 := (HV.out.cb k hkl).ho0
                  have hho1 := (HV.out.cb k hkl).ho1
                  have hrl := runTo_le l p h k
                  have hrs := runTo_step l p k h
                  have hrb : runB (cth l k) (nth p k) h = (decide (nth p k ≤ (h : Int)) && decide ((h : Int) < nth p k + (cth l k).ho)) := by
                    rw [Bool.eq_iff_iff, runB_iff]; simp
                  rw [hrb] at hrs
                  have hsp : (decide (nth p k ≤ (h : Int)) = false ∧ (decide (nth p k ≤ (h : Int)) && decide ((h : Int) < nth p k + (cth l k).ho)) = false) ∨
                      (decide (nth p k ≤ (h : Int)) = true ∧ decide ((h : Int) < nth p k + (cth l k).ho) = false ∧ (decide (nth p k ≤ (h : Int)) && decide ((h : Int) < nth p k + (cth l k).ho)) = false) ∨
                      (decide (nth p k ≤ (h : Int)) = true ∧ decide ((h : Int) < nth p k + (cth l k).ho) = true ∧ (decide (nth p k ≤ (h : Int)) && decide ((h : Int) < nth p k + (cth l k).ho)) = true) := by
                    cases decide (nth p k ≤ (h : Int)) <;> cases decide ((h : Int) < nth p k + (cth l k).ho) <;> simp
                  generalize hbb : (decide (nth p k ≤ (h : Int)) && decide ((h : Int) < nth p k + (cth l k).ho)) = bb at hrs hsp
                  have HRS := Lib.hid hrs
                  obtain ⟨rn, hrn⟩ : ∃ rn, rn = runTo l p k h := ⟨_, rfl⟩
                  rw [← hrn] at hrl HRS
                  rw [← hrn]
                  clear y1 y2 hrs hrb hbb c0 c1 c3 c4 c5 c6 hrn
                  go_upto_region 26 with fail
                  go_cut [232] (fun s wx => s = .bool bb ∧ Ext w10 wx)
                  case first =>
                    have k1 := fun W (h : Ext wr W) => c2 W (hx10.trans (hr.trans h))
                    have p1 := fun W (h : Ext wr W) => p0 W (hx10.trans (hr.trans h))
                    have hrr := Ext.refl wr
                    clear c2 p0 b0 b1 b2 b3
                    rcases hsp with ⟨A1, rfl⟩ | ⟨A1, A2, rfl⟩ | ⟨A1, A2, rfl⟩
                    all_goals
                      refine wp_region_ext (by kernel_rfl) (by kernel_rfl) hrr ?_
                      repeat (first | go_big_quiet_step (fail) | quiet_step (fail))
                      refine wpQuiet_nil ?_
                      rintro _ ⟨nq, rfl⟩
                      have hq := hr.trans nq.ok
                      go_wp2_with fail
                      go_meet
                      exact ⟨rfl, hq⟩
                  case rest =>
                    obtain ⟨rfl, hr⟩ := hcut
                    clear hsp
                    cases bb
                    · have HR2 : Hid (runTo l p (k + 1) h = rn) := by rw [Hid, HRS.out]; rfl
                      clear HRS
                      go_wp2_with (fail)
                      go_roundw
                      case rel => exact ⟨k + 1, by omega, by go_num, by rw [HR2.out], hr⟩
                      case measure => simp [intOf]; omega
                    · have HR2 : Hid (runTo l p (k + 1) h = rn + 1) := by rw [Hid, HRS.out]; rfl
                      clear HRS
                      go_wp2_with (fail)
                      go_roundw
                      case rel => exact ⟨k + 1, by omega, by go_num, by rw [HR2.out]; rfl, hr⟩
                      case measure => simp [intOf]; omega
                · obtain rfl : k = l.length := by omega
                  have hu := use_hour HV.out HBR.out hlt
                  have hcn := breach_rooms HBR.out hlt
                  obtain ⟨be, oe, rfl, e0⟩ := HU.out.at h (by rw [fl_len]; exact hlt)
                  rw [nth_fl _ _ _ hlt] at e0
                  obtain ⟨bv, ov, rfl, v0⟩ := HV2.out.at h (by rw [fl_len]; exact hlt)
                  rw [nth_fl _ _ _ hlt] at v0
                  have hel : h < ha.en.length := by have := HV.out.en; omega
                  obtain ⟨bq, oq, rfl, q0⟩ := HEN.out.at h hel
                  obtain ⟨bs, os, rfl, s0⟩ := HSTF.out.at h hlt
                  have A1 : decide (nth ha.en h < useF l p l.length h) = false := by simp; omega
                  have A2 : decide (ha.ro < cntTo l p l.length (h : Int)) = false := by simp; omega
                  obtain ⟨cn, hcn2⟩ : ∃ cn, cn = cntTo l p l.length (h : Int) := ⟨_, rfl⟩
                  obtain ⟨rn, hrn⟩ : ∃ rn, rn = runTo l p l.length h := ⟨_, rfl⟩
                  rw [← hcn2] at A2 v0
                  rw [← hrn] at hu
                  rw [← hrn]
                  have hsp : (rn = 0 ∧ (useF l p l.length h != 0) = false) ∨ (rn = 1 ∧ (nth ha.st h == 0) = false) := by
                    rcases (show rn = 0 ∨ rn = 1 by omega) with h0 | h0
                    · left; exact ⟨h0, by simp [hu.2.2.1 h0]⟩
                    · right; exact ⟨h0, by simpa using hu.2.2.2 h0⟩
                  clear hu hcn hcn2 hrn
                  go_upto_region 28 with fail
                  go_cut [280] (fun s wx => s = .bool false ∧ Ext w10 wx)
                  case first =>
                    have k1 := fun W (h : Ext wr W) => e0 W (hr.trans h)
                    have k2 := fun W (h : Ext wr W) => v0 W (hr.trans h)
                    have k3 := fun W (h : Ext wr W) => q0 W (hx10.trans (hr.trans h))
                    have k4 := fun W (h : Ext wr W) => s0 W (hx10.trans (hr.trans h))
                    have k5 := fun W (h : Ext wr W) => b0 W (hr.trans h)
                    have k6 := fun W (h : Ext wr W) => b2 W (hr.trans h)
                    have k7 := fun W (h : Ext wr W) => b3 W (hr.trans h)
                    have hrr := Ext.refl wr
                    clear e0 v0 q0 s0 b0 b1 b2 b3
                    rcases hsp with ⟨rfl, A3⟩ | ⟨rfl, A3⟩
                    all_goals
                      refine wp_region_ext (by kernel_rfl) (by kernel_rfl) hrr ?_
                      repeat (first | go_big_quiet_step (fail) | quiet_step (fail))
                      refine wpQuiet_nil ?_
                      rintro _ ⟨nq, rfl⟩
                      have hq := hr.trans nq.ok
                      go_wp2_with fail
                      go_meet
                      exact ⟨rfl, hq⟩
                  case rest =>
                    obtain ⟨rfl, hr⟩ := hcut
                    go_wp2_with (fail)
                    go_roundw
                    case rel => exact ⟨h + 1, by omega, by go_num, hr⟩
                    case measure => simp [intOf]; omega
            · obtain rfl : h = ha.st.length := by omega
              go_wp2_with (fail)
              (with_reducible refine (known_any _).mono ?_); rintro e w11 ⟨rfl, he11⟩
              go_wp2_with (fail)
              go_ret
              exact ⟨rfl, (hx10.trans hr).trans he11⟩
end Go.Proofs.Ytjpgignbjkgjiaa
