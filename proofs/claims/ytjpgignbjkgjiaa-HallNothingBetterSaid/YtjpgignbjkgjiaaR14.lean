import Derived.Test.YtjpgignbjkgjiaaR13
set_option linter.unusedVariables false
set_option linter.unusedSimpArgs false
namespace Go.Proofs.Ytjpgignbjkgjiaa
open Go.RowKit
set_option maxRecDepth 100000 in
set_option maxHeartbeats 4000000 in
theorem refCrowded (ha : Hal) (x : HP) (l : List Camp) (la : Option Addr) (lc : Nat) (w : World) (hh : HallAt w ha x) (hl : Camps w la l) (hv : VH ha l) :
    Calls Try.prog 34 #[hval ha x, .slice la l.length lc] w (Ret (.tuple #[crval (crowdR ha l), .bool (crowdB ha l)]) w) := by
  obtain ⟨sa, sc, ea, ec⟩ := x
  have HH := Lib.hid hh
  have HV := Lib.hid hv
  have hl16 := hv.ll
  have hn96 := hv.n2
  clear hh hv
  go_enter Try.func34, Try.ntmps34
  go_wp2_with (fail)
  generalize hw1 : World.alloc _ _ = w1
  obtain ⟨he, o1, o2, -⟩ := alloc2 hw1
  obtain ⟨b0, b1, b2, b3⟩ := obj_cells4 o1
  obtain ⟨r0, r1, r2, r3⟩ := obj_cells4 o2
  have rf := obj_free o2
  clear hw1 o1 o2
  have HST := Lib.hid (HH.out.st.ext he)
  have HL := Lib.hid (hl.ext he)
  clear hl
  go_loopw [6] (fun i wr => ∃ a : Nat, a ≤ ha.st.length ∧ i = .int .i64 a ∧ Ext w1 wr ∧ Hid (∀ j, j < a → (crowdIn ha l j).isSome = false)) (fun i _ => ha.st.length - (intOf i).toNat)
  case atStart => exact ⟨0, Nat.zero_le _, rfl, Ext.refl _, fun j hj => by omega⟩
  case round =>
    obtain ⟨a, hk, rfl, hr, hg⟩ := hrel
    by_cases hlt : a < ha.st.length
    · obtain ⟨wo, rfl⟩ : ∃ wo : World, wo = wr := ⟨_, rfl⟩
      go_wp2_with (fail)
      go_loopw [7] (fun b wr => ∃ e : Nat, a ≤ e ∧ e ≤ ha.st.length ∧ b = .int .i64 ((e : Int) + 1) ∧ Ext w1 wr ∧ Hid (∀ j, a ≤ j → j < e → crowdQ ha l a j = false)) (fun b _ => ha.st.length + 1 - (intOf b).toNat)
      case atStart => exact ⟨a, Nat.le_refl _, by omega, by simp, hr, fun j hj hj2 => by omega⟩
      case round =>
        clear hr
        obtain ⟨e, hae, hen, rfl, hr, hf⟩ := hrel
        by_cases hlte : e < ha.st.length
        · have hle1 : (e : Int) + 1 ≤ ha.st.length := by omega
          obtain ⟨wo2, rfl⟩ : ∃ wo : World, wo = wr := ⟨_, rfl⟩
          go_wp2_with (fail)
          go_loopw [8, 10] (fun nd i wr => ∃ k : Nat, k ≤ l.length ∧ i = .int .i64 k ∧ nd = .int .i64 (needTo l a ((e : Int) + 1) k) ∧ Ext w1 wr) (fun _ i _ => l.length - (intOf i).toNat)
          case atStart => exact ⟨0, Nat.zero_le _, rfl, rfl, hr⟩
          case round =>
            clear hr
            obtain ⟨k, hk, rfl, rfl, hr⟩ := hrel
            have hnb := needTo_bd HV.out.cb a ((e : Int) + 1) k hk
            obtain ⟨hnb1, hnb2⟩ := hnb
            by_cases hkl : k < l.length
            · obtain ⟨b2, o2, rfl, c0, c1, c2, c3, c4, c5, c6⟩ := HL.out.at k hkl
              have hcb := HV.out.cb k hkl
              obtain ⟨-, -, p1, p2, p3, p4, -, -, p5, p6, p7, -, -⟩ := hcb
              have s1 : IntKind.i64.wrap ((cth l k).ea + (cth l k).pr) = (cth l k).ea + (cth l k).pr := IntWalk.i64_in _ (by omega)
              have hsp := in_split (cth l k) a ((e : Int) + 1)
              have h3 := two_and (decide ((a : Int) ≤ (cth l k).ea + (cth l k).pr)) (decide ((cth l k).la ≤ (e : Int) + 1))
              rw [← hsp] at h3
              clear hsp
              rcases h3 with ⟨T1, HQ⟩ | ⟨T1, T2, HQ⟩ | ⟨T1, T2, HQ⟩
              rotate_left 2
              · have HN := Lib.hid (needTo_yes HQ)
                clear HQ
                go_wp2_with (fail)
                refine wp_region_ext (by kernel_rfl) (by kernel_rfl) hr ?_
                repeat (first | go_big_quiet_step (fail) | quiet_step (fail))
                refine wpQuiet_nil ?_
                rintro _ ⟨nq, rfl⟩
                have hq := nq.ok
                clear s1
                go_wp2_with (fail)
                go_roundw
                case rel => exact ⟨k + 1, by omega, by go_num, by rw [HN.out], hq⟩
                case measure => simp [intOf]; omega
              all_goals
                have HN := Lib.hid (needTo_no HQ)
                clear HQ
                go_wp2_with (fail)
                refine wp_region_ext (by kernel_rfl) (by kernel_rfl) hr ?_
                repeat (first | go_big_quiet_step (fail) | quiet_step (fail))
                refine wpQuiet_nil ?_
                rintro _ ⟨nq, rfl⟩
                have hq := nq.ok
                clear s1
                go_wp2_with (fail)
                go_roundw
                case rel => exact ⟨k + 1, by omega, by go_num, by rw [HN.out], hq⟩
                case measure => simp [intOf]; omega
            · obtain rfl : k = l.length := by omega
              obtain ⟨wo3, rfl⟩ : ∃ wo : World, wo = wr := ⟨_, rfl⟩
              go_wp2_with (fail)
              go_loopw [9, 11] (fun hv i wr => ∃ q : Nat, a ≤ q ∧ q ≤ e + 1 ∧ i = .int .i64 q ∧ hv = .int .i64 (haveTo ha a (q - a)) ∧ Ext w1 wr) (fun _ i _ => e + 1 - (intOf i).toNat)
              case atStart => exact ⟨a, Nat.le_refl _, by omega, rfl, by rw [Nat.sub_self]; rfl, hr⟩
              case round =>
                clear hr
                obtain ⟨q, haq, hqe, rfl, rfl, hr⟩ := hrel
                have hhb := haveTo_bd ha a (q - a)
                obtain ⟨hhb1, hhb2⟩ := hhb
                by_cases hlq : q < e + 1
                · have hhs : haveTo ha a (q + 1 - a) = haveTo ha a (q - a) + if nth ha.st q = 0 then 0 else 1 := by
                    rw [show q + 1 - a = (q - a) + 1 by omega]
                    simp only [haveTo]
                    rw [show a + (q - a) = q by omega]
                  have HHS := Lib.hid hhs
                  have hqn : q < ha.st.length := by omega
                  obtain ⟨b', o', rfl, s0⟩ := HST.out.at q hqn
                  clear hhs
                  cases T : (nth ha.st q != 0)
                  · have hz : haveTo ha a (q + 1 - a) = haveTo ha a (q - a) := by
                      rw [HHS.out, if_pos (by simpa using T), Int.add_zero]
                    have HZ := Lib.hid hz
                    clear hz
                    go_wp2_with (fail)
                    go_roundw
                    case rel => exact ⟨q + 1, by omega, by omega, by go_num, by rw [HZ.out], hr⟩
                    case measure => simp [intOf]; omega
                  · have hz : haveTo ha a (q + 1 - a) = haveTo ha a (q - a) + 1 := by
                      rw [HHS.out, if_neg (by simpa using T)]
                    have HZ := Lib.hid hz
                    clear hz
                    go_wp2_with (fail)
                    go_roundw
                    case rel => exact ⟨q + 1, by omega, by omega, by go_num, by rw [HZ.out], hr⟩
                    case measure => simp [intOf]; omega
                · obtain rfl : q = e + 1 := by omega
                  cases T : decide (haveTo ha a (e + 1 - a) < needTo l a ((e : Int) + 1) l.length)
                  · have hf2 : Hid (∀ j, a ≤ j → j < e + 1 → crowdQ ha l a j = false) := fun j hj hj2 => by
                      rcases Nat.lt_succ_iff_lt_or_eq.1 hj2 with h | h
                      · exact hf.out j hj h
                      · rw [h]; exact T
                    go_wp2_with (fail)
                    go_roundw
                    case rel => exact ⟨e + 1, by omega, by omega, by go_num, hr, hf2⟩
                    case measure => simp [intOf]; omega
                  · have hz := crowd_some hae hlte T hf.out hg.out
                    have HZ := Lib.hid hz
                    have rf0 := rf wr hr
                    clear hz
                    go_wp2_with (fail)
                    refine bodyPost_ret (v := .tuple #[crval (crowdR ha l), .bool (crowdB ha l)]) (by rw [HZ.out.1, HZ.out.2]; simp [results, Try.results34, go_sem, r0 _ hr, r1 _ hr, r2 _ hr, r3 _ hr]) rfl ⟨rfl, ?_⟩
                    exact ((((he.trans hr).set (by simp) _).set (by simp) _).set (by simp) _).set (by simp) _
        · obtain rfl : e = ha.st.length := by omega
          have e1 := crowdIn_none hf.out
          have hg2 := Lib.hid (all_lt_succ (q := fun j => (crowdIn ha l j).isSome) hg.out (by rw [e1]; rfl))
          clear e1
          go_wp2_with (fail)
          go_roundw
          case rel => exact ⟨a + 1, by omega, by go_num, hr, hg2⟩
          case measure => simp [intOf]; omega
    · obtain rfl : a = ha.st.length := by omega
      have hz := crowd_none hg.out
      have HZ := Lib.hid hz
      have rf0 := rf wr hr
      clear hz
      go_wp2_with (fail)
      refine bodyPost_ret (v := .tuple #[crval (crowdR ha l), .bool (crowdB ha l)]) (by rw [HZ.out.1, HZ.out.2]; simp [results, Try.results34, go_sem, r0 _ hr, r1 _ hr, r2 _ hr, r3 _ hr, Cr.zero]) rfl ⟨rfl, ?_⟩
      exact ((((he.trans hr).set (by simp) _).set (by simp) _).set (by simp) _).set (by simp) _
end Go.Proofs.Ytjpgignbjkgjiaa
