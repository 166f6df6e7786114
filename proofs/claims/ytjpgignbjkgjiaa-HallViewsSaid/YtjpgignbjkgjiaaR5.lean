import Derived.Test.YtjpgignbjkgjiaaR4
import Derived.Test.YtjpgignbjkgjiaaP9
set_option linter.unusedVariables false
set_option linter.unusedSimpArgs false
namespace Go.Proofs.Ytjpgignbjkgjiaa
open Go.RowKit
set_option maxRecDepth 100000 in
set_option maxHeartbeats 4000000 in
theorem sees_any (ha : Hal) (x : HP) (l : List Camp) (la : Option Addr) (lc : Nat) (p : List Int) (pa : Option Addr) (pn pc : Nat) (cu : Int) (hour : Nat) (w : World) (hh : HallAt w ha x) (hl : Camps w la l) (hp : Ints w pa p) (hpl : l.length ≤ p.length) (hpn : p.length = pn)
    (hv : VH ha l) (hti : ∀ i, i < l.length → inTimeB (cth l i) (nth p i) = true) (hho : hour < ha.st.length) :
    Calls Try.prog 19 #[hval ha x, .slice la l.length lc, .slice pa pn pc, .int .i64 cu, .int .i64 hour] w (Ret (.int .u8 (viewF ha l p cu hour)) w) := by
  obtain ⟨sa, sc, ea, ec⟩ := x
  have HH := Lib.hid hh; clear hh
  have HV := Lib.hid hv
  have HTI := Lib.hid hti
  have hl16 := hv.ll
  have hn96 := hv.n2
  have hcl0 := hv.c0
  have hcl1 := hv.c1
  clear hv hti
  have hpl' : l.length ≤ pn := by rw [← hpn]; exact hpl
  clear hpn
  obtain ⟨m, hm⟩ : ∃ m : Nat, (m : Int) = 2 * ha.cl + 1 := ⟨(2 * ha.cl + 1).toNat, by omega⟩
  have hm1 : (m : Int) ≤ 2 * ha.cl + 1 := by omega
  have hm2 : 2 * ha.cl + 1 ≤ (m : Int) := by omega
  have HM := Lib.hid hm
  clear hm
  obtain ⟨b, o, rfl, s0⟩ := HH.out.st.at hour hho
  have hr0 := Ext.refl w
  go_enter Try.func19, Try.ntmps19
  go_upto_if 21 with fail
  generalize hw1 : World.alloc _ _ = w1
  obtain ⟨he, o1, -⟩ := alloc1 hw1
  obtain ⟨b0, b1, b2, b3⟩ := obj_cells4 o1
  clear hw1 o1 hr0 s0
  have HL := Lib.hid (hl.ext he)
  have HP' := Lib.hid (hp.ext he)
  clear hl hp
  have hr0 := Ext.refl w1
  go_cut [11] (fun s11 wx => s11 = .int .u8 (vOther ha l p cu 0 hour) ∧ wx = w1)
  case first =>
    cases T : (nth ha.st hour == 0)
    · have hv0 : vOther ha l p cu 0 hour = 0 := by have : ¬ nth ha.st hour = 0 := by simpa using T
                                                   show (if nth ha.st hour = 0 then 3 else 0) = _
                                                   rw [if_neg this]
      have HV0 := Lib.hid hv0
      clear hv0
      go_wp2_with fail
      go_meet
      exact ⟨by rw [HV0.out], rfl⟩
    · have hv0 : vOther ha l p cu 0 hour = 3 := by have : nth ha.st hour = 0 := by simpa using T
                                                   show (if nth ha.st hour = 0 then 3 else 0) = _
                                                   rw [if_pos this]
      have HV0 := Lib.hid hv0
      clear hv0
      go_wp2_with fail
      go_meet
      exact ⟨by rw [HV0.out], rfl⟩
  case rest =>
    obtain ⟨rfl, rfl⟩ := hcut
    go_wp2_with (fail)
    go_loopw [11, 12] (fun s i wr => ∃ k : Nat, k ≤ l.length ∧ i = .int .i64 k ∧ s = .int .u8 (vOther ha l p cu k hour) ∧ Ext wc wr) (fun _ i _ => l.length - (intOf i).toNat)
    case atStart => exact ⟨0, Nat.zero_le _, rfl, rfl, hr0⟩
    case round =>
      clear hr0
      obtain ⟨k, hk, rfl, rfl, hr⟩ := hrel
      by_cases hlt : k < l.length
      · obtain ⟨b', o', rfl, c0, c1, c2, c3, c4, c5, c6⟩ := HL.out.at k hlt
        obtain ⟨b'', o'', rfl, d0⟩ := HP'.out.at k (by omega)
        have hkp : k < pn := by omega
        have htb := inTime_bd (HV.out.cb k hlt) (HTI.out k hlt)
        obtain ⟨ht0, ht1, ht2, ht3, -, -⟩ := htb
        cases T : ((cth l k).cu == cu)
        rotate_left
        · have hvo : vOther ha l p cu (k + 1) hour = vOther ha l p cu k hour := by rw [vOther_same (by simpa using T)]
          have HVO := Lib.hid hvo
          clear hvo
          go_wp2_with (fail)
          go_roundw
          case rel => exact ⟨k + 1, by omega, by go_num, by rw [HVO.out], hr⟩
          case measure => simp [intOf]; omega
        · have hvo : seenD (cth l k) (nth p k) hour ha.cl (vOther ha l p cu k hour) m = vOther ha l p cu (k + 1) hour := by
            rw [vOther_mark (by simpa using T)]; exact seenD_end HM.out hcl0 ht2
          have HVO := Lib.hid hvo
          clear hvo
          go_wp2_with (fail)
          obtain ⟨wo, rfl⟩ : ∃ wo : World, wo = wr := ⟨_, rfl⟩
          go_loopw [11, 13] (fun s v wr => ∃ e : Nat, e ≤ m ∧ v = .int .i64 (-ha.cl + (e : Nat)) ∧ s = .int .u8 (seenD (cth l k) (nth p k) hour ha.cl (vOther ha l p cu k hour) e) ∧ Ext wc wr) (fun _ v _ => (ha.cl + 1 - intOf v).toNat)
          case atStart => exact ⟨0, Nat.zero_le _, by simp, by rw [seenD_zero], hr⟩
          case round =>
            clear hr
            obtain ⟨e, hem, rfl, rfl, hr⟩ := hrel
            by_cases hlm : e < m
            · have s1 : IntKind.i64.wrap ((hour : Int) + (-ha.cl + (e : Int))) = (hour : Int) + (-ha.cl + (e : Int)) := IntWalk.i64_in _ (by omega)
              have HRU : Hid (∀ W, Calls Try.prog 50 #[cval (cth l k), .int .i64 (nth p k), .int .i64 ((hour : Int) + (-ha.cl + (e : Int)))] W (Ret (.bool (runB (cth l k) (nth p k) ((hour : Int) + (-ha.cl + (e : Int))))) W)) := fun W => runs_any (cth l k) (nth p k) _ W (by omega) (by omega)
              go_wp2_with (fail)
              refine wp_region_ext (by kernel_rfl) (by kernel_rfl) hr ?_
              repeat (first | go_big_quiet_step ((go_at_call 50; with_reducible exact Calls.later (HRU.out _))) | quiet_step ((go_at_call 50; with_reducible exact Calls.later (HRU.out _))))
              refine wpQuiet_nil ?_
              rintro _ ⟨nq, rfl⟩
              have hq := nq.ok
              clear s1
              cases T2 : runB (cth l k) (nth p k) ((hour : Int) + (-ha.cl + (e : Int)))
              · have hse := seenD_no (cl := ha.cl) (prev := vOther ha l p cu k hour) T2
                have HSE := Lib.hid hse
                clear hse
                go_wp2_with (fail)
                go_roundw
                case rel => exact ⟨e + 1, by omega, by go_num, by rw [HSE.out], hq⟩
                case measure => simp [intOf]; omega
              · have hse := seenD_yes (cl := ha.cl) (prev := vOther ha l p cu k hour) T2
                have HSE := Lib.hid hse
                clear hse
                go_wp2_with (fail)
                go_roundw
                case rel => exact ⟨e + 1, by omega, by go_num, by rw [HSE.out], hq⟩
                case measure => simp [intOf]; omega
            · obtain rfl : e = m := by omega
              rw [HVO.out]
              go_wp2_with (fail)
              go_roundw
              case rel => exact ⟨k + 1, by omega, by go_num, rfl, hr⟩
              case measure => simp [intOf]; omega
      · obtain rfl : k = l.length := by omega
        go_wp2_with (fail)
        obtain ⟨wo2, rfl⟩ : ∃ wo : World, wo = wr := ⟨_, rfl⟩
        go_loopw [11, 14] (fun s i wr => ∃ k : Nat, k ≤ l.length ∧ i = .int .i64 k ∧ s = .int .u8 (vOwn l p cu 2 (vOther ha l p cu l.length) k hour) ∧ Ext wc wr) (fun _ i _ => l.length - (intOf i).toNat)
        case atStart => exact ⟨0, Nat.zero_le _, rfl, rfl, hr⟩
        case round =>
          clear hr
          obtain ⟨k, hk, rfl, rfl, hr⟩ := hrel
          by_cases hlt : k < l.length
          · obtain ⟨b', o', rfl, c0, c1, c2, c3, c4, c5, c6⟩ := HL.out.at k hlt
            obtain ⟨b'', o'', rfl, d0⟩ := HP'.out.at k (by omega)
            have hkp : k < pn := by omega
            have htb := inTime_bd (HV.out.cb k hlt) (HTI.out k hlt)
            obtain ⟨ht0, ht1, ht2, ht3, -, -⟩ := htb
            have HRU : Hid (∀ W, Calls Try.prog 51 #[cval (cth l k), .int .i64 (nth p k), .int .i64 (hour : Nat)] W (Ret (.bool (prepB (cth l k) (nth p k) (hour : Nat))) W)) := fun W => prepares_any (cth l k) (nth p k) _ W (by omega) (by omega)
            have hst := own2_step (l := l) (p := p) (cu := cu) (F := vOther ha l p cu l.length) (k := k) (hour := hour)
            have h3 := two_and ((cth l k).cu == cu) (prepB (cth l k) (nth p k) (hour : Nat))
            rcases h3 with ⟨T1, HQ⟩ | ⟨T1, T2, HQ⟩ | ⟨T1, T2, HQ⟩
            all_goals
              rw [HQ] at hst
              try rw [if_pos rfl] at hst
              try rw [if_neg (by simp)] at hst
              have HST := Lib.hid hst
              clear hst HQ
              go_wp2_with (fail)
              refine wp_region_ext (by kernel_rfl) (by kernel_rfl) hr ?_
              repeat (first | go_big_quiet_step ((go_at_call 51; with_reducible exact Calls.later (HRU.out _))) | quiet_step ((go_at_call 51; with_reducible exact Calls.later (HRU.out _))))
              refine wpQuiet_nil ?_
              rintro _ ⟨nq, rfl⟩
              have hq := nq.ok
              go_wp2_with (fail)
              go_roundw
              case rel => exact ⟨k + 1, by omega, by go_num, by rw [HST.out], hq⟩
              case measure => simp [intOf]; omega
          · obtain rfl : k = l.length := by omega
            go_wp2_with (fail)
            obtain ⟨wo3, rfl⟩ : ∃ wo : World, wo = wr := ⟨_, rfl⟩
            go_loopw [11, 15] (fun s i wr => ∃ k : Nat, k ≤ l.length ∧ i = .int .i64 k ∧ s = .int .u8 (vOwn l p cu 1 (vOwn l p cu 2 (vOther ha l p cu l.length) l.length) k hour) ∧ Ext wc wr) (fun _ i _ => l.length - (intOf i).toNat)
            case atStart => exact ⟨0, Nat.zero_le _, rfl, rfl, hr⟩
            case round =>
              clear hr
              obtain ⟨k, hk, rfl, rfl, hr⟩ := hrel
              by_cases hlt : k < l.length
              · obtain ⟨b', o', rfl, c0, c1, c2, c3, c4, c5, c6⟩ := HL.out.at k hlt
                obtain ⟨b'', o'', rfl, d0⟩ := HP'.out.at k (by omega)
                have hkp : k < pn := by omega
                have htb := inTime_bd (HV.out.cb k hlt) (HTI.out k hlt)
                obtain ⟨ht0, ht1, ht2, ht3, -, -⟩ := htb
                have HRU : Hid (∀ W, Calls Try.prog 50 #[cval (cth l k), .int .i64 (nth p k), .int .i64 (hour : Nat)] W (Ret (.bool (runB (cth l k) (nth p k) (hour : Nat))) W)) := fun W => runs_any (cth l k) (nth p k) _ W (by omega) (by omega)
                have hst := own1_step (l := l) (p := p) (cu := cu) (F := vOwn l p cu 2 (vOther ha l p cu l.length) l.length) (k := k) (hour := hour)
                have h3 := two_and ((cth l k).cu == cu) (runB (cth l k) (nth p k) (hour : Nat))
                rcases h3 with ⟨T1, HQ⟩ | ⟨T1, T2, HQ⟩ | ⟨T1, T2, HQ⟩
                all_goals
                  rw [HQ] at hst
                  try rw [if_pos rfl] at hst
                  try rw [if_neg (by simp)] at hst
                  have HST := Lib.hid hst
                  clear hst HQ
                  go_wp2_with (fail)
                  refine wp_region_ext (by kernel_rfl) (by kernel_rfl) hr ?_
                  repeat (first | go_big_quiet_step ((go_at_call 50; with_reducible exact Calls.later (HRU.out _))) | quiet_step ((go_at_call 50; with_reducible exact Calls.later (HRU.out _))))
                  refine wpQuiet_nil ?_
                  rintro _ ⟨nq, rfl⟩
                  have hq := nq.ok
                  go_wp2_with (fail)
                  go_roundw
                  case rel => exact ⟨k + 1, by omega, by go_num, by rw [HST.out], hq⟩
                  case measure => simp [intOf]; omega
              · obtain rfl : k = l.length := by omega
                go_wp2_with (fail)
                go_ret
                exact ⟨rfl, he.trans hr⟩
end Go.Proofs.Ytjpgignbjkgjiaa
