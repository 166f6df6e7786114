import Derived.Test.YtjpgignbjkgjiaaR3
import Derived.Test.YtjpgignbjkgjiaaP7
set_option linter.unusedVariables false
set_option linter.unusedSimpArgs false
namespace Go.Proofs.Ytjpgignbjkgjiaa
open Go.RowKit
theorem in_ext (n a b : Int) (w : World) : Calls Try.prog 56 #[.int .i64 n, .int .i64 a, .int .i64 b] w (Ret (.bool (wi n a b)) w) :=
  (in_any n a b w).mono fun _ _ ⟨h1, h2⟩ => ⟨h1, h2 ▸ Ext.refl _⟩
theorem two_and (a b : Bool) : (a = false ∧ (a && b) = false) ∨ (a = true ∧ b = false ∧ (a && b) = false) ∨ (a = true ∧ b = true ∧ (a && b) = true) := by cases a <;> cases b <;> simp
set_option maxRecDepth 100000 in
set_option maxHeartbeats 4000000 in
theorem refBreach (ha : Hal) (x : HP) (l : List Camp) (la : Option Addr) (lc : Nat) (p : List Int) (pa : Option Addr) (pn pc : Nat) (w : World) (hh : HallAt w ha x) (hl : Camps w la l) (hp : Ints w pa p) (hpl : l.length ≤ p.length) (hpn : p.length = pn)
    (hv : VH ha l) : Calls Try.prog 24 #[hval ha x, .slice la l.length lc, .slice pa pn pc] w (Ret (bval (breachS ha l p)) w) := by
  have hnear := fun W (h : Ext w W) i k (hi : i < l.length) (hk : k < l.length) => near_any ha x l la lc p pa pn pc i k W (hh.ext h) (hl.ext h) (hp.ext h) hpl hpn hi hk hv
  have hcount := fun W (h : Ext w W) => fun hour => count_any l la lc p pa pn pc hour W (hl.ext h) (hp.ext h) hpl hpn (by have := hv.ll; omega)
  have HNE := Lib.hid hnear; have HCO := Lib.hid hcount; clear hnear hcount
  obtain ⟨sa, sc, ea, ec⟩ := x
  have HH := Lib.hid hh; clear hh
  have HV := Lib.hid hv
  have hl16 := hv.ll
  have hn96 := hv.n2
  have hen : ha.st.length ≤ ha.en.length := by have := hv.en; omega
  clear hv
  have hpl' : l.length ≤ pn := by rw [← hpn]; exact hpl
  clear hpn
  go_enter Try.func24, Try.ntmps24
  go_wp2_with (fail)
  generalize hw1 : World.alloc _ _ = w1
  obtain ⟨he, o1, o2, -⟩ := alloc2 hw1
  obtain ⟨b0, b1, b2, b3⟩ := obj_cells4 o1
  obtain ⟨r0, r1, r2, r3⟩ := obj_cells4 o2
  have rf := obj_free o2
  clear hw1 o1 o2
  have HL := Lib.hid (hl.ext he)
  have HP' := Lib.hid (hp.ext he)
  have HX := Lib.hid (HH.out.ext he)
  clear hl hp
  go_loopw [7] (fun i wr => ∃ k : Nat, k ≤ l.length ∧ i = .int .i64 k ∧ Ext w1 wr ∧ Hid (∀ j, j < k → (!inTimeB (cth l j) (nth p j)) = false)) (fun i _ => l.length - (intOf i).toNat)
  case atStart => exact ⟨0, Nat.zero_le _, rfl, Ext.refl _, fun j hj => by omega⟩
  case round =>
    obtain ⟨k, hk, rfl, hr, hf⟩ := hrel
    by_cases hlt : k < l.length
    · obtain ⟨b, o, rfl, c0, c1, c2, c3, c4, c5, c6⟩ := HL.out.at k hlt
      obtain ⟨b', o', rfl, d0⟩ := HP'.out.at k (by omega)
      have hkp : k < pn := by omega
      have hwi : inTimeB (cth l k) (nth p k) = wi (nth p k) ((cth l k).ea + (cth l k).pr) ((cth l k).la - (cth l k).ho) := rfl
      have HWI := Lib.hid hwi
      clear hwi
      have hcb := HV.out.cb k hlt
      have s1 : IntKind.i64.wrap ((cth l k).ea + (cth l k).pr) = (cth l k).ea + (cth l k).pr := IntWalk.i64_in _ (by have := hcb.ea0; have := hcb.ea1; have := hcb.la1; have := hcb.pr0; have := hcb.pr1; omega)
      have s2 : IntKind.i64.wrap ((cth l k).la - (cth l k).ho) = (cth l k).la - (cth l k).ho := IntWalk.i64_in _ (by have := hcb.ea0; have := hcb.ea1; have := hcb.la1; have := hcb.ho0; have := hcb.ho1; omega)
      clear hcb
      go_wp2_with (fail)
      refine wp_region_ext (by kernel_rfl) (by kernel_rfl) hr ?_
      repeat (first | go_big_quiet_step ((go_at_call 56; exact Calls.later (in_ext _ _ _ _))) | quiet_step ((go_at_call 56; exact Calls.later (in_ext _ _ _ _))))
      refine wpQuiet_nil ?_
      rintro _ ⟨nq, rfl⟩
      have hq := nq.ok
      clear s1 s2 c0 c1 c2 c3 c4 c5 c6
      rw [← HWI.out]
      cases hpk : inTimeB (cth l k) (nth p k)
      · have H2 : Hid (breachS ha l p = ⟨1, k, 0, 0⟩) := by
          have : singleS ha l p = ⟨1, k, 0, 0⟩ := by simp [singleS, fIdx_some (q := fun i => !inTimeB (cth l i) (nth p i)) hlt (by simp [hpk]) hf.out]
          simp [Hid, breachS, this]
        have rf0 := rf nq.val hq
        go_wp2_with (fail)
        refine bodyPost_ret (v := bval (breachS ha l p)) (by rw [H2.out]; simp [results, Try.results24, go_sem, r0 _ hq, r1 _ hq, r2 _ hq, r3 _ hq]) rfl ⟨rfl, ?_⟩
        exact ((((he.trans hq).set (by simp) _).set (by simp) _).set (by simp) _).set (by simp) _
      · have hf2 := Lib.hid (all_lt_succ (q := fun j => !inTimeB (cth l j) (nth p j)) hf.out (by simp [hpk]))
        clear hpk
        go_wp2_with (fail)
        go_roundw
        case rel => exact ⟨k + 1, by omega, by go_num, hq, hf2⟩
        case measure => simp [intOf]; omega
    · obtain rfl : k = l.length := by omega
      have S1 : Hid (singleS ha l p = sgl2 ha l p) := by simp [Hid, singleS, fIdx_none hf.out]
      have I1 : Hid (∀ j, j < l.length → inTimeB (cth l j) (nth p j) = true) := fun j hj => by simpa using hf.out j hj
      have hbd : ∀ i, i < l.length → -1000 ≤ nth p i ∧ nth p i ≤ 1000 := fun i hi => by
        have := inTime_bd (HV.out.cb i hi) (I1.out i hi); omega
      have HBD := Lib.hid hbd
      clear hf hlt hbd
      go_wp2_with (fail)
      obtain ⟨wo2, rfl⟩ : ∃ wo : World, wo = wr := ⟨_, rfl⟩
      go_loopw [8] (fun i wr => ∃ k : Nat, k ≤ l.length ∧ i = .int .i64 k ∧ Ext w1 wr ∧ Hid (∀ j, j < k → decide (0 ≤ hStaff ha (cth l j) (nth p j)) = false)) (fun i _ => l.length - (intOf i).toNat)
      case atStart => exact ⟨0, Nat.zero_le _, rfl, hr, fun j hj => by omega⟩
      case round =>
        clear hr
        obtain ⟨k, hk, rfl, hr, hf⟩ := hrel
        by_cases hlt : k < l.length
        · obtain ⟨b, o, rfl, c0, c1, c2, c3, c4, c5, c6⟩ := HL.out.at k hlt
          obtain ⟨b', o', rfl, d0⟩ := HP'.out.at k (by omega)
          have hkp : k < pn := by omega
          have hti := inTime_bd (HV.out.cb k hlt) (I1.out k hlt)
          obtain ⟨ht0, ht1, ht2, -, -, -⟩ := hti
          have ht3 : nth p k ≤ 96 := by omega
          have ht4 : 0 ≤ (cth l k).ho := by omega
          have HT1 := Lib.hid ht1
          clear ht1 ht2
          go_wp2_with (fail)
          obtain ⟨wi2, rfl⟩ : ∃ wo : World, wo = wr := ⟨_, rfl⟩
          go_loopw [9] (fun v wr => ∃ h : Nat, h ≤ ha.st.length ∧ v = .int .i64 h ∧ Ext w1 wr ∧ Hid (∀ j, j < h → (runB (cth l k) (nth p k) (j : Nat) && (nth ha.st j == 0)) = false)) (fun v _ => ha.st.length - (intOf v).toNat)
          case atStart => exact ⟨0, Nat.zero_le _, rfl, hr, fun j hj => by omega⟩
          case round =>
            clear hr
            obtain ⟨h, hh, rfl, hr, hg⟩ := hrel
            by_cases hht : h < ha.st.length
            · obtain ⟨bs, os, rfl, e0⟩ := HX.out.st.at h (by first | exact hht | (show h < ha.en.length; omega))
              have hhe : h < ha.en.length := by omega
              have HRU : Hid (∀ W, Calls Try.prog 50 #[cval (cth l k), .int .i64 (nth p k), .int .i64 (h : Nat)] W (Ret (.bool (runB (cth l k) (nth p k) (h : Nat))) W)) := fun W => runs_any (cth l k) (nth p k) h W (by omega) (by omega)
              have h3 := two_and (runB (cth l k) (nth p k) (h : Nat)) ((nth ha.st h == 0))
              rcases h3 with ⟨T1, HQ⟩ | ⟨T1, T2, HQ⟩ | ⟨T1, T2, HQ⟩
              rotate_left 2
              · have hfo := hStaff_found ht0 ht4 T1 T2 hg.out
                have H2 : Hid (breachS ha l p = ⟨2, k, 0, h⟩) := by
                  have : singleS ha l p = ⟨2, k, 0, h⟩ := by
                    rw [S1.out, sgl2, fIdx_some (q := fun i => decide (0 ≤ hStaff ha (cth l i) (nth p i))) hlt (by rw [hfo]; exact decide_eq_true (by omega)) hf.out]
                    dsimp only
                    rw [hfo]
                  simp [Hid, breachS, this]
                clear hfo HQ
                go_wp2_with (fail)
                refine wp_region_ext (by kernel_rfl) (by kernel_rfl) hr ?_
                repeat (first | go_big_quiet_step ((go_at_call 50; with_reducible exact Calls.later (HRU.out _))) | quiet_step ((go_at_call 50; with_reducible exact Calls.later (HRU.out _))))
                refine wpQuiet_nil ?_
                rintro _ ⟨nq, rfl⟩
                have hq := nq.ok
                have rf0 := rf nq.val hq
                clear c0 c1 c2 c3 c4 c5 c6 d0 e0
                go_wp2_with (fail)
                refine bodyPost_ret (v := bval (breachS ha l p)) (by rw [H2.out]; simp [results, Try.results24, go_sem, r0 _ hq, r1 _ hq, r2 _ hq, r3 _ hq]) rfl ⟨rfl, ?_⟩
                exact ((((he.trans hq).set (by simp) _).set (by simp) _).set (by simp) _).set (by simp) _
              all_goals
                have hg2 := Lib.hid (all_lt_succ (q := fun j => (runB (cth l k) (nth p k) (j : Nat) && (nth ha.st j == 0))) hg.out HQ)
                clear HQ
                go_wp2_with (fail)
                refine wp_region_ext (by kernel_rfl) (by kernel_rfl) hr ?_
                repeat (first | go_big_quiet_step ((go_at_call 50; with_reducible exact Calls.later (HRU.out _))) | quiet_step ((go_at_call 50; with_reducible exact Calls.later (HRU.out _))))
                refine wpQuiet_nil ?_
                rintro _ ⟨nq, rfl⟩
                have hq := nq.ok
                clear c0 c1 c2 c3 c4 c5 c6 d0 e0
                go_wp2_with (fail)
                go_roundw
                case rel => exact ⟨h + 1, by omega, by go_num, hq, hg2⟩
                case measure => simp [intOf]; omega
            · obtain rfl : h = ha.st.length := by omega
              have hno := hStaff_no ht0 HT1.out ht4 hg.out
              have hf2 := Lib.hid (all_lt_succ (q := fun j => decide (0 ≤ hStaff ha (cth l j) (nth p j))) hf.out (by show decide (0 ≤ hStaff ha (cth l k) (nth p k)) = false; rw [hno]; rfl))
              clear hno c0 c1 c2 c3 c4 c5 c6 d0
              go_wp2_with (fail)
              go_roundw
              case rel => exact ⟨k + 1, by omega, by go_num, hr, hf2⟩
              case measure => simp [intOf]; omega
        · obtain rfl : k = l.length := by omega
          have S2 : Hid (singleS ha l p = sgl3 ha l p) := by rw [Hid, S1.out, sgl2, fIdx_none hf.out]
          clear hf hlt
          go_wp2_with (fail)
          obtain ⟨wo3, rfl⟩ : ∃ wo : World, wo = wr := ⟨_, rfl⟩
          go_loopw [10] (fun i wr => ∃ k : Nat, k ≤ l.length ∧ i = .int .i64 k ∧ Ext w1 wr ∧ Hid (∀ j, j < k → decide (0 ≤ hEnergy ha (cth l j) (nth p j)) = false)) (fun i _ => l.length - (intOf i).toNat)
          case atStart => exact ⟨0, Nat.zero_le _, rfl, hr, fun j hj => by omega⟩
          case round =>
            clear hr
            obtain ⟨k, hk, rfl, hr, hf⟩ := hrel
            by_cases hlt : k < l.length
            · obtain ⟨b, o, rfl, c0, c1, c2, c3, c4, c5, c6⟩ := HL.out.at k hlt
              obtain ⟨b', o', rfl, d0⟩ := HP'.out.at k (by omega)
              have hkp : k < pn := by omega
              have hti := inTime_bd (HV.out.cb k hlt) (I1.out k hlt)
              obtain ⟨ht0, ht1, ht2, -, -, -⟩ := hti
              have ht3 : nth p k ≤ 96 := by omega
              have ht4 : 0 ≤ (cth l k).ho := by omega
              have HT1 := Lib.hid ht1
              clear ht1 ht2
              go_wp2_with (fail)
              obtain ⟨wi3, rfl⟩ : ∃ wo : World, wo = wr := ⟨_, rfl⟩
              go_loopw [11] (fun v wr => ∃ h : Nat, h ≤ ha.st.length ∧ v = .int .i64 h ∧ Ext w1 wr ∧ Hid (∀ j, j < h → (runB (cth l k) (nth p k) (j : Nat) && decide (nth ha.en j < (cth l k).en)) = false)) (fun v _ => ha.st.length - (intOf v).toNat)
              case atStart => exact ⟨0, Nat.zero_le _, rfl, hr, fun j hj => by omega⟩
              case round =>
                clear hr
                obtain ⟨h, hh, rfl, hr, hg⟩ := hrel
                by_cases hht : h < ha.st.length
                · obtain ⟨bs, os, rfl, e0⟩ := HX.out.en.at h (by first | exact hht | (show h < ha.en.length; omega))
                  have hhe : h < ha.en.length := by omega
                  have HRU : Hid (∀ W, Calls Try.prog 50 #[cval (cth l k), .int .i64 (nth p k), .int .i64 (h : Nat)] W (Ret (.bool (runB (cth l k) (nth p k) (h : Nat))) W)) := fun W => runs_any (cth l k) (nth p k) h W (by omega) (by omega)
                  have h3 := two_and (runB (cth l k) (nth p k) (h : Nat)) (decide (nth ha.en h < (cth l k).en))
                  rcases h3 with ⟨T1, HQ⟩ | ⟨T1, T2, HQ⟩ | ⟨T1, T2, HQ⟩
                  rotate_left 2
                  · have hfo := hEnergy_found ht0 ht4 T1 T2 hg.out
                    have H2 : Hid (breachS ha l p = ⟨3, k, 0, h⟩) := by
                      have : singleS ha l p = ⟨3, k, 0, h⟩ := by
                        rw [S2.out, sgl3, fIdx_some (q := fun i => decide (0 ≤ hEnergy ha (cth l i) (nth p i))) hlt (by rw [hfo]; exact decide_eq_true (by omega)) hf.out]
                        dsimp only
                        rw [hfo]
                      simp [Hid, breachS, this]
                    clear hfo HQ
                    go_wp2_with (fail)
                    refine wp_region_ext (by kernel_rfl) (by kernel_rfl) hr ?_
                    repeat (first | go_big_quiet_step ((go_at_call 50; with_reducible exact Calls.later (HRU.out _))) | quiet_step ((go_at_call 50; with_reducible exact Calls.later (HRU.out _))))
                    refine wpQuiet_nil ?_
                    rintro _ ⟨nq, rfl⟩
                    have hq := nq.ok
                    have rf0 := rf nq.val hq
                    clear c0 c1 c2 c3 c4 c5 c6 d0 e0
                    go_wp2_with (fail)
                    refine bodyPost_ret (v := bval (breachS ha l p)) (by rw [H2.out]; simp [results, Try.results24, go_sem, r0 _ hq, r1 _ hq, r2 _ hq, r3 _ hq]) rfl ⟨rfl, ?_⟩
                    exact ((((he.trans hq).set (by simp) _).set (by simp) _).set (by simp) _).set (by simp) _
                  all_goals
                    have hg2 := Lib.hid (all_lt_succ (q := fun j => (runB (cth l k) (nth p k) (j : Nat) && decide (nth ha.en j < (cth l k).en))) hg.out HQ)
                    clear HQ
                    go_wp2_with (fail)
                    refine wp_region_ext (by kernel_rfl) (by kernel_rfl) hr ?_
                    repeat (first | go_big_quiet_step ((go_at_call 50; with_reducible exact Calls.later (HRU.out _))) | quiet_step ((go_at_call 50; with_reducible exact Calls.later (HRU.out _))))
                    refine wpQuiet_nil ?_
                    rintro _ ⟨nq, rfl⟩
                    have hq := nq.ok
                    clear c0 c1 c2 c3 c4 c5 c6 d0 e0
                    go_wp2_with (fail)
                    go_roundw
                    case rel => exact ⟨h + 1, by omega, by go_num, hq, hg2⟩
                    case measure => simp [intOf]; omega
                · obtain rfl : h = ha.st.length := by omega
                  have hno := hEnergy_no ht0 HT1.out ht4 hg.out
                  have hf2 := Lib.hid (all_lt_succ (q := fun j => decide (0 ≤ hEnergy ha (cth l j) (nth p j))) hf.out (by show decide (0 ≤ hEnergy ha (cth l k) (nth p k)) = false; rw [hno]; rfl))
                  clear hno c0 c1 c2 c3 c4 c5 c6 d0
                  go_wp2_with (fail)
                  go_roundw
                  case rel => exact ⟨k + 1, by omega, by go_num, hr, hf2⟩
                  case measure => simp [intOf]; omega
            · obtain rfl : k = l.length := by omega
              have S3 : Hid (singleS ha l p = Br.zero) := by rw [Hid, S2.out, sgl3, fIdx_none hf.out]
              clear hf hlt
              go_wp2_with (fail)
              obtain ⟨wo4, rfl⟩ : ∃ wo : World, wo = wr := ⟨_, rfl⟩
              have HB : Hid (breachS ha l p = brTunnel ha l p) := by simp [Hid, breachS, S3.out, Br.zero]
              go_loopw [12] (fun i wr => ∃ k : Nat, k ≤ l.length ∧ i = .int .i64 k ∧ Ext w1 wr ∧ Hid (∀ j, j < k → (nearOf ha l p j).isSome = false)) (fun i _ => l.length - (intOf i).toNat)
              case atStart => exact ⟨0, Nat.zero_le _, rfl, hr, fun j hj => by omega⟩
              case round =>
                clear hr
                obtain ⟨i, hi, rfl, hr, hf⟩ := hrel
                by_cases hlt : i < l.length
                · obtain ⟨wi4, rfl⟩ : ∃ wo : World, wo = wr := ⟨_, rfl⟩
                  go_wp2_with (fail)
                  go_loopw [13] (fun v wr => ∃ k : Nat, i < k ∧ k ≤ l.length ∧ v = .int .i64 k ∧ Ext w1 wr ∧ Hid (∀ j, j < k → (decide (i < j) && !apartB ha (cth l i) (cth l j) (nth p i) (nth p j)) = false)) (fun v _ => l.length - (intOf v).toNat)
                  case atStart => exact ⟨i + 1, by omega, by omega, by go_num, hr, fun j hj => by simp; omega⟩
                  case round =>
                    clear hr
                    obtain ⟨k, hik, hk, rfl, hq, hg⟩ := hrel
                    by_cases hkl : k < l.length
                    · have hna := HNE.out wr (he.trans hq) i k hlt hkl HBD.out
                      have hnn : nearB ha (cth l i) (cth l k) (nth p i) (nth p k) = !apartB ha (cth l i) (cth l k) (nth p i) (nth p k) := by
                        have q1 := inTime_bd (HV.out.cb i hlt) (I1.out i hlt)
                        have q2 := inTime_bd (HV.out.cb k hkl) (I1.out k hkl)
                        have q3 := gap_bd HV.out (cth l i) (cth l k)
                        exact near_apart (by omega) (by omega) (by omega) (by omega) (by omega) (by omega) (by omega)
                      rw [hnn] at hna
                      have HNA := Lib.hid hna
                      clear hna hnn
                      go_wp2_with (fail)
                      (with_reducible refine HNA.out.mono ?_); rintro e w3 ⟨rfl, he3⟩
                      have hq2 := hq.trans he3
                      cases hpk : apartB ha (cth l i) (cth l k) (nth p i) (nth p k)
                      · have e1 : nearOf ha l p i = some k := fIdx_some hkl (by simp [hpk, hik]) hg.out
                        have H2 : Hid (breachS ha l p = ⟨4, i, k, 0⟩) := by simp [Hid, HB.out, brTunnel, fIdx_some (q := fun i => (nearOf ha l p i).isSome) hlt (by simp [e1]) hf.out, e1]
                        clear e1
                        have rf0 := rf w3 hq2
                        go_wp2_with (fail)
                        refine bodyPost_ret (v := bval (breachS ha l p)) (by rw [H2.out]; simp [results, Try.results24, go_sem, r0 _ hq2, r1 _ hq2, r2 _ hq2, r3 _ hq2]) rfl ⟨rfl, ?_⟩
                        exact ((((he.trans hq2).set (by simp) _).set (by simp) _).set (by simp) _).set (by simp) _
                      · have hg2 := Lib.hid (all_lt_succ (q := fun j => (decide (i < j) && !apartB ha (cth l i) (cth l j) (nth p i) (nth p j))) hg.out (by simp [hpk]))
                        clear hpk
                        go_wp2_with (fail)
                        go_roundw
                        case rel => exact ⟨k + 1, by omega, by omega, by go_num, hq2, hg2⟩
                        case measure => simp [intOf]; omega
                    · obtain rfl : k = l.length := by omega
                      have e1 : nearOf ha l p i = none := fIdx_none hg.out
                      have hf2 := Lib.hid (all_lt_succ (q := fun j => (nearOf ha l p j).isSome) hf.out (by simp [e1]))
                      clear e1
                      go_wp2_with (fail)
                      go_roundw
                      case rel => exact ⟨i + 1, by omega, by go_num, hq, hf2⟩
                      case measure => simp [intOf]; omega
                · obtain rfl : i = l.length := by omega
                  have H1 : Hid (breachS ha l p = brRooms ha l p) := by simp [Hid, HB.out, brTunnel, fIdx_none hf.out]
                  clear hf hlt
                  go_wp2_with (fail)
                  obtain ⟨wo5, rfl⟩ : ∃ wo : World, wo = wr := ⟨_, rfl⟩
                  go_loopw [14] (fun v wr => ∃ h : Nat, h ≤ ha.st.length ∧ v = .int .i64 h ∧ Ext w1 wr ∧ Hid (∀ j, j < h → decide (ha.ro < cntTo l p l.length (j : Nat)) = false)) (fun v _ => ha.st.length - (intOf v).toNat)
                  case atStart => exact ⟨0, Nat.zero_le _, rfl, hr, fun j hj => by omega⟩
                  case round =>
                    clear hr
                    obtain ⟨h, hh, rfl, hr, hg⟩ := hrel
                    by_cases hht : h < ha.st.length
                    · have hco : ∀ n : Later wr, Calls Try.prog 46 #[.slice la l.length lc, .slice pa pn pc, .int .i64 (h : Nat)] n.val (Ret (.int .i64 (cntTo l p l.length (h : Nat))) n.val) := fun n => HCO.out n.val ((he.trans hr).trans n.ok) h HBD.out (by omega)
                      have HC := Lib.hid hco
                      clear hco
                      have hr0 := Ext.refl wr
                      have e0 := fun W (h : Ext wr W) => b0 W (hr.trans h)
                      go_wp2_with (fail)
                      refine wp_region_ext (by kernel_rfl) (by kernel_rfl) hr0 ?_
                      repeat (first | go_big_quiet_step ((go_at_call 46; with_reducible exact Calls.later (HC.out _))) | quiet_step ((go_at_call 46; with_reducible exact Calls.later (HC.out _))))
                      refine wpQuiet_nil ?_
                      rintro _ ⟨nq, rfl⟩
                      have hq := hr.trans nq.ok
                      clear hr0
                      cases hpk : decide (ha.ro < cntTo l p l.length (h : Nat))
                      · have hg2 := Lib.hid (all_lt_succ (q := fun j => decide (ha.ro < cntTo l p l.length (j : Nat))) hg.out hpk)
                        go_wp2_with (fail)
                        go_roundw
                        case rel => exact ⟨h + 1, by omega, by go_num, hq, hg2⟩
                        case measure => simp [intOf]; omega
                      · have H2 : Hid (breachS ha l p = ⟨5, 0, 0, h⟩) := by
                          have := fIdx_some (q := fun j => decide (ha.ro < cntTo l p l.length (j : Nat))) hht hpk hg.out
                          simp [Hid, H1.out, brRooms, this]
                        have rf0 := rf nq.val hq
                        go_wp2_with (fail)
                        refine bodyPost_ret (v := bval (breachS ha l p)) (by rw [H2.out]; simp [results, Try.results24, go_sem, r0 _ hq, r1 _ hq, r2 _ hq, r3 _ hq]) rfl ⟨rfl, ?_⟩
                        exact ((((he.trans hq).set (by simp) _).set (by simp) _).set (by simp) _).set (by simp) _
                    · obtain rfl : h = ha.st.length := by omega
                      have H2 : Hid (breachS ha l p = Br.zero) := by
                        have := fIdx_none (q := fun j => decide (ha.ro < cntTo l p l.length (j : Nat))) hg.out
                        simp [Hid, H1.out, brRooms, this]
                      have rf0 := rf wr hr
                      go_wp2_with (fail)
                      refine bodyPost_ret (v := bval (breachS ha l p)) (by rw [H2.out]; simp [results, Try.results24, go_sem, r0 _ hr, r1 _ hr, r2 _ hr, r3 _ hr, Br.zero]) rfl ⟨rfl, ?_⟩
                      exact ((((he.trans hr).set (by simp) _).set (by simp) _).set (by simp) _).set (by simp) _
end Go.Proofs.Ytjpgignbjkgjiaa
