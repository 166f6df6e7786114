import Derived.Test.YtjpgignbjkgjiaaA7
import Derived.Test.YtjpgignbjkgjiaaPlain
set_option linter.unusedVariables false
set_option linter.unusedSimpArgs false
namespace Go.Proofs.Ytjpgignbjkgjiaa
open Go.RowKit
set_option maxHeartbeats 1000000 in
theorem breach_any (ha : Hal) (x : HP) (l : List Camp) (la : Option Addr) (lc : Nat) (p : List Int) (pa : Option Addr) (pn pc : Nat) (w : World) (hh : HallAt w ha x) (hl : Camps w la l) (hp : Ints w pa p) (hpl : l.length ≤ p.length) (hpn : p.length = pn)
    (hv : VH ha l) : Calls Try.prog 54 #[hval ha x, .slice la l.length lc, .slice pa pn pc] w (Ret (bval (breachS ha l p)) w) := by
  have hsingle := fun W (h : Ext w W) => single_any ha x l la lc p pa pn pc W (hh.ext h) (hl.ext h) (hp.ext h) hpl hpn hv
  have hprep := fun W (h : Ext w W) => prepared_any ha x l la lc p pa pn pc W (hl.ext h) (hp.ext h) hpl hpn hv
  have HSI := Lib.hid hsingle; have HPR := Lib.hid hprep; clear hsingle hprep
  obtain ⟨sa, sc, ea, ec⟩ := x
  have HH := Lib.hid hh; clear hh
  have HV := Lib.hid hv
  have hl16 := hv.ll
  clear hv
  have hpl' : l.length ≤ pn := by rw [← hpn]; exact hpl
  clear hpn
  cases T1 : ((singleS ha l p).ru != 0)
  rotate_left
  · have HB : Hid (breachS ha l p = singleS ha l p) := by simp at T1; simp [Hid, breachS, T1]
    go_enter Try.func54, Try.ntmps54
    go_wp2_with (fail)
    generalize hw1 : World.alloc _ _ = w1
    obtain ⟨he, o1, o2, -⟩ := alloc2 hw1
    obtain ⟨b0, b1, b2, b3⟩ := obj_cells4 o1
    obtain ⟨r0, r1, r2, r3⟩ := obj_cells4 o2
    have rf := obj_free o2
    clear hw1 o1 o2
    (with_reducible refine (HSI.out _ he).mono ?_); rintro e w2 ⟨rfl, he2⟩
    have rf0 := fun W (h : Ext w2 W) => rf W (he2.trans h)
    have s0 := fun W (h : Ext w2 W) => r0 W (he2.trans h)
    have s1 := fun W (h : Ext w2 W) => r1 W (he2.trans h)
    have s2 := fun W (h : Ext w2 W) => r2 W (he2.trans h)
    have s3 := fun W (h : Ext w2 W) => r3 W (he2.trans h)
    go_wp2_with (fail)
    generalize hw3 : World.alloc _ _ = w3
    obtain ⟨he3, -, -⟩ := alloc1 hw3
    clear hw3
    have hr3 := he2.trans he3
    refine bodyPost_ret (v := bval (breachS ha l p)) (by rw [HB.out]; simp [results, Try.results54, go_sem, r0 _ hr3, r1 _ hr3, r2 _ hr3, r3 _ hr3]) rfl ⟨rfl, ?_⟩
    exact ((((he.trans hr3).set (by simp) _).set (by simp) _).set (by simp) _).set (by simp) _
  · have hru : (singleS ha l p).ru = 0 := by simpa using T1
    have HB : Hid (breachS ha l p = brTunnel ha l p) := by simp [Hid, breachS, hru]
    have HOK := Lib.hid (single_ok hru)
    clear hru
    go_enter Try.func54, Try.ntmps54
    go_wp2_with (fail)
    generalize hw1 : World.alloc _ _ = w1
    obtain ⟨he, o1, o2, -⟩ := alloc2 hw1
    obtain ⟨b0, b1, b2, b3⟩ := obj_cells4 o1
    obtain ⟨r0, r1, r2, r3⟩ := obj_cells4 o2
    have rf := obj_free o2
    clear hw1 o1 o2
    (with_reducible refine (HSI.out _ he).mono ?_); rintro e w2 ⟨rfl, he2⟩
    go_wp2_with (fail)
    generalize hw3 : World.alloc _ _ = w3
    obtain ⟨he3, -, -⟩ := alloc1 hw3
    clear hw3
    have hr3 := Lib.hid (he2.trans he3)
    clear he2 he3
    have HL := Lib.hid (hl.ext he)
    have HP' := Lib.hid (hp.ext he)
    have HX := Lib.hid (HH.out.ext he)
    clear hl hp
    go_loopw [22] (fun i wr => ∃ k : Nat, k ≤ l.length ∧ i = .int .i64 k ∧ Ext w1 wr ∧ Hid (∀ j, j < k → (nearOf ha l p j).isSome = false)) (fun i _ => l.length - (intOf i).toNat)
    case atStart => exact ⟨0, Nat.zero_le _, rfl, hr3.out, fun j hj => by omega⟩
    case round =>
      obtain ⟨i, hi, rfl, hr, hf⟩ := hrel
      by_cases hlt : i < l.length
      · obtain ⟨wo, rfl⟩ : ∃ wo : World, wo = wr := ⟨_, rfl⟩
        go_wp2_with (fail)
        go_loopw [9] (fun v wr => ∃ k : Nat, i < k ∧ k ≤ l.length ∧ v = .int .i64 k ∧ Ext w1 wr ∧ Hid (∀ j, j < k → (decide (i < j) && !apartB ha (cth l i) (cth l j) (nth p i) (nth p j)) = false)) (fun v _ => l.length - (intOf v).toNat)
        case atStart => exact ⟨i + 1, by omega, by omega, by go_num, hr, fun j hj => by simp; omega⟩
        case round =>
          obtain ⟨k, hik, hk, rfl, hq, hg⟩ := hrel
          by_cases hkl : k < l.length
          · obtain ⟨b, o, rfl, c0, c1, c2, c3, c4, c5, c6⟩ := HL.out.at k hkl
            obtain ⟨b', o', hbo, e0, e1, e2, e3, e4, e5, e6⟩ := HL.out.at i hlt
            simp only [Option.some.injEq, Addr.mk.injEq, and_true] at hbo
            obtain ⟨rfl, rfl⟩ := hbo
            obtain ⟨b', o', rfl, d0⟩ := HP'.out.at k (by omega)
            obtain ⟨b2', o2', hbo, d1⟩ := HP'.out.at i (by omega)
            simp only [Option.some.injEq, Addr.mk.injEq, and_true] at hbo
            obtain ⟨rfl, rfl⟩ := hbo
            have hkp : k < pn := by omega
            have hip : i < pn := by omega
            have hap : ∀ n : Later w1, Calls Try.prog 72 #[hval ha ⟨sa, sc, ea, ec⟩, cval (cth l i), cval (cth l k), .int .i64 (nth p i), .int .i64 (nth p k)] n.val (Ret (.bool (apartB ha (cth l i) (cth l k) (nth p i) (nth p k))) n.val) := fun n => by
              have a1 := HV.out.cb i hlt; have a2 := HV.out.cb k hkl
              have a3 := inTime_bd a1 (HOK.out.1 i hlt); have a4 := inTime_bd a2 (HOK.out.1 k hkl)
              have a5 := HV.out.n2
              exact apart_any ha _ _ _ _ _ n.val ⟨HV.out.c0, HV.out.c1⟩ (by omega) (by omega) (by omega) (by omega)
            have HAP := Lib.hid hap; clear hap
            go_wp2_with (fail)
            refine wp_region_ext (by kernel_rfl) (by kernel_rfl) hq ?_
            repeat (quiet_step ((go_at_call 72; exact Calls.later (HAP.out _))))
            refine wpQuiet_nil ?_
            rintro _ ⟨nq, rfl⟩
            have hq2 := nq.ok
            cases hpk : apartB ha (cth l i) (cth l k) (nth p i) (nth p k)
            · have e1 : nearOf ha l p i = some k := fIdx_some hkl (by simp [hpk, hik]) hg.out
              have H2 : Hid (breachS ha l p = ⟨4, i, k, 0⟩) := by simp [Hid, HB.out, brTunnel, fIdx_some (q := fun i => (nearOf ha l p i).isSome) hlt (by simp [e1]) hf.out, e1]
              clear e1
              have rf0 := rf nq.val hq2
              go_wp2_with (fail)
              refine bodyPost_ret (v := bval (breachS ha l p)) (by rw [H2.out]; simp [results, Try.results54, go_sem, r0 _ hq2, r1 _ hq2, r2 _ hq2, r3 _ hq2]) rfl ⟨rfl, ?_⟩
              exact ((((he.trans hq2).set (by simp) _).set (by simp) _).set (by simp) _).set (by simp) _
            · have hg2 := Lib.hid (all_lt_succ (q := fun j => (decide (i < j) && !apartB ha (cth l i) (cth l j) (nth p i) (nth p j))) hg.out (by simp [hpk]))
              clear hpk
              go_wp2_with (fail)
              go_roundw
              case rel => exact ⟨k + 1, by omega, by omega, by go_num, hq2, hg2⟩
              case measure => simp [intOf]; omega
          · obtain rfl : k = l.length := by omega
            have e1 : nearOf ha l p i = none := fIdx_none hg.out
            have hf2 := Lib.hid (all_lt_succ (q := fun j => (nearOf ha l p j).isSome) hf.out (by simp [e1]))
            clear e1
            go_wp2_with (fail)
            go_roundw
            case rel => exact ⟨i + 1, by omega, by go_num, hq, hf2⟩
            case measure => simp [intOf]; omega
      · obtain rfl : i = l.length := by omega
        have H1 : Hid (breachS ha l p = brRooms ha l p) := by simp [Hid, HB.out, brTunnel, fIdx_none hf.out]
        go_wp2_with (fail)
        (with_reducible refine (HPR.out _ (he.trans hr) HOK.out.1).mono ?_); rintro e w3 ⟨a, c, rfl, he3, hown⟩
        have hr3 := hr.trans he3
        obtain ⟨hin, -, -⟩ := hown.ints
        have hix := indexFunc_int 73 #[.pointer (some ⟨w.heap.size, 0, none⟩)] a _ c (fl ha.st.length fun i => cntTo l p l.length i) (fun v => decide (ha.ro < v)) w3 rfl (by rw [fl_len]; have := HV.out.n2; omega) hin
          fun i hi => ⟨enters73, fun W hW => breach1 _ ha.ro w.heap.size W fun W' hW' => b0 W' (hr3.trans (hW.trans hW'))⟩
        rw [findIdx_fl] at hix
        have HIX := Lib.hid hix; clear hix hown hin
        go_wp2_with (fail)
        (with_reducible refine HIX.out.mono ?_); rintro e w4 ⟨rfl, he4⟩
        have hr4 := hr3.trans he4
        clear HIX
        rcases fIdx_cases (fun hour => decide (ha.ro < cntTo l p l.length hour)) ha.st.length with ⟨k, k1, k2, k3, k4⟩ | ⟨k1, k2⟩
        · have H2 : Hid (breachS ha l p = ⟨5, 0, 0, k⟩) := by simp [Hid, H1.out, brRooms, k4]
          rw [k4]
          clear k2 k3 k4
          have rf0 := rf w4 hr4
          simp only [idxOr]
          have hk0 : (0 : Int) ≤ (k : Int) := by omega
          go_wp2_with (fail)
          refine bodyPost_ret (v := bval (breachS ha l p)) (by rw [H2.out]; simp [results, Try.results54, go_sem, r0 _ hr4, r1 _ hr4, r2 _ hr4, r3 _ hr4]) rfl ⟨rfl, ?_⟩
          exact ((((he.trans hr4).set (by simp) _).set (by simp) _).set (by simp) _).set (by simp) _
        · have H2 : Hid (breachS ha l p = Br.zero) := by simp [Hid, H1.out, brRooms, k2]
          rw [k2]
          clear k1 k2
          have rf0 := rf w4 hr4
          simp only [idxOr]
          go_wp2_with (fail)
          refine bodyPost_ret (v := bval (breachS ha l p)) (by rw [H2.out]; simp [results, Try.results54, go_sem, r0 _ hr4, r1 _ hr4, r2 _ hr4, r3 _ hr4, Br.zero]) rfl ⟨rfl, ?_⟩
          exact ((((he.trans hr4).set (by simp) _).set (by simp) _).set (by simp) _).set (by simp) _
end Go.Proofs.Ytjpgignbjkgjiaa
