import Derived.Test.YtjpgignbjkgjiaaA8
set_option linter.unusedVariables false
set_option linter.unusedSimpArgs false
namespace Go.Proofs.Ytjpgignbjkgjiaa
open Go.RowKit
set_option maxHeartbeats 1000000 in
theorem Check_any (ha : Hal) (x : HP) (l : List Camp) (la : Option Addr) (lc : Nat) (p : List Int) (pa : Option Addr) (pn pc : Nat) (w : World) (hh : HallAt w ha x) (hl : Camps w la l) (hp : Ints w pa p) (hpn : p.length = pn) :
    Calls Try.prog 39 #[hval ha x, .slice la l.length lc, .slice pa pn pc] w (Ret (.tuple #[bval (chkB ha l p), .int .i64 (errS ha l p)]) w) := by
  have hcheck := fun W (h : Ext w W) => check_any ha x l la lc pa pn pc W (hh.ext h) (hl.ext h)
  have hbreach := fun W (h : Ext w W) q1 q2 => breach_any ha x l la lc p pa pn pc W (hh.ext h) (hl.ext h) (hp.ext h) q1 hpn q2
  have HC := Lib.hid hcheck; have HBR := Lib.hid hbreach; clear hcheck hbreach
  have HPN := Lib.hid hpn; clear hpn
  have HZ := Lib.hid (fun h => @checkE_zero ha l pn h)
  obtain ⟨sa, sc, ea, ec⟩ := x
  clear hh hl hp
  cases T1 : (checkE ha l pn != 0)
  rotate_left
  · have HB : Hid (errS ha l p = checkE ha l pn ∧ chkB ha l p = Br.zero) := by
      have h1 : ¬ checkE ha l p.length = 0 := by rw [HPN.out]; simpa using T1
      refine ⟨?_, ?_⟩
      · rw [errS, if_neg h1, HPN.out]
      · rw [chkB, if_neg h1]
    go_enter Try.func39, Try.ntmps39
    go_wp2_with (fail)
    generalize hw1 : World.alloc _ _ = w1
    obtain ⟨he, o1, o2, -⟩ := alloc2 hw1
    obtain ⟨b0, b1, b2, b3⟩ := obj_cells4 o1
    obtain ⟨r0, r1, r2, r3⟩ := obj_cells4 o2
    have rf := obj_free o2
    clear hw1 o1 o2
    (with_reducible refine (HC.out _ he).mono ?_); rintro e w2 ⟨rfl, he2⟩
    have rf0 := rf w2 he2
    go_wp2_with (fail)
    refine bodyPost_ret (v := .tuple #[bval (chkB ha l p), .int .i64 (errS ha l p)]) (by rw [HB.out.1, HB.out.2]; simp [results, Try.results39, go_sem, r0 _ he2, r1 _ he2, r2 _ he2, r3 _ he2, Br.zero]) rfl ⟨rfl, ?_⟩
    exact ((((he.trans he2).set (by simp) _).set (by simp) _).set (by simp) _).set (by simp) _
  · have h0 : checkE ha l pn = 0 := by simpa using T1
    obtain ⟨hv, hpl⟩ := HZ.out h0
    have h1 : checkE ha l p.length = 0 := by rw [HPN.out]; exact h0
    have h2 : l.length ≤ p.length := by rw [HPN.out]; omega
    have HV := Lib.hid hv
    clear h0 hv hpl
    cases T2 : ((breachS ha l p).ru != 0)
    · have HB : Hid (errS ha l p = 0 ∧ chkB ha l p = Br.zero) := by
        have h3 : (breachS ha l p).ru = 0 := by simpa using T2
        exact ⟨by rw [errS, if_pos h1, if_pos h3], by rw [chkB, if_pos h1, if_pos h3]⟩
      clear h1
      go_enter Try.func39, Try.ntmps39
      go_wp2_with (fail)
      generalize hw1 : World.alloc _ _ = w1
      obtain ⟨he, o1, o2, -⟩ := alloc2 hw1
      obtain ⟨b0, b1, b2, b3⟩ := obj_cells4 o1
      obtain ⟨r0, r1, r2, r3⟩ := obj_cells4 o2
      have rf := obj_free o2
      clear hw1 o1 o2
      (with_reducible refine (HC.out _ he).mono ?_); rintro e w2 ⟨rfl, he2⟩
      go_wp2_with (fail)
      (with_reducible refine (HBR.out _ (he.trans he2) h2 HV.out).mono ?_); rintro e w3 ⟨rfl, he3⟩
      replace he3 := he2.trans he3
      clear he2
      have rf0 := fun W (h : Ext w3 W) => rf W (he3.trans h)
      have s0 := fun W (h : Ext w3 W) => r0 W (he3.trans h)
      have s1 := fun W (h : Ext w3 W) => r1 W (he3.trans h)
      have s2 := fun W (h : Ext w3 W) => r2 W (he3.trans h)
      have s3 := fun W (h : Ext w3 W) => r3 W (he3.trans h)
      go_wp2_with (fail)
      generalize hw4 : World.alloc _ _ = w4
      obtain ⟨he4, -, -⟩ := alloc1 hw4
      clear hw4
      have hr4 := he3.trans he4
      refine bodyPost_ret (v := .tuple #[bval (chkB ha l p), .int .i64 (errS ha l p)]) (by rw [HB.out.1, HB.out.2]; simp [results, Try.results39, go_sem, r0 _ hr4, r1 _ hr4, r2 _ hr4, r3 _ hr4, Br.zero]) rfl ⟨rfl, ?_⟩
      exact ((((he.trans hr4).set (by simp) _).set (by simp) _).set (by simp) _).set (by simp) _
    · have HB : Hid (errS ha l p = 100 ∧ chkB ha l p = breachS ha l p) := by
        have h3 : ¬ (breachS ha l p).ru = 0 := by simpa using T2
        exact ⟨by rw [errS, if_pos h1, if_neg h3], by rw [chkB, if_pos h1, if_neg h3]⟩
      clear h1
      go_enter Try.func39, Try.ntmps39
      go_wp2_with (fail)
      generalize hw1 : World.alloc _ _ = w1
      obtain ⟨he, o1, o2, -⟩ := alloc2 hw1
      obtain ⟨b0, b1, b2, b3⟩ := obj_cells4 o1
      obtain ⟨r0, r1, r2, r3⟩ := obj_cells4 o2
      have rf := obj_free o2
      clear hw1 o1 o2
      (with_reducible refine (HC.out _ he).mono ?_); rintro e w2 ⟨rfl, he2⟩
      go_wp2_with (fail)
      (with_reducible refine (HBR.out _ (he.trans he2) h2 HV.out).mono ?_); rintro e w3 ⟨rfl, he3⟩
      replace he3 := he2.trans he3
      clear he2
      have rf0 := fun W (h : Ext w3 W) => rf W (he3.trans h)
      have s0 := fun W (h : Ext w3 W) => r0 W (he3.trans h)
      have s1 := fun W (h : Ext w3 W) => r1 W (he3.trans h)
      have s2 := fun W (h : Ext w3 W) => r2 W (he3.trans h)
      have s3 := fun W (h : Ext w3 W) => r3 W (he3.trans h)
      go_wp2_with (fail)
      generalize hw4 : World.alloc _ _ = w4
      obtain ⟨he4, -, -⟩ := alloc1 hw4
      clear hw4
      have hr4 := he3.trans he4
      refine bodyPost_ret (v := .tuple #[bval (chkB ha l p), .int .i64 (errS ha l p)]) (by rw [HB.out.1, HB.out.2]; simp [results, Try.results39, go_sem, r0 _ hr4, r1 _ hr4, r2 _ hr4, r3 _ hr4]) rfl ⟨rfl, ?_⟩
      exact ((((he.trans hr4).set (by simp) _).set (by simp) _).set (by simp) _).set (by simp) _
set_option maxHeartbeats 1000000 in
theorem cost_any (l : List Camp) (la : Option Addr) (lc n : Nat) (p : List Int) (pa : Option Addr) (pn pc : Nat) (w : World) (hl : Camps w la l) (hp : Ints w pa p) (hpl : l.length ≤ p.length) (hpn : p.length = pn) (hl16 : l.length ≤ 16)
    (hc : ∀ i, i < l.length → CB n (cth l i)) (ht : ∀ i, i < l.length → 0 ≤ nth p i ∧ nth p i ≤ 96) :
    Calls Try.prog 61 #[.slice la l.length lc, .slice pa pn pc] w (Ret (.int .i64 (costTo l p l.length)) w) := by
  have HCB := Lib.hid hc; have HT := Lib.hid ht; clear hc ht
  have HPN := Lib.hid hpn; clear hpn
  have hpl' : l.length ≤ pn := by rw [← HPN.out]; exact hpl
  go_enter Try.func61, Try.ntmps61
  go_wp2_with (fail)
  go_loopw [5, 10] (fun s i wr => ∃ k : Nat, k ≤ l.length ∧ i = .int .i64 k ∧ s = .int .i64 (costTo l p k) ∧ Ext w wr) (fun _ i _ => l.length - (intOf i).toNat)
  case atStart => exact ⟨0, Nat.zero_le _, rfl, rfl, Ext.refl _⟩
  case round =>
    obtain ⟨k, hk, rfl, rfl, hr⟩ := hrel
    by_cases hlt : k < l.length
    · obtain ⟨b, o, rfl, c0, c1, c2, c3, c4, c5, c6⟩ := hl.at k hlt
      obtain ⟨b', o', rfl, d0⟩ := hp.at k (by omega)
      have hkp : k < pn := by omega
      go_wp2_with (fail)
      generalize hw2 : World.alloc _ _ = w2
      obtain ⟨he2, o1, -⟩ := alloc1 hw2
      obtain ⟨a0, a1, a2, a3, a4, a5, a6⟩ := obj_cells7 o1
      clear hw2 o1 c0 c1 c2 c3 c4 c5 c6 a0 a1 a3 a4 a5
      have hr2 := hr.trans he2
      have hr0 := Ext.refl w2
      replace d0 := fun W (h : Ext w2 W) => d0 W (hr2.trans h)
      refine wp_region_ext (by kernel_rfl) (by kernel_rfl) hr0 ?_
      repeat (quiet_step (fail))
      refine wpQuiet_nil ?_
      rintro _ ⟨nq, rfl⟩
      have e1 : IntKind.i64.wrap (costTo l p k + IntKind.i64.wrap ((cth l k).we * IntKind.i64.wrap (nth p k + (cth l k).ho))) = costTo l p (k + 1) := by
        have q1 := we_bd (HCB.out k hlt) (HT.out k hlt).1 (HT.out k hlt).2
        have q2 := costTo_bd HCB.out HT.out k hk
        have q3 := (HCB.out k hlt).ho0; have q4 := (HCB.out k hlt).ho1
        have q5 := HT.out k hlt
        rw [IntWalk.i64_in (nth p k + (cth l k).ho) (by omega), IntWalk.i64_in ((cth l k).we * (nth p k + (cth l k).ho)) (by omega), IntWalk.i64_in _ (by omega)]
        rfl
      rw [e1]
      clear e1
      have hr3 := hr2.trans nq.ok
      go_wp2_with (fail)
      go_roundw
      case rel => exact ⟨k + 1, by omega, by go_num, rfl, hr3⟩
      case measure => simp [intOf]; omega
    · obtain rfl : k = l.length := by omega
      go_wp2_with (fail)
      go_ret
      exact ⟨rfl, hr⟩
def costR (ha : Hal) (l : List Camp) (p : List Int) : Int := if errS ha l p = 0 then costTo l p l.length else 0
set_option maxHeartbeats 1000000 in
theorem Cost_any (ha : Hal) (x : HP) (l : List Camp) (la : Option Addr) (lc : Nat) (p : List Int) (pa : Option Addr) (pn pc : Nat) (w : World) (hh : HallAt w ha x) (hl : Camps w la l) (hp : Ints w pa p) (hpn : p.length = pn) :
    Calls Try.prog 36 #[hval ha x, .slice la l.length lc, .slice pa pn pc] w (Ret (.tuple #[.int .i64 (costR ha l p), .int .i64 (errS ha l p)]) w) := by
  have hcheck := fun W (h : Ext w W) => Check_any ha x l la lc p pa pn pc W (hh.ext h) (hl.ext h) (hp.ext h) hpn
  have HC := Lib.hid hcheck; clear hcheck
  have hcost := fun W (h : Ext w W) q1 q2 q3 q4 => cost_any l la lc ha.st.length p pa pn pc W (hl.ext h) (hp.ext h) q1 hpn q2 q3 q4
  have HCO := Lib.hid hcost; clear hcost
  have HPN := Lib.hid hpn; clear hpn
  obtain ⟨sa, sc, ea, ec⟩ := x
  clear hh hl hp
  cases T1 : (errS ha l p != 0)
  · have h0 : errS ha l p = 0 := by simpa using T1
    have HB : Hid (costR ha l p = costTo l p l.length ∧ errS ha l p = 0) := ⟨by rw [costR, if_pos h0], h0⟩
    obtain ⟨hv, hpl, hbr⟩ := errS_zero h0
    have HV := Lib.hid hv; have HOK := Lib.hid (single_ok (breach_single hbr))
    have hpl' : l.length ≤ p.length := by omega
    clear h0 hv hpl hbr
    go_enter Try.func36, Try.ntmps36
    go_wp2_with (fail)
    generalize hw1 : World.alloc _ _ = w1
    obtain ⟨he, o1, -⟩ := alloc1 hw1
    obtain ⟨b0, b1, b2, b3⟩ := obj_cells4 o1
    clear hw1 o1
    (with_reducible refine (HC.out _ he).mono ?_); rintro e w2 ⟨rfl, he2⟩
    go_wp2_with (fail)
    generalize hw4 : World.alloc _ _ = w4
    obtain ⟨he4, -, -⟩ := alloc1 hw4
    clear hw4
    have hr4 := (he.trans he2).trans he4
    have q4 : ∀ i, i < l.length → 0 ≤ nth p i ∧ nth p i ≤ 96 := fun i hi => by
      have := inTime_bd (HV.out.cb i hi) (HOK.out.1 i hi); have := HV.out.n2; omega
    have hk := HCO.out w4 hr4 hpl' HV.out.ll HV.out.cb q4
    clear q4
    (with_reducible refine hk.mono ?_); clear hk; rintro e w5 ⟨rfl, he5⟩
    go_wp2_with (fail)
    go_ret2
    exact ⟨by rw [HB.out.1, HB.out.2]; rfl, hr4.trans he5⟩
  · have HB : Hid (costR ha l p = 0) := by
      have : ¬ errS ha l p = 0 := by simpa using T1
      rw [Hid, costR, if_neg this]
    go_enter Try.func36, Try.ntmps36
    go_wp2_with (fail)
    generalize hw1 : World.alloc _ _ = w1
    obtain ⟨he, o1, -⟩ := alloc1 hw1
    obtain ⟨b0, b1, b2, b3⟩ := obj_cells4 o1
    clear hw1 o1
    (with_reducible refine (HC.out _ he).mono ?_); rintro e w2 ⟨rfl, he2⟩
    go_wp2_with (fail)
    go_ret2
    exact ⟨by rw [HB.out]; rfl, (he.trans he2).alloc _⟩
end Go.Proofs.Ytjpgignbjkgjiaa
