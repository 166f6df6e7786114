/-
  Texts merged: R11, R12, R13, R14.
-/
import Derived.Test.YtjpgignbjkgjiaaR10
import Derived.Test.YtjpgignbjkgjiaaP10
section
set_option linter.unusedVariables false
set_option linter.unusedSimpArgs false
namespace Go.Proofs.Ytjpgignbjkgjiaa
open Go.RowKit
theorem hoursS_take (n : Nat) (frm : Int) (d : Nat) (h : d < (n - frm).toNat) : (hoursS n frm).take (d + 1) = (hoursS n frm).take d ++ [frm + (d : Int)] := by
  rw [List.take_succ_eq_append_getElem (by rw [hoursS_len]; exact h)]
  congr 2
  simp [hoursS]
theorem own_lit0 (w : World) : OwnI (w.alloc (.cells #[] 3)) w.heap.size (.slice (some ⟨w.heap.size, 0, none⟩) 0 0) [] := own_empty w 3 1
set_option maxHeartbeats 1000000 in
theorem hours_any (ha : Hal) (x : HP) (frm : Int) (w : World) (hn : ha.st.length ≤ 1000) (h0 : -1000 ≤ frm) (h1 : frm ≤ 100000) :
    Calls Try.prog 26 #[hval ha x, .int .i64 frm] w (RetI (hoursS ha.st.length frm) w) := by
  obtain ⟨sa, sc, ea, ec⟩ := x
  obtain ⟨m, hm⟩ : ∃ m : Nat, m = ((ha.st.length : Int) - frm).toNat := ⟨_, rfl⟩
  have hm1 : m ≤ 2000 := by omega
  have hm2 : ∀ d : Nat, d ≤ m → (frm + d < (ha.st.length : Int) ↔ d < m) := fun d hd => by omega
  have HM := Lib.hid hm
  have HM2 := Lib.hid hm2
  clear hm hm2
  go_enter Try.func26, Try.ntmps26
  go_upto_region 1 with fail
  generalize hw1 : World.alloc _ _ = w1
  obtain ⟨he, o1, -⟩ := alloc1 hw1
  obtain ⟨b0, b1, b2, b3⟩ := obj_cells4 o1
  clear hw1 o1 b0 b1 b3
  have hr0 := Ext.refl w1
  go_wp2_with (fail)
  go_loopw [5, 6] (fun v t wr => ∃ d : Nat, d ≤ m ∧ t = .int .i64 (frm + d) ∧ Ext w1 wr ∧ OwnI wr w1.heap.size v ((hoursS ha.st.length frm).take d)) (fun _ t _ => (frm + m - intOf t).toNat)
  case atStart => exact ⟨0, Nat.zero_le _, by simp, hr0.alloc _, own_lit0 w1⟩
  case round =>
    clear hr0
    obtain ⟨d, hd, rfl, hr, hown⟩ := hrel
    by_cases hlt : d < m
    · have hle := (HM2.out d hd).2 hlt
      have happ := app_ints (wr.alloc (.cells #[.int .i64 (frm + (d : Nat))] 3)) w1.heap.size 22 _ _ [frm + (d : Nat)] (some ⟨wr.heap.size, 0, none⟩) 1 (hown.ext ((Ext.refl wr).alloc _)) (ints_one (heap_new _ _))
        (by rw [List.length_take]; simp; omega) (by have := hr.size; rw [heap_size]; omega)
      have HA := Lib.hid happ
      have hblk := Lib.hid (own_block hown)
      have HT : Hid ((hoursS ha.st.length frm).take (d + 1) = (hoursS ha.st.length frm).take d ++ [frm + (d : Int)]) := hoursS_take _ _ _ (by rw [← HM.out]; exact hlt)
      clear hown happ
      go_wp2_with (at_builtin; refine wpList_app _ rfl _ _ 22 rfl _ HA.out ?_; rintro v' w' ⟨hv, hg⟩; have HG := Lib.hid (grown_ext (hr.alloc _) hg hblk.out); clear HA hg)
      go_roundw
      case rel => exact ⟨d + 1, by omega, by go_num, HG.out, by rw [HT.out]; exact hv⟩
      case measure => simp [intOf]; omega
    · obtain rfl : d = m := by omega
      have hle : (ha.st.length : Int) ≤ frm + d := by have := HM2.out d (Nat.le_refl _); omega
      go_wp2_with (fail)
      rw [List.take_of_length_le (by rw [hoursS_len, ← HM.out]; exact Nat.le_refl _)] at hown
      obtain ⟨a', n', c', rfl⟩ := own_slice hown
      obtain ⟨-, hn', -⟩ := hown.ints
      go_ret
      rw [hn'] at hown ⊢
      exact ⟨a', c', rfl, he.trans hr, own_down hown he.size⟩
set_option maxHeartbeats 1000000 in
theorem refCost_any (l : List Camp) (la : Option Addr) (lc n : Nat) (p : List Int) (pa : Option Addr) (pn pc : Nat) (w : World) (hl : Camps w la l) (hp : Ints w pa p) (hpl : l.length ≤ p.length) (hpn : p.length = pn) (hl16 : l.length ≤ 16)
    (hc : ∀ i, i < l.length → CB n (cth l i)) (ht : ∀ i, i < l.length → 0 ≤ nth p i ∧ nth p i ≤ 96) :
    Calls Try.prog 29 #[.slice la l.length lc, .slice pa pn pc] w (Ret (.int .i64 (costTo l p l.length)) w) := by
  have HCB := Lib.hid hc; have HT := Lib.hid ht; clear hc ht
  have HPN := Lib.hid hpn; clear hpn
  have hpl' : l.length ≤ pn := by rw [← HPN.out]; exact hpl
  go_enter Try.func29, Try.ntmps29
  go_wp2_with (fail)
  go_loopw [5, 6] (fun s i wr => ∃ k : Nat, k ≤ l.length ∧ i = .int .i64 k ∧ s = .int .i64 (costTo l p k) ∧ Ext w wr) (fun _ i _ => l.length - (intOf i).toNat)
  case atStart => exact ⟨0, Nat.zero_le _, rfl, rfl, Ext.refl _⟩
  case round =>
    obtain ⟨k, hk, rfl, rfl, hr⟩ := hrel
    by_cases hlt : k < l.length
    · obtain ⟨b, o, rfl, c0, c1, c2, c3, c4, c5, c6⟩ := hl.at k hlt
      obtain ⟨b', o', rfl, d0⟩ := hp.at k (by omega)
      have hkp : k < pn := by omega
      clear c0 c1 c3 c4 c5
      go_wp2_with (fail)
      refine wp_region_ext (by kernel_rfl) (by kernel_rfl) hr ?_
      repeat (quiet_step (fail))
      refine wpQuiet_nil ?_
      rintro _ ⟨nq, rfl⟩
      have e1 : IntKind.i64.wrap (costTo l p k + IntKind.i64.wrap ((cth l k).we * IntKind.i64.wrap (nth p k + (cth l k).ho))) = costTo l p (k + 1) := by
        have q1 := we_bd (HCB.out k hlt) (HT.out k hlt).1 (HT.out k hlt).2
        have q2 := costTo_bd HCB.out HT.out k hk
        have q3 := (HCB.out k hlt).ho0; have q4 := (HCB.out k hlt).ho1
        have q5 := HT.out k hlt
        rw [IntWalk.i64_in (nth p k + (cth l k).ho) (by omega), IntWalk.i64_in ((cth l k).we * (nth p k + (cth l k).ho)) (by omega), IntWalk.i64_in _ (by omega)]
        rfl
      rw [e1]
      clear e1
      have hr3 := nq.ok
      go_wp2_with (fail)
      go_roundw
      case rel => exact ⟨k + 1, by omega, by go_num, rfl, hr3⟩
      case measure => simp [intOf]; omega
    · obtain rfl : k = l.length := by omega
      go_wp2_with (fail)
      go_ret
      exact ⟨rfl, hr⟩
def manyB (n k : Int) : Bool := (decide (14 < n) && decide (n ≤ 96)) || (decide (3 < k) && decide (k ≤ 4))
set_option maxHeartbeats 1000000 in
theorem many_any (ha : Hal) (x : HP) (la : Option Addr) (ln lc : Nat) (w : World) :
    Calls Try.prog 30 #[hval ha x, .slice la ln lc] w (Ret (.bool (manyB ha.st.length ln)) w) := by
  obtain ⟨sa, sc, ea, ec⟩ := x
  have HB : Hid (manyB ha.st.length ln = ((decide ((14 : Int) < ha.st.length) && decide ((ha.st.length : Int) ≤ 96)) || (decide ((3 : Int) < ln) && decide ((ln : Int) ≤ 4)))) := rfl
  cases T1 : decide ((14 : Int) < ha.st.length) <;> cases T2 : decide ((ha.st.length : Int) ≤ 96) <;> cases T3 : decide ((3 : Int) < (ln : Int))
  all_goals
    rw [T1, T2, T3] at HB
    go_enter Try.func30, Try.ntmps30
    go_wp2_with (fail)
    go_ret
    exact ⟨by rw [HB.out]; rfl, (Ext.refl w).alloc _⟩
end Go.Proofs.Ytjpgignbjkgjiaa
end
section
set_option linter.unusedVariables false
set_option linter.unusedSimpArgs false
namespace Go.Proofs.Ytjpgignbjkgjiaa
open Go.RowKit
set_option maxHeartbeats 2000000 in
theorem Bound_any (ha : Hal) (x : HP) (l : List Camp) (la : Option Addr) (lc : Nat) (w : World) (hh : HallAt w ha x) (hl : Camps w la l) :
    Calls Try.prog 32 #[hval ha x, .slice la l.length lc] w (Ret (.tuple #[.int .i64 (boundT ha l), .int .i64 (boundE ha l)]) w) := by
  have hchk := fun W (h : Ext w W) => checkCampaigns ha x l la lc W (hh.ext h) (hl.ext h)
  have hst := fun (hv : VH ha l) W (h : Ext w W) i (hi : i < l.length) => starts_any ha x (cth l i) 0 l W (hh.ext h) hv (hv.cb i hi) (by omega) (by omega)
  have HC := Lib.hid hchk; have HST := Lib.hid hst
  clear hchk hst
  obtain ⟨sa, sc, ea, ec⟩ := x
  clear hh
  cases T1 : campsB ha l
  · have HB : Hid (boundT ha l = 0 ∧ boundE ha l = 2) := by simp [Hid, boundT, boundE, T1]
    rw [T1] at HC
    simp only [errIf] at HC
    go_enter Try.func32, Try.ntmps32
    go_wp2_with (fail)
    generalize hw1 : World.alloc _ _ = w1
    obtain ⟨he, o1, -⟩ := alloc1 hw1
    obtain ⟨b0, b1, b2, b3⟩ := obj_cells4 o1
    clear hw1 o1
    (with_reducible refine (HC.out _ he).mono ?_); rintro e w2 ⟨rfl, he2⟩
    go_wp2_with (fail)
    go_ret2
    exact ⟨by rw [HB.out.1, HB.out.2]; rfl, he.trans he2⟩
  · have HB : Hid ((boundT ha l = if anyEmpty (leftS ha l 0) then 0 else leastTo l (leftS ha l 0) l.length) ∧ (boundE ha l = if anyEmpty (leftS ha l 0) then 101 else 0)) := by simp [Hid, boundT, boundE, T1]
    rw [T1] at HC
    simp only [errIf] at HC
    have HV := Lib.hid (campsB_vh T1)
    have hl16 := HV.out.ll
    go_enter Try.func32, Try.ntmps32
    go_wp2_with (fail)
    generalize hw1 : World.alloc _ _ = w1
    obtain ⟨he, o1, -⟩ := alloc1 hw1
    obtain ⟨b0, b1, b2, b3⟩ := obj_cells4 o1
    clear hw1 o1
    (with_reducible refine (HC.out _ he).mono ?_); rintro e w2 ⟨rfl, he2⟩
    go_wp2_with (fail)
    go_loopw [6, 16] (fun s i wr => ∃ k : Nat, k ≤ l.length ∧ i = .int .i64 k ∧ s = .int .i64 (leastTo l (leftS ha l 0) k) ∧ Ext w1 wr ∧ Hid (∀ j, j < k → 0 < (startsS ha (cth l j) 0).length)) (fun _ i _ => l.length - (intOf i).toNat)
    case atStart => exact ⟨0, Nat.zero_le _, rfl, rfl, he2, fun j hj => by omega⟩
    case round =>
      clear he2
      obtain ⟨k, hk, rfl, rfl, hr, hf⟩ := hrel
      by_cases hlt : k < l.length
      · obtain ⟨b, o, rfl, c0, c1, c2, c3, c4, c5, c6⟩ := (hl.ext he).at k hlt
        go_wp2_with (fail)
        generalize hw3 : World.alloc _ _ = w3
        obtain ⟨he3, o1, -⟩ := alloc1 hw3
        obtain ⟨a0, a1, a2, a3, a4, a5, a6⟩ := obj_cells7 o1
        clear hw3 o1 c0 c1 c2 c3 c4 c5 c6
        have hr3 := hr.trans he3
        have hr0 := Ext.refl w3
        go_wp2_with (fail)
        (with_reducible refine (HST.out HV.out _ (he.trans hr3) k hlt).mono ?_); rintro e w4 ⟨ta, tc, rfl, he4, ho4⟩
        have hr4 := hr3.trans he4
        obtain ⟨hti, -, -⟩ := ho4.ints
        clear ho4
        have hbd := startsS_bd HV.out (HV.out.cb k hlt) 0
        have hlth := lth_leftS ha l 0 k hlt
        by_cases hem : (startsS ha (cth l k) 0).length ≤ 0
        · have hz : boundT ha l = 0 ∧ boundE ha l = 101 := by
            have := anyEmpty_nth (left := leftS ha l 0) (k := k) (by rw [leftS_len]; exact hlt) (by rw [hlth]; omega)
            rw [HB.out.1, HB.out.2, this]; exact ⟨rfl, rfl⟩
          have HZ := Lib.hid hz
          have T : (((startsS ha (cth l k) 0).length : Int) == 0) = true := by simp; exact List.length_eq_zero_iff.1 (by omega)
          clear hz hlth hbd hti
          generalize startsS ha (cth l k) 0 = ss at *
          go_wp2_with (fail)
          go_ret2
          exact ⟨by rw [HZ.out.1, HZ.out.2]; rfl, he.trans hr4⟩
        · obtain ⟨b2', o2', rfl, t0⟩ := hti.at 0 (by omega)
          rw [Nat.add_zero] at t0
          have hf2 : Hid (∀ j, j < k + 1 → 0 < (startsS ha (cth l j) 0).length) := fun j hj => by
            rcases Nat.lt_succ_iff_lt_or_eq.1 hj with h | h
            · exact hf.out j h
            · rw [h]; omega
          have ht96 : 0 ≤ nth (startsS ha (cth l k) 0) 0 ∧ nth (startsS ha (cth l k) 0) 0 ≤ 96 := hbd.2 _ (nth_mem (by omega))
          have e1 : IntKind.i64.wrap (leastTo l (leftS ha l 0) k + IntKind.i64.wrap ((cth l k).we * IntKind.i64.wrap (nth (startsS ha (cth l k) 0) 0 + (cth l k).ho))) = leastTo l (leftS ha l 0) (k + 1) := by
            have q1 := we_bd (HV.out.cb k hlt) ht96.1 ht96.2
            have q2 : 0 ≤ leastTo l (leftS ha l 0) k ∧ leastTo l (leftS ha l 0) k ≤ 12000 * k := by
              have key : ∀ k', k' ≤ k → 0 ≤ leastTo l (leftS ha l 0) k' ∧ leastTo l (leftS ha l 0) k' ≤ 12000 * k' := by
                intro k'
                induction k' with
                | zero => intro _; simp [leastTo]
                | succ j ih =>
                  intro hj
                  have h1 := ih (by omega)
                  have hb := startsS_bd HV.out (HV.out.cb j (by omega)) 0
                  have hj0 := hb.2 _ (nth_mem (hf.out j (by omega)))
                  have h2 := we_bd (HV.out.cb j (by omega)) hj0.1 hj0.2
                  simp only [leastTo]
                  rw [lth_leftS _ _ _ _ (by omega)]
                  omega
              exact key k (Nat.le_refl _)
            have q3 := (HV.out.cb k hlt).ho0; have q4 := (HV.out.cb k hlt).ho1
            rw [IntWalk.i64_in (nth (startsS ha (cth l k) 0) 0 + (cth l k).ho) (by omega), IntWalk.i64_in ((cth l k).we * (nth (startsS ha (cth l k) 0) 0 + (cth l k).ho)) (by omega), IntWalk.i64_in _ (by omega)]
            simp only [leastTo]
            rw [hlth]
          have E1 := Lib.hid e1
          have T : (((startsS ha (cth l k) 0).length : Int) == 0) = false := by
            have : ¬ ((startsS ha (cth l k) 0).length : Int) = 0 := by omega
            simpa using this
          have hpos : 0 < (startsS ha (cth l k) 0).length := by omega
          clear e1 hlth hbd ht96 hti
          generalize startsS ha (cth l k) 0 = ss at *
          replace t0 := t0
          have hq0 := Ext.refl w4
          replace a2 := fun W (h : Ext w4 W) => a2 W (he4.trans h)
          replace a6 := fun W (h : Ext w4 W) => a6 W (he4.trans h)
          clear hr0 a0 a1 a3 a4 a5
          go_wp2_with (fail)
          refine wp_region_ext (by kernel_rfl) (by kernel_rfl) hq0 ?_
          repeat (quiet_step (fail))
          refine wpQuiet_nil ?_
          rintro _ ⟨nq, rfl⟩
          have hq := nq.ok
          rw [E1.out]
          go_wp2_with (fail)
          go_roundw
          case rel => exact ⟨k + 1, by omega, by go_num, rfl, hr4.trans hq, hf2⟩
          case measure => simp [intOf]; omega
      · obtain rfl : k = l.length := by omega
        have hz : boundT ha l = leastTo l (leftS ha l 0) l.length ∧ boundE ha l = 0 := by
          have := anyEmpty_no (left := leftS ha l 0) fun j hj => by rw [leftS_len] at hj; rw [lth_leftS _ _ _ _ hj]; exact hf.out j hj
          rw [HB.out.1, HB.out.2, this]; exact ⟨rfl, rfl⟩
        have HZ := Lib.hid hz
        clear hz
        go_wp2_with (fail)
        go_ret2
        exact ⟨by rw [HZ.out.1, HZ.out.2]; rfl, he.trans hr⟩
end Go.Proofs.Ytjpgignbjkgjiaa
end
section
set_option linter.unusedVariables false
set_option linter.unusedSimpArgs false
namespace Go.Proofs.Ytjpgignbjkgjiaa
open Go.RowKit
abbrev crval (c : Cr) : Value := .agg #[.int .i64 c.fr, .int .i64 c.to, .int .i64 c.ne, .int .i64 c.hv]
theorem in_split (c : Camp) (a b : Int) : inB c a b = (decide (a ≤ c.ea + c.pr) && decide (c.la ≤ b)) := rfl
def crE (ha : Hal) (l : List Camp) : Int := if campsB ha l then 0 else 2
def crR (ha : Hal) (l : List Camp) : Cr := if campsB ha l then crowdR ha l else Cr.zero
def crB (ha : Hal) (l : List Camp) : Bool := if campsB ha l then crowdB ha l else false
set_option maxRecDepth 100000 in
set_option maxHeartbeats 4000000 in
theorem Crowded_any (ha : Hal) (x : HP) (l : List Camp) (la : Option Addr) (lc : Nat) (w : World) (hh : HallAt w ha x) (hl : Camps w la l) :
    Calls Try.prog 33 #[hval ha x, .slice la l.length lc] w (Ret (.tuple #[crval (crR ha l), .bool (crB ha l), .int .i64 (crE ha l)]) w) := by
  have hchk := fun W (h : Ext w W) => checkCampaigns ha x l la lc W (hh.ext h) (hl.ext h)
  have HC := Lib.hid hchk
  clear hchk
  obtain ⟨sa, sc, ea, ec⟩ := x
  have HH := Lib.hid hh
  clear hh
  cases T1 : campsB ha l
  · have HB : Hid (crR ha l = Cr.zero ∧ crB ha l = false ∧ crE ha l = 2) := by simp [Hid, crR, crB, crE, T1]
    rw [T1] at HC
    simp only [errIf] at HC
    go_enter Try.func33, Try.ntmps33
    go_wp2_with (fail)
    generalize hw1 : World.alloc _ _ = w1
    obtain ⟨he, o1, o2, -⟩ := alloc2 hw1
    obtain ⟨b0, b1, b2, b3⟩ := obj_cells4 o1
    obtain ⟨r0, r1, r2, r3⟩ := obj_cells4 o2
    have rf := obj_free o2
    clear hw1 o1 o2
    (with_reducible refine (HC.out _ he).mono ?_); rintro e w2 ⟨rfl, he2⟩
    have rf0 := rf w2 he2
    go_wp2_with (fail)
    refine bodyPost_ret (v := .tuple #[crval (crR ha l), .bool (crB ha l), .int .i64 (crE ha l)]) (by rw [HB.out.1, HB.out.2.1, HB.out.2.2]; simp [results, Try.results33, go_sem, r0 _ he2, r1 _ he2, r2 _ he2, r3 _ he2, Cr.zero]) rfl ⟨rfl, ?_⟩
    exact ((((he.trans he2).set (by simp) _).set (by simp) _).set (by simp) _).set (by simp) _
  · have HB : Hid (crR ha l = crowdR ha l ∧ crB ha l = crowdB ha l ∧ crE ha l = 0) := by simp [Hid, crR, crB, crE, T1]
    rw [T1] at HC
    simp only [errIf] at HC
    have HV := Lib.hid (campsB_vh T1)
    have hl16 := HV.out.ll
    have hn96 := HV.out.n2
    clear T1
    go_enter Try.func33, Try.ntmps33
    go_wp2_with (fail)
    generalize hw1 : World.alloc _ _ = w1
    obtain ⟨he, o1, o2, -⟩ := alloc2 hw1
    obtain ⟨b0, b1, b2, b3⟩ := obj_cells4 o1
    obtain ⟨r0, r1, r2, r3⟩ := obj_cells4 o2
    have rf := obj_free o2
    clear hw1 o1 o2
    have HST := Lib.hid (HH.out.st.ext he)
    have HL := Lib.hid (hl.ext he)
    clear hl
    (with_reducible refine (HC.out _ he).mono ?_); rintro e w2 ⟨rfl, he2⟩
    go_wp2_with (fail)
    go_loopw [21] (fun i wr => ∃ a : Nat, a ≤ ha.st.length ∧ i = .int .i64 a ∧ Ext w1 wr ∧ Hid (∀ j, j < a → (crowdIn ha l j).isSome = false)) (fun i _ => ha.st.length - (intOf i).toNat)
    case atStart => exact ⟨0, Nat.zero_le _, rfl, he2, fun j hj => by omega⟩
    case round =>
      clear he2
      obtain ⟨a, hk, rfl, hr, hg⟩ := hrel
      by_cases hlt : a < ha.st.length
      · obtain ⟨wo, rfl⟩ : ∃ wo : World, wo = wr := ⟨_, rfl⟩
        go_wp2_with (fail)
        go_loopw [8, 9] (fun hv b wr => ∃ e : Nat, a ≤ e ∧ e ≤ ha.st.length ∧ b = .int .i64 ((e : Int) + 1) ∧ hv = .int .i64 (haveTo ha a (e - a)) ∧ Ext w1 wr ∧ Hid (∀ j, a ≤ j → j < e → crowdQ ha l a j = false)) (fun _ b _ => ha.st.length + 1 - (intOf b).toNat)
        case atStart => exact ⟨a, Nat.le_refl _, by omega, by simp, by rw [Nat.sub_self]; rfl, hr, fun j hj hj2 => by omega⟩
        case round =>
          clear hr
          obtain ⟨e, hae, hen, rfl, rfl, hr, hf⟩ := hrel
          have hhb := haveTo_bd ha a (e - a)
          obtain ⟨hhb1, hhb2⟩ := hhb
          by_cases hlte : e < ha.st.length
          · have hhs : haveTo ha a (e + 1 - a) = haveTo ha a (e - a) + if nth ha.st e = 0 then 0 else 1 := by
              rw [show e + 1 - a = (e - a) + 1 by omega]
              simp only [haveTo]
              rw [show a + (e - a) = e by omega]
            have HHS := Lib.hid hhs
            obtain ⟨b', o', rfl, s0⟩ := HST.out.at e hlte
            have hst := HV.out.st e hlte
            obtain ⟨hst1, hst2⟩ := hst
            have hle1 : (e : Int) + 1 ≤ ha.st.length := by omega
            have hei : ((e : Int) + 1 - 1) = e := by omega
            clear hhs
            obtain ⟨x, hx, hxb⟩ : ∃ x : Int, haveTo ha a (e - a) + x = haveTo ha a (e + 1 - a) ∧ ((nth ha.st e ≤ 1 ∧ x = nth ha.st e) ∨ (1 < nth ha.st e ∧ x = 1)) := by
              rw [HHS.out]
              by_cases h : nth ha.st e ≤ 1
              · exact ⟨nth ha.st e, by split <;> omega, .inl ⟨h, rfl⟩⟩
              · exact ⟨1, by rw [if_neg (by omega)], .inr ⟨by omega, rfl⟩⟩
            have HXX := Lib.hid hx
            have hhb3 := haveTo_bd ha a (e + 1 - a)
            obtain ⟨hhb3, hhb4⟩ := hhb3
            clear hx
            have hq0 := hr
            rcases hxb with ⟨hx1, rfl⟩ | ⟨hx1, rfl⟩
            all_goals
              obtain ⟨wo2, rfl⟩ : ∃ wo : World, wo = wr := ⟨_, rfl⟩
              go_wp2_with (fail)
              rw [HXX.out]
              go_loopw [10, 44] (fun nd i wr => ∃ k : Nat, k ≤ l.length ∧ i = .int .i64 k ∧ nd = .int .i64 (needTo l a ((e : Int) + 1) k) ∧ Ext w1 wr) (fun _ i _ => l.length - (intOf i).toNat)
              case atStart => exact ⟨0, Nat.zero_le _, rfl, rfl, hr⟩
              case round =>
                clear hr
                obtain ⟨k, hk, rfl, rfl, hr⟩ := hrel
                have hnb := needTo_bd HV.out.cb a ((e : Int) + 1) k hk
                obtain ⟨hnb1, hnb2⟩ := hnb
                by_cases hkl : k < l.length
                · obtain ⟨b2, o2, rfl, c0, c1, c2, c3, c4, c5, c6⟩ := HL.out.at k hkl
                  have hcb := HV.out.cb k hkl
                  obtain ⟨-, -, p1, p2, p3, p4, -, -, p5, p6, p7, -, -⟩ := hcb
                  have hsp := in_split (cth l k) a ((e : Int) + 1)
                  have h3 := two_and (decide ((a : Int) ≤ (cth l k).ea + (cth l k).pr)) (decide ((cth l k).la ≤ (e : Int) + 1))
                  rw [← hsp] at h3
                  clear hsp
                  rcases h3 with ⟨T1, HQ⟩ | ⟨T1, T2, HQ⟩ | ⟨T1, T2, HQ⟩
                  · have HN := Lib.hid (needTo_no HQ)
                    clear HQ
                    go_wp2_with (fail)
                    generalize hw3 : World.alloc _ _ = w3
                    obtain ⟨he3, o1, -⟩ := alloc1 hw3
                    clear hw3 o1
                    go_roundw
                    case rel => exact ⟨k + 1, by omega, by go_num, by rw [HN.out], hr.trans he3⟩
                    case measure => simp [intOf]; omega
                  · have HN := Lib.hid (needTo_no HQ)
                    clear HQ
                    go_wp2_with (fail)
                    generalize hw3 : World.alloc _ _ = w3
                    obtain ⟨he3, o1, -⟩ := alloc1 hw3
                    clear hw3 o1
                    go_roundw
                    case rel => exact ⟨k + 1, by omega, by go_num, by rw [HN.out], hr.trans he3⟩
                    case measure => simp [intOf]; omega
                  · have HN := Lib.hid (needTo_yes HQ)
                    clear HQ
                    go_wp2_with (fail)
                    generalize hw3 : World.alloc _ _ = w3
                    obtain ⟨he3, o1, -⟩ := alloc1 hw3
                    clear hw3 o1
                    go_roundw
                    case rel => exact ⟨k + 1, by omega, by go_num, by rw [HN.out], hr.trans he3⟩
                    case measure => simp [intOf]; omega
                · obtain rfl : k = l.length := by omega
                  cases T : decide (haveTo ha a (e + 1 - a) < needTo l a ((e : Int) + 1) l.length)
                  · have hf2 : Hid (∀ j, a ≤ j → j < e + 1 → crowdQ ha l a j = false) := fun j hj hj2 => by
                      rcases Nat.lt_succ_iff_lt_or_eq.1 hj2 with h | h
                      · exact hf.out j hj h
                      · rw [h]; exact T
                    go_wp2_with (fail)
                    go_roundw
                    case rel => exact ⟨e + 1, by omega, by omega, by go_num, rfl, hr, hf2⟩
                    case measure => simp [intOf]; omega
                  · have hz := crowd_some hae hlte T hf.out hg.out
                    have HZ := Lib.hid hz
                    have rf0 := rf wr hr
                    clear hz
                    go_wp2_with (fail)
                    refine bodyPost_ret (v := .tuple #[crval (crR ha l), .bool (crB ha l), .int .i64 (crE ha l)]) (by rw [HB.out.1, HB.out.2.1, HB.out.2.2, HZ.out.1, HZ.out.2]; simp [results, Try.results33, go_sem, r0 _ hr, r1 _ hr, r2 _ hr, r3 _ hr]) rfl ⟨rfl, ?_⟩
                    exact ((((he.trans hr).set (by simp) _).set (by simp) _).set (by simp) _).set (by simp) _
          · obtain rfl : e = ha.st.length := by omega
            have e1 := crowdIn_none hf.out
            have hg2 := Lib.hid (all_lt_succ (q := fun j => (crowdIn ha l j).isSome) hg.out (by rw [e1]; rfl))
            clear e1
            go_wp2_with (fail)
            go_roundw
            case rel => exact ⟨a + 1, by omega, by go_num, hr, hg2⟩
            case measure => simp [intOf]; omega
      · obtain rfl : a = ha.st.length := by omega
        have hz := crowd_none hg.out
        have HZ := Lib.hid hz
        have rf0 := rf wr hr
        clear hz
        go_wp2_with (fail)
        refine bodyPost_ret (v := .tuple #[crval (crR ha l), .bool (crB ha l), .int .i64 (crE ha l)]) (by rw [HB.out.1, HB.out.2.1, HB.out.2.2, HZ.out.1, HZ.out.2]; simp [results, Try.results33, go_sem, r0 _ hr, r1 _ hr, r2 _ hr, r3 _ hr, Cr.zero]) rfl ⟨rfl, ?_⟩
        exact ((((he.trans hr).set (by simp) _).set (by simp) _).set (by simp) _).set (by simp) _
end Go.Proofs.Ytjpgignbjkgjiaa
end
section
set_option linter.unusedVariables false
set_option linter.unusedSimpArgs false
namespace Go.Proofs.Ytjpgignbjkgjiaa
open Go.RowKit
set_option maxRecDepth 100000 in
set_option maxHeartbeats 4000000 in
theorem refCrowded (ha : Hal) (x : HP) (l : List Camp) (la : Option Addr) (lc : Nat) (w : World) (hh : HallAt w ha x) (hl : Camps w la l) (hv : VH ha l) :
    Calls Try.prog 34 #[hval ha x, .slice la l.length lc] w (Ret (.tuple #[crval (crowdR ha l), .bool (crowdB ha l)]) w) := by
  obtain ⟨sa, sc, ea, ec⟩ := x
  have HH := Lib.hid hh
  have HV := Lib.hid hv
  have hl16 := hv.ll
  have hn96 := hv.n2
  clear hh hv
  go_enter Try.func34, Try.ntmps34
  go_wp2_with (fail)
  generalize hw1 : World.alloc _ _ = w1
  obtain ⟨he, o1, o2, -⟩ := alloc2 hw1
  obtain ⟨b0, b1, b2, b3⟩ := obj_cells4 o1
  obtain ⟨r0, r1, r2, r3⟩ := obj_cells4 o2
  have rf := obj_free o2
  clear hw1 o1 o2
  have HST := Lib.hid (HH.out.st.ext he)
  have HL := Lib.hid (hl.ext he)
  clear hl
  go_loopw [6] (fun i wr => ∃ a : Nat, a ≤ ha.st.length ∧ i = .int .i64 a ∧ Ext w1 wr ∧ Hid (∀ j, j < a → (crowdIn ha l j).isSome = false)) (fun i _ => ha.st.length - (intOf i).toNat)
  case atStart => exact ⟨0, Nat.zero_le _, rfl, Ext.refl _, fun j hj => by omega⟩
  case round =>
    obtain ⟨a, hk, rfl, hr, hg⟩ := hrel
    by_cases hlt : a < ha.st.length
    · obtain ⟨wo, rfl⟩ : ∃ wo : World, wo = wr := ⟨_, rfl⟩
      go_wp2_with (fail)
      go_loopw [7] (fun b wr => ∃ e : Nat, a ≤ e ∧ e ≤ ha.st.length ∧ b = .int .i64 ((e : Int) + 1) ∧ Ext w1 wr ∧ Hid (∀ j, a ≤ j → j < e → crowdQ ha l a j = false)) (fun b _ => ha.st.length + 1 - (intOf b).toNat)
      case atStart => exact ⟨a, Nat.le_refl _, by omega, by simp, hr, fun j hj hj2 => by omega⟩
      case round =>
        clear hr
        obtain ⟨e, hae, hen, rfl, hr, hf⟩ := hrel
        by_cases hlte : e < ha.st.length
        · have hle1 : (e : Int) + 1 ≤ ha.st.length := by omega
          obtain ⟨wo2, rfl⟩ : ∃ wo : World, wo = wr := ⟨_, rfl⟩
          go_wp2_with (fail)
          go_loopw [8, 10] (fun nd i wr => ∃ k : Nat, k ≤ l.length ∧ i = .int .i64 k ∧ nd = .int .i64 (needTo l a ((e : Int) + 1) k) ∧ Ext w1 wr) (fun _ i _ => l.length - (intOf i).toNat)
          case atStart => exact ⟨0, Nat.zero_le _, rfl, rfl, hr⟩
          case round =>
            clear hr
            obtain ⟨k, hk, rfl, rfl, hr⟩ := hrel
            have hnb := needTo_bd HV.out.cb a ((e : Int) + 1) k hk
            obtain ⟨hnb1, hnb2⟩ := hnb
            by_cases hkl : k < l.length
            · obtain ⟨b2, o2, rfl, c0, c1, c2, c3, c4, c5, c6⟩ := HL.out.at k hkl
              have hcb := HV.out.cb k hkl
              obtain ⟨-, -, p1, p2, p3, p4, -, -, p5, p6, p7, -, -⟩ := hcb
              have s1 : IntKind.i64.wrap ((cth l k).ea + (cth l k).pr) = (cth l k).ea + (cth l k).pr := IntWalk.i64_in _ (by omega)
              have hsp := in_split (cth l k) a ((e : Int) + 1)
              have h3 := two_and (decide ((a : Int) ≤ (cth l k).ea + (cth l k).pr)) (decide ((cth l k).la ≤ (e : Int) + 1))
              rw [← hsp] at h3
              clear hsp
              rcases h3 with ⟨T1, HQ⟩ | ⟨T1, T2, HQ⟩ | ⟨T1, T2, HQ⟩
              rotate_left 2
              · have HN := Lib.hid (needTo_yes HQ)
                clear HQ
                go_wp2_with (fail)
                refine wp_region_ext (by kernel_rfl) (by kernel_rfl) hr ?_
                repeat (first | go_big_quiet_step (fail) | quiet_step (fail))
                refine wpQuiet_nil ?_
                rintro _ ⟨nq, rfl⟩
                have hq := nq.ok
                clear s1
                go_wp2_with (fail)
                go_roundw
                case rel => exact ⟨k + 1, by omega, by go_num, by rw [HN.out], hq⟩
                case measure => simp [intOf]; omega
              all_goals
                have HN := Lib.hid (needTo_no HQ)
                clear HQ
                go_wp2_with (fail)
                refine wp_region_ext (by kernel_rfl) (by kernel_rfl) hr ?_
                repeat (first | go_big_quiet_step (fail) | quiet_step (fail))
                refine wpQuiet_nil ?_
                rintro _ ⟨nq, rfl⟩
                have hq := nq.ok
                clear s1
                go_wp2_with (fail)
                go_roundw
                case rel => exact ⟨k + 1, by omega, by go_num, by rw [HN.out], hq⟩
                case measure => simp [intOf]; omega
            · obtain rfl : k = l.length := by omega
              obtain ⟨wo3, rfl⟩ : ∃ wo : World, wo = wr := ⟨_, rfl⟩
              go_wp2_with (fail)
              go_loopw [9, 11] (fun hv i wr => ∃ q : Nat, a ≤ q ∧ q ≤ e + 1 ∧ i = .int .i64 q ∧ hv = .int .i64 (haveTo ha a (q - a)) ∧ Ext w1 wr) (fun _ i _ => e + 1 - (intOf i).toNat)
              case atStart => exact ⟨a, Nat.le_refl _, by omega, rfl, by rw [Nat.sub_self]; rfl, hr⟩
              case round =>
                clear hr
                obtain ⟨q, haq, hqe, rfl, rfl, hr⟩ := hrel
                have hhb := haveTo_bd ha a (q - a)
                obtain ⟨hhb1, hhb2⟩ := hhb
                by_cases hlq : q < e + 1
                · have hhs : haveTo ha a (q + 1 - a) = haveTo ha a (q - a) + if nth ha.st q = 0 then 0 else 1 := by
                    rw [show q + 1 - a = (q - a) + 1 by omega]
                    simp only [haveTo]
                    rw [show a + (q - a) = q by omega]
                  have HHS := Lib.hid hhs
                  have hqn : q < ha.st.length := by omega
                  obtain ⟨b', o', rfl, s0⟩ := HST.out.at q hqn
                  clear hhs
                  cases T : (nth ha.st q != 0)
                  · have hz : haveTo ha a (q + 1 - a) = haveTo ha a (q - a) := by
                      rw [HHS.out, if_pos (by simpa using T), Int.add_zero]
                    have HZ := Lib.hid hz
                    clear hz
                    go_wp2_with (fail)
                    go_roundw
                    case rel => exact ⟨q + 1, by omega, by omega, by go_num, by rw [HZ.out], hr⟩
                    case measure => simp [intOf]; omega
                  · have hz : haveTo ha a (q + 1 - a) = haveTo ha a (q - a) + 1 := by
                      rw [HHS.out, if_neg (by simpa using T)]
                    have HZ := Lib.hid hz
                    clear hz
                    go_wp2_with (fail)
                    go_roundw
                    case rel => exact ⟨q + 1, by omega, by omega, by go_num, by rw [HZ.out], hr⟩
                    case measure => simp [intOf]; omega
                · obtain rfl : q = e + 1 := by omega
                  cases T : decide (haveTo ha a (e + 1 - a) < needTo l a ((e : Int) + 1) l.length)
                  · have hf2 : Hid (∀ j, a ≤ j → j < e + 1 → crowdQ ha l a j = false) := fun j hj hj2 => by
                      rcases Nat.lt_succ_iff_lt_or_eq.1 hj2 with h | h
                      · exact hf.out j hj h
                      · rw [h]; exact T
                    go_wp2_with (fail)
                    go_roundw
                    case rel => exact ⟨e + 1, by omega, by omega, by go_num, hr, hf2⟩
                    case measure => simp [intOf]; omega
                  · have hz := crowd_some hae hlte T hf.out hg.out
                    have HZ := Lib.hid hz
                    have rf0 := rf wr hr
                    clear hz
                    go_wp2_with (fail)
                    refine bodyPost_ret (v := .tuple #[crval (crowdR ha l), .bool (crowdB ha l)]) (by rw [HZ.out.1, HZ.out.2]; simp [results, Try.results34, go_sem, r0 _ hr, r1 _ hr, r2 _ hr, r3 _ hr]) rfl ⟨rfl, ?_⟩
                    exact ((((he.trans hr).set (by simp) _).set (by simp) _).set (by simp) _).set (by simp) _
        · obtain rfl : e = ha.st.length := by omega
          have e1 := crowdIn_none hf.out
          have hg2 := Lib.hid (all_lt_succ (q := fun j => (crowdIn ha l j).isSome) hg.out (by rw [e1]; rfl))
          clear e1
          go_wp2_with (fail)
          go_roundw
          case rel => exact ⟨a + 1, by omega, by go_num, hr, hg2⟩
          case measure => simp [intOf]; omega
    · obtain rfl : a = ha.st.length := by omega
      have hz := crowd_none hg.out
      have HZ := Lib.hid hz
      have rf0 := rf wr hr
      clear hz
      go_wp2_with (fail)
      refine bodyPost_ret (v := .tuple #[crval (crowdR ha l), .bool (crowdB ha l)]) (by rw [HZ.out.1, HZ.out.2]; simp [results, Try.results34, go_sem, r0 _ hr, r1 _ hr, r2 _ hr, r3 _ hr, Cr.zero]) rfl ⟨rfl, ?_⟩
      exact ((((he.trans hr).set (by simp) _).set (by simp) _).set (by simp) _).set (by simp) _
end Go.Proofs.Ytjpgignbjkgjiaa
end
