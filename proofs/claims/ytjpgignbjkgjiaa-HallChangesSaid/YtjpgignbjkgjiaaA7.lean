import Derived.Test.YtjpgignbjkgjiaaA6
import Derived.Test.YtjpgignbjkgjiaaB2
set_option linter.unusedVariables false
set_option linter.unusedSimpArgs false
namespace Go.Proofs.Ytjpgignbjkgjiaa
open Go.RowKit
theorem gap_bd {ha : Hal} {l : List Camp} (hv : VH ha l) (a b : Camp) : 0 ≤ gapS ha a b ∧ gapS ha a b ≤ 6 := by
  have := hv.c0; have := hv.c1
  unfold gapS; split <;> omega
set_option maxHeartbeats 1000000 in
theorem apart_any (ha : Hal) (x : HP) (a b : Camp) (s t : Int) (w : World) (hc : 0 ≤ ha.cl ∧ ha.cl ≤ 6) (h1 : 0 ≤ a.ho ∧ a.ho ≤ 24) (h2 : 0 ≤ b.ho ∧ b.ho ≤ 24) (h3 : 0 ≤ s ∧ s ≤ 1000) (h4 : 0 ≤ t ∧ t ≤ 1000) :
    Calls Try.prog 72 #[hval ha x, cval a, cval b, .int .i64 s, .int .i64 t] w (Ret (.bool (apartB ha a b s t)) w) := by
  obtain ⟨sa, sc, ea, ec⟩ := x
  obtain ⟨q1, q2⟩ := hc
  obtain ⟨q3, q4⟩ := h1
  obtain ⟨q5, q6⟩ := h2
  obtain ⟨q7, q8⟩ := h3
  obtain ⟨q9, q10⟩ := h4
  cases T1 : (a.cu != b.cu)
  · have T1' : a.cu = b.cu := by simpa using T1
    cases T2 : decide (s + a.ho ≤ t)
    all_goals
      have HB : Hid (apartB ha a b s t = (decide (s + a.ho ≤ t) || decide (t + b.ho ≤ s))) := by simp [Hid, apartB, gapS, T1']
      clear T1'
      rw [T2] at HB
      go_enter Try.func72, Try.ntmps72
      go_wp2_with (fail)
      go_ret
      exact ⟨by rw [HB.out]; rfl, (((Ext.refl w).alloc _).alloc _).alloc _⟩
  · have T1' : ¬ a.cu = b.cu := by simpa using T1
    cases T2 : decide (s + a.ho + ha.cl ≤ t)
    all_goals
      have HB : Hid (apartB ha a b s t = (decide (s + a.ho + ha.cl ≤ t) || decide (t + b.ho + ha.cl ≤ s))) := by simp [Hid, apartB, gapS, T1']
      clear T1'
      rw [T2] at HB
      go_enter Try.func72, Try.ntmps72
      go_wp2_with (fail)
      go_ret
      exact ⟨by rw [HB.out]; rfl, (((Ext.refl w).alloc _).alloc _).alloc _⟩
theorem enters73 : Enters Try.prog 73 := Enters.mk Try.func73 rfl rfl
set_option maxHeartbeats 400000 in
theorem breach1 (n ro : Int) (bh : Nat) (w : World) (hb : ∀ W, Ext w W → W.cell? ⟨bh, 0, none⟩ = some (.int .i64 ro)) :
    Calls Try.prog 73 #[.int .i64 n, .pointer (some ⟨bh, 0, none⟩)] w (Ret (.bool (decide (ro < n))) w) := by
  have hr := Ext.refl w
  go_enter Try.func73, Try.ntmps73
  go_wp2_with (fail)
  go_ret
  exact ⟨rfl, Ext.refl _⟩
theorem own_down {w : World} {B B' : Nat} {v : Value} {xs : List Int} (h : OwnI w B v xs) (hb : B' ≤ B) : OwnI w B' v xs := by
  obtain ⟨h1, h2⟩ := h
  refine ⟨h1, ?_⟩
  rcases h2 with h2 | ⟨g, cap, cur, hv, hg, r⟩
  · exact .inl h2
  · exact .inr ⟨g, cap, cur, hv, by omega, r⟩
theorem ownI_set {w : World} {B g n c j : Nat} {f : Nat → Int} (h : OwnI w B (.slice (some ⟨g, 0, none⟩) n c) (fl n f)) (v : Int) :
    OwnI (w.setCell ⟨g, j, none⟩ (.int .i64 v)) B (.slice (some ⟨g, 0, none⟩) n c) (fl n fun i => if i = j then v else f i) := by
  unfold OwnI at *
  rw [fl_len] at *
  have := (h.stored j (.int .i64 v)).1
  rw [rowI_set] at this
  exact this
theorem ownI_free {w : World} {B g n c : Nat} {xs : List Int} (hn : xs.length = n) (h : OwnI w B (.slice (some ⟨g, 0, none⟩) n c) xs) (j : Nat) : w.frozen? ⟨g, j, none⟩ = false := by
  subst hn; exact h.frozenAt j
theorem ownI_cell {w : World} {B g n c : Nat} {xs : List Int} (hn : xs.length = n) (h : OwnI w B (.slice (some ⟨g, 0, none⟩) n c) xs) (j : Nat) (hj : j < n) : w.cell? ⟨g, j, none⟩ = some (.int .i64 (nth xs j)) := by
  subst hn; rw [h.cellAt j (by omega), rowI_get _ _ hj]
/-- After d hours of the preparation of the campaign k. -/
def midTo (l : List Camp) (p : List Int) (k s d : Nat) (i : Nat) : Int := cntTo l p k i + if s ≤ i ∧ i < s + d then 1 else 0
theorem mid_zero (l : List Camp) (p : List Int) (k s : Nat) : (fun i => midTo l p k s 0 i) = fun i => cntTo l p k (i : Nat) := by
  funext i; unfold midTo; rw [if_neg (by omega)]; omega
theorem mid_succ (l : List Camp) (p : List Int) (k s d : Nat) : (fun i => if i = s + d then midTo l p k s d (s + d) + 1 else midTo l p k s d i) = midTo l p k s (d + 1) := by
  funext i
  by_cases h : i = s + d
  · subst h; unfold midTo; rw [if_pos rfl, if_neg (by omega), if_pos (by omega)]; omega
  · rw [if_neg h]; unfold midTo
    by_cases h2 : s ≤ i ∧ i < s + d
    · rw [if_pos h2, if_pos (by omega)]
    · rw [if_neg h2, if_neg (by omega)]
theorem mid_end (l : List Camp) (p : List Int) (k s : Nat) (m : Nat) (hs : nth p k - (cth l k).pr = s) (hm : (cth l k).pr = m) (i : Nat) : midTo l p k s m i = cntTo l p (k + 1) i := by
  unfold midTo
  simp only [cntTo]
  have e : prepB (cth l k) (nth p k) i = true ↔ s ≤ i ∧ i < s + m := by simp [prepB]; omega
  by_cases h : s ≤ i ∧ i < s + m
  · rw [if_pos h, if_pos (e.2 h)]
  · rw [if_neg h, if_neg (fun q => h (e.1 q))]
set_option maxHeartbeats 1000000 in
theorem prepared_any (ha : Hal) (x : HP) (l : List Camp) (la : Option Addr) (lc : Nat) (p : List Int) (pa : Option Addr) (pn pc : Nat) (w : World) (hl : Camps w la l) (hp : Ints w pa p) (hpl : l.length ≤ p.length) (hpn : p.length = pn)
    (hv : VH ha l) (hi : ∀ i, i < l.length → inTimeB (cth l i) (nth p i) = true) :
    Calls Try.prog 68 #[hval ha x, .slice la l.length lc, .slice pa pn pc] w (RetI (fl ha.st.length fun i => cntTo l p l.length i) w) := by
  obtain ⟨sa, sc, ea, ec⟩ := x
  have HV := Lib.hid hv
  have hl16 := hv.ll
  have hn96 := hv.n2
  clear hv
  have HI := Lib.hid hi; clear hi
  have HPN := Lib.hid hpn; clear hpn
  have hpl' : l.length ≤ pn := by rw [← HPN.out]; exact hpl
  have hmk := run_madeI ha.st.length (by omega)
  go_enter Try.func68, Try.ntmps68
  go_wp2_with (fail)
  clear hmk
  generalize hw0 : w.alloc _ = w0
  obtain ⟨he, o1, hz0⟩ := alloc1 hw0
  generalize hw1 : madeI _ _ = w1
  obtain ⟨he1, hown, hz1⟩ := madeI_facts (by omega) hw1
  clear hw0 hw1
  rw [hz0] at hown hz1
  have hs0 : w0.heap.size = w.heap.size + 1 := hz0
  have HL := Lib.hid (hl.ext he)
  have HP' := Lib.hid (hp.ext he)
  clear hl hp
  clear hz0
  generalize hg : w.heap.size + 1 = g at *
  clear hg
  go_loopw [17] (fun i wr => ∃ k : Nat, k ≤ l.length ∧ i = .int .i64 k ∧ Ext w0 wr ∧ OwnI wr g (.slice (some ⟨g, 0, none⟩) ha.st.length ha.st.length) (fl ha.st.length fun i => cntTo l p k i)) (fun i _ => l.length - (intOf i).toNat)
  case atStart => exact ⟨0, Nat.zero_le _, rfl, he1, hown⟩
  case round =>
    obtain ⟨k, hk, rfl, hr, hown⟩ := hrel
    by_cases hlt : k < l.length
    · obtain ⟨b, o, rfl, c0, c1, c2, c3, c4, c5, c6⟩ := HL.out.at k hlt
      obtain ⟨b', o', rfl, d0⟩ := HP'.out.at k (by omega)
      have hkp : k < pn := by omega
      have ht := inTime_bd (HV.out.cb k hlt) (HI.out k hlt)
      have hpr0 := (HV.out.cb k hlt).pr0
      have hpr1 := (HV.out.cb k hlt).pr1
      have hea0 := (HV.out.cb k hlt).ea0
      obtain ⟨s, hs⟩ := Int.eq_ofNat_of_zero_le (show 0 ≤ nth p k - (cth l k).pr by omega)
      obtain ⟨m, hm⟩ := Int.eq_ofNat_of_zero_le hpr0
      have hwr : IntKind.i64.wrap (nth p k - (cth l k).pr) = (s : Int) := by rw [IntWalk.i64_in _ (by omega), hs]
      have hsm : nth p k = (s : Int) + m := by omega
      have hsn : s + m ≤ ha.st.length := by omega
      have HS := Lib.hid hs
      have HM := Lib.hid hm
      have HW := Lib.hid hwr
      have HSM := Lib.hid hsm
      clear ht hs hm hwr hsm hpr0 hpr1 hea0
      go_wp2_with (fail)
      generalize hw2 : World.alloc _ _ = w2
      obtain ⟨he2, o1, -⟩ := alloc1 hw2
      obtain ⟨a0, a1, a2, a3, a4, a5, a6⟩ := obj_cells7 o1
      clear hw2 o1 c0 c1 c2 c3 c4 c5 c6 a0 a2 a3 a4 a5 a6
      have hr2 := hr.trans he2
      have hr0 := Ext.refl w2
      have d1 := fun W (h : Ext w2 W) => d0 W (hr2.trans h)
      refine wp_region_ext (by kernel_rfl) (by kernel_rfl) hr0 ?_
      repeat (quiet_step (fail))
      refine wpQuiet_nil ?_
      rintro _ ⟨nq, rfl⟩
      rw [HW.out]
      have hr3 := hr2.trans nq.ok
      have hown2 := hown.ext (he2.trans nq.ok)
      clear d1 hr0 a1 hown
      rw [HSM.out] at d0
      go_wp2_with (fail)
      obtain ⟨wo, hwo⟩ : ∃ wo : World, wo = nq.val := ⟨_, rfl⟩
      rw [← hwo] at hr3 hown2
      rw [← hwo]
      clear hwo
      go_loopw [10] (fun v wr => ∃ d : Nat, d ≤ m ∧ v = .int .i64 ((s + d : Nat) : Int) ∧ Ext w0 wr ∧ OwnI wr g (.slice (some ⟨g, 0, none⟩) ha.st.length ha.st.length) (fl ha.st.length fun i => midTo l p k s d i)) (fun v _ => s + m - (intOf v).toNat)
      case atStart => exact ⟨0, Nat.zero_le _, rfl, hr3, by rw [mid_zero]; exact hown2⟩
      case round =>
        obtain ⟨d, hd, rfl, hq, how⟩ := hrel
        by_cases hdl : d < m
        · have hcell := ownI_cell (fl_len _ _) how (s + d) (by omega)
          rw [nth_fl _ _ _ (by omega)] at hcell
          have hfr := ownI_free (fl_len _ _) how (s + d)
          have hbd : 0 ≤ midTo l p k s d (s + d) ∧ midTo l p k s d (s + d) ≤ 100 := by
            have := cntTo_bd l p k ((s + d : Nat) : Int)
            unfold midTo; split <;> omega
          obtain ⟨hb0, hb1⟩ := hbd
          have how2 := ownI_set (j := s + d) how (midTo l p k s d (s + d) + 1)
          rw [mid_succ] at how2
          have hq2 := hq.set (p := ⟨g, s + d, none⟩) (by simp [hs0]) (.int .i64 (midTo l p k s d (s + d) + 1))
          have HO := Lib.hid how2
          clear how2 how
          have hdn : s + d < ha.st.length := by omega
          go_wp2_with (fail)
          exact ⟨⟨d + 1, by omega, by rw [show ((s : Int) + d + 1) = ((s + (d + 1) : Nat) : Int) by omega], hq2, HO.out⟩, by simp [intOf]; omega⟩
        · obtain rfl : d = m := by omega
          have hfe := fl_congr ha.st.length (fun i => midTo l p k s d i) (fun i => cntTo l p (k + 1) i) (fun i _ => mid_end l p k s d HS.out HM.out i)
          rw [hfe] at how
          have HO := Lib.hid how
          clear hfe how
          go_wp2_with (fail)
          go_roundw
          case rel => exact ⟨k + 1, by omega, by go_num, hq, HO.out⟩
          case measure => simp [intOf]; omega
    · obtain rfl : k = l.length := by omega
      go_wp2_with (fail)
      go_ret
      refine ⟨_, ha.st.length, by rw [fl_len]; rfl, he.trans hr, ?_⟩
      rw [fl_len]
      exact own_down hown (by have := he.size; omega)
end Go.Proofs.Ytjpgignbjkgjiaa
