/-
  Use: the energy and the preparations of each hour.
-/
import Derived.Test.YtjpgignbjkgjiaaA9
import Derived.Test.YtjpgignbjkgjiaaP21
import Derived.Test.YtjpgignbjkgjiaaB5
import Derived.Deep.DrawnRows
import Derived.StillTailTactics
set_option linter.unusedVariables false
set_option linter.unusedSimpArgs false
namespace Go.Proofs.Ytjpgignbjkgjiaa
open Go.RowKit
attribute [local go_sem ↓] Go.wp_at_zero Go.wp_at_succ
def prepL (ha : Hal) (l : List Camp) (p : List Int) : List Int := fl ha.st.length fun i => cntTo l p l.length i
theorem prepL_len (ha : Hal) (l : List Camp) (p : List Int) : (prepL ha l p).length = ha.st.length := fl_len _ _
def useE (ha : Hal) (l : List Camp) (p : List Int) : List Int := if errS ha l p = 0 then fl ha.st.length (useF l p l.length) else []
def useR (ha : Hal) (l : List Camp) (p : List Int) : List Int := if errS ha l p = 0 then prepL ha l p else []
def RetUse (ha : Hal) (l : List Camp) (p : List Int) (w : World) (e : Ending) (w' : World) : Prop :=
  ∃ a c b d, e = .returned (.tuple #[.slice a (useE ha l p).length c, .slice b (useR ha l p).length d, .int .i64 (errS ha l p)]) ∧ Ext w w' ∧ Ints w' a (useE ha l p) ∧ Ints w' b (useR ha l p)
/-- After d hours of the run of the campaign k. -/
def useM (l : List Camp) (p : List Int) (k s d : Nat) (i : Nat) : Int := if s ≤ i ∧ i < s + d then (cth l k).en else useF l p k i
theorem useM_zero (l : List Camp) (p : List Int) (k s : Nat) : (fun i => useM l p k s 0 i) = useF l p k := by
  funext i; unfold useM; rw [if_neg (by omega)]
theorem useM_succ (l : List Camp) (p : List Int) (k s d : Nat) : (fun i => if i = s + d then (cth l k).en else useM l p k s d i) = fun i => useM l p k s (d + 1) i := by
  funext i
  by_cases h : i = s + d
  · subst h; unfold useM; rw [if_pos rfl, if_pos (by omega)]
  · rw [if_neg h]; unfold useM
    by_cases h2 : s ≤ i ∧ i < s + d
    · rw [if_pos h2, if_pos (by omega)]
    · rw [if_neg h2, if_neg (by omega)]
theorem useM_end (l : List Camp) (p : List Int) (k s m : Nat) (hs : nth p k = s) (hm : (cth l k).ho = m) : (fun i => useM l p k s m i) = useF l p (k + 1) := by
  funext i
  unfold useM
  simp only [useF, markF, hs, hm]
  by_cases h : s ≤ i ∧ i < s + m
  · rw [if_pos h, if_pos (by omega)]
  · rw [if_neg h, if_neg (by omega)]
set_option maxRecDepth 100000 in
set_option maxHeartbeats 2000000 in
theorem Use_any (ha : Hal) (x : HP) (l : List Camp) (la : Option Addr) (lc : Nat) (p : List Int) (pa : Option Addr) (pn pc : Nat) (w : World) (hh : HallAt w ha x) (hl : Camps w la l) (hp : Ints w pa p) (hpn : p.length = pn) :
    Calls Try.prog 41 #[hval ha x, .slice la l.length lc, .slice pa pn pc] w (RetUse ha l p w) := by
  have hcheck := fun W (h : Ext w W) => Check_any ha x l la lc p pa pn pc W (hh.ext h) (hl.ext h) (hp.ext h) hpn
  have HC := Lib.hid hcheck; clear hcheck
  have hprep : ∀ W, Ext w W → l.length ≤ p.length → VH ha l → (∀ i, i < l.length → inTimeB (cth l i) (nth p i) = true) → Calls Try.prog 68 #[hval ha x, .slice la l.length lc, .slice pa pn pc] W (RetI (prepL ha l p) W) := fun W h q1 q2 q3 => prepared_any ha x l la lc p pa pn pc W (hl.ext h) (hp.ext h) q1 hpn q2 q3
  have HPR := Lib.hid hprep; clear hprep
  have HPN := Lib.hid hpn; clear hpn
  have HL := Lib.hid hl; have HP' := Lib.hid hp
  obtain ⟨sa, sc, ea, ec⟩ := x
  clear hh hl hp
  cases T1 : (errS ha l p != 0)
  · have h0 : errS ha l p = 0 := by simpa using T1
    have HB : Hid (useE ha l p = fl ha.st.length (useF l p l.length) ∧ useR ha l p = prepL ha l p ∧ errS ha l p = 0) := ⟨by rw [useE, if_pos h0], by rw [useR, if_pos h0], h0⟩
    obtain ⟨hv, hpl, hbr⟩ := errS_zero h0
    have HV := Lib.hid hv; have HOK := Lib.hid (single_ok (breach_single hbr)).1
    have hpl' : l.length ≤ p.length := by omega
    have hpl2 : l.length ≤ pn := by rw [← HPN.out]; exact hpl'
    have hl16 := hv.ll
    have hn96 := hv.n2
    clear h0 hv hpl hbr
    have hmk := run_madeI ha.st.length (by omega)
    go_enter Try.func41, Try.ntmps41
    go_wp2_with (fail)
    generalize hw1 : World.alloc _ _ = w1
    obtain ⟨he, o1, -⟩ := alloc1 hw1
    obtain ⟨b0, b1, b2, b3⟩ := obj_cells4 o1
    clear hw1 o1
    (with_reducible refine (HC.out _ he).mono ?_); rintro e w2 ⟨rfl, he2⟩
    go_wp2_with (fail)
    clear hmk
    generalize hw3 : World.alloc w2 _ = w3
    obtain ⟨he3, -, hz3⟩ := alloc1 hw3
    generalize hw4 : madeI _ _ = w4
    obtain ⟨he4, hown, hz4⟩ := madeI_facts (by omega) hw4
    clear hw3 hw4
    have hr3 := (he.trans he2).trans he3
    have hE3 := he2.trans he3
    have hgs : w.heap.size ≤ w3.heap.size := hr3.size
    have hs3 : w2.heap.size + 1 = w3.heap.size := hz3.symm
    have HL3 := Lib.hid (HL.out.ext hr3)
    have HP3 := Lib.hid (HP'.out.ext hr3)
    replace b0 := fun W (h : Ext w3 W) => b0 W (hE3.trans h)
    replace b1 := fun W (h : Ext w3 W) => b1 W (hE3.trans h)
    replace b2 := fun W (h : Ext w3 W) => b2 W (hE3.trans h)
    replace b3 := fun W (h : Ext w3 W) => b3 W (hE3.trans h)
    clear HL HP' he he2 he3 hE3
    rw [hz3] at hown hz4 hgs
    generalize hg : w2.heap.size + 1 = g at *
    clear hs3
    go_loopw [30] (fun i wr => ∃ k : Nat, k ≤ l.length ∧ i = .int .i64 k ∧ Ext w3 wr ∧ Hid (OwnI wr g (.slice (some ⟨g, 0, none⟩) ha.st.length ha.st.length) (fl ha.st.length (useF l p k)))) (fun i _ => l.length - (intOf i).toNat)
    case atStart => exact ⟨0, Nat.zero_le _, rfl, he4, hown⟩
    case round =>
      obtain ⟨k, hk, rfl, hr, hown⟩ := hrel
      by_cases hlt : k < l.length
      · obtain ⟨b, o, rfl, c0, c1, c2, c3, c4, c5, c6⟩ := HL3.out.at k hlt
        obtain ⟨b', o', rfl, d0⟩ := HP3.out.at k (by omega)
        have hkp : k < pn := by omega
        have ht := inTime_bd (HV.out.cb k hlt) (HOK.out k hlt)
        have hho0 := (HV.out.cb k hlt).ho0
        have hho1 := (HV.out.cb k hlt).ho1
        have hla1 := (HV.out.cb k hlt).la1
        obtain ⟨ht0, ht1, ht2, ht3, -, -⟩ := ht
        obtain ⟨s, hs⟩ := Int.eq_ofNat_of_zero_le (show 0 ≤ nth p k by omega)
        obtain ⟨m, hm⟩ := Int.eq_ofNat_of_zero_le (show 0 ≤ (cth l k).ho by omega)
        have hsn : s + m ≤ ha.st.length := by
          have := HOK.out k hlt
          simp only [inTimeB, Bool.and_eq_true, decide_eq_true_eq] at this
          omega
        have hUE := useM_end l p k s m hs hm
        have HUE := Lib.hid hUE
        rw [hs] at d0
        rw [hm] at c2
        clear ht0 ht1 ht2 ht3 hs hm hho0 hho1 hla1 hUE
        go_wp2_with (fail)
        generalize hw5 : World.alloc _ _ = w5
        obtain ⟨he5, o1, -⟩ := alloc1 hw5
        obtain ⟨a0, a1, a2, a3, a4, a5, a6⟩ := obj_cells7 o1
        obtain ⟨bc, hbc⟩ : ∃ bc, bc = wr.heap.size := ⟨_, rfl⟩
        have HBG : Hid (bc ≠ g) := by have := (hown.out.lt g rfl).2; rw [Hid]; omega
        rw [← hbc] at a2 a3
        rw [← hbc]
        clear hw5 o1 c0 c1 c2 c3 c4 c5 c6 a0 a1 a4 a5 a6 hbc
        have hr2 := hr.trans he5
        have hown2 := Lib.hid (hown.out.ext he5)
        have hr0 := Ext.refl w5
        have A3 := Lib.hid (a3 w5 hr0)
        clear hown hr he5 a3
        go_loopw [37] (fun v wq => ∃ d : Nat, d ≤ m ∧ v = .int .i64 d ∧ Ext w3 wq ∧ ExtX g w5 wq ∧ Hid (OwnI wq g (.slice (some ⟨g, 0, none⟩) ha.st.length ha.st.length) (fl ha.st.length fun i => useM l p k s d i))) (fun v _ => m - (intOf v).toNat)
        case atStart => exact ⟨0, Nat.zero_le _, rfl, hr2, ExtX.refl _ _, by rw [useM_zero]; exact hown2.out⟩
        case round =>
          obtain ⟨d, hd, rfl, hq, hxq, how⟩ := hrel
          clear a2 hr0
          by_cases hdl : d < m
          · have hrq := Ext.refl wr
            have z3 := fun W (h : Ext wr W) => h.cell (hxq.cell A3.out HBG.out)
            have p0 := fun W (h : Ext wr W) => d0 W (hq.trans h)
            obtain ⟨q, hqd⟩ : ∃ q : Nat, q = s + d := ⟨_, rfl⟩
            have hwr : IntKind.i64.wrap ((s : Int) + (d : Int)) = (q : Int) := by rw [IntWalk.i64_in _ (by omega)]; omega
            have HW := Lib.hid hwr
            have hsd : q < ha.st.length := by omega
            have HQD := Lib.hid hqd
            clear hwr hqd
            go_wp2_with (fail)
            refine wp_region_still_tail 10 (by kernel_rfl) (by kernel_rfl) ?_
            simp only [List.take_succ_cons, List.take_zero, List.drop_succ_cons, List.drop_zero]
            repeat still_step
            rw [HW.out]
            repeat still_step
            refine wpStill_nil ?_
            change wpList _ _ _ _ _ (World.drew wr)
            have h67 : Ext wr wr.drew := hrq.drew
            have how7 := how.out.ext h67
            have hq7 := hq.trans h67
            have hxq7 := hxq.trans h67.x
            clear how hq hxq hrq z3 p0 h67
            generalize wr.drew = w7 at *
            have hfr := ownI_free (fl_len _ _) how7 q
            have hcell := ownI_cell (fl_len _ _) how7 q hsd
            have how8 := ownI_set (j := q) how7 (cth l k).en
            rw [HQD.out, useM_succ, ← HQD.out] at how8
            have hq8 := hq7.set (p := ⟨g, q, none⟩) (by simp [hz3]) (.int .i64 (cth l k).en)
            have hxq8 := hxq7.set q (.int .i64 (cth l k).en)
            have HO8 := Lib.hid how8
            clear how7 how8
            go_wp2_with (fail)
            go_roundw
            case rel => exact ⟨d + 1, by omega, by go_num, hq8, hxq8, HO8⟩
            case measure => simp [intOf]; omega
          · obtain rfl : d = m := by omega
            have hfe := HUE.out
            rw [Hid, hfe] at how
            have HO := Lib.hid how
            clear how hfe
            go_wp2_with (fail)
            go_roundw
            case rel => exact ⟨k + 1, by omega, by go_num, hq, HO⟩
            case measure => simp [intOf]; omega
      · obtain rfl : k = l.length := by omega
        have hr0 := Ext.refl wr
        replace b0 := fun W (h : Ext wr W) => b0 W (hr.trans h)
        replace b1 := fun W (h : Ext wr W) => b1 W (hr.trans h)
        replace b2 := fun W (h : Ext wr W) => b2 W (hr.trans h)
        replace b3 := fun W (h : Ext wr W) => b3 W (hr.trans h)
        go_wp2_with (fail)
        (with_reducible refine (HPR.out _ (hr3.trans hr) hpl' HV.out HOK.out).mono ?_); rintro e w8 ⟨a8, c8, rfl, he8, ho8⟩
        have HO8 := Lib.hid ho8; have HO9 := Lib.hid (hown.out.ext he8)
        clear ho8 hown
        go_wp2_with (fail)
        go_ret3
        refine ⟨some ⟨g, 0, none⟩, ha.st.length, a8, c8, by rw [HB.out.1, HB.out.2.1, HB.out.2.2, fl_len]; rfl, (hr3.trans hr).trans he8, by rw [HB.out.1]; exact HO9.out.ints.1, by rw [HB.out.2.1]; exact HO8.out.ints.1⟩
  · have HB : Hid (useE ha l p = [] ∧ useR ha l p = []) := by
      have : ¬ errS ha l p = 0 := by simpa using T1
      rw [Hid, useE, useR, if_neg this, if_neg this]; exact ⟨rfl, rfl⟩
    go_enter Try.func41, Try.ntmps41
    go_wp2_with (fail)
    generalize hw1 : World.alloc _ _ = w1
    obtain ⟨he, o1, -⟩ := alloc1 hw1
    obtain ⟨b0, b1, b2, b3⟩ := obj_cells4 o1
    clear hw1 o1
    (with_reducible refine (HC.out _ he).mono ?_); rintro e w2 ⟨rfl, he2⟩
    go_wp2_with (fail)
    go_ret3
    refine ⟨none, 0, none, 0, by rw [HB.out.1, HB.out.2]; rfl, (he.trans he2).alloc _, .inl HB.out.1, .inl HB.out.2⟩
end Go.Proofs.Ytjpgignbjkgjiaa
