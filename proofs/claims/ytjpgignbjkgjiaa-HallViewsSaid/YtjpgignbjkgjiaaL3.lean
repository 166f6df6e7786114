import Derived.Test.YtjpgignbjkgjiaaR9
import Derived.Test.YtjpgignbjkgjiaaR5
import Derived.Deep.RegionHeld3
import Derived.Deep.DrawnRows
set_option linter.unusedVariables false
set_option linter.unusedSimpArgs false
namespace Go.Proofs.Ytjpgignbjkgjiaa
open Go.RowKit
attribute [local go_sem ↓] Go.wp_at_zero Go.wp_at_succ
theorem wide_no {n m k : Int} (h : wideB n m k = false) : ¬ (30 < n ∧ n ≤ 96) ∧ n ≤ 110 ∧ m ≤ 110 ∧ k ≤ 18 := by
  simp [wideB] at h; omega
set_option maxRecDepth 100000 in
set_option maxHeartbeats 4000000 in
theorem views_any (ha : Hal) (x : HP) (l : List Camp) (la : Option Addr) (lc : Nat) (p : List Int) (pa : Option Addr) (pn pc : Nat) (cu : Int) (w : World) (hh : HallAt w ha x) (hl : Camps w la l) (hp : Ints w pa p) (hpn : p.length = pn) :
    Calls Try.prog 3 #[hval ha x, .slice la l.length lc, .agg #[.slice pa pn pc, .int .i64 cu]] w (Ret (.bool true) w) := by
  have hwide := fun W => wide_any ha x la l.length lc W
  have hwrong := fun W (h : Ext w W) => wrong_any ha x l la lc p pa pn pc W (hh.ext h) (hl.ext h) (hp.ext h) hpn
  have hown := fun W (h : Ext w W) q1 q2 => own_any ha x W (hh.ext h) q1 q2
  have hcop := fun W (h : Ext w W) q => copied_any la l.length lc l W (hl.ext h) rfl q
  have hint := fun W (h : Ext w W) q => ints_any pa pn pc p W (hp.ext h) hpn q
  have hsee := fun W (h : Ext w W) i q1 q2 q3 q4 => sees_any ha x l la lc p pa pn pc cu i W (hh.ext h) (hl.ext h) (hp.ext h) q1 hpn q2 q3 q4
  have HWI := Lib.hid hwide; have HWR := Lib.hid hwrong; have HOW := Lib.hid hown; have HCP := Lib.hid hcop; have HIN := Lib.hid hint; have HSE := Lib.hid hsee
  have HPN := Lib.hid hpn
  clear hwide hwrong hown hcop hint hsee hpn hh hl hp
  obtain ⟨sa, sc, ea, ec⟩ := x
  cases T1 : wideB ha.st.length ha.en.length l.length
  rotate_left
  · rw [T1] at HWI
    go_enter Try.func3, Try.ntmps3
    go_wp2_with (fail)
    generalize hw1 : World.alloc _ _ = w1
    obtain ⟨he, o1, o2, -⟩ := alloc2 hw1
    obtain ⟨b0, b1, b2, b3⟩ := obj_cells4 o1
    obtain ⟨a0, a1⟩ := obj_cells2 o2
    clear hw1 o1 o2
    (with_reducible refine (HWI.out _).mono ?_); rintro e w2 ⟨rfl, he2⟩
    go_wp2_with (fail)
    (with_reducible refine (known_any _).mono ?_); rintro e w3 ⟨rfl, he3⟩
    go_wp2_with (fail)
    go_ret
    exact ⟨rfl, (he.trans he2).trans he3⟩
  · rw [T1] at HWI
    have hwn := wide_no T1
    obtain ⟨hn0, hn1, hn2, hn3⟩ := hwn
    clear hn0
    cases T2 : decide ((20 : Int) < (pn : Int))
    rotate_left
    · go_enter Try.func3, Try.ntmps3
      go_wp2_with (fail)
      generalize hw1 : World.alloc _ _ = w1
      obtain ⟨he, o1, o2, -⟩ := alloc2 hw1
      obtain ⟨b0, b1, b2, b3⟩ := obj_cells4 o1
      obtain ⟨a0, a1⟩ := obj_cells2 o2
      clear hw1 o1 o2
      (with_reducible refine (HWI.out _).mono ?_); rintro e w2 ⟨rfl, he2⟩
      go_wp2_with (fail)
      (with_reducible refine (known_any _).mono ?_); rintro e w3 ⟨rfl, he3⟩
      go_wp2_with (fail)
      go_ret
      exact ⟨rfl, (he.trans he2).trans he3⟩
    · have hpn20 : pn ≤ 20 := by simp at T2; omega
      go_enter Try.func3, Try.ntmps3
      go_wp2_with (fail)
      generalize hw1 : World.alloc _ _ = w1
      obtain ⟨he, o1, o2, -⟩ := alloc2 hw1
      obtain ⟨b0, b1, b2, b3⟩ := obj_cells4 o1
      obtain ⟨a0, a1⟩ := obj_cells2 o2
      clear hw1 o1 o2
      (with_reducible refine (HWI.out _).mono ?_); rintro e w2 ⟨rfl, he2⟩
      go_wp2_with (fail)
      go_region_held3 (fun W => Ext w1 W) (first | with_reducible assumption | exact Ext.drew (by with_reducible assumption))
        (first
        | (go_at_call 15; (with_reducible refine (HOW.out _ (he.trans (by with_reducible assumption)) (by omega) (by omega)).mono ?_); rintro e w3 ⟨g6, c6, g10, c10, rfl, he3, -, -, -, ho6, ho10⟩; have hx3 := Ext.trans (show Ext w1 _ by with_reducible assumption) he3; have HO6 := Lib.hid ho6; have HO10 := Lib.hid ho10; clear ho6 ho10)
        | (go_at_call 16; (with_reducible refine (HCP.out _ (he.trans (by with_reducible assumption)) (by omega)).mono ?_); rintro e w4 ⟨ca, cc, rfl, he4, ho4⟩; have hx4 := Ext.trans (show Ext w1 _ by with_reducible assumption) he4; have HO4 := Lib.hid ho4; clear ho4)
        | (go_at_call 17; (with_reducible refine (HIN.out _ (he.trans (by with_reducible assumption)) (by rw [HPN.out]; omega)).mono ?_); rintro e w5 ⟨ia, ic, rfl, he5, ho5⟩; have hx5 := Ext.trans (show Ext w1 _ by with_reducible assumption) he5; have HO5 := Lib.hid ho5; clear ho5)
        | (go_at_call 14; (with_reducible refine (View_any ha ⟨some ⟨g6, 0, none⟩, c6, some ⟨g10, 0, none⟩, c10⟩ l ca cc p ia p.length ic cu w5 ⟨HO6.out.ints.1.ext (he4.trans he5), HO10.out.ints.1.ext (he4.trans he5)⟩ (HO4.out.camps.1.ext he5) HO5.out.ints.1 rfl).mono ?_); rintro e w6 ⟨va, vc, rfl, he6, hby⟩; have hx6 := Ext.trans (show Ext w1 _ by with_reducible assumption) he6; have HBY := Lib.hid hby; clear hby))
      clear HOW HCP HIN HWI HO6 HO10 HO4 HO5 he2 he3 he4 he5 he6 hx3 hx4 hx5
      go_wp2_with (fail)
      (with_reducible refine (HWR.out _ (he.trans hx6)).mono ?_); rintro e w7 ⟨rfl, he7⟩
      have hx7 := hx6.trans he7
      by_cases hE : errS ha l p = 0
      · cases hcu : wi cu 0 20
        · have hvE : viewE ha l p cu = 3 := by rw [viewE, if_pos hE, hcu]; rfl
          have hvL : (viewL ha l p cu).length = 0 := by rw [viewL, if_neg (by rw [hvE]; decide)]; rfl
          rw [hvE, hvL, hE]
          have hc := wi_not.1 hcu
          clear hvE hvL hE HBY
          rcases hc with hc | hc
          · have T3 : decide (cu < 0) = true := decide_eq_true hc
            go_wp2_with (fail)
            (with_reducible refine (known_any _).mono ?_); rintro e w8 ⟨rfl, he8⟩
            go_wp2_with (fail)
            go_ret
            exact ⟨rfl, (he.trans hx7).trans he8⟩
          · have T3 : decide (cu < 0) = false := decide_eq_false (by omega)
            have T4 : decide ((20 : Int) < cu) = true := decide_eq_true hc
            go_wp2_with (fail)
            (with_reducible refine (known_any _).mono ?_); rintro e w8 ⟨rfl, he8⟩
            go_wp2_with (fail)
            go_ret
            exact ⟨rfl, (he.trans hx7).trans he8⟩
        · have hvE : viewE ha l p cu = 0 := by rw [viewE, if_pos hE, hcu]; rfl
          have hvL : viewL ha l p cu = fl ha.st.length (viewF ha l p cu) := by rw [viewL, if_pos hvE]
          have hBY := HBY.out
          rw [hvL] at hBY
          rw [hvE, hvL, hE, fl_len]
          have hc := wi_iff.1 hcu
          obtain ⟨hc0, hc1⟩ := hc
          obtain ⟨hv, hpl, hbr⟩ := errS_zero hE
          have HOK := Lib.hid (single_ok (breach_single hbr))
          have HV := Lib.hid hv
          have HPL := Lib.hid hpl
          have HB2 := Lib.hid (hBY.ext he7)
          clear hvE hvL hE HBY hBY hbr hv hpl
          go_wp2_with (fail)
          go_loopw [10] (fun i wr => ∃ k : Nat, k ≤ ha.st.length ∧ i = .int .i64 k ∧ Ext w7 wr) (fun i _ => ha.st.length - (intOf i).toNat)
          case atStart => exact ⟨0, Nat.zero_le _, rfl, Ext.refl _⟩
          case round =>
            obtain ⟨k, hk, rfl, hr⟩ := hrel
            have hxr := hx7.trans hr
            by_cases hlt : k < ha.st.length
            · obtain ⟨b, o, rfl, c0⟩ := HB2.out.at k (by rw [fl_len]; exact hlt)
              rw [nth_fl _ _ _ hlt] at c0
              replace c0 := fun W (h : Ext wr W) => c0 W (hr.trans h)
              have d0 := fun W (h : Ext wr W) => b0 W (hxr.trans h)
              have d1 := fun W (h : Ext wr W) => b1 W (hxr.trans h)
              have d2 := fun W (h : Ext wr W) => b2 W (hxr.trans h)
              have d3 := fun W (h : Ext wr W) => b3 W (hxr.trans h)
              have f0 := fun W (h : Ext wr W) => a0 W (hxr.trans h)
              have f1 := fun W (h : Ext wr W) => a1 W (hxr.trans h)
              have hsee : ∀ n : Later wr, Calls Try.prog 19 #[hval ha ⟨sa, sc, ea, ec⟩, .slice la l.length lc, .slice pa pn pc, .int .i64 cu, .int .i64 k] n.val (Ret (.int .u8 (viewF ha l p cu k)) n.val) := fun n => HSE.out n.val ((he.trans hxr).trans n.ok) k (by rw [HPL.out]; exact Nat.le_refl _) HV.out HOK.out.1 hlt
              have HS := Lib.hid hsee
              clear hsee
              have hr0 := Ext.refl wr
              go_wp2_with (fail)
              refine wp_region_ext (by kernel_rfl) (by kernel_rfl) hr0 ?_
              repeat (first | go_big_quiet_step ((go_at_call 19; with_reducible exact Calls.later (HS.out _))) | quiet_step ((go_at_call 19; with_reducible exact Calls.later (HS.out _))))
              refine wpQuiet_nil ?_
              rintro _ ⟨nq, rfl⟩
              have hq := nq.ok
              have T : (viewF ha l p cu k != viewF ha l p cu k) = false := bne_self_eq_false _
              clear c0 d0 d1 d2 d3 f0 f1 HS
              go_wp2_with (fail)
              go_roundw
              case rel => exact ⟨k + 1, by omega, by go_num, hr.trans hq⟩
              case measure => simp [intOf]; omega
            · obtain rfl : k = ha.st.length := by omega
              go_wp2_with (fail)
              (with_reducible refine (known_any _).mono ?_); rintro e w8 ⟨rfl, he8⟩
              go_wp2_with (fail)
              go_ret
              exact ⟨rfl, (he.trans hxr).trans he8⟩
      · have hvE : viewE ha l p cu = errS ha l p := by rw [viewE, if_neg hE]
        have hvL : (viewL ha l p cu).length = 0 := by rw [viewL, if_neg (by rw [hvE]; exact hE)]; rfl
        rw [hvE, hvL]
        have T5 : (errS ha l p == 0) = false := by simpa using hE
        have T6 : (errS ha l p != 0) = true := by simpa using hE
        clear hvE hvL hE HBY
        go_wp2_with (fail)
        (with_reducible refine (known_any _).mono ?_); rintro e w8 ⟨rfl, he8⟩
        go_wp2_with (fail)
        go_ret
        exact ⟨rfl, (he.trans hx7).trans he8⟩
end Go.Proofs.Ytjpgignbjkgjiaa
