import Derived.Test.YtjpgignbjkgjiaaR9
import Derived.Test.YtjpgignbjkgjiaaR10
import Derived.Deep.DeepCutAuto
set_option linter.unusedVariables false
set_option linter.unusedSimpArgs false
namespace Go.Proofs.Ytjpgignbjkgjiaa
open Go.RowKit
attribute [local go_sem ↓] Go.wp_at_zero Go.wp_at_succ
theorem wide_no' {n m k : Int} (h : wideB n m k = false) : n ≤ 110 ∧ m ≤ 110 ∧ k ≤ 18 := by
  simp [wideB] at h; omega
set_option maxRecDepth 100000 in
set_option maxHeartbeats 4000000 in
theorem fits_any (ha : Hal) (x : HP) (l : List Camp) (la : Option Addr) (lc : Nat) (p : List Int) (pa : Option Addr) (pn pc : Nat) (c : Camp) (w : World) (hh : HallAt w ha x) (hl : Camps w la l) (hp : Ints w pa p) (hpn : p.length = pn) :
    Calls Try.prog 5 #[hval ha x, .slice la l.length lc, .agg #[.slice pa pn pc, .int .i64 c.cu, .int .i64 c.pr, .int .i64 c.ho, .int .i64 c.en, .int .i64 c.ea, .int .i64 c.la, .int .i64 c.we]] w (Ret (.bool true) w) := by
  obtain ⟨m, hm⟩ : ∃ m, m = l ++ [c] := ⟨_, rfl⟩
  have hwide := fun W => wide_any ha x la l.length lc W
  have hwrong := fun W (h : Ext w W) => wrong_any ha x l la lc p pa pn pc W (hh.ext h) (hl.ext h) (hp.ext h) hpn
  have hown := fun W (h : Ext w W) q1 q2 => own_any ha x W (hh.ext h) q1 q2
  have hcop := fun W (h : Ext w W) q => copied_any la l.length lc l W (hl.ext h) rfl q
  have hint := fun W (h : Ext w W) q => ints_any pa pn pc p W (hp.ext h) hpn q
  have hrc := fun W (h : Ext w W) ca cc (q : Camps W ca m) => refCampaigns ha x m ca cc W (hh.ext h) q
  have hbr := fun W (h : Ext w W) ca cc q ia ic (q1 : Camps W ca m) (q2 : Ints W ia q) q3 q4 => refBreach ha x m ca cc q ia q.length ic W (hh.ext h) q1 q2 q3 rfl q4
  have HWI := Lib.hid hwide; have HWR := Lib.hid hwrong; have HOW := Lib.hid hown; have HCP := Lib.hid hcop; have HIN := Lib.hid hint; have HRC := Lib.hid hrc; have HBR := Lib.hid hbr
  have HPN := Lib.hid hpn
  have HM := Lib.hid hm
  have hml : m.length ≤ l.length + 1 := by rw [hm]; simp
  clear hwide hwrong hown hcop hint hrc hbr hpn hm hh hl hp
  obtain ⟨sa, sc, ea, ec⟩ := x
  cases T1 : wideB ha.st.length ha.en.length l.length
  rotate_left
  · rw [T1] at HWI
    go_enter Try.func5, Try.ntmps5
    go_wp2_with (fail)
    generalize hw1 : World.alloc _ _ = w1
    obtain ⟨he, o1, o2, -⟩ := alloc2 hw1
    obtain ⟨b0, b1, b2, b3⟩ := obj_cells4 o1
    clear hw1 o1 o2
    (with_reducible refine (HWI.out _).mono ?_); rintro e w2 ⟨rfl, he2⟩
    go_wp2_with (fail)
    (with_reducible refine (known_any _).mono ?_); rintro e w3 ⟨rfl, he3⟩
    go_wp2_with (fail)
    go_ret
    exact ⟨rfl, (he.trans he2).trans he3⟩
  · rw [T1] at HWI
    have hwn := wide_no' T1
    obtain ⟨hn1, hn2, hn3⟩ := hwn
    cases T2 : decide ((20 : Int) < (pn : Int))
    rotate_left
    · go_enter Try.func5, Try.ntmps5
      go_wp2_with (fail)
      generalize hw1 : World.alloc _ _ = w1
      obtain ⟨he, o1, o2, -⟩ := alloc2 hw1
      obtain ⟨b0, b1, b2, b3⟩ := obj_cells4 o1
      obtain ⟨a0, a1, a2, a3, a4, a5, a6, a7⟩ := obj_cells8 o2
      clear hw1 o1 o2
      (with_reducible refine (HWI.out _).mono ?_); rintro e w2 ⟨rfl, he2⟩
      go_wp2_with (fail)
      (with_reducible refine (known_any _).mono ?_); rintro e w3 ⟨rfl, he3⟩
      go_wp2_with (fail)
      go_ret
      exact ⟨rfl, (he.trans he2).trans he3⟩
    · have hpn20 : pn ≤ 20 := by simp at T2; omega
      go_enter Try.func5, Try.ntmps5
      go_wp2_with (fail)
      generalize hw1 : World.alloc _ _ = w1
      obtain ⟨he, o1, o2, -⟩ := alloc2 hw1
      obtain ⟨b0, b1, b2, b3⟩ := obj_cells4 o1
      obtain ⟨a0, a1, a2, a3, a4, a5, a6, a7⟩ := obj_cells8 o2
      clear hw1 o1 o2
      (with_reducible refine (HWI.out _).mono ?_); rintro e w2 ⟨rfl, he2⟩
      go_wp2_with (fail)
      go_region_held3 (fun W => Ext w1 W) (first | with_reducible assumption | exact Ext.drew (by with_reducible assumption))
        (first
        | (go_at_call 15; (with_reducible refine (HOW.out _ (he.trans (by with_reducible assumption)) (by omega) (by omega)).mono ?_); rintro e w3 ⟨g6, c6, g10, c10, rfl, he3, -, -, -, ho6, ho10⟩; have hx3 := Ext.trans (show Ext w1 _ by with_reducible assumption) he3; have HO6 := Lib.hid ho6; have HO10 := Lib.hid ho10; clear ho6 ho10)
        | (go_at_call 16; (with_reducible refine (HCP.out _ (he.trans (by with_reducible assumption)) (by omega)).mono ?_); rintro e w4 ⟨ca, cc, rfl, he4, ho4⟩; have hx4 := Ext.trans (show Ext w1 _ by with_reducible assumption) he4; have HO4 := Lib.hid ho4; clear ho4)
        | (go_at_call 17; (with_reducible refine (HIN.out _ (he.trans (by with_reducible assumption)) (by rw [HPN.out]; omega)).mono ?_); rintro e w5 ⟨ia, ic, rfl, he5, ho5⟩; have hx5 := Ext.trans (show Ext w1 _ by with_reducible assumption) he5; have HO5 := Lib.hid ho5; clear ho5)
        | (go_at_call 22; (with_reducible refine (Fit_any ha ⟨some ⟨g6, 0, none⟩, c6, some ⟨g10, 0, none⟩, c10⟩ l ca cc p ia p.length ic c w5 ⟨HO6.out.ints.1.ext (he4.trans he5), HO10.out.ints.1.ext (he4.trans he5)⟩ (HO4.out.camps.1.ext he5) HO5.out.ints.1 rfl).mono ?_); rintro e w6 ⟨rfl, he6⟩; have hx6 := Ext.trans (show Ext w1 _ by with_reducible assumption) he6)
        | fail)
      clear HOW HWI HO6 HO10 HO4 HO5 he2 he3 he4 he5 he6 hx3 hx4 hx5
      go_wp2_with (fail)
      (with_reducible refine (HWR.out _ (he.trans hx6)).mono ?_); rintro e w7 ⟨rfl, he7⟩
      have hx7 := hx6.trans he7
      by_cases hE : errS ha l p = 0
      rotate_left
      · have hfT : fitT ha l p c = 0 := by rw [fitT, if_neg hE]
        have hfE : fitE ha l p c = errS ha l p := by rw [fitE, if_neg hE]
        rw [hfT, hfE]
        have T6 : (errS ha l p != 0) = true := by simpa using hE
        clear hfT hfE hE
        go_wp2_with (fail)
        (with_reducible refine (known_any _).mono ?_); rintro e w8 ⟨rfl, he8⟩
        go_wp2_with (fail)
        go_ret
        exact ⟨rfl, (he.trans hx7).trans he8⟩
      · have hfT : fitT ha l p c = if campsB ha m then idxZ (fitO ha l p c) else 0 := by rw [fitT, if_pos hE, HM.out]
        have hfE : fitE ha l p c = if campsB ha m then (if (fitO ha l p c).isSome then 0 else 102) else 2 := by rw [fitE, if_pos hE, HM.out]
        obtain ⟨hv, hpl, -⟩ := errS_zero hE
        have HPL := Lib.hid hpl
        have HF := Lib.hid (And.intro hfT hfE)
        have hpn16 : pn ≤ 16 := by rw [← HPN.out]; have := hv.ll; omega
        have hl16 := hv.ll
        rw [hE]
        generalize fitT ha l p c = fT at *
        generalize fitE ha l p c = fE at *
        clear hfT hfE hE hpl hv
        go_wp2_with (fail)
        clear hx6 he7
        have hr0 := Ext.refl w7
        have d0 := fun W (h : Ext w7 W) => b0 W (hx7.trans h)
        have d1 := fun W (h : Ext w7 W) => b1 W (hx7.trans h)
        have d2 := fun W (h : Ext w7 W) => b2 W (hx7.trans h)
        have d3 := fun W (h : Ext w7 W) => b3 W (hx7.trans h)
        have f0 := fun W (h : Ext w7 W) => a0 W (hx7.trans h)
        have f1 := fun W (h : Ext w7 W) => a1 W (hx7.trans h)
        have f2 := fun W (h : Ext w7 W) => a2 W (hx7.trans h)
        have f3 := fun W (h : Ext w7 W) => a3 W (hx7.trans h)
        have f4 := fun W (h : Ext w7 W) => a4 W (hx7.trans h)
        have f5 := fun W (h : Ext w7 W) => a5 W (hx7.trans h)
        have f6 := fun W (h : Ext w7 W) => a6 W (hx7.trans h)
        have f7 := fun W (h : Ext w7 W) => a7 W (hx7.trans h)
        clear b0 b1 b2 b3 a0 a1 a2 a3 a4 a5 a6 a7
        have hw7 := he.trans hx7
        go_cut [10] (fun s wx => ∃ ca cc, s = .slice ca m.length cc ∧ Ext w7 wx ∧ Camps wx ca m)
        case first =>
          go_region_held3 (fun W => Ext w7 W) (first | with_reducible assumption | exact Ext.drew (by with_reducible assumption) | exact Ext.alloc (by with_reducible assumption) _ | exact (Ext.alloc (by with_reducible assumption) _).drew)
            (first
            | (go_at_call 16; (with_reducible refine (HCP.out _ (hw7.trans (by with_reducible assumption)) (by omega)).mono ?_); rintro e w4 ⟨ca, cc, rfl, he4, ho4⟩; have hx4 := Ext.trans (show Ext w7 _ by with_reducible assumption) he4; have HO4 := Lib.hid (own_downC ho4 (show Ext w7 _ by with_reducible assumption).size); clear ho4)
            | ((refine step_app (by rfl) (.tmp 53) (.tmp 56) 25 (by rfl) _ _ (by rfl) (by rfl) _ (app_camps _ w7.heap.size _ _ l [c] (some ⟨_, 0, none⟩) 1 (by first | exact HO4.out | exact HO4.out.ext ((Ext.refl _).alloc _)) (by first | exact camps_one (heap_new _ _) | exact (camps_one (heap_newd _ _)).ext he4 | exact (camps_one (heap_new _ _)).ext he4) (by simp; omega) (by have := hx4.size; first | omega | (rw [heap_size]; omega))) ?_; rintro v5 w5 ⟨hv5, hg5⟩; have hx5 : Ext w7 w5 := grown_ext (by first | exact hx4 | exact hx4.alloc _) hg5 (ownC_block HO4.out)))
            | fail)
          all_goals
            go_wp2_with fail
            go_meet
            obtain ⟨a', n', c', rfl⟩ := ownC_slice hv5
            rw [← HM.out] at hv5
            obtain ⟨hcs, hn', -⟩ := hv5.camps
            subst hn'
            exact ⟨a', c', rfl, hx5, hcs⟩
        case rest =>
          obtain ⟨ca, cc, rfl, hxc, hcam⟩ := hcut
          have HCAM := Lib.hid hcam
          clear hcam
          go_wp2_with (fail)
          cases T2 : campsB ha m
          · have hcc := HRC.out _ (hw7.trans hxc) ca cc HCAM.out
            rw [T2] at hcc
            have hz : fT = 0 ∧ fE = 2 := by rw [T2] at HF; exact HF.out
            obtain ⟨rfl, rfl⟩ := hz
            have HCC1 := Lib.hid hcc
            clear hcc
            (with_reducible refine HCC1.out.mono ?_); rintro e w8 ⟨rfl, he8⟩
            go_wp2_with (fail)
            (with_reducible refine (known_any _).mono ?_); rintro e w9 ⟨rfl, he9⟩
            go_wp2_with (fail)
            go_ret
            exact ⟨rfl, ((hw7.trans hxc).trans he8).trans he9⟩
          · have hcc := HRC.out _ (hw7.trans hxc) ca cc HCAM.out
            rw [T2] at hcc
            rw [T2] at HF
            have HCC1 := Lib.hid hcc
            have hv := campsB_vh T2
            have HV := Lib.hid hv
            have hn96 := hv.n2
            clear hcc hv
            (with_reducible refine HCC1.out.mono ?_); rintro e w8 ⟨rfl, he8⟩
            have hx8 := hxc.trans he8
            go_wp2_with (fail)
            go_loopw [11] (fun i wr => ∃ k : Nat, k ≤ ha.st.length ∧ i = .int .i64 k ∧ Ext w8 wr ∧ Hid (∀ j, j < k → fitQ ha l p c (j : Nat) = false)) (fun i _ => ha.st.length - (intOf i).toNat)
            case atStart => exact ⟨0, Nat.zero_le _, rfl, Ext.refl _, fun j hj => by omega⟩
            case round =>
              obtain ⟨k, hk, rfl, hr, hf⟩ := hrel
              have hxr := hx8.trans hr
              by_cases hlt : k < ha.st.length
              · obtain ⟨q, hq⟩ : ∃ q, q = p ++ [(k : Int)] := ⟨_, rfl⟩
                have HQ := Lib.hid hq
                have hfq : fitQ ha l p c (k : Int) = ((breachS ha m q).ru == 0) := by rw [HM.out, hq]; rfl
                have hql : m.length ≤ q.length := by rw [HM.out, hq]; simp; have := HPL.out; omega
                have HFQ := Lib.hid hfq
                clear hq hfq
                have hwr := Lib.hid (hw7.trans hxr)
                have hcr := Lib.hid (he8.trans hr)
                have g0 := fun W (h : Ext wr W) => d0 W (hxr.trans h)
                have g1 := fun W (h : Ext wr W) => d1 W (hxr.trans h)
                have g2 := fun W (h : Ext wr W) => d2 W (hxr.trans h)
                have g3 := fun W (h : Ext wr W) => d3 W (hxr.trans h)
                have k0 := fun W (h : Ext wr W) => f0 W (hxr.trans h)
                have hr0 := Ext.refl wr
                go_wp2_with (fail)
                go_region_held3 (fun W => Ext wr W) (first | with_reducible assumption | exact Ext.drew (by with_reducible assumption) | exact Ext.alloc (by with_reducible assumption) _ | exact (Ext.alloc (by with_reducible assumption) _).drew)
                  (first
                  | (go_at_call 17; (with_reducible refine (HIN.out _ (hwr.out.trans (by with_reducible assumption)) (by rw [HPN.out]; omega)).mono ?_); rintro e w9 ⟨ia, ic, rfl, he9, ho9⟩; have hx9 := Ext.trans (show Ext wr _ by with_reducible assumption) he9; have HO9 := Lib.hid (own_down ho9 (show Ext wr _ by with_reducible assumption).size); clear ho9)
                  | ((refine step_app (by rfl) (.tmp 82) (.tmp 84) 22 (by rfl) _ _ (by rfl) (by rfl) _ (app_ints _ wr.heap.size _ _ p [(k : Int)] (some ⟨_, 0, none⟩) 1 (by first | exact HO9.out | exact HO9.out.ext ((Ext.refl _).alloc _)) (by first | exact ints_one (heap_new _ _) | exact (ints_one (heap_newd _ _)).ext he9 | exact (ints_one (heap_new _ _)).ext he9) (by rw [HPN.out]; simp; omega) (by have := hx9.size; first | omega | (rw [heap_size]; omega))) ?_; rintro v10 w10 ⟨hv10, hg10⟩; have hx10 : Ext wr w10 := grown_ext (by first | exact hx9 | exact hx9.alloc _) hg10 (own_block HO9.out); rw [← HQ.out] at hv10; obtain ⟨ja, jn, jc, rfl⟩ := own_slice hv10; have hin := hv10.ints; obtain ⟨hji, hjn, -⟩ := hin; subst hjn))
                  | (go_at_call 24; (with_reducible refine (HBR.out _ (hwr.out.trans hx10) ca cc q ja jc (HCAM.out.ext (hcr.out.trans hx10)) hji hql HV.out).mono ?_); rintro e w11 ⟨rfl, he11⟩; have hx11 := Ext.trans (show Ext wr _ by with_reducible assumption) he11)
                  | fail)
                all_goals
                  have hx12 := hr.trans hx11
                  clear g0 g1 g2 g3 k0 hr0 hji hv10
                  cases T3 : fitQ ha l p c (k : Int)
                  · have hf2 := Lib.hid (all_lt_succ (q := fun j => fitQ ha l p c (j : Nat)) hf.out T3)
                    have T4 : ((breachS ha m q).ru == 0) = false := by rw [← HFQ.out]; exact T3
                    clear T3
                    go_wp2_with (fail)
                    go_roundw
                    case rel => exact ⟨k + 1, by omega, by go_num, hx12, hf2⟩
                    case measure => simp [intOf]; omega
                  · have hfo : fitO ha l p c = some k := fIdx_some hlt T3 hf.out
                    have hz : fT = k ∧ fE = 0 := by have := HF.out; rw [hfo] at this; exact this
                    obtain ⟨rfl, rfl⟩ := hz
                    have T4 : ((breachS ha m q).ru == 0) = true := by rw [← HFQ.out]; exact T3
                    clear T3 hfo
                    go_wp2_with (fail)
                    (with_reducible refine (known_any _).mono ?_); rintro e w13 ⟨rfl, he13⟩
                    go_wp2_with (fail)
                    go_ret
                    exact ⟨rfl, ((hw7.trans hx8).trans hx12).trans he13⟩
              · obtain rfl : k = ha.st.length := by omega
                have hfo : fitO ha l p c = none := fIdx_none hf.out
                have hz : fT = 0 ∧ fE = 102 := by have := HF.out; rw [hfo] at this; exact this
                obtain ⟨rfl, rfl⟩ := hz
                clear hfo
                go_wp2_with (fail)
                (with_reducible refine (known_any _).mono ?_); rintro e w13 ⟨rfl, he13⟩
                go_wp2_with (fail)
                go_ret
                exact ⟨rfl, ((hw7.trans hx8).trans hr).trans he13⟩
end Go.Proofs.Ytjpgignbjkgjiaa
