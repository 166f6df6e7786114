import Derived.Test.YtjpgignbjkgjiaaR24
import Derived.Test.YtjpgignbjkgjiaaR9
import Derived.Test.YtjpgignbjkgjiaaR11
set_option linter.unusedVariables false
set_option linter.unusedSimpArgs false
namespace Go.Proofs.Ytjpgignbjkgjiaa
open Go.RowKit
attribute [local go_sem ↓] Go.wp_at_zero Go.wp_at_succ
theorem wide_no4 {n m k : Int} (h : wideB n m k = false) : n ≤ 110 ∧ m ≤ 110 ∧ k ≤ 18 := by
  simp only [wideB, Bool.or_eq_false_iff, decide_eq_false_iff_not] at h
  omega
theorem sameB_self (xs : List Int) : sameB xs xs = true := by simp [sameB]
set_option maxRecDepth 100000 in
set_option maxHeartbeats 8000000 in
theorem checks_law (ha : Hal) (x : HP) (l : List Camp) (la : Option Addr) (lc : Nat) (p : List Int) (pa : Option Addr) (pn pc : Nat) (w : World) (hh : HallAt w ha x) (hl : Camps w la l) (hp : Ints w pa p) (hpn : p.length = pn) :
    Calls Try.prog 11 #[hval ha x, .slice la l.length lc, .slice pa pn pc] w (Ret (.bool true) w) := by
  have hwide := fun W => wide_any ha x la l.length lc W
  have hown := fun W (h : Ext w W) q1 q2 => own_any ha x W (hh.ext h) q1 q2
  have hcop := fun W (h : Ext w W) q => copied_any la l.length lc l W (hl.ext h) rfl q
  have hint := fun W (h : Ext w W) q => ints_any pa pn pc p W (hp.ext h) hpn q
  have hrh := fun W (h : Ext w W) => refHall ha x W (hh.ext h)
  have hrc := fun W (h : Ext w W) => refCampaigns ha x l la lc W (hh.ext h) (hl.ext h)
  have hwr := fun W (h : Ext w W) => wrong_any ha x l la lc p pa pn pc W (hh.ext h) (hl.ext h) (hp.ext h) hpn
  have hrb := fun W (h : Ext w W) q1 q2 => refBreach ha x l la lc p pa pn pc W (hh.ext h) (hl.ext h) (hp.ext h) q1 hpn q2
  have hco := fun W (h : Ext w W) q1 q3 q4 q5 => refCost_any l la lc ha.st.length p pa pn pc W (hl.ext h) (hp.ext h) q1 hpn q3 q4 q5
  have hrr := fun W (h : Ext w W) q1 q2 q3 => refRooms ha x l la lc p pa pn pc W (hh.ext h) (hl.ext h) (hp.ext h) q1 hpn q2 q3
  have HWI := Lib.hid hwide; have HOW := Lib.hid hown; have HCP := Lib.hid hcop; have HIN := Lib.hid hint; have HRH := Lib.hid hrh; have HRC := Lib.hid hrc; have HWR := Lib.hid hwr; have HRB := Lib.hid hrb; have HCO := Lib.hid hco; have HRR := Lib.hid hrr
  have HPN := Lib.hid hpn; have HL := Lib.hid hl; have HP' := Lib.hid hp; have HSTF := Lib.hid hh.st; have HEN := Lib.hid hh.en
  clear hwide hown hcop hint hrh hrc hwr hrb hco hrr hh hl hp hpn
  obtain ⟨sa, sc, ea, ec⟩ := x
  cases T1 : wideB ha.st.length ha.en.length l.length
  rotate_left
  · rw [T1] at HWI
    go_enter Try.func11, Try.ntmps11
    go_wp2_with (fail)
    generalize hw1 : World.alloc _ _ = w1
    obtain ⟨he, o1, -⟩ := alloc1 hw1
    clear o1
    (with_reducible refine (HWI.out _).mono ?_); rintro e w2 ⟨rfl, he2⟩
    go_wp2_with (fail)
    (with_reducible refine (known_any _).mono ?_); rintro e w3 ⟨rfl, he3⟩
    go_wp2_with (fail)
    go_ret
    exact ⟨rfl, (he.trans he2).trans he3⟩
  · have hwn := wide_no4 T1
    obtain ⟨hn1, hn2, hn3⟩ := hwn
    rw [T1] at HWI
    cases T2 : decide ((20 : Int) < (pn : Int))
    rotate_left
    · go_enter Try.func11, Try.ntmps11
      go_wp2_with (fail)
      generalize hw1 : World.alloc _ _ = w1
      obtain ⟨he, o1, -⟩ := alloc1 hw1
      clear o1
      (with_reducible refine (HWI.out _).mono ?_); rintro e w2 ⟨rfl, he2⟩
      go_wp2_with (fail)
      (with_reducible refine (known_any _).mono ?_); rintro e w3 ⟨rfl, he3⟩
      go_wp2_with (fail)
      go_ret
      exact ⟨rfl, (he.trans he2).trans he3⟩
    · have hpn20 : pn ≤ 20 := by simp at T2; omega
      go_enter Try.func11, Try.ntmps11
      go_wp2_with (fail)
      generalize hw1 : World.alloc _ _ = w1
      obtain ⟨he, o1, -⟩ := alloc1 hw1
      obtain ⟨b0, b1, b2, b3⟩ := obj_cells4 o1
      clear hw1 o1
      (with_reducible refine (HWI.out _).mono ?_); rintro e w2 ⟨rfl, he2⟩
      go_wp2_with (fail)
      (with_reducible refine (HOW.out _ (he.trans he2) (by omega) (by omega)).mono ?_); rintro e w3 ⟨g6, c6, g10, c10, rfl, he3, -, -, -, ho6, ho10⟩
      have HO6 := Lib.hid ho6; have HO10 := Lib.hid ho10
      have hx3 := (he.trans he2).trans he3
      clear ho6 ho10
      go_wp2_with (fail)
      (with_reducible refine (HCP.out _ hx3 (by omega)).mono ?_); rintro e w4 ⟨ca, cc, rfl, he4, ho4⟩
      have HO4 := Lib.hid ho4
      have hx4 := hx3.trans he4
      clear ho4
      go_wp2_with (fail)
      (with_reducible refine (HIN.out _ hx4 (by rw [HPN.out]; omega)).mono ?_); rintro e w5 ⟨ia, ic, rfl, he5, ho5⟩
      have HO5 := Lib.hid ho5
      have hx5 := hx4.trans he5
      clear ho5
      go_upto_region 4 with fail
      generalize hw6 : World.alloc w5 _ = w6
      obtain ⟨he6, o6, -⟩ := alloc1 hw6
      obtain ⟨i0, i1, i2, i3⟩ := obj_cells4 o6
      obtain ⟨gi, hgi⟩ : ∃ gi, gi = w5.heap.size := ⟨_, rfl⟩
      rw [← hgi] at i0 i1 i2 i3
      rw [← hgi]
      have HHA : Hid (HallAt w6 ha ⟨some ⟨g6, 0, none⟩, c6, some ⟨g10, 0, none⟩, c10⟩) := ⟨HO6.out.ints.1.ext ((he4.trans he5).trans he6), HO10.out.ints.1.ext ((he4.trans he5).trans he6)⟩
      have HCA : Hid (Camps w6 ca l) := HO4.out.camps.1.ext (he5.trans he6)
      have HIA : Hid (Ints w6 ia p) := HO5.out.ints.1.ext he6
      have hx6 := hx5.trans he6
      have h16 := (((he2.trans he3).trans he4).trans he5).trans he6
      replace b0 := fun W (h : Ext w6 W) => b0 W (h16.trans h)
      replace b1 := fun W (h : Ext w6 W) => b1 W (h16.trans h)
      replace b2 := fun W (h : Ext w6 W) => b2 W (h16.trans h)
      replace b3 := fun W (h : Ext w6 W) => b3 W (h16.trans h)
      clear hw6 o6 hgi HO6 HO10 HO4 HO5 he he2 he3 he4 he5 he6 hx3 hx4 hx5 h16 HWI HOW HCP HIN
      have hr6 := Ext.refl w6
      obtain ⟨hb, hhb⟩ : ∃ hb, hb = halB ha := ⟨_, rfl⟩
      obtain ⟨cb, hcb⟩ : ∃ cb, cb = campsB ha l := ⟨_, rfl⟩
      obtain ⟨ev, hev⟩ : ∃ ev, ev = errIf hb 2 := ⟨_, rfl⟩
      obtain ⟨fv, hfv⟩ : ∃ fv, fv = errIf cb 2 := ⟨_, rfl⟩
      have hcc := fun W (h : Ext w6 W) => checkCampaigns ha ⟨some ⟨g6, 0, none⟩, c6, some ⟨g10, 0, none⟩, c10⟩ l ca cc W (HHA.out.ext h) (HCA.out.ext h)
      have hch := fun W (h : Ext w6 W) => checkHall ha ⟨some ⟨g6, 0, none⟩, c6, some ⟨g10, 0, none⟩, c10⟩ W (HHA.out.ext h)
      have hrh := HRH.out
      have hrc := HRC.out
      simp only [← hcb, ← hfv] at hcc
      simp only [← hhb, ← hev] at hch
      simp only [← hhb] at hrh
      simp only [← hcb] at hrc
      have HCC := Lib.hid hcc; have HCH := Lib.hid hch; have HR1 := Lib.hid hrh; have HR2 := Lib.hid hrc
      have hsp : (hb = false ∧ cb = false ∧ ev = 2 ∧ fv = 2) ∨ (hb = true ∧ cb = false ∧ ev = 0 ∧ fv = 2) ∨ (hb = true ∧ cb = true ∧ ev = 0 ∧ fv = 0) := by
        have h1 : cb = true → hb = true := fun h => by
          rw [hcb, campsB] at h
          simp only [Bool.and_eq_true] at h
          rw [hhb]; exact h.1.1
        rw [hev, hfv]
        cases hb with
        | false =>
          cases cb with
          | false => exact .inl ⟨rfl, rfl, rfl, rfl⟩
          | true => exact absurd (h1 rfl) (by simp)
        | true =>
          cases cb with
          | false => exact .inr (.inl ⟨rfl, rfl, rfl, rfl⟩)
          | true => exact .inr (.inr ⟨rfl, rfl, rfl, rfl⟩)
      clear hcc hch hrh hrc hhb hcb hev hfv HRH HRC
      refine wp_region_ext (by kernel_rfl) (by kernel_rfl) hr6 ?_
      repeat (first | go_big_quiet_step (first | (go_at_call 42; exact Calls.later (HCH.out _ (Later.ext _))) | (go_at_call 37; exact Calls.later (HCC.out _ (Later.ext _)))))
      refine wpQuiet_nil ?_
      rintro _ ⟨nq, rfl⟩
      have h67 := nq.ok
      clear HCC HCH
      go_upto_region 5 with fail
      go_cut [71] (fun s wx => s = .bool false ∧ Ext w6 wx)
      case first =>
        rcases hsp with ⟨rfl, rfl, rfl, rfl⟩ | ⟨rfl, rfl, rfl, rfl⟩ | ⟨rfl, rfl, rfl, rfl⟩
        all_goals
          go_wp2_with fail
          (with_reducible refine (HR1.out _ (hx6.trans h67)).mono ?_); rintro e w8 ⟨rfl, he8⟩
          have h68 := h67.trans he8
          go_wp2_with fail
          (with_reducible refine (HR2.out _ (hx6.trans h68)).mono ?_); rintro e w9 ⟨rfl, he9⟩
          go_wp2_with fail
          go_meet
          exact ⟨rfl, h68.trans he9⟩
      case rest =>
        obtain ⟨rfl, hr⟩ := hcut
        clear h67 hsp HR1 HR2 hr6
        go_wp2_with (fail)
        (with_reducible refine (Check_any ha ⟨some ⟨g6, 0, none⟩, c6, some ⟨g10, 0, none⟩, c10⟩ l ca cc p ia p.length ic _ (HHA.out.ext hr) (HCA.out.ext hr) (HIA.out.ext hr) rfl).mono ?_); rintro e w8 ⟨rfl, he8⟩
        have hr8 := hr.trans he8
        clear hr he8
        go_upto_region 8 with fail
        generalize hw9 : World.alloc w8 _ = w9
        obtain ⟨he9, o9, -⟩ := alloc1 hw9
        obtain ⟨gb, hgb⟩ : ∃ gb, gb = w8.heap.size := ⟨_, rfl⟩
        rw [← hgb] at o9
        rw [← hgb]
        obtain ⟨y0, y1, y2, y3⟩ := obj_cells4 o9
        have hr9 := hr8.trans he9
        clear hw9 o9 hgb hr8 he9
        go_wp2_with (fail)
        (with_reducible refine (Cost_any ha ⟨some ⟨g6, 0, none⟩, c6, some ⟨g10, 0, none⟩, c10⟩ l ca cc p ia p.length ic _ (HHA.out.ext hr9) (HCA.out.ext hr9) (HIA.out.ext hr9) rfl).mono ?_); rintro e w10 ⟨rfl, he10⟩
        have hr10 := hr9.trans he10
        go_wp2_with (fail)
        (with_reducible refine (Use_any ha ⟨some ⟨g6, 0, none⟩, c6, some ⟨g10, 0, none⟩, c10⟩ l ca cc p ia p.length ic _ (HHA.out.ext hr10) (HCA.out.ext hr10) (HIA.out.ext hr10) rfl).mono ?_); rintro e w11 ⟨ua, uc, va, vc, rfl, he11, hui, hvi⟩
        have HUI := Lib.hid hui; have HVI := Lib.hid hvi
        have hr11 := hr10.trans he11
        clear hui hvi
        go_wp2_with (fail)
        (with_reducible refine (Rooms_any ha ⟨some ⟨g6, 0, none⟩, c6, some ⟨g10, 0, none⟩, c10⟩ l ca cc p ia p.length ic _ (HHA.out.ext hr11) (HCA.out.ext hr11) (HIA.out.ext hr11) rfl).mono ?_); rintro e w12 ⟨ra, rc, rfl, he12, hri⟩
        have hr12 := hr11.trans he12
        have hy12 := (he10.trans he11).trans he12
        have HU2 := Lib.hid (HUI.out.ext he12); have HV2 := Lib.hid (HVI.out.ext he12); have HR := Lib.hid hri
        replace b0 := fun W (h : Ext w12 W) => b0 W (hr12.trans h)
        replace b1 := fun W (h : Ext w12 W) => b1 W (hr12.trans h)
        replace b2 := fun W (h : Ext w12 W) => b2 W (hr12.trans h)
        replace b3 := fun W (h : Ext w12 W) => b3 W (hr12.trans h)
        replace i0 := fun W (h : Ext w12 W) => i0 W (hr12.trans h)
        replace i1 := fun W (h : Ext w12 W) => i1 W (hr12.trans h)
        replace i2 := fun W (h : Ext w12 W) => i2 W (hr12.trans h)
        replace i3 := fun W (h : Ext w12 W) => i3 W (hr12.trans h)
        replace y0 := fun W (h : Ext w12 W) => y0 W (hy12.trans h)
        replace y1 := fun W (h : Ext w12 W) => y1 W (hy12.trans h)
        replace y2 := fun W (h : Ext w12 W) => y2 W (hy12.trans h)
        replace y3 := fun W (h : Ext w12 W) => y3 W (hy12.trans h)
        have hxw := hx6.trans hr12
        have HHA2 := Lib.hid (HHA.out.ext hr12); have HIA2 := Lib.hid (HIA.out.ext hr12)
        clear hri HUI HVI he10 he11 he12 hr9 hr10 hr11 hr12 hy12 HHA HCA HIA hx6
        have hr0 := Ext.refl w12
        obtain ⟨n7, hn7⟩ : ∃ n, n = (roomsS ha l p).length := ⟨_, rfl⟩
        obtain ⟨n9, hn9⟩ : ∃ n, n = (useE ha l p).length := ⟨_, rfl⟩
        obtain ⟨n10, hn10⟩ : ∃ n, n = (useR ha l p).length := ⟨_, rfl⟩
        rw [← hn7, ← hn9, ← hn10]
        have HN7 := Lib.hid hn7; have HN9 := Lib.hid hn9; have HN10 := Lib.hid hn10
        clear hn7 hn9 hn10
        go_wp2_with (fail)
        (with_reducible refine (same_any ha.st ha.st _ _ ha.st.length ha.st.length _ _ _ HHA2.out.st (HSTF.out.ext hxw) rfl rfl (by omega) (by omega)).mono ?_); rintro e w13 ⟨rfl, he13⟩
        rw [sameB_self]
        go_wp2_with (fail)
        (with_reducible refine (same_any ha.en ha.en _ _ ha.en.length ha.en.length _ _ _ (HHA2.out.en.ext he13) (HEN.out.ext (hxw.trans he13)) rfl rfl (by omega) (by omega)).mono ?_); rintro e w14 ⟨rfl, he14⟩
        rw [sameB_self]
        have hq14 := he13.trans he14
        go_wp2_with (fail)
        (with_reducible refine (same_any p p _ _ p.length pn _ _ _ (HIA2.out.ext hq14) (HP'.out.ext (hxw.trans hq14)) rfl HPN.out (by rw [HPN.out]; omega) (by omega)).mono ?_); rintro e w15 ⟨rfl, he15⟩
        rw [sameB_self]
        have hq15 := hq14.trans he15
        clear he13 he14 he15 hq14
        go_wp2_with (fail)
        (with_reducible refine (HWR.out _ (hxw.trans hq15)).mono ?_); rintro e w16 ⟨rfl, he16⟩
        have hq16 := hq15.trans he16
        clear hq15 he16
        cases T5 : (errS ha l p != 0)
        rotate_left
        · have h0 : ¬ errS ha l p = 0 := by simpa using T5
          obtain rfl : n7 = 0 := by rw [HN7.out, roomsS, if_neg h0]; rfl
          obtain rfl : n9 = 0 := by rw [HN9.out, useE, if_neg h0]; rfl
          obtain rfl : n10 = 0 := by rw [HN10.out, useR, if_neg h0]; rfl
          rw [show costR ha l p = 0 from by rw [costR, if_neg h0]]
          cases T6 : (errS ha l p == 100)
          · have hz : chkB ha l p = Br.zero := by
              have h100 : ¬ errS ha l p = 100 := by simpa using T6
              unfold chkB
              unfold errS at h0 h100
              split
              · rename_i q; rw [if_pos q] at h0 h100
                split
                · rfl
                · rename_i q2; rw [if_neg q2] at h100; exact absurd rfl h100
              · rfl
            rw [hz] at y0 y1 y2 y3
            simp only [Br.zero] at y0 y1 y2 y3
            clear hz h0
            go_upto_region 18 with fail
            generalize hw17 : World.alloc w16 _ = w17
            obtain ⟨he17, o17, -⟩ := alloc1 hw17
            obtain ⟨z0, z1, z2, z3⟩ := obj_cells4 o17
            have hq17 := hq16.trans he17
            have hr17 := Ext.refl w17
            clear hw17 o17 hq16 he17
            go_wp2_with (fail)
            (with_reducible refine (known_any _).mono ?_); rintro e w18 ⟨rfl, he18⟩
            go_wp2_with (fail)
            go_ret
            exact ⟨rfl, (hxw.trans hq17).trans he18⟩
          · have h100 : errS ha l p = 100 := by simpa using T6
            have hce : checkE ha l p.length = 0 := by
              refine Classical.byContradiction fun q => ?_
              rw [errS, if_neg q] at h100
              unfold checkE at h100
              split at h100
              · split at h100 <;> omega
              · omega
            have hz : chkB ha l p = breachS ha l p := by
              unfold chkB
              rw [if_pos hce]
              rw [errS, if_pos hce] at h100
              split
              · rename_i q; rw [if_pos q] at h100; omega
              · rfl
            obtain ⟨hv, hpl⟩ := checkE_zero hce
            have HV := Lib.hid hv
            have hpl' : l.length ≤ p.length := by omega
            rw [hz] at y0 y1 y2 y3
            clear hz h0 h100 hce hv hpl
            go_upto_region 18 with fail
            generalize hw17 : World.alloc w16 _ = w17
            obtain ⟨he17, o17, -⟩ := alloc1 hw17
            obtain ⟨gz, hgz⟩ : ∃ gz, gz = w16.heap.size := ⟨_, rfl⟩
            have hgz2 : w12.heap.size ≤ gz := by have := hq16.size; omega
            rw [← hgz] at o17
            rw [← hgz]
            have hq17 := hq16.trans he17
            have hr17 := Ext.refl w17
            have HO17 := Lib.hid o17
            clear hw17 o17 hq16 he17 hgz
            go_wp2_with (fail)
            (with_reducible refine (HRB.out _ (hxw.trans hq17) hpl' HV.out).mono ?_); rintro e w18 ⟨rfl, he18⟩
            have hq18 := hq17.trans he18
            have HO18 := Lib.hid (he18.block HO17.out)
            have f0 := obj_free HO18.out w18 (Ext.refl _)
            obtain ⟨z0, z1, z2, z3⟩ := obj_cells4 HO18.out
            have hr18 := Ext.refl w18
            clear hr17
            go_upto_region 20 with fail
            generalize hw19 : World.setCell (World.setCell (World.setCell (World.setCell w18 _ _) _ _) _ _) _ _ = w19
            have o19 : w19.heap[gz]? = some (.cells #[.int .u8 (breachS ha l p).ru, .int .i64 (breachS ha l p).a, .int .i64 (breachS ha l p).b, .int .i64 (breachS ha l p).ho] 55 (0, 0)) := by
              rw [← hw19]; exact block_set (block_set (block_set (block_set HO18.out 0 _) 1 _) 2 _) 3 _
            have hq19 : Ext w12 w19 := by
              rw [← hw19]; exact (((hq18.set hgz2 _).set hgz2 _).set hgz2 _).set hgz2 _
            clear z0 z1 z2 z3 f0 hw19 hq18 hr18
            obtain ⟨z0, z1, z2, z3⟩ := obj_cells4 o19
            have hr19 := Ext.refl w19
            clear o19
            go_wp2_with (fail)
            (with_reducible refine (known_any _).mono ?_); rintro e w20 ⟨rfl, he20⟩
            go_wp2_with (fail)
            go_ret
            exact ⟨rfl, (hxw.trans hq19).trans he20⟩
        · have h0 : errS ha l p = 0 := by simpa using T5
          obtain ⟨hv, hpl, hbr⟩ := errS_zero h0
          obtain rfl : n7 = l.length := by rw [HN7.out, roomsS, if_pos h0, fl_len]
          obtain rfl : n9 = ha.st.length := by rw [HN9.out, useE, if_pos h0, fl_len]
          obtain rfl : n10 = ha.st.length := by rw [HN10.out, useR, if_pos h0, prepL_len]
          obtain rfl : pn = l.length := by rw [← HPN.out]; exact hpl
          have HR' : Hid (Ints w12 ra (fl l.length (roomF ha l p))) := by have := HR.out; rw [roomsS, if_pos h0] at this; exact this
          have HU' : Hid (Ints w12 ua (fl ha.st.length (useF l p l.length))) := by have := HU2.out; rw [useE, if_pos h0] at this; exact this
          have HV' : Hid (Ints w12 va (fl ha.st.length (fun i => cntTo l p l.length i))) := by have := HV2.out; rw [useR, if_pos h0] at this; exact this
          have HV := Lib.hid hv; have HBR := Lib.hid hbr; have HPL := Lib.hid hpl
          rw [show costR ha l p = costTo l p l.length from by rw [costR, if_pos h0]]
          have hz : chkB ha l p = Br.zero := by
            unfold chkB
            split
            · rfl
            · rfl
          rw [hz] at y0 y1 y2 y3
          simp only [Br.zero] at y0 y1 y2 y3
          rw [h0]
          clear hz h0 hv hpl hbr HR HU2 HV2 HN7 HN9 HN10
          have hrq := hq16
          have HB96 : Hid (∀ i, i < l.length → 0 ≤ nth p i ∧ nth p i ≤ 96) := fun i hi => by
            have := bg_in HV.out HBR.out hi; have := HV.out.n2
            omega
          go_wp2_with (fail)
          (with_reducible refine (HCO.out _ (hxw.trans hq16) (by rw [HPL.out]; exact Nat.le_refl _) HV.out.ll HV.out.cb HB96.out).mono ?_); rintro e w17 ⟨rfl, he17⟩
          have hq17 := hq16.trans he17
          clear hq16 hrq he17
          go_wp2_with (fail)
          (with_reducible refine (HRR.out _ (hxw.trans hq17) HPL.out HV.out HBR.out).mono ?_); rintro e w18 ⟨ra2, rc2, rfl, he18, ho18⟩
          have HO18 := Lib.hid ho18
          have hq18 := hq17.trans he18
          obtain ⟨n18, hn18⟩ : ∃ n, n = (fl l.length (roomF ha l p)).length := ⟨_, rfl⟩
          rw [← hn18]
          have HN18 := Lib.hid hn18
          have hn18b : n18 ≤ 1000 := by rw [hn18, fl_len]; omega
          clear ho18 hq17 he18 hn18
          go_wp2_with (fail)
          (with_reducible refine (same_any (fl l.length (roomF ha l p)) (fl l.length (roomF ha l p)) _ _ l.length n18 _ _ _ (HR'.out.ext hq18) HO18.out.ints.1 (fl_len _ _) HN18.out.symm (by omega) (by omega)).mono ?_); rintro e w19 ⟨rfl, he19⟩
          rw [sameB_self]
          have hq19 := hq18.trans he19
          clear hq18 he19
          go_wp2_with (fail)
          go_loopw [22] (fun i wr => ∃ h : Nat, h ≤ ha.st.length ∧ i = .int .i64 h ∧ Ext w12 wr) (fun i _ => ha.st.length - (intOf i).toNat)
          case atStart => exact ⟨0, Nat.zero_le _, rfl, hq19⟩
          case round =>
            clear hq19
            obtain ⟨h, hh, rfl, hr⟩ := hrel
            by_cases hlt : h < ha.st.length
            · obtain ⟨be, oe, rfl, e0⟩ := HU'.out.at h (by rw [fl_len]; exact hlt)
              rw [nth_fl _ _ _ hlt, useF_doc HV.out HBR.out] at e0
              obtain ⟨bv, ov, rfl, v0⟩ := HV'.out.at h (by rw [fl_len]; exact hlt)
              rw [nth_fl _ _ _ hlt] at v0
              replace e0 := fun W (h : Ext wr W) => e0 W (hr.trans h)
              replace v0 := fun W (h : Ext wr W) => v0 W (hr.trans h)
              have hrr := Ext.refl wr
              have HEA := Lib.hid (fun W (h' : Ext wr W) => energy_any l la lc p pa l.length pc h W (HL.out.ext (hxw.trans (hr.trans h'))) (HP'.out.ext (hxw.trans (hr.trans h'))) (by rw [HPL.out]; exact Nat.le_refl _) HPL.out (by have := HV.out.ll; omega) (fun i hi => by have := HB96.out i hi; omega) (by omega))
              have HCA := Lib.hid (fun W (h' : Ext wr W) => count_any l la lc p pa l.length pc (h : Nat) W (HL.out.ext (hxw.trans (hr.trans h'))) (HP'.out.ext (hxw.trans (hr.trans h'))) (by rw [HPL.out]; exact Nat.le_refl _) HPL.out (by have := HV.out.ll; omega) (fun i hi => by have := HB96.out i hi; omega) (by omega))
              go_wp2_with (fail)
              refine wp_region_ext (by kernel_rfl) (by kernel_rfl) hrr ?_
              repeat (first | go_big_quiet_step (first | (go_at_call 45; exact Calls.later (HEA.out _ (Later.ext _))) | (go_at_call 46; exact Calls.later (HCA.out _ (Later.ext _)))))
              refine wpQuiet_nil ?_
              rintro _ ⟨nq, rfl⟩
              have hq := hr.trans nq.ok
              go_wp2_with (fail)
              go_roundw
              case rel => exact ⟨h + 1, by omega, by go_num, hq⟩
              case measure => simp [intOf]; omega
            · obtain rfl : h = ha.st.length := by omega
              go_wp2_with (fail)
              (with_reducible refine (known_any _).mono ?_); rintro e w20 ⟨rfl, he20⟩
              go_wp2_with (fail)
              go_ret
              exact ⟨rfl, (hxw.trans hr).trans he20⟩
end Go.Proofs.Ytjpgignbjkgjiaa
