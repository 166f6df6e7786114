import Derived.Test.YtjpgignbjkgjiaaR17
import Derived.Test.YtjpgignbjkgjiaaR9
set_option linter.unusedVariables false
set_option linter.unusedSimpArgs false
namespace Go.Proofs.Ytjpgignbjkgjiaa
open Go.RowKit
theorem wide_no3 {n m k : Int} (h : wideB n m k = false) : n ≤ 110 ∧ m ≤ 110 ∧ k ≤ 18 := by
  simp [wideB] at h; omega
theorem many_no {n k : Int} (h : manyB n k = false) : ¬ (14 < n ∧ n ≤ 96) ∧ ¬ (3 < k ∧ k ≤ 4) := by
  simp [manyB] at h; omega
set_option maxRecDepth 100000 in
set_option maxHeartbeats 8000000 in
theorem bests_any (ha : Hal) (x : HP) (l : List Camp) (la : Option Addr) (lc : Nat) (w : World) (hh : HallAt w ha x) (hl : Camps w la l) :
    Calls Try.prog 7 #[hval ha x, .slice la l.length lc] w (Ret (.bool true) w) := by
  have hwide := fun W => wide_any ha x la l.length lc W
  have hmany := fun W => many_any ha x la l.length lc W
  have hown := fun W (h : Ext w W) q1 q2 => own_any ha x W (hh.ext h) q1 q2
  have hcop := fun W (h : Ext w W) q => copied_any la l.length lc l W (hl.ext h) rfl q
  have hrc := fun W (h : Ext w W) => refCampaigns ha x l la lc W (hh.ext h) (hl.ext h)
  have hcr := fun W (h : Ext w W) hv => refCrowded ha x l la lc W (hh.ext h) (hl.ext h) hv
  have hbo := fun W (h : Ext w W) hv => refBound ha x l la lc W (hh.ext h) (hl.ext h) hv
  have hho := fun W (h : Ext w W) q => hours_any ha x 0 W q (by omega) (by omega)
  have hal := fun W (h : Ext w W) hv ss sla slc hss hsl L hL hm hcnt => refAll ha x l la lc ss sla slc W (hh.ext h) (hl.ext h) hv hss hsl L hL hm hcnt
  have hco := fun W (h : Ext w W) q qa qc (q2 : Ints W qa q) h16 hcb q3 q4 => refCost_any l la lc ha.st.length q qa q.length qc W (hl.ext h) q2 q3 rfl h16 hcb q4
  have HWI := Lib.hid hwide; have HMA := Lib.hid hmany; have HOW := Lib.hid hown; have HCP := Lib.hid hcop; have HRC := Lib.hid hrc; have HCR := Lib.hid hcr; have HBO := Lib.hid hbo
  have HHO := Lib.hid hho; have HAL := Lib.hid hal; have HCO := Lib.hid hco
  clear hwide hmany hown hcop hrc hcr hbo hho hal hco hh hl
  obtain ⟨sa, sc, ea, ec⟩ := x
  cases T1 : wideB ha.st.length ha.en.length l.length
  rotate_left
  · rw [T1] at HWI
    go_enter Try.func7, Try.ntmps7
    go_wp2_with (fail)
    generalize hw1 : World.alloc _ _ = w1
    obtain ⟨he, o1, -⟩ := alloc1 hw1
    obtain ⟨b0, b1, b2, b3⟩ := obj_cells4 o1
    clear hw1 o1
    (with_reducible refine (HWI.out _).mono ?_); rintro e w2 ⟨rfl, he2⟩
    go_wp2_with (fail)
    (with_reducible refine (known_any _).mono ?_); rintro e w3 ⟨rfl, he3⟩
    go_wp2_with (fail)
    go_ret
    exact ⟨rfl, (he.trans he2).trans he3⟩
  · rw [T1] at HWI
    have hwn := wide_no3 T1
    obtain ⟨hn1, hn2, hn3⟩ := hwn
    cases T2 : manyB ha.st.length l.length
    rotate_left
    · rw [T2] at HMA
      go_enter Try.func7, Try.ntmps7
      go_wp2_with (fail)
      generalize hw1 : World.alloc _ _ = w1
      obtain ⟨he, o1, -⟩ := alloc1 hw1
      obtain ⟨b0, b1, b2, b3⟩ := obj_cells4 o1
      clear hw1 o1
      (with_reducible refine (HWI.out _).mono ?_); rintro e w2 ⟨rfl, he2⟩
      go_wp2_with (fail)
      (with_reducible refine (HMA.out _).mono ?_); rintro e w2 ⟨rfl, he2⟩
      go_wp2_with (fail)
      (with_reducible refine (known_any _).mono ?_); rintro e w3 ⟨rfl, he3⟩
      go_wp2_with (fail)
      go_ret
      exact ⟨rfl, ((he.trans (by assumption)).trans he2).trans he3⟩
    · rw [T2] at HMA
      have hmn := many_no T2
      have HMN := Lib.hid hmn
      clear hmn
      go_enter Try.func7, Try.ntmps7
      go_wp2_with (fail)
      generalize hw1 : World.alloc _ _ = w1
      obtain ⟨he, o1, -⟩ := alloc1 hw1
      obtain ⟨b0, b1, b2, b3⟩ := obj_cells4 o1
      clear hw1 o1
      (with_reducible refine (HWI.out _).mono ?_); rintro e w2 ⟨rfl, he2⟩
      go_wp2_with (fail)
      (with_reducible refine (HMA.out _).mono ?_); rintro e w3 ⟨rfl, he3⟩
      have hx3 := he2.trans he3
      clear he2 he3
      go_wp2_with (fail)
      (with_reducible refine (HOW.out _ (he.trans hx3) (by omega) (by omega)).mono ?_); rintro e w4 ⟨g6, c6, g10, c10, rfl, he4, -, -, -, ho6, ho10⟩
      have HO6 := Lib.hid ho6; have HO10 := Lib.hid ho10
      have hx4 := hx3.trans he4
      clear ho6 ho10 hx3
      go_wp2_with (fail)
      (with_reducible refine (HCP.out _ (he.trans hx4) (by omega)).mono ?_); rintro e w5 ⟨ca, cc, rfl, he5, ho5⟩
      have HO5 := Lib.hid ho5
      have hx5 := hx4.trans he5
      clear ho5 hx4
      go_wp2_with (fail)
      (with_reducible refine (Best_any2 ha ⟨some ⟨g6, 0, none⟩, c6, some ⟨g10, 0, none⟩, c10⟩ l ca cc w5 ⟨HO6.out.ints.1.ext he5, HO10.out.ints.1.ext he5⟩ HO5.out.camps.1).mono ?_); rintro e w6 ⟨pa, pc, rfl, he6, hbi⟩
      have HBI := Lib.hid hbi
      have hx6 := hx5.trans he6
      clear hbi hx5 HO6 HO10 HO5 he4 he5
      go_wp2_with (fail)
      (with_reducible refine (HOW.out _ (he.trans hx6) (by omega) (by omega)).mono ?_); rintro e w7 ⟨g6, c6, g10, c10, rfl, he7, -, -, -, ho6, ho10⟩
      have HO6 := Lib.hid ho6; have HO10 := Lib.hid ho10
      have hx7 := hx6.trans he7
      clear ho6 ho10
      go_wp2_with (fail)
      (with_reducible refine (HCP.out _ (he.trans hx7) (by omega)).mono ?_); rintro e w8 ⟨ca, cc, rfl, he8, ho5⟩
      have HO5 := Lib.hid ho5
      have hx8 := hx7.trans he8
      clear ho5
      go_wp2_with (fail)
      (with_reducible refine (Bound_any ha ⟨some ⟨g6, 0, none⟩, c6, some ⟨g10, 0, none⟩, c10⟩ l ca cc w8 ⟨HO6.out.ints.1.ext he8, HO10.out.ints.1.ext he8⟩ HO5.out.camps.1).mono ?_); rintro e w9 ⟨rfl, he9⟩
      have hx9 := hx8.trans he9
      clear HO6 HO10 HO5
      go_wp2_with (fail)
      (with_reducible refine (HOW.out _ (he.trans hx9) (by omega) (by omega)).mono ?_); rintro e w10 ⟨g6, c6, g10, c10, rfl, he10, -, -, -, ho6, ho10⟩
      have HO6 := Lib.hid ho6; have HO10 := Lib.hid ho10
      have hx10 := hx9.trans he10
      clear ho6 ho10
      go_wp2_with (fail)
      (with_reducible refine (HCP.out _ (he.trans hx10) (by omega)).mono ?_); rintro e w11 ⟨ca, cc, rfl, he11, ho5⟩
      have HO5 := Lib.hid ho5
      have hx11 := hx10.trans he11
      clear ho5
      go_wp2_with (fail)
      (with_reducible refine (Crowded_any ha ⟨some ⟨g6, 0, none⟩, c6, some ⟨g10, 0, none⟩, c10⟩ l ca cc w11 ⟨HO6.out.ints.1.ext he11, HO10.out.ints.1.ext he11⟩ HO5.out.camps.1).mono ?_); rintro e w12 ⟨rfl, he12⟩
      have hx12 := hx11.trans he12
      have h612 : Ext w6 w12 := ((((he7.trans he8).trans he9).trans he10).trans he11).trans he12
      clear HO6 HO10 HO5 hx6 hx7 hx8 hx9 hx10 hx11 he6 he7 he8 he9 he10 he11 he12
      go_wp2_with (fail)
      generalize hw13 : World.alloc _ _ = w13
      obtain ⟨he13, o13, -⟩ := alloc1 hw13
      obtain ⟨y0, y1, y2, y3⟩ := obj_cells4 o13
      clear hw13 o13
      have hx13 := hx12.trans he13
      have h613 := h612.trans he13
      clear hx12 h612
      generalize w12.heap.size = g12 at *
      have hBI := Lib.hid (HBI.out.ext h613)
      clear h613 HBI he13
      cases T3 : campsB ha l
      · have hrc := HRC.out _ (he.trans hx13)
        rw [T3] at hrc
        have hz : bestP ha l = [] ∧ bestK ha l = 0 ∧ bestE ha l = 2 ∧ boundT ha l = 0 ∧ boundE ha l = 2 ∧ crE ha l = 2 ∧ crB ha l = false ∧ crR ha l = Cr.zero := by
          simp [bestP, bestK, bestE, boundT, boundE, crE, crB, crR, T3]
        obtain ⟨z1, z2, z3, z4, z5, z6, z7, z8⟩ := hz
        rw [z1, z2, z3, z4, z5, z6, z7]
        rw [z8] at y0 y1 y2 y3 ⊢
        simp only [List.length_nil, Cr.zero] at y0 y1 y2 y3 ⊢
        have HR1 := Lib.hid hrc
        clear hrc z1 z2 z3 z4 z5 z6 z7 z8
        (with_reducible refine HR1.out.mono ?_); rintro e w14 ⟨rfl, he14⟩
        have hx14 := hx13.trans he14
        replace y0 := fun W (h : Ext w14 W) => y0 W (he14.trans h)
        replace y1 := fun W (h : Ext w14 W) => y1 W (he14.trans h)
        replace y2 := fun W (h : Ext w14 W) => y2 W (he14.trans h)
        replace y3 := fun W (h : Ext w14 W) => y3 W (he14.trans h)
        have hr0 := Ext.refl w14
        go_wp2_with (fail)
        (with_reducible refine (known_any _).mono ?_); rintro e w15 ⟨rfl, he15⟩
        go_wp2_with (fail)
        go_ret
        exact ⟨rfl, (he.trans hx14).trans he15⟩
      · have hrc := HRC.out _ (he.trans hx13)
        rw [T3] at hrc
        have hv := campsB_vh T3
        have hz : crE ha l = 0 ∧ crB ha l = crowdB ha l ∧ crR ha l = crowdR ha l := by
          simp [crE, crB, crR, T3]
        obtain ⟨z6, z7, z8⟩ := hz
        rw [z6, z7]
        rw [z8] at y0 y1 y2 y3 ⊢
        have HR1 := Lib.hid hrc
        have HV := Lib.hid hv
        have hn96 := hv.n2
        have hl16 := hv.ll
        have HB : Hid ((boundT ha l = bndT ha l) ∧ (boundE ha l = if anyEmpty (leftS ha l 0) then 101 else 0)) := by simp [Hid, boundT, boundE, bndT, T3]
        have HBE : Hid ((bestP ha l = if l.length ≤ 4 then stP (bestSt ha l) else []) ∧ (bestK ha l = if l.length ≤ 4 then stCost (bestSt ha l) else 0) ∧ (bestE ha l = if l.length ≤ 4 then (if stFound (bestSt ha l) then 0 else 101) else 5)) := by
          simp [Hid, bestP, bestK, bestE, T3]
        clear hrc hv z6 z7 z8
        (with_reducible refine HR1.out.mono ?_); rintro e w14 ⟨rfl, he14⟩
        have hx14 := hx13.trans he14
        go_wp2_with (fail)
        (with_reducible refine (HCR.out _ (he.trans hx14) HV.out).mono ?_); rintro e w15 ⟨rfl, he15⟩
        have hx15 := hx14.trans he15
        have h1315 := he14.trans he15
        go_wp2_with (fail)
        generalize hw16 : World.alloc _ _ = w16
        obtain ⟨he16, o16, -⟩ := alloc1 hw16
        obtain ⟨x0, x1, x2, x3⟩ := obj_cells4 o16
        clear hw16 o16
        have hx16 := hx15.trans he16
        have h1316 := h1315.trans he16
        replace y0 := fun W (h : Ext w16 W) => y0 W (h1316.trans h)
        replace y1 := fun W (h : Ext w16 W) => y1 W (h1316.trans h)
        replace y2 := fun W (h : Ext w16 W) => y2 W (h1316.trans h)
        replace y3 := fun W (h : Ext w16 W) => y3 W (h1316.trans h)
        have hr0 := Ext.refl w16
        generalize crowdR ha l = cr at *
        generalize crowdB ha l = cb at *
        (with_reducible refine (HBO.out _ (he.trans hx16) HV.out).mono ?_); rintro e w17 ⟨rfl, he17⟩
        have hx17 := hx16.trans he17
        have hBJ := Lib.hid (hBI.out.ext (h1316.trans he17))
        have hx := Lib.hid (he.trans hx17)
        have d0 := fun W (h : Ext w17 W) => b0 W (hx17.trans h)
        have d1 := fun W (h : Ext w17 W) => b1 W (hx17.trans h)
        have d2 := fun W (h : Ext w17 W) => b2 W (hx17.trans h)
        have d3 := fun W (h : Ext w17 W) => b3 W (hx17.trans h)
        clear hBI h1315 h1316 hx13 hx14 hx15 hx16 he14 he15 he16 he17 x0 x1 x2 x3 y0 y1 y2 y3 hr0 b0 b1 b2 b3
        have hr0 := Ext.refl w17
        obtain ⟨bE, hbE⟩ : ∃ b : Bool, b = anyEmpty (leftS ha l 0) := ⟨_, rfl⟩
        rw [← hbE] at HB ⊢
        have hbo : (bE = true ∧ boundE ha l = 101 ∧ boundT ha l = 0) ∨ (bE = false ∧ boundE ha l = 0 ∧ boundT ha l = bndT ha l) := by
          cases bE with
          | true => exact .inl ⟨rfl, HB.out.2, by rw [HB.out.1, bndT, ← hbE]; rfl⟩
          | false => exact .inr ⟨rfl, HB.out.2, HB.out.1⟩
        clear hbE HB
        generalize bndT ha l = bt at *
        rcases hbo with ⟨rfl, h1, h2⟩ | ⟨rfl, h1, h2⟩
        all_goals
          rw [h1, h2]
          clear h1 h2
          cases T5 : decide ((4 : Int) < (l.length : Int))
          rotate_left
          · have hgt : ¬ l.length ≤ 4 := by simp at T5; omega
            have hz : bestP ha l = [] ∧ bestK ha l = 0 ∧ bestE ha l = 5 := by
              rw [HBE.out.1, HBE.out.2.1, HBE.out.2.2, if_neg hgt, if_neg hgt, if_neg hgt]; exact ⟨rfl, rfl, rfl⟩
            obtain ⟨z1, z2, z3⟩ := hz
            rw [z1, z2, z3]
            simp only [List.length_nil]
            clear z1 z2 z3 hgt
            go_wp2_with (fail)
            (with_reducible refine (known_any _).mono ?_); rintro e w18 ⟨rfl, he18⟩
            go_wp2_with (fail)
            go_ret
            exact ⟨rfl, hx.out.trans he18⟩
          · have hle : l.length ≤ 4 := by simp at T5; omega
            have hl3 : l.length ≤ 3 := by have := HMN.out.2; omega
            have hn14 : ha.st.length ≤ 14 := by have := HMN.out.1; omega
            have hz : bestP ha l = stP (bestSt ha l) ∧ bestK ha l = stCost (bestSt ha l) ∧ bestE ha l = if stFound (bestSt ha l) then 0 else 101 := by
              rw [HBE.out.1, HBE.out.2.1, HBE.out.2.2, if_pos hle, if_pos hle, if_pos hle]; exact ⟨rfl, rfl, rfl⟩
            obtain ⟨z1, z2, z3⟩ := hz
            rw [z1, z2, z3]
            rw [z1] at hBJ
            clear z1 z2 z3 hle
            have HBA := Lib.hid (bestSt_all HV.out)
            generalize bestSt ha l = bst at *
            obtain ⟨bER, hbER⟩ : ∃ b : Int, b = if stFound bst then 0 else 101 := ⟨_, rfl⟩
            have HER := Lib.hid hbER
            rw [← hbER]
            clear hbER
            obtain ⟨H, hH⟩ : ∃ H, H = hoursS ha.st.length 0 := ⟨_, rfl⟩
            have HHH := Lib.hid hH
            have hH14 : H.length ≤ 14 := by rw [hH, hoursS_len]; omega
            rw [← hH] at HBA HHO
            clear hH
            go_wp2_with (fail)
            generalize hw18 : World.alloc _ _ = w18
            obtain ⟨he18, o18, -⟩ := alloc1 hw18
            have hp18 := plans_zero (B := w17.heap.size) o18 (Nat.le_refl _)
            have HP18 := Lib.hid hp18
            clear hw18 o18 hp18
            go_loopw [17, 18] (fun v i wr => ∃ k : Nat, k ≤ l.length ∧ i = .int .i64 k ∧ Ext w17 wr ∧ Hid (PlansB w17.heap.size wr v (List.replicate k H))) (fun _ i _ => l.length - (intOf i).toNat)
            case atStart => exact ⟨0, Nat.zero_le _, rfl, he18, HP18.out⟩
            case round =>
              clear he18 HP18
              obtain ⟨k, hk, rfl, hr, hpl⟩ := hrel
              by_cases hlt : k < l.length
              · obtain ⟨va, vc, hv17⟩ := hpl.out.form
                subst hv17
                have hplen : (List.replicate k H).length ≤ 900000 := by rw [List.length_replicate]; omega
                have hrep : List.replicate (k + 1) H = List.replicate k H ++ [H] := List.replicate_succ'
                have HREP := Lib.hid hrep
                clear hrep
                generalize List.replicate k H = pl at *
                go_wp2_with (fail)
                (with_reducible refine (HHO.out _ (hx.out.trans hr) (by omega)).mono ?_); rintro e w19 ⟨ia, ic, rfl, he19, ho19⟩
                have hr19 := hr.trans he19
                have hi19 := ho19.intsT
                have happ := plans_app (w19.alloc (.cells #[.slice ia H.length ic] 22)) w17.heap.size 62 _ pl ((hpl.out.ext he19).ext ((Ext.refl _).alloc _)) ia H ic w19.heap.size (hi19.ext ((Ext.refl _).alloc _)) (heap_new _ _) hplen (by have := hr19.size; rw [heap_size]; omega)
                have HA := Lib.hid happ
                clear happ hi19 ho19
                go_wp2_with (at_builtin; refine wpList_app _ rfl _ _ 62 rfl _ HA.out ?_; rintro v' w' ⟨hv', hg⟩; have hE' : Ext w17 w' := grown_ext (hr19.alloc _) hg hpl.out.block; have HV' := Lib.hid hv'; clear hg hv' HA)
                go_roundw
                case rel => exact ⟨k + 1, by omega, by go_num, hE', by rw [HREP.out]; exact HV'.out⟩
                case measure => simp [intOf]; omega
              · obtain rfl : k = l.length := by omega
                obtain ⟨ss', q1, q2, q3⟩ := hpl.out
                have hsl' : ss'.length = l.length := by rw [← lsts_len, q1, List.length_replicate]
                rw [hsl'] at q2
                obtain ⟨sla, slc, hav, hsls⟩ := sls_of_own q2 hsl' fun j hj => (q3 j (by omega)).ints
                subst hav
                have hL : ∀ j, j < l.length → H = (sth ss' j).xs := fun j hj => by
                  rw [← lth_lsts _ _ (by omega), q1, lth_eq _ _ (by rw [List.length_replicate]; exact hj)]; simp
                have hall := HAL.out wr (hx.out.trans hr) HV.out ss' sla slc hsls hsl' (fun _ => H) hL (fun j hj => by omega) fun k hk => prodN_const_le hH14 (by omega)
                rw [← HBA.out] at hall
                have HALL := Lib.hid hall
                have hbj := Lib.hid (hBJ.out.ext hr)
                have hco := fun p k (h : bst = some (p, k)) W (hW : Ext wr W) qa qc (q : Ints W qa p) => HCO.out W (hx.out.trans (hr.trans hW)) p qa qc q HV.out.ll HV.out.cb (by
                  have h1 := (allSt_some (HBA.out ▸ h)).1
                  have := ((prodN_mem _ _ _).1 h1).1; omega) (fun i hi => by
                  have h1 := (allSt_some (HBA.out ▸ h)).2.1
                  have := inTime_bd (HV.out.cb i hi) ((single_ok (breach_single h1)).1 i hi); omega)
                have hkk := fun p k (h : bst = some (p, k)) => (allSt_some (HBA.out ▸ h)).2.2
                have hpl1 := fun p k (h : bst = some (p, k)) => ((prodN_mem _ _ _).1 (allSt_some (HBA.out ▸ h)).1).1
                have HC2 := Lib.hid hco; have HK2 := Lib.hid hkk; have HP2 := Lib.hid hpl1
                clear hall hco hkk hpl1 hL hsls q1 q2 q3 hpl hBJ hsl'
                go_wp2_with (fail)
                (with_reducible refine HALL.out.mono ?_); rintro e w20 ⟨ra, rc, rfl, he20, hs20⟩
                rw [allV_eq]
                have hx20 := (hx.out.trans hr).trans he20
                cases bst with
                | none =>
                  have hE : bER = 101 := HER.out
                  subst hE
                  simp only [allSl, stFound, Option.isSome_none, stP, stCost, List.length_nil]
                  go_wp2_with (fail)
                  (with_reducible refine (known_any _).mono ?_); rintro e w21 ⟨rfl, he21⟩
                  go_wp2_with (fail)
                  go_ret
                  exact ⟨rfl, hx20.trans he21⟩
                | some pk =>
                  obtain ⟨p, k⟩ := pk
                  have hE : bER = 0 := HER.out
                  subst hE
                  have hin : Ints w20 ra p := hs20
                  have hin2 : Ints w20 pa p := hbj.out.ext he20
                  have hp16 : p.length ≤ 16 := by have := HP2.out p k rfl; omega
                  have hsm : Calls Try.prog 28 #[.slice pa p.length pc, .slice ra p.length rc] w20 (Ret (.bool true) w20) := by
                    have := same_any p p pa ra p.length p.length pc rc w20 hin2 hin rfl rfl (by omega) (by omega)
                    rwa [show sameB p p = true from decide_eq_true rfl] at this
                  have hcs := fun W (h : Ext w20 W) => HC2.out p k rfl W (he20.trans h) ra rc (hin.ext h)
                  rw [← HK2.out p k rfl] at hcs
                  have HSM := Lib.hid hsm; have HCS := Lib.hid hcs
                  clear hin hin2 hs20 hsm hcs
                  simp only [allSl, stFound, Option.isSome_some, stP, stCost]
                  go_wp2_with (fail)
                  (with_reducible refine HSM.out.mono ?_); rintro e w21 ⟨rfl, he21⟩
                  go_wp2_with (fail)
                  (with_reducible refine (HCS.out w21 he21).mono ?_); rintro e w22 ⟨rfl, he22⟩
                  go_wp2_with (fail)
                  (with_reducible refine (known_any _).mono ?_); rintro e w23 ⟨rfl, he23⟩
                  go_wp2_with (fail)
                  go_ret
                  exact ⟨rfl, ((hx20.trans he21).trans he22).trans he23⟩
end Go.Proofs.Ytjpgignbjkgjiaa
