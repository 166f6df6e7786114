import Derived.Test.YtjpgignbjkgjiaaL7
import Derived.Test.YtjpgignbjkgjiaaL6
import Derived.Test.YtjpgignbjkgjiaaR20
import Derived.Test.YtjpgignbjkgjiaaR25
import Derived.Deep.DrawnRows
set_option linter.unusedVariables false
set_option linter.unusedSimpArgs false
namespace Go.Proofs.Ytjpgignbjkgjiaa
open Go.RowKit
attribute [local go_sem ↓] Go.wp_at_zero Go.wp_at_succ
set_option maxRecDepth 100000 in
set_option maxHeartbeats 80000000 in
theorem nothing_none (ha : Hal) (x : HP) (l : List Camp) (la : Option Addr) (lc : Nat) (P : List (List Int)) (qa : Option Addr) (qc : Nat) (w : World) (hh : HallAt w ha x) (hl : Camps w la l)
    (hP : Pls w qa P) (hPb : ∀ i, i < P.length → (lth P i).length * 8 ≤ 140737488351232) (T1 : decide ((24 : Int) < (ha.st.length : Int)) = false) (T2 : decide ((4 : Int) < (l.length : Int)) = false) (T3 : decide ((20 : Int) < (P.length : Int)) = false) (T4 : decide ((200 : Int) < (ha.en.length : Int)) = false)
    (hcase : campsB ha l = false ∨ bestSt ha l = none) :
    Calls Try.prog 8 #[hval ha x, .slice la l.length lc, .slice qa P.length qc] w (Ret (.bool true) w) := by
  have hown := fun W (h : Ext w W) q1 q2 => own_any ha x W (hh.ext h) q1 q2
  have hcop := fun W (h : Ext w W) q => copied_any la l.length lc l W (hl.ext h) rfl q
  have HOW := Lib.hid hown; have HCP := Lib.hid hcop
  have HL := Lib.hid hl; have HPL := Lib.hid hP; have HPB := Lib.hid hPb
  clear hown hcop hh hl hP hPb
  obtain ⟨sa, sc, ea, ec⟩ := x
  have hn24 : ha.st.length ≤ 24 := by simp at T1; omega
  have hn4 : l.length ≤ 4 := by simp at T2; omega
  have hP20 : P.length ≤ 20 := by simp at T3; omega
  have hen200 : ha.en.length ≤ 200 := by simp at T4; omega
  go_enter Try.func8, Try.ntmps8
  go_wp2_with (fail)
  generalize hw1 : World.alloc _ _ = w1
  obtain ⟨he, o1, -⟩ := alloc1 hw1
  obtain ⟨b0, b1, b2, b3⟩ := obj_cells4 o1
  clear hw1 o1
  have hr := Ext.refl w1
  go_wp2_with (fail)
  (with_reducible refine (HOW.out _ he (by omega) (by omega)).mono ?_); rintro e w4 ⟨g6, c6, g10, c10, rfl, he4, -, -, -, ho6, ho10⟩
  have HO6 := Lib.hid ho6; have HO10 := Lib.hid ho10
  have hx4 := he4
  clear ho6 ho10 hr
  go_wp2_with (fail)
  (with_reducible refine (HCP.out _ (he.trans hx4) (by omega)).mono ?_); rintro e w5 ⟨ca, cc, rfl, he5, ho5⟩
  have HO5 := Lib.hid ho5
  have hx5 := hx4.trans he5
  clear ho5 hx4
  go_wp2_with (fail)
  (with_reducible refine (Best_any2 ha ⟨some ⟨g6, 0, none⟩, c6, some ⟨g10, 0, none⟩, c10⟩ l ca cc w5 ⟨HO6.out.ints.1.ext he5, HO10.out.ints.1.ext he5⟩ HO5.out.camps.1).mono ?_); rintro e w6 ⟨pa, pc, rfl, he6, hbi⟩
  have HBI := Lib.hid hbi
  have hx6 := hx5.trans he6
  clear hbi hx5 HO6 HO10 HO5 he4 he5 he6
  go_wp2_with (fail)
  (with_reducible refine (HOW.out _ (he.trans hx6) (by omega) (by omega)).mono ?_); rintro e w7 ⟨g6, c6, g10, c10, rfl, he7, -, -, -, ho6, ho10⟩
  have HO6 := Lib.hid ho6; have HO10 := Lib.hid ho10
  have hx7 := hx6.trans he7
  clear ho6 ho10
  go_wp2_with (fail)
  (with_reducible refine (HCP.out _ (he.trans hx7) (by omega)).mono ?_); rintro e w8 ⟨ca, cc, rfl, he8, ho5⟩
  have HO5 := Lib.hid ho5
  have hx8 := hx7.trans he8
  clear ho5
  go_wp2_with (fail)
  (with_reducible refine (Bound_any ha ⟨some ⟨g6, 0, none⟩, c6, some ⟨g10, 0, none⟩, c10⟩ l ca cc w8 ⟨HO6.out.ints.1.ext he8, HO10.out.ints.1.ext he8⟩ HO5.out.camps.1).mono ?_); rintro e w9 ⟨rfl, he9⟩
  have hx9 := hx8.trans he9
  clear HO6 HO10 HO5
  go_wp2_with (fail)
  (with_reducible refine (HOW.out _ (he.trans hx9) (by omega) (by omega)).mono ?_); rintro e w10 ⟨g6, c6, g10, c10, rfl, he10, -, -, -, ho6, ho10⟩
  have HO6 := Lib.hid ho6; have HO10 := Lib.hid ho10
  have hx10 := hx9.trans he10
  clear ho6 ho10
  go_wp2_with (fail)
  (with_reducible refine (HCP.out _ (he.trans hx10) (by omega)).mono ?_); rintro e w11 ⟨ca, cc, rfl, he11, ho5⟩
  have HO5 := Lib.hid ho5
  have hx11 := hx10.trans he11
  clear ho5
  go_wp2_with (fail)
  (with_reducible refine (Crowded_any ha ⟨some ⟨g6, 0, none⟩, c6, some ⟨g10, 0, none⟩, c10⟩ l ca cc w11 ⟨HO6.out.ints.1.ext he11, HO10.out.ints.1.ext he11⟩ HO5.out.camps.1).mono ?_); rintro e w12 ⟨rfl, he12⟩
  have hx12 := hx11.trans he12
  have h612 : Ext w6 w12 := ((((he7.trans he8).trans he9).trans he10).trans he11).trans he12
  clear HO6 HO10 HO5 hx6 hx7 hx8 hx9 hx10 hx11 he7 he8 he9 he10 he11 he12
  go_upto_region 6 with fail
  generalize hw13 : World.alloc _ _ = w13
  obtain ⟨he13, o13, -⟩ := alloc1 hw13
  obtain ⟨y0, y1, y2, y3⟩ := obj_cells4 o13
  obtain ⟨g12, hg12⟩ : ∃ g12, g12 = w12.heap.size := ⟨_, rfl⟩
  rw [← hg12] at y0 y1 y2 y3
  rw [← hg12]
  have hx13 := hx12.trans he13
  have HBI2 := Lib.hid (HBI.out.ext (h612.trans he13))
  replace b0 := fun W (h : Ext w13 W) => b0 W (hx13.trans h)
  replace b1 := fun W (h : Ext w13 W) => b1 W (hx13.trans h)
  replace b2 := fun W (h : Ext w13 W) => b2 W (hx13.trans h)
  replace b3 := fun W (h : Ext w13 W) => b3 W (hx13.trans h)
  have hw13' := he.trans hx13
  clear hw13 o13 hx12 h612 HBI he13 hg12 hx13 he
  have hr13 := Ext.refl w13
  obtain ⟨pv, hpv⟩ : ∃ v, v = bestP ha l := ⟨_, rfl⟩
  obtain ⟨np, hnp⟩ : ∃ v, v = pv.length := ⟨_, rfl⟩
  obtain ⟨kv, hkv⟩ : ∃ v, v = bestK ha l := ⟨_, rfl⟩
  obtain ⟨ev, hev⟩ : ∃ v, v = bestE ha l := ⟨_, rfl⟩
  obtain ⟨bt, hbt⟩ : ∃ v, v = boundT ha l := ⟨_, rfl⟩
  obtain ⟨be, hbe⟩ : ∃ v, v = boundE ha l := ⟨_, rfl⟩
  obtain ⟨ce, hce⟩ : ∃ v, v = crE ha l := ⟨_, rfl⟩
  obtain ⟨cb, hcb⟩ : ∃ v, v = crB ha l := ⟨_, rfl⟩
  obtain ⟨cn, hcn⟩ : ∃ v, v = (crR ha l).ne := ⟨_, rfl⟩
  obtain ⟨ch, hch⟩ : ∃ v, v = (crR ha l).hv := ⟨_, rfl⟩
  rw [← hcn] at y2
  rw [← hch] at y3
  rw [← hpv] at HBI2
  rw [← hpv, ← hkv, ← hev, ← hbt, ← hbe, ← hce, ← hcb, ← hnp]
  have HS : Hid ((campsB ha l = false ∧ ev = 2 ∧ be = 2 ∧ ce = 2) ∨ (campsB ha l = true ∧ ev = 101 ∧ be = 0 ∧ ce = 0 ∧ cb = false ∧ bestSt ha l = none ∧ np = 0) ∨
      (campsB ha l = true ∧ ev = 101 ∧ be = 101 ∧ ce = 0 ∧ cb = false ∧ bestSt ha l = none ∧ np = 0) ∨
      (campsB ha l = true ∧ ev = 101 ∧ be = 0 ∧ ce = 0 ∧ cb = true ∧ decide (cn ≤ ch) = false ∧ bestSt ha l = none ∧ np = 0) ∨ (campsB ha l = true ∧ ev = 101 ∧ be = 101 ∧ ce = 0 ∧ cb = true ∧ decide (cn ≤ ch) = false ∧ bestSt ha l = none ∧ np = 0) ∨
      (campsB ha l = true ∧ ev = 0 ∧ be = 0 ∧ ce = 0 ∧ cb = false ∧ bestSt ha l = some (pv, kv) ∧ bt = leastTo l (leftS ha l 0) l.length)) := by
    cases hC : campsB ha l with
    | false => left; exact ⟨rfl, by rw [hev, bestE, hC]; rfl, by rw [hbe, boundE, hC]; rfl, by rw [hce, crE, hC]; rfl⟩
    | true =>
      right
      have hv := campsB_vh hC
      have e1 : ce = 0 := by rw [hce, crE, hC]; rfl
      have e2 : cb = crowdB ha l := by rw [hcb, crB, hC]; rfl
      have e3 : crR ha l = crowdR ha l := by rw [crR, hC]; rfl
      have e4 : be = if anyEmpty (leftS ha l 0) then 101 else 0 := by rw [hbe, boundE, hC]; rfl
      have e5 : bt = if anyEmpty (leftS ha l 0) then 0 else leastTo l (leftS ha l 0) l.length := by rw [hbt, boundT, hC]; rfl
      obtain ⟨q1, q2, q3⟩ := best_is hC hn4
      cases hs : bestSt ha l with
      | none =>
        rw [hs] at q1 q2 q3
        have hev2 : ev = 101 := by rw [hev, q1]; rfl
        have hnp2 : np = 0 := by rw [hnp, hpv, q2]; rfl
        have hcm : cb = true → decide (cn ≤ ch) = false := fun h => by
          have := crowd_more (by rw [← e2]; exact h)
          rw [hcn, hch, e3]
          simp; omega
        cases hA : anyEmpty (leftS ha l 0) <;> rw [hA] at e4
        · cases hB : cb with
          | false => left; exact ⟨rfl, hev2, e4, e1, rfl, rfl, hnp2⟩
          | true => right; right; left; exact ⟨rfl, hev2, e4, e1, rfl, hcm hB, rfl, hnp2⟩
        · cases hB : cb with
          | false => right; left; exact ⟨rfl, hev2, e4, e1, rfl, rfl, hnp2⟩
          | true => right; right; right; left; exact ⟨rfl, hev2, e4, e1, rfl, hcm hB, rfl, hnp2⟩
      | some qc =>
        obtain ⟨q, c⟩ := qc
        rw [hs] at q1 q2 q3
        obtain ⟨r1, r2, r3⟩ := best_some hv hs
        obtain ⟨s1, s2⟩ := bound_le hv r2
        rw [s1] at e4 e5
        right; right; right; right
        exact ⟨rfl, by rw [hev, q1]; rfl, e4, e1, by rw [e2]; exact crowdB_no hv r2, by rw [hpv, hkv, q2, q3]; rfl, e5⟩
  have HNP := Lib.hid hnp
  clear hpv hkv hev hbt hbe hce hcb hcn hch hnp y0 y1
  rcases HS.out with ⟨hC, rfl, rfl, rfl⟩ | hrest
  · clear HOW HCP HS
    go_wp2_with (fail)
    (with_reducible refine (known_any _).mono ?_); rintro e w14 ⟨rfl, he14⟩
    go_wp2_with (fail)
    go_ret
    exact ⟨rfl, hw13'.trans he14⟩
  · have HR := Lib.hid hrest
    have T5 : (ev == 2) = false := by
      rcases hrest with ⟨_, rfl, _⟩ | ⟨_, rfl, _⟩ | ⟨_, rfl, _⟩ | ⟨_, rfl, _⟩ | ⟨_, rfl, _⟩ <;> rfl
    have hC : campsB ha l = true := by
      rcases hrest with ⟨h, _⟩ | ⟨h, _⟩ | ⟨h, _⟩ | ⟨h, _⟩ | ⟨h, _⟩ <;> exact h
    have HS3 : Hid ((ev = 101 ∧ bestSt ha l = none ∧ np = 0) ∨ (ev = 0 ∧ cb = false ∧ bestSt ha l = some (pv, kv) ∧ bt = leastTo l (leftS ha l 0) l.length)) := by
      rcases hrest with ⟨_, h, _, _, _, h2, h3⟩ | ⟨_, h, _, _, _, h2, h3⟩ | ⟨_, h, _, _, _, _, h2, h3⟩ | ⟨_, h, _, _, _, _, h2, h3⟩ | ⟨_, h, _, _, h1, h2, h3⟩
      · exact .inl ⟨h, h2, h3⟩
      · exact .inl ⟨h, h2, h3⟩
      · exact .inl ⟨h, h2, h3⟩
      · exact .inl ⟨h, h2, h3⟩
      · exact .inr ⟨h, h1, h2, h3⟩
    have hv := campsB_vh hC
    have HV := Lib.hid hv; have HC := Lib.hid hC
    clear hrest hC hv HS
    go_upto_region 8 with fail
    go_cut [123] (fun s wx => s = .bool false ∧ wx = w13)
    case first =>
      rcases HR.out with ⟨-, rfl, rfl, rfl, rfl, -, -⟩ | ⟨-, rfl, rfl, rfl, rfl, -, -⟩ | ⟨-, rfl, rfl, rfl, rfl, T6, -, -⟩ | ⟨-, rfl, rfl, rfl, rfl, T6, -, -⟩ | ⟨-, rfl, rfl, rfl, rfl, -, -⟩
      all_goals
        go_wp2_with fail
        go_meet
        exact ⟨rfl, rfl⟩
    case rest =>
      obtain ⟨rfl, rfl⟩ := hcut
      clear HR T5 y2 y3
      go_wp2_with (fail)
      go_loopw [15] (fun i wr => ∃ k : Nat, k ≤ P.length ∧ i = .int .i64 k ∧ Ext wc wr) (fun i _ => P.length - (intOf i).toNat)
      case atStart => exact ⟨0, Nat.zero_le _, rfl, hr13⟩
      case round =>
        obtain ⟨k, hk, rfl, hr⟩ := hrel
        clear hr13
        by_cases hlt : k < P.length
        · obtain ⟨bq, oq, ppa, ppc, rfl, e0, hpi⟩ := HPL.out.at k hlt
          have hin := fun W (h : Ext w W) => ints_big ppa (lth P k).length ppc (lth P k) W (hpi.ext h) rfl (HPB.out k hlt)
          have HIN := Lib.hid hin
          have hwr := Lib.hid (hw13'.trans hr)
          have c0 := fun W (h : Ext wr W) => b0 W (hr.trans h)
          have c1 := fun W (h : Ext wr W) => b1 W (hr.trans h)
          have c2 := fun W (h : Ext wr W) => b2 W (hr.trans h)
          have c3 := fun W (h : Ext wr W) => b3 W (hr.trans h)
          have f0 := fun W (h : Ext wr W) => e0 W (hwr.out.trans h)
          have hrr := Ext.refl wr
          clear hin e0 hpi
          go_upto_region 13 with fail
          go_cut [16, 17] (fun s16 s17 wx => s16 = .int .i64 (costR ha l (lth P k)) ∧ s17 = .int .i64 (errS ha l (lth P k)) ∧ Ext wc wx)
          case first =>
            clear b0 b1 b2 b3
            go_region_held3 (fun W => Ext wr W) (first | with_reducible assumption | exact Ext.drew (by with_reducible assumption))
              (first
              | (go_at_call 15; (with_reducible refine (HOW.out _ (hwr.out.trans (by with_reducible assumption)) (by omega) (by omega)).mono ?_); rintro e w14 ⟨g6, c6, g10, c10, rfl, he3, -, -, -, ho6, ho10⟩; have hx3 := Ext.trans (show Ext wr _ by with_reducible assumption) he3; have HO6 := Lib.hid ho6; have HO10 := Lib.hid ho10; clear ho6 ho10)
              | (go_at_call 16; (with_reducible refine (HCP.out _ (hwr.out.trans (by with_reducible assumption)) (by omega)).mono ?_); rintro e w15 ⟨ca, cc, rfl, he4, ho4⟩; have hx4 := Ext.trans (show Ext wr _ by with_reducible assumption) he4; have HO4 := Lib.hid ho4; clear ho4)
              | (go_at_call 17; (with_reducible refine (HIN.out _ (hwr.out.trans (by with_reducible assumption))).mono ?_); rintro e w16 ⟨ia, ic, rfl, he5, ho5⟩; have hx5 := Ext.trans (show Ext wr _ by with_reducible assumption) he5; have HO5 := Lib.hid ho5; clear ho5)
              | (go_at_call 36; (with_reducible refine (Cost_any ha ⟨some ⟨g6, 0, none⟩, c6, some ⟨g10, 0, none⟩, c10⟩ l ca cc (lth P k) ia (lth P k).length ic w16 ⟨HO6.out.ints.1.ext (he4.trans he5), HO10.out.ints.1.ext (he4.trans he5)⟩ (HO4.out.camps.1.ext he5) HO5.out.ints.1 rfl).mono ?_); rintro e w17 ⟨rfl, he6⟩; have hx6 := Ext.trans (show Ext wr _ by with_reducible assumption) he6)
              | fail)
            go_wp2_with fail
            go_meet
            exact ⟨rfl, rfl, hr.trans hx6⟩
          case rest =>
            obtain ⟨rfl, rfl, hr⟩ := hcut
            obtain ⟨dk, hdk⟩ : ∃ v, v = costR ha l (lth P k) := ⟨_, rfl⟩
            obtain ⟨ek, hek⟩ : ∃ v, v = errS ha l (lth P k) := ⟨_, rfl⟩
            rw [← hdk, ← hek]
            have hsp : ((ek == 0) = false) ∨ (ek = 0 ∧ ev = 0 ∧ decide (dk < kv) = false ∧ decide (dk < bt) = false ∧ cb = false) := by
              by_cases h0 : ek = 0
              · right
                rw [hek] at h0
                obtain ⟨-, hl2, hb2⟩ := errS_zero h0
                have hd : dk = costTo l (lth P k) l.length := by rw [hdk, costR, if_pos h0]
                obtain ⟨r, c, q1, q2⟩ := best_any_plan HV.out hl2 hb2
                obtain ⟨-, q3⟩ := bound_le HV.out hb2
                rcases HS3.out with ⟨_, hn, _⟩ | ⟨e1, e2, e3, e4⟩
                · rw [hn] at q1; cases q1
                · rw [e3] at q1
                  simp only [Option.some.injEq, Prod.mk.injEq] at q1
                  obtain ⟨rfl, rfl⟩ := q1
                  refine ⟨by rw [hek, h0], e1, by simp; omega, by simp; omega, e2⟩
              · left; simpa using h0
            clear hdk hek hrr c0 c1 c2 c3 f0 hwr
            rcases hsp with h0 | ⟨rfl, rfl, h1, h2, rfl⟩
            all_goals
              go_wp2_with (fail)
              go_roundw
              case rel => exact ⟨k + 1, by omega, by go_num, hr⟩
              case measure => simp [intOf]; omega
        · obtain rfl : k = P.length := by omega
          clear HPL HPB
          rcases HS3.out with ⟨rfl, -, rfl⟩ | ⟨rfl, rfl, hst, hbt⟩
          · go_wp2_with (fail)
            (with_reducible refine (known_any _).mono ?_); rintro e w14 ⟨rfl, he14⟩
            go_wp2_with (fail)
            go_ret
            exact ⟨rfl, (hw13'.trans hr).trans he14⟩
          · exfalso
            rcases hcase with h | h
            · rw [HC.out] at h; cases h
            · rw [h] at hst; cases hst

set_option maxRecDepth 100000 in
set_option maxHeartbeats 80000000 in
theorem nothing_some (ha : Hal) (x : HP) (l : List Camp) (la : Option Addr) (lc : Nat) (P : List (List Int)) (qa : Option Addr) (qc : Nat) (w : World) (hh : HallAt w ha x) (hl : Camps w la l)
    (hP : Pls w qa P) (hPb : ∀ i, i < P.length → (lth P i).length * 8 ≤ 140737488351232) (T1 : decide ((24 : Int) < (ha.st.length : Int)) = false) (T2 : decide ((4 : Int) < (l.length : Int)) = false) (T3 : decide ((20 : Int) < (P.length : Int)) = false) (T4 : decide ((200 : Int) < (ha.en.length : Int)) = false)
    (hcase : campsB ha l = true ∧ ¬ bestSt ha l = none) :
    Calls Try.prog 8 #[hval ha x, .slice la l.length lc, .slice qa P.length qc] w (Ret (.bool true) w) := by
  have hown := fun W (h : Ext w W) q1 q2 => own_any ha x W (hh.ext h) q1 q2
  have hcop := fun W (h : Ext w W) q => copied_any la l.length lc l W (hl.ext h) rfl q
  have HOW := Lib.hid hown; have HCP := Lib.hid hcop
  have HL := Lib.hid hl; have HPL := Lib.hid hP; have HPB := Lib.hid hPb
  clear hown hcop hh hl hP hPb
  obtain ⟨sa, sc, ea, ec⟩ := x
  have hn24 : ha.st.length ≤ 24 := by simp at T1; omega
  have hn4 : l.length ≤ 4 := by simp at T2; omega
  have hP20 : P.length ≤ 20 := by simp at T3; omega
  have hen200 : ha.en.length ≤ 200 := by simp at T4; omega
  go_enter Try.func8, Try.ntmps8
  go_wp2_with (fail)
  generalize hw1 : World.alloc _ _ = w1
  obtain ⟨he, o1, -⟩ := alloc1 hw1
  obtain ⟨b0, b1, b2, b3⟩ := obj_cells4 o1
  clear hw1 o1
  have hr := Ext.refl w1
  go_wp2_with (fail)
  (with_reducible refine (HOW.out _ he (by omega) (by omega)).mono ?_); rintro e w4 ⟨g6, c6, g10, c10, rfl, he4, -, -, -, ho6, ho10⟩
  have HO6 := Lib.hid ho6; have HO10 := Lib.hid ho10
  have hx4 := he4
  clear ho6 ho10 hr
  go_wp2_with (fail)
  (with_reducible refine (HCP.out _ (he.trans hx4) (by omega)).mono ?_); rintro e w5 ⟨ca, cc, rfl, he5, ho5⟩
  have HO5 := Lib.hid ho5
  have hx5 := hx4.trans he5
  clear ho5 hx4
  go_wp2_with (fail)
  (with_reducible refine (Best_any2 ha ⟨some ⟨g6, 0, none⟩, c6, some ⟨g10, 0, none⟩, c10⟩ l ca cc w5 ⟨HO6.out.ints.1.ext he5, HO10.out.ints.1.ext he5⟩ HO5.out.camps.1).mono ?_); rintro e w6 ⟨pa, pc, rfl, he6, hbi⟩
  have HBI := Lib.hid hbi
  have hx6 := hx5.trans he6
  clear hbi hx5 HO6 HO10 HO5 he4 he5 he6
  go_wp2_with (fail)
  (with_reducible refine (HOW.out _ (he.trans hx6) (by omega) (by omega)).mono ?_); rintro e w7 ⟨g6, c6, g10, c10, rfl, he7, -, -, -, ho6, ho10⟩
  have HO6 := Lib.hid ho6; have HO10 := Lib.hid ho10
  have hx7 := hx6.trans he7
  clear ho6 ho10
  go_wp2_with (fail)
  (with_reducible refine (HCP.out _ (he.trans hx7) (by omega)).mono ?_); rintro e w8 ⟨ca, cc, rfl, he8, ho5⟩
  have HO5 := Lib.hid ho5
  have hx8 := hx7.trans he8
  clear ho5
  go_wp2_with (fail)
  (with_reducible refine (Bound_any ha ⟨some ⟨g6, 0, none⟩, c6, some ⟨g10, 0, none⟩, c10⟩ l ca cc w8 ⟨HO6.out.ints.1.ext he8, HO10.out.ints.1.ext he8⟩ HO5.out.camps.1).mono ?_); rintro e w9 ⟨rfl, he9⟩
  have hx9 := hx8.trans he9
  clear HO6 HO10 HO5
  go_wp2_with (fail)
  (with_reducible refine (HOW.out _ (he.trans hx9) (by omega) (by omega)).mono ?_); rintro e w10 ⟨g6, c6, g10, c10, rfl, he10, -, -, -, ho6, ho10⟩
  have HO6 := Lib.hid ho6; have HO10 := Lib.hid ho10
  have hx10 := hx9.trans he10
  clear ho6 ho10
  go_wp2_with (fail)
  (with_reducible refine (HCP.out _ (he.trans hx10) (by omega)).mono ?_); rintro e w11 ⟨ca, cc, rfl, he11, ho5⟩
  have HO5 := Lib.hid ho5
  have hx11 := hx10.trans he11
  clear ho5
  go_wp2_with (fail)
  (with_reducible refine (Crowded_any ha ⟨some ⟨g6, 0, none⟩, c6, some ⟨g10, 0, none⟩, c10⟩ l ca cc w11 ⟨HO6.out.ints.1.ext he11, HO10.out.ints.1.ext he11⟩ HO5.out.camps.1).mono ?_); rintro e w12 ⟨rfl, he12⟩
  have hx12 := hx11.trans he12
  have h612 : Ext w6 w12 := ((((he7.trans he8).trans he9).trans he10).trans he11).trans he12
  clear HO6 HO10 HO5 hx6 hx7 hx8 hx9 hx10 hx11 he7 he8 he9 he10 he11 he12
  go_upto_region 6 with fail
  generalize hw13 : World.alloc _ _ = w13
  obtain ⟨he13, o13, -⟩ := alloc1 hw13
  obtain ⟨y0, y1, y2, y3⟩ := obj_cells4 o13
  obtain ⟨g12, hg12⟩ : ∃ g12, g12 = w12.heap.size := ⟨_, rfl⟩
  rw [← hg12] at y0 y1 y2 y3
  rw [← hg12]
  have hx13 := hx12.trans he13
  have HBI2 := Lib.hid (HBI.out.ext (h612.trans he13))
  replace b0 := fun W (h : Ext w13 W) => b0 W (hx13.trans h)
  replace b1 := fun W (h : Ext w13 W) => b1 W (hx13.trans h)
  replace b2 := fun W (h : Ext w13 W) => b2 W (hx13.trans h)
  replace b3 := fun W (h : Ext w13 W) => b3 W (hx13.trans h)
  have hw13' := he.trans hx13
  clear hw13 o13 hx12 h612 HBI he13 hg12 hx13 he
  have hr13 := Ext.refl w13
  obtain ⟨pv, hpv⟩ : ∃ v, v = bestP ha l := ⟨_, rfl⟩
  obtain ⟨np, hnp⟩ : ∃ v, v = pv.length := ⟨_, rfl⟩
  obtain ⟨kv, hkv⟩ : ∃ v, v = bestK ha l := ⟨_, rfl⟩
  obtain ⟨ev, hev⟩ : ∃ v, v = bestE ha l := ⟨_, rfl⟩
  obtain ⟨bt, hbt⟩ : ∃ v, v = boundT ha l := ⟨_, rfl⟩
  obtain ⟨be, hbe⟩ : ∃ v, v = boundE ha l := ⟨_, rfl⟩
  obtain ⟨ce, hce⟩ : ∃ v, v = crE ha l := ⟨_, rfl⟩
  obtain ⟨cb, hcb⟩ : ∃ v, v = crB ha l := ⟨_, rfl⟩
  obtain ⟨cn, hcn⟩ : ∃ v, v = (crR ha l).ne := ⟨_, rfl⟩
  obtain ⟨ch, hch⟩ : ∃ v, v = (crR ha l).hv := ⟨_, rfl⟩
  rw [← hcn] at y2
  rw [← hch] at y3
  rw [← hpv] at HBI2
  rw [← hpv, ← hkv, ← hev, ← hbt, ← hbe, ← hce, ← hcb, ← hnp]
  have HS : Hid ((campsB ha l = false ∧ ev = 2 ∧ be = 2 ∧ ce = 2) ∨ (campsB ha l = true ∧ ev = 101 ∧ be = 0 ∧ ce = 0 ∧ cb = false ∧ bestSt ha l = none ∧ np = 0) ∨
      (campsB ha l = true ∧ ev = 101 ∧ be = 101 ∧ ce = 0 ∧ cb = false ∧ bestSt ha l = none ∧ np = 0) ∨
      (campsB ha l = true ∧ ev = 101 ∧ be = 0 ∧ ce = 0 ∧ cb = true ∧ decide (cn ≤ ch) = false ∧ bestSt ha l = none ∧ np = 0) ∨ (campsB ha l = true ∧ ev = 101 ∧ be = 101 ∧ ce = 0 ∧ cb = true ∧ decide (cn ≤ ch) = false ∧ bestSt ha l = none ∧ np = 0) ∨
      (campsB ha l = true ∧ ev = 0 ∧ be = 0 ∧ ce = 0 ∧ cb = false ∧ bestSt ha l = some (pv, kv) ∧ bt = leastTo l (leftS ha l 0) l.length)) := by
    cases hC : campsB ha l with
    | false => left; exact ⟨rfl, by rw [hev, bestE, hC]; rfl, by rw [hbe, boundE, hC]; rfl, by rw [hce, crE, hC]; rfl⟩
    | true =>
      right
      have hv := campsB_vh hC
      have e1 : ce = 0 := by rw [hce, crE, hC]; rfl
      have e2 : cb = crowdB ha l := by rw [hcb, crB, hC]; rfl
      have e3 : crR ha l = crowdR ha l := by rw [crR, hC]; rfl
      have e4 : be = if anyEmpty (leftS ha l 0) then 101 else 0 := by rw [hbe, boundE, hC]; rfl
      have e5 : bt = if anyEmpty (leftS ha l 0) then 0 else leastTo l (leftS ha l 0) l.length := by rw [hbt, boundT, hC]; rfl
      obtain ⟨q1, q2, q3⟩ := best_is hC hn4
      cases hs : bestSt ha l with
      | none =>
        rw [hs] at q1 q2 q3
        have hev2 : ev = 101 := by rw [hev, q1]; rfl
        have hnp2 : np = 0 := by rw [hnp, hpv, q2]; rfl
        have hcm : cb = true → decide (cn ≤ ch) = false := fun h => by
          have := crowd_more (by rw [← e2]; exact h)
          rw [hcn, hch, e3]
          simp; omega
        cases hA : anyEmpty (leftS ha l 0) <;> rw [hA] at e4
        · cases hB : cb with
          | false => left; exact ⟨rfl, hev2, e4, e1, rfl, rfl, hnp2⟩
          | true => right; right; left; exact ⟨rfl, hev2, e4, e1, rfl, hcm hB, rfl, hnp2⟩
        · cases hB : cb with
          | false => right; left; exact ⟨rfl, hev2, e4, e1, rfl, rfl, hnp2⟩
          | true => right; right; right; left; exact ⟨rfl, hev2, e4, e1, rfl, hcm hB, rfl, hnp2⟩
      | some qc =>
        obtain ⟨q, c⟩ := qc
        rw [hs] at q1 q2 q3
        obtain ⟨r1, r2, r3⟩ := best_some hv hs
        obtain ⟨s1, s2⟩ := bound_le hv r2
        rw [s1] at e4 e5
        right; right; right; right
        exact ⟨rfl, by rw [hev, q1]; rfl, e4, e1, by rw [e2]; exact crowdB_no hv r2, by rw [hpv, hkv, q2, q3]; rfl, e5⟩
  have HNP := Lib.hid hnp
  clear hpv hkv hev hbt hbe hce hcb hcn hch hnp y0 y1
  obtain ⟨rfl, rfl, rfl, rfl, hstS, hbtS⟩ : ev = 0 ∧ be = 0 ∧ ce = 0 ∧ cb = false ∧ bestSt ha l = some (pv, kv) ∧ bt = leastTo l (leftS ha l 0) l.length := by
    rcases HS.out with ⟨h, _⟩ | ⟨_, _, _, _, _, h, _⟩ | ⟨_, _, _, _, _, h, _⟩ | ⟨_, _, _, _, _, _, h, _⟩ | ⟨_, _, _, _, _, _, h, _⟩ | ⟨_, h1, h2, h3, h4, h5, h6⟩
    · rw [hcase.1] at h; cases h
    · exact absurd h hcase.2
    · exact absurd h hcase.2
    · exact absurd h hcase.2
    · exact absurd h hcase.2
    · exact ⟨h1, h2, h3, h4, h5, h6⟩
  have HS3 : Hid (bestSt ha l = some (pv, kv) ∧ bt = leastTo l (leftS ha l 0) l.length) := ⟨hstS, hbtS⟩
  have HC := Lib.hid hcase.1
  have HV := Lib.hid (campsB_vh hcase.1)
  clear HS hstS hbtS y2 y3 hcase
  generalize w13 = wc at *
  go_wp2_with (fail)
  go_loopw [15] (fun i wr => ∃ k : Nat, k ≤ P.length ∧ i = .int .i64 k ∧ Ext wc wr) (fun i _ => P.length - (intOf i).toNat)
  case atStart => exact ⟨0, Nat.zero_le _, rfl, hr13⟩
  case round =>
    obtain ⟨k, hk, rfl, hr⟩ := hrel
    clear hr13
    by_cases hlt : k < P.length
    · obtain ⟨bq, oq, ppa, ppc, rfl, e0, hpi⟩ := HPL.out.at k hlt
      have hin := fun W (h : Ext w W) => ints_big ppa (lth P k).length ppc (lth P k) W (hpi.ext h) rfl (HPB.out k hlt)
      have HIN := Lib.hid hin
      have hwr := Lib.hid (hw13'.trans hr)
      have c0 := fun W (h : Ext wr W) => b0 W (hr.trans h)
      have c1 := fun W (h : Ext wr W) => b1 W (hr.trans h)
      have c2 := fun W (h : Ext wr W) => b2 W (hr.trans h)
      have c3 := fun W (h : Ext wr W) => b3 W (hr.trans h)
      have f0 := fun W (h : Ext wr W) => e0 W (hwr.out.trans h)
      have hrr := Ext.refl wr
      clear hin e0 hpi
      go_upto_region 13 with fail
      go_cut [16, 17] (fun s16 s17 wx => s16 = .int .i64 (costR ha l (lth P k)) ∧ s17 = .int .i64 (errS ha l (lth P k)) ∧ Ext wc wx)
      case first =>
        clear b0 b1 b2 b3
        go_region_held3 (fun W => Ext wr W) (first | with_reducible assumption | exact Ext.drew (by with_reducible assumption))
          (first
          | (go_at_call 15; (with_reducible refine (HOW.out _ (hwr.out.trans (by with_reducible assumption)) (by omega) (by omega)).mono ?_); rintro e w14 ⟨g6, c6, g10, c10, rfl, he3, -, -, -, ho6, ho10⟩; have hx3 := Ext.trans (show Ext wr _ by with_reducible assumption) he3; have HO6 := Lib.hid ho6; have HO10 := Lib.hid ho10; clear ho6 ho10)
          | (go_at_call 16; (with_reducible refine (HCP.out _ (hwr.out.trans (by with_reducible assumption)) (by omega)).mono ?_); rintro e w15 ⟨ca, cc, rfl, he4, ho4⟩; have hx4 := Ext.trans (show Ext wr _ by with_reducible assumption) he4; have HO4 := Lib.hid ho4; clear ho4)
          | (go_at_call 17; (with_reducible refine (HIN.out _ (hwr.out.trans (by with_reducible assumption))).mono ?_); rintro e w16 ⟨ia, ic, rfl, he5, ho5⟩; have hx5 := Ext.trans (show Ext wr _ by with_reducible assumption) he5; have HO5 := Lib.hid ho5; clear ho5)
          | (go_at_call 36; (with_reducible refine (Cost_any ha ⟨some ⟨g6, 0, none⟩, c6, some ⟨g10, 0, none⟩, c10⟩ l ca cc (lth P k) ia (lth P k).length ic w16 ⟨HO6.out.ints.1.ext (he4.trans he5), HO10.out.ints.1.ext (he4.trans he5)⟩ (HO4.out.camps.1.ext he5) HO5.out.ints.1 rfl).mono ?_); rintro e w17 ⟨rfl, he6⟩; have hx6 := Ext.trans (show Ext wr _ by with_reducible assumption) he6)
          | fail)
        go_wp2_with fail
        go_meet
        exact ⟨rfl, rfl, hr.trans hx6⟩
      case rest =>
        obtain ⟨rfl, rfl, hr⟩ := hcut
        obtain ⟨dk, hdk⟩ : ∃ v, v = costR ha l (lth P k) := ⟨_, rfl⟩
        obtain ⟨ek, hek⟩ : ∃ v, v = errS ha l (lth P k) := ⟨_, rfl⟩
        rw [← hdk, ← hek]
        have hsp : ((ek == 0) = false) ∨ (ek = 0 ∧ decide (dk < kv) = false ∧ decide (dk < bt) = false) := by
          by_cases h0 : ek = 0
          · right
            rw [hek] at h0
            obtain ⟨-, hl2, hb2⟩ := errS_zero h0
            have hd : dk = costTo l (lth P k) l.length := by rw [hdk, costR, if_pos h0]
            obtain ⟨r, c, q1, q2⟩ := best_any_plan HV.out hl2 hb2
            obtain ⟨-, q3⟩ := bound_le HV.out hb2
            obtain ⟨e3, e4⟩ := HS3.out
            rw [e3] at q1
            simp only [Option.some.injEq, Prod.mk.injEq] at q1
            obtain ⟨rfl, rfl⟩ := q1
            exact ⟨by rw [hek, h0], by simp; omega, by simp; omega⟩
          · left; simpa using h0
        clear hdk hek hrr c0 c1 c2 c3 f0 hwr
        rcases hsp with h0 | ⟨rfl, h1, h2⟩
        all_goals
          go_wp2_with (fail)
          go_roundw
          case rel => exact ⟨k + 1, by omega, by go_num, hr⟩
          case measure => simp [intOf]; omega
    · obtain rfl : k = P.length := by omega
      clear HPL HPB
      obtain ⟨hst, hbt⟩ := HS3.out
      obtain ⟨q1, q2, q3⟩ := best_some HV.out hst
      have hbl := (bound_le HV.out q2).2
      have HCR : Hid (costR ha l pv = kv ∧ errS ha l pv = 0) := by
        have : errS ha l pv = 0 := by rw [errS_is HC.out q1, if_pos q2]
        exact ⟨by rw [costR, if_pos this, q3], this⟩
      have T6 : decide (kv < bt) = false := by simp; omega
      have HST := Lib.hid hst
      have hw14 := hw13'.trans hr
      have hnp4 : pv.length ≤ 1000000 := by omega
      have HPI := Lib.hid (HBI2.out.ext hr)
      have hr14 := Ext.refl wr
      replace b0 := fun W (h : Ext wr W) => b0 W (hr.trans h)
      replace b1 := fun W (h : Ext wr W) => b1 W (hr.trans h)
      replace b2 := fun W (h : Ext wr W) => b2 W (hr.trans h)
      replace b3 := fun W (h : Ext wr W) => b3 W (hr.trans h)
      clear hst hbt q1 q2 q3 hbl hr HBI2
      generalize wr = w14 at *
      go_wp2_with (fail)
      (with_reducible refine (HOW.out _ hw14 (by omega) (by omega)).mono ?_); rintro e w15 ⟨g6, c6, g10, c10, rfl, he15, -, -, -, ho6, ho10⟩
      have HO6 := Lib.hid ho6; have HO10 := Lib.hid ho10
      clear ho6 ho10
      go_wp2_with (fail)
      (with_reducible refine (HCP.out _ (hw14.trans he15) (by omega)).mono ?_); rintro e w16 ⟨ca, cc, rfl, he16, ho4⟩
      have HO4 := Lib.hid ho4
      have hx16 := he15.trans he16
      clear ho4
      go_wp2_with (fail)
      (with_reducible refine (ints_any pa np pc pv w16 (HPI.out.ext hx16) HNP.out.symm hnp4).mono ?_); rintro e w17 ⟨ia, ic, rfl, he17, ho5⟩
      have HO5 := Lib.hid ho5
      clear ho5
      go_wp2_with (fail)
      (with_reducible refine (Cost_any ha ⟨some ⟨g6, 0, none⟩, c6, some ⟨g10, 0, none⟩, c10⟩ l ca cc pv ia pv.length ic w17 ⟨HO6.out.ints.1.ext (he16.trans he17), HO10.out.ints.1.ext (he16.trans he17)⟩ (HO4.out.camps.1.ext he17) HO5.out.ints.1 rfl).mono ?_); rintro e w18 ⟨rfl, he18⟩
      have hx18 := (hx16.trans he17).trans he18
      rw [HCR.out.1, HCR.out.2]
      clear HO6 HO10 HO4 HO5 he15 he16 he17 he18 hx16 HPI
      go_wp2_with (fail)
      (with_reducible refine (HOW.out _ (hw14.trans hx18) (by omega) (by omega)).mono ?_); rintro e w19 ⟨g6, c6, g10, c10, rfl, he19, -, -, -, ho6, ho10⟩
      have HO6 := Lib.hid ho6; have HO10 := Lib.hid ho10
      have hx19 := hx18.trans he19
      clear ho6 ho10 hx18 he19 hr14
      go_upto_region 22 with fail
      generalize hw20 : World.alloc w19 _ = w20
      obtain ⟨he20, o20, -⟩ := alloc1 hw20
      obtain ⟨gz, hgz⟩ : ∃ gz, gz = w19.heap.size := ⟨_, rfl⟩
      have hg19 : Hid (w19.heap.size ≤ gz) := by rw [Hid]; omega
      rw [← hgz] at o20
      rw [← hgz]
      have hx20 := hx19.trans he20
      have HA20 : Hid (HallAt w20 ha ⟨some ⟨g6, 0, none⟩, c6, some ⟨g10, 0, none⟩, c10⟩) := ⟨HO6.out.ints.1.ext he20, HO10.out.ints.1.ext he20⟩
      have HA19 : Hid (HallAt w19 ha ⟨some ⟨g6, 0, none⟩, c6, some ⟨g10, 0, none⟩, c10⟩) := ⟨HO6.out.ints.1, HO10.out.ints.1⟩
      have e2 := b2
      have d0' := fun W (h : Ext w19 W) => b0 W (hx19.trans h)
      have d1' := fun W (h : Ext w19 W) => b1 W (hx19.trans h)
      replace b0 := fun W (h : Ext w20 W) => b0 W (hx20.trans h)
      replace b1 := fun W (h : Ext w20 W) => b1 W (hx20.trans h)
      replace b2 := fun W (h : Ext w20 W) => b2 W (hx20.trans h)
      replace b3 := fun W (h : Ext w20 W) => b3 W (hx20.trans h)
      have hr20 := Ext.refl w20
      have HO20 := Lib.hid o20
      have hro0 := HV.out.r0; have hro1 := HV.out.r1; have hcl0 := HV.out.c0; have hcl1 := HV.out.c1
      clear hw20 hgz o20 HO6 HO10
      go_cut [] (fun wx => ExtX gz w20 wx ∧ wx.heap[gz]? = some (.cells #[.int .i64 (richH ha).ro, .int .i64 (richH ha).cl, .slice (some ⟨g6, 0, none⟩) ha.st.length c6, .slice (some ⟨g10, 0, none⟩) ha.en.length c10] 24 (0, 0)))
      case first =>
        have f0 := obj_free HO20.out w20 hr20
        obtain ⟨z0, z1, z2, z3⟩ := obj_cells4 HO20.out
        have fd := obj_free HO20.out w20.drew hr20.drew
        have d0 := z0 w20.drew hr20.drew
        have d1 := z1 w20.drew hr20.drew
        have hR1 : Hid ((if IntKind.i64.wrap (ha.ro + 1) < 4 then IntKind.i64.wrap (ha.ro + 1) else 4) = (richH ha).ro) := by
          rw [Hid, IntWalk.i64_in _ (by omega)]; simp only [richH]; split <;> split <;> omega
        have hR2 : Hid ((if 0 < IntKind.i64.wrap (ha.cl - 1) then IntKind.i64.wrap (ha.cl - 1) else 0) = (richH ha).cl) := by
          rw [Hid, IntWalk.i64_in _ (by omega)]; simp only [richH]; split <;> split <;> omega
        have hE0 : Ext w19 w20 := he20
        have hg0 := hg19.out
        clear he20
        replace b0 := d0'
        replace b1 := d1'
        refine wp_region_held_drew (S := fun W => Ext w19 W) (by kernel_rfl) (Ext.drew (by with_reducible assumption)) (fun hHeld => ?_)
        (refine wpAnyH_take (i := 0) (v := ?_) rfl (by kernel_rfl) (by kernel_rfl) (by kernel_rfl) (fun _ _ _ h => h) (Or.inl ⟨by kernel_rfl, ?_⟩) (by assumption) ?_; rotate_left; focus (intro w hSw; (try dsimp only at hSw); go_simp; try with_reducible rfl))
        try simp only [Act.put, List.setIfInBounds_toArray, List.set_cons_zero, List.set_cons_succ]
        (refine wpAnyH_take (i := 1) (v := ?_) rfl (by kernel_rfl) (by kernel_rfl) (by kernel_rfl) (fun _ _ _ h => h) (Or.inl ⟨by kernel_rfl, ?_⟩) (by assumption) ?_; rotate_left; focus (intro w hSw; (try dsimp only at hSw); go_simp; try with_reducible rfl))
        try simp only [Act.put, List.setIfInBounds_toArray, List.set_cons_zero, List.set_cons_succ]
        (refine wpAnyH_take (i := 2) (v := ?_) rfl (by kernel_rfl) (by kernel_rfl) (by kernel_rfl) (fun _ _ _ h => h) (Or.inl ⟨by kernel_rfl, ?_⟩) (by assumption) ?_; rotate_left; focus (intro w hSw; (try dsimp only at hSw); go_simp; try with_reducible rfl))
        try simp only [Act.put, List.setIfInBounds_toArray, List.set_cons_zero, List.set_cons_succ]
        (refine wpAnyH_take (i := 3) (v := ?_) rfl (by kernel_rfl) (by kernel_rfl) (by kernel_rfl) (fun _ _ _ h => h) (Or.inl ⟨by kernel_rfl, ?_⟩) (by assumption) ?_; rotate_left; focus (intro w hSw; (try dsimp only at hSw); go_simp; try with_reducible rfl))
        try simp only [Act.put, List.setIfInBounds_toArray, List.set_cons_zero, List.set_cons_succ]
        (refine wpAnyH_take (i := 4) (v := ?_) rfl (by kernel_rfl) (by kernel_rfl) (by kernel_rfl) (fun _ _ _ h => h) (Or.inl ⟨by kernel_rfl, ?_⟩) (by assumption) ?_; rotate_left; focus (intro w hSw; (try dsimp only at hSw); go_simp; try with_reducible rfl))
        try simp only [Act.put, List.setIfInBounds_toArray, List.set_cons_zero, List.set_cons_succ]
        (refine wpAnyH_take (i := 5) (v := ?_) rfl (by kernel_rfl) (by kernel_rfl) (by kernel_rfl) (fun _ _ _ h => h) (Or.inl ⟨by kernel_rfl, ?_⟩) (by assumption) ?_; rotate_left; focus (intro w hSw; (try dsimp only at hSw); go_simp; try with_reducible rfl))
        try simp only [Act.put, List.setIfInBounds_toArray, List.set_cons_zero, List.set_cons_succ]
        (refine wpAnyH_take (i := 6) (v := ?_) rfl (by kernel_rfl) (by kernel_rfl) (by kernel_rfl) (fun _ _ _ h => h) (Or.inl ⟨by kernel_rfl, ?_⟩) (by assumption) ?_; rotate_left; focus (intro w hSw; (try dsimp only at hSw); go_simp; try with_reducible rfl))
        try simp only [Act.put, List.setIfInBounds_toArray, List.set_cons_zero, List.set_cons_succ]
        (refine wpAnyH_take (i := 7) (v := ?_) rfl (by kernel_rfl) (by kernel_rfl) (by kernel_rfl) (fun _ _ _ h => h) (Or.inl ⟨by kernel_rfl, ?_⟩) (by assumption) ?_; rotate_left; focus (intro w hSw; (try dsimp only at hSw); go_simp; try with_reducible rfl))
        try simp only [Act.put, List.setIfInBounds_toArray, List.set_cons_zero, List.set_cons_succ]
        (refine wpAnyH_take (i := 8) (v := ?_) rfl (by kernel_rfl) (by kernel_rfl) (by kernel_rfl) (fun _ _ _ h => h) (Or.inl ⟨by kernel_rfl, ?_⟩) (by assumption) ?_; rotate_left; focus (intro w hSw; (try dsimp only at hSw); go_simp; try with_reducible rfl))
        try simp only [Act.put, List.setIfInBounds_toArray, List.set_cons_zero, List.set_cons_succ]
        refine wpAnyH_ready (rs := [9]) (by kernel_rfl) (by simp) ?_
        refine AllReadyH.cons rfl (fun K hK => ?_) AllReadyH.nil
        go_simp
        refine hK.out _ _ (by first | with_reducible assumption | exact Ext.drew (by with_reducible assumption) | exact (Ext.set (Ext.drew (by with_reducible assumption)) (by simp; omega) _) | exact (Ext.drew (Ext.set (by with_reducible assumption) (by simp; omega) _)) | exact (Ext.drew (Ext.set (Ext.set (by with_reducible assumption) (by simp; omega) _) (by simp; omega) _))) (fun hHeld => ?_)
        clear hK K
        try simp only [Act.put, List.setIfInBounds_toArray, List.set_cons_zero, List.set_cons_succ]
        (refine wpAnyH_take (i := 10) (v := ?_) rfl (by kernel_rfl) (by kernel_rfl) (by kernel_rfl) (fun _ _ _ h => h) (Or.inl ⟨by kernel_rfl, ?_⟩) (by assumption) ?_; rotate_left; focus (intro w hSw; (try dsimp only at hSw); go_simp; try with_reducible rfl))
        try simp only [Act.put, List.setIfInBounds_toArray, List.set_cons_zero, List.set_cons_succ]
        refine wpAnyH_ready (rs := [11]) (by kernel_rfl) (by simp) ?_
        refine AllReadyH.cons rfl (fun K hK => ?_) AllReadyH.nil
        go_simp
        refine hK.out _ _ (by first | with_reducible assumption | exact Ext.drew (by with_reducible assumption) | exact (Ext.set (Ext.drew (by with_reducible assumption)) (by simp; omega) _) | exact (Ext.drew (Ext.set (by with_reducible assumption) (by simp; omega) _)) | exact (Ext.drew (Ext.set (Ext.set (by with_reducible assumption) (by simp; omega) _) (by simp; omega) _))) (fun hHeld => ?_)
        clear hK K
        try simp only [Act.put, List.setIfInBounds_toArray, List.set_cons_zero, List.set_cons_succ]
        refine wpAnyH_done (by kernel_rfl) ?_ _
        (rw [hR1.out, hR2.out]; go_wp2_with fail; go_meet; exact ⟨(((ExtX.refl gz w20).set 0 _).set 1 _).trans (Ext.refl _).drew.x, block_set (block_set HO20.out 0 _) 1 _⟩)
      case rest =>
        obtain ⟨hxz, hbox⟩ := hcut
        have hE19 : Ext w19 wc := (he20.x.trans hxz).ext hg19.out
        have hE := hx19.trans hE19
        have hwc := hw14.trans hE
        have HBOX := Lib.hid hbox
        clear b0 b1 b2 b3 hx20 hr20 HA20 HO20 hxz hbox
        go_wp2_with (fail)
        (with_reducible refine (HCP.out _ hwc (by omega)).mono ?_); rintro e w21 ⟨ca, cc, rfl, he21, ho21⟩
        obtain ⟨B, hB⟩ : ∃ B, B = wc.heap.size := ⟨_, rfl⟩
        rw [← hB] at ho21
        have hEB : Hid (w14.heap.size ≤ B) := by have := hE.size; rw [Hid]; omega
        have HO21 := Lib.hid ho21
        have hr21 := Ext.refl w21
        clear ho21
        go_wp2_with (fail)
        go_loopw [22] (fun i wr => ∃ k : Nat, k ≤ l.length ∧ i = .int .i64 k ∧ Ext wc wr ∧ Hid (OwnC wr B (.slice ca l.length cc) (lateTo ha.st.length l k))) (fun i _ => l.length - (intOf i).toNat)
        case atStart => exact ⟨0, Nat.zero_le _, rfl, he21, by rw [lateTo_zero]; exact HO21.out⟩
        case round =>
          clear hr21 HO21 he21
          obtain ⟨k, hk, rfl, hr, hown⟩ := hrel
          by_cases hlt : k < l.length
          · obtain ⟨g, rfl, hgB, hgs⟩ := ownC_form hown.out (by rw [lateTo_len]; omega)
            have hcb := HV.out.cb k hlt
            have hla0 := hcb.ea0; have hla1 := hcb.ea1; have hla2 := hcb.la1; have hen0 := hcb.en0; have hen1 := hcb.en1
            have hc5 := ownC_cell (j := 5) (lateTo_len ha.st.length l k) hown.out hlt (by omega)
            have hc3 := ownC_cell (j := 3) (lateTo_len ha.st.length l k) hown.out hlt (by omega)
            rw [cth_lateTo _ _ _ _ hlt, if_neg (by omega)] at hc5 hc3
            have k5 : ∀ W, Ext wr W → W.cell? ⟨g, k * 7 + 5, none⟩ = some (.int .i64 (cth l k).la) := fun W h => h.cell hc5
            have k3 : ∀ W, Ext wr W → W.cell? ⟨g, k * 7 + 3, none⟩ = some (.int .i64 (cth l k).en) := fun W h => h.cell hc3
            have ks := fun W (h : Ext wc W) => e2 W (hE.trans h)
            clear e2
            have hrr := Ext.refl wr
            have hV5 : Hid ((if IntKind.i64.wrap ((cth l k).la + 2) < (ha.st.length : Int) then IntKind.i64.wrap ((cth l k).la + 2) else (ha.st.length : Int)) = (lateC ha.st.length (cth l k)).la) := by
              rw [Hid, IntWalk.i64_in _ (by omega)]; simp only [lateC]; split <;> split <;> omega
            have hV3 : Hid ((if 0 < IntKind.i64.wrap ((cth l k).en - 1) then IntKind.i64.wrap ((cth l k).en - 1) else 0) = (lateC ha.st.length (cth l k)).en) := by
              rw [Hid, IntWalk.i64_in _ (by omega)]; simp only [lateC]; split <;> split <;> omega
            have HO1 := Lib.hid (ownC_set (j := 5) (lateTo_len ha.st.length l k) hown.out hlt (by omega) (lateC ha.st.length (cth l k)).la)
            have hl1 : ((lateTo ha.st.length l k).set k (cput (cth (lateTo ha.st.length l k) k) 5 (lateC ha.st.length (cth l k)).la)).length = l.length := by rw [List.length_set, lateTo_len]
            have HOn := Lib.hid (ownC_set (j := 3) hl1 HO1.out hlt (by omega) (lateC ha.st.length (cth l k)).en)
            rw [lateTo_succ _ _ _ hlt _ _ rfl rfl] at HOn
            have hEn : Ext wc (((wr.setCell ⟨g, k * 7 + 5, none⟩ (.int .i64 (lateC ha.st.length (cth l k)).la)).setCell ⟨g, k * 7 + 3, none⟩ (.int .i64 (lateC ha.st.length (cth l k)).en)).drew) :=
              ((hr.set (p := ⟨g, k * 7 + 5, none⟩) (by simp; omega) _).set (p := ⟨g, k * 7 + 3, none⟩) (by simp; omega) _).drew
            have fr0 := ownC_free (lateTo_len ha.st.length l k) (hown.out.ext hrr.drew) (k * 7 + 5)
            have hset := fun v : Int => ownC_set (j := 5) (lateTo_len ha.st.length l k) hown.out hlt (by omega) v
            have hlv : ∀ v : Int, ((lateTo ha.st.length l k).set k (cput (cth (lateTo ha.st.length l k) k) 5 v)).length = l.length := fun v => by rw [List.length_set, lateTo_len]
            have fr1 : ∀ v : Int, (wr.setCell ⟨g, k * 7 + 5, none⟩ (.int .i64 v)).drew.frozen? ⟨g, k * 7 + 3, none⟩ = false := fun v => ownC_free (hlv v) ((hset v).ext (Ext.refl _).drew) _
            have fc1 : ∀ v : Int, (wr.setCell ⟨g, k * 7 + 5, none⟩ (.int .i64 v)).drew.cell? ⟨g, k * 7 + 3, none⟩ = some (.int .i64 (cth l k).en) := fun v => by
              have := ownC_cell (i := k) (j := 3) (hlv v) ((hset v).ext (Ext.refl _).drew) hlt (by omega)
              rw [cth_set _ _ _ _ (by rw [lateTo_len]; exact hlt), if_pos rfl, ccell_cput _ _ _ _ (by omega) (by omega), if_neg (by omega), cth_lateTo _ _ _ _ hlt, if_neg (by omega)] at this
              exact this
            clear hset hlv
            clear hc5 hc3 hcb
            go_upto_region 27 with fail
            refine wp_region_held_drew (S := fun W => Ext wc W) (by kernel_rfl) (Ext.drew (by with_reducible assumption)) (fun hHeld => ?_)
            (refine wpAnyH_take (i := 0) (v := ?_) rfl (by kernel_rfl) (by kernel_rfl) (by kernel_rfl) (fun _ _ _ h => h) (Or.inl ⟨by kernel_rfl, ?_⟩) (by assumption) ?_; rotate_left; focus (intro w hSw; (try dsimp only at hSw); go_simp; try with_reducible rfl))
            try simp only [Act.put, List.setIfInBounds_toArray, List.set_cons_zero, List.set_cons_succ]
            (refine wpAnyH_take (i := 1) (v := ?_) rfl (by kernel_rfl) (by kernel_rfl) (by kernel_rfl) (fun _ _ _ h => h) (Or.inl ⟨by kernel_rfl, ?_⟩) (by assumption) ?_; rotate_left; focus (intro w hSw; (try dsimp only at hSw); go_simp; try with_reducible rfl))
            try simp only [Act.put, List.setIfInBounds_toArray, List.set_cons_zero, List.set_cons_succ]
            (refine wpAnyH_take (i := 2) (v := ?_) rfl (by kernel_rfl) (by kernel_rfl) (by kernel_rfl) (fun _ _ _ h => h) (Or.inl ⟨by kernel_rfl, ?_⟩) (by assumption) ?_; rotate_left; focus (intro w hSw; (try dsimp only at hSw); go_simp; try with_reducible rfl))
            try simp only [Act.put, List.setIfInBounds_toArray, List.set_cons_zero, List.set_cons_succ]
            (refine wpAnyH_take (i := 3) (v := ?_) rfl (by kernel_rfl) (by kernel_rfl) (by kernel_rfl) (fun _ _ _ h => h) (Or.inl ⟨by kernel_rfl, ?_⟩) (by assumption) ?_; rotate_left; focus (intro w hSw; (try dsimp only at hSw); go_simp; try with_reducible rfl))
            try simp only [Act.put, List.setIfInBounds_toArray, List.set_cons_zero, List.set_cons_succ]
            (refine wpAnyH_take (i := 4) (v := ?_) rfl (by kernel_rfl) (by kernel_rfl) (by kernel_rfl) (fun _ _ _ h => h) (Or.inl ⟨by kernel_rfl, ?_⟩) (by assumption) ?_; rotate_left; focus (intro w hSw; (try dsimp only at hSw); go_simp; try with_reducible rfl))
            try simp only [Act.put, List.setIfInBounds_toArray, List.set_cons_zero, List.set_cons_succ]
            (refine wpAnyH_take (i := 5) (v := ?_) rfl (by kernel_rfl) (by kernel_rfl) (by kernel_rfl) (fun _ _ _ h => h) (Or.inl ⟨by kernel_rfl, ?_⟩) (by assumption) ?_; rotate_left; focus (intro w hSw; (try dsimp only at hSw); go_simp; try with_reducible rfl))
            try simp only [Act.put, List.setIfInBounds_toArray, List.set_cons_zero, List.set_cons_succ]
            (refine wpAnyH_take (i := 6) (v := ?_) rfl (by kernel_rfl) (by kernel_rfl) (by kernel_rfl) (fun _ _ _ h => h) (Or.inl ⟨by kernel_rfl, ?_⟩) (by assumption) ?_; rotate_left; focus (intro w hSw; (try dsimp only at hSw); go_simp; try with_reducible rfl))
            try simp only [Act.put, List.setIfInBounds_toArray, List.set_cons_zero, List.set_cons_succ]
            (refine wpAnyH_take (i := 7) (v := ?_) rfl (by kernel_rfl) (by kernel_rfl) (by kernel_rfl) (fun _ _ _ h => h) (Or.inl ⟨by kernel_rfl, ?_⟩) (by assumption) ?_; rotate_left; focus (intro w hSw; (try dsimp only at hSw); go_simp; try with_reducible rfl))
            try simp only [Act.put, List.setIfInBounds_toArray, List.set_cons_zero, List.set_cons_succ]
            (refine wpAnyH_take (i := 8) (v := ?_) rfl (by kernel_rfl) (by kernel_rfl) (by kernel_rfl) (fun _ _ _ h => h) (Or.inl ⟨by kernel_rfl, ?_⟩) (by assumption) ?_; rotate_left; focus (intro w hSw; (try dsimp only at hSw); go_simp; try with_reducible rfl))
            try simp only [Act.put, List.setIfInBounds_toArray, List.set_cons_zero, List.set_cons_succ]
            (refine wpAnyH_take (i := 9) (v := ?_) rfl (by kernel_rfl) (by kernel_rfl) (by kernel_rfl) (fun _ _ _ h => h) (Or.inl ⟨by kernel_rfl, ?_⟩) (by assumption) ?_; rotate_left; focus (intro w hSw; (try dsimp only at hSw); go_simp; try with_reducible rfl))
            try simp only [Act.put, List.setIfInBounds_toArray, List.set_cons_zero, List.set_cons_succ]
            (refine wpAnyH_take (i := 10) (v := ?_) rfl (by kernel_rfl) (by kernel_rfl) (by kernel_rfl) (fun _ _ _ h => h) (Or.inl ⟨by kernel_rfl, ?_⟩) (by assumption) ?_; rotate_left; focus (intro w hSw; (try dsimp only at hSw); go_simp; try with_reducible rfl))
            try simp only [Act.put, List.setIfInBounds_toArray, List.set_cons_zero, List.set_cons_succ]
            (refine wpAnyH_take (i := 14) (v := ?_) rfl (by kernel_rfl) (by kernel_rfl) (by kernel_rfl) (fun _ _ _ h => h) (Or.inl ⟨by kernel_rfl, ?_⟩) (by assumption) ?_; rotate_left; focus (intro w hSw; (try dsimp only at hSw); go_simp; try with_reducible rfl))
            try simp only [Act.put, List.setIfInBounds_toArray, List.set_cons_zero, List.set_cons_succ]
            (refine wpAnyH_take (i := 15) (v := ?_) rfl (by kernel_rfl) (by kernel_rfl) (by kernel_rfl) (fun _ _ _ h => h) (Or.inl ⟨by kernel_rfl, ?_⟩) (by assumption) ?_; rotate_left; focus (intro w hSw; (try dsimp only at hSw); go_simp; try with_reducible rfl))
            try simp only [Act.put, List.setIfInBounds_toArray, List.set_cons_zero, List.set_cons_succ]
            (refine wpAnyH_take (i := 16) (v := ?_) rfl (by kernel_rfl) (by kernel_rfl) (by kernel_rfl) (fun _ _ _ h => h) (Or.inl ⟨by kernel_rfl, ?_⟩) (by assumption) ?_; rotate_left; focus (intro w hSw; (try dsimp only at hSw); go_simp; try with_reducible rfl))
            try simp only [Act.put, List.setIfInBounds_toArray, List.set_cons_zero, List.set_cons_succ]
            (refine wpAnyH_take (i := 17) (v := ?_) rfl (by kernel_rfl) (by kernel_rfl) (by kernel_rfl) (fun _ _ _ h => h) (Or.inl ⟨by kernel_rfl, ?_⟩) (by assumption) ?_; rotate_left; focus (intro w hSw; (try dsimp only at hSw); go_simp; try with_reducible rfl))
            try simp only [Act.put, List.setIfInBounds_toArray, List.set_cons_zero, List.set_cons_succ]
            refine wpAnyH_ready (rs := [11, 18]) (by kernel_rfl) (by simp) ?_
            refine AllReadyH.cons rfl (fun K hK => ?_) ?_
            · go_simp
              refine hK.out _ _ (by first | with_reducible assumption | exact Ext.drew (by with_reducible assumption) | exact (Ext.set (Ext.drew (by with_reducible assumption)) (by simp; omega) _) | exact (Ext.drew (Ext.set (by with_reducible assumption) (by simp; omega) _)) | exact (Ext.drew (Ext.set (Ext.set (by with_reducible assumption) (by simp; omega) _) (by simp; omega) _))) (fun hHeld => ?_)
              clear hK K
              try simp only [Act.put, List.setIfInBounds_toArray, List.set_cons_zero, List.set_cons_succ]
              (refine wpAnyH_take (i := 12) (v := ?_) rfl (by kernel_rfl) (by kernel_rfl) (by kernel_rfl) (fun _ _ _ h => h) (Or.inl ⟨by kernel_rfl, ?_⟩) (by assumption) ?_; rotate_left; focus (intro w hSw; (try dsimp only at hSw); go_simp; try with_reducible rfl))
              try simp only [Act.put, List.setIfInBounds_toArray, List.set_cons_zero, List.set_cons_succ]
              (refine wpAnyH_take (i := 13) (v := ?_) rfl (by kernel_rfl) (by kernel_rfl) (by kernel_rfl) (fun _ _ _ h => h) (Or.inl ⟨by kernel_rfl, ?_⟩) (by assumption) ?_; rotate_left; focus (intro w hSw; (try dsimp only at hSw); go_simp; try with_reducible rfl))
              try simp only [Act.put, List.setIfInBounds_toArray, List.set_cons_zero, List.set_cons_succ]
              refine wpAnyH_ready (rs := [18]) (by kernel_rfl) (by simp) ?_
              refine AllReadyH.cons rfl (fun K hK => ?_) AllReadyH.nil
              go_simp
              refine hK.out _ _ (by first | with_reducible assumption | exact Ext.drew (by with_reducible assumption) | exact (Ext.set (Ext.drew (by with_reducible assumption)) (by simp; omega) _) | exact (Ext.drew (Ext.set (by with_reducible assumption) (by simp; omega) _)) | exact (Ext.drew (Ext.set (Ext.set (by with_reducible assumption) (by simp; omega) _) (by simp; omega) _))) (fun hHeld => ?_)
              clear hK K
              try simp only [Act.put, List.setIfInBounds_toArray, List.set_cons_zero, List.set_cons_succ]
              (refine wpAnyH_take (i := 19) (v := ?_) rfl (by kernel_rfl) (by kernel_rfl) (by kernel_rfl) (fun _ _ _ h => h) (Or.inl ⟨by kernel_rfl, ?_⟩) (by assumption) ?_; rotate_left; focus (intro w hSw; (try dsimp only at hSw); go_simp; try with_reducible rfl))
              try simp only [Act.put, List.setIfInBounds_toArray, List.set_cons_zero, List.set_cons_succ]
              (refine wpAnyH_take (i := 20) (v := ?_) rfl (by kernel_rfl) (by kernel_rfl) (by kernel_rfl) (fun _ _ _ h => h) (Or.inl ⟨by kernel_rfl, ?_⟩) (by assumption) ?_; rotate_left; focus (intro w hSw; (try dsimp only at hSw); go_simp; try with_reducible rfl))
              try simp only [Act.put, List.setIfInBounds_toArray, List.set_cons_zero, List.set_cons_succ]
              (refine wpAnyH_take (i := 21) (v := ?_) rfl (by kernel_rfl) (by kernel_rfl) (by kernel_rfl) (fun _ _ _ h => h) (Or.inl ⟨by kernel_rfl, ?_⟩) (by assumption) ?_; rotate_left; focus (intro w hSw; (try dsimp only at hSw); go_simp; try with_reducible rfl))
              try simp only [Act.put, List.setIfInBounds_toArray, List.set_cons_zero, List.set_cons_succ]
              (refine wpAnyH_take (i := 22) (v := ?_) rfl (by kernel_rfl) (by kernel_rfl) (by kernel_rfl) (fun _ _ _ h => h) (Or.inl ⟨by kernel_rfl, ?_⟩) (by assumption) ?_; rotate_left; focus (intro w hSw; (try dsimp only at hSw); go_simp; try with_reducible rfl))
              try simp only [Act.put, List.setIfInBounds_toArray, List.set_cons_zero, List.set_cons_succ]
              refine wpAnyH_ready (rs := [23]) (by kernel_rfl) (by simp) ?_
              refine AllReadyH.cons rfl (fun K hK => ?_) AllReadyH.nil
              go_simp
              refine hK.out _ _ (by first | with_reducible assumption | exact Ext.drew (by with_reducible assumption) | exact (Ext.set (Ext.drew (by with_reducible assumption)) (by simp; omega) _) | exact (Ext.drew (Ext.set (by with_reducible assumption) (by simp; omega) _)) | exact (Ext.drew (Ext.set (Ext.set (by with_reducible assumption) (by simp; omega) _) (by simp; omega) _))) (fun hHeld => ?_)
              clear hK K
              try simp only [Act.put, List.setIfInBounds_toArray, List.set_cons_zero, List.set_cons_succ]
              (refine wpAnyH_take (i := 24) (v := ?_) rfl (by kernel_rfl) (by kernel_rfl) (by kernel_rfl) (fun _ _ _ h => h) (Or.inl ⟨by kernel_rfl, ?_⟩) (by assumption) ?_; rotate_left; focus (intro w hSw; (try dsimp only at hSw); go_simp; try with_reducible rfl))
              try simp only [Act.put, List.setIfInBounds_toArray, List.set_cons_zero, List.set_cons_succ]
              (refine wpAnyH_take (i := 25) (v := ?_) rfl (by kernel_rfl) (by kernel_rfl) (by kernel_rfl) (fun _ _ _ h => h) (Or.inl ⟨by kernel_rfl, ?_⟩) (by assumption) ?_; rotate_left; focus (intro w hSw; (try dsimp only at hSw); go_simp; try with_reducible rfl))
              try simp only [Act.put, List.setIfInBounds_toArray, List.set_cons_zero, List.set_cons_succ]
              refine wpAnyH_ready (rs := [26]) (by kernel_rfl) (by simp) ?_
              refine AllReadyH.cons rfl (fun K hK => ?_) AllReadyH.nil
              go_simp
              refine hK.out _ _ (by first | with_reducible assumption | exact Ext.drew (by with_reducible assumption) | exact (Ext.set (Ext.drew (by with_reducible assumption)) (by simp; omega) _) | exact (Ext.drew (Ext.set (by with_reducible assumption) (by simp; omega) _)) | exact (Ext.drew (Ext.set (Ext.set (by with_reducible assumption) (by simp; omega) _) (by simp; omega) _))) (fun hHeld => ?_)
              clear hK K
              try simp only [Act.put, List.setIfInBounds_toArray, List.set_cons_zero, List.set_cons_succ]
              refine wpAnyH_done (by kernel_rfl) ?_ _
              rw [hV5.out, hV3.out]
              go_wp2_with fail
              go_roundw
              case rel => exact ⟨k + 1, by omega, by go_num, hEn, HOn.out.ext (Ext.refl _).drew⟩
              case measure => simp [intOf]; omega
            refine AllReadyH.cons rfl (fun K hK => ?_) ?_
            · go_simp
              refine hK.out _ _ (by first | with_reducible assumption | exact Ext.drew (by with_reducible assumption) | exact (Ext.set (Ext.drew (by with_reducible assumption)) (by simp; omega) _) | exact (Ext.drew (Ext.set (by with_reducible assumption) (by simp; omega) _)) | exact (Ext.drew (Ext.set (Ext.set (by with_reducible assumption) (by simp; omega) _) (by simp; omega) _))) (fun hHeld => ?_)
              clear hK K
              try simp only [Act.put, List.setIfInBounds_toArray, List.set_cons_zero, List.set_cons_succ]
              (refine wpAnyH_take (i := 19) (v := ?_) rfl (by kernel_rfl) (by kernel_rfl) (by kernel_rfl) (fun _ _ _ h => h) (Or.inl ⟨by kernel_rfl, ?_⟩) (by assumption) ?_; rotate_left; focus (intro w hSw; (try dsimp only at hSw); go_simp; try with_reducible rfl))
              try simp only [Act.put, List.setIfInBounds_toArray, List.set_cons_zero, List.set_cons_succ]
              (refine wpAnyH_take (i := 20) (v := ?_) rfl (by kernel_rfl) (by kernel_rfl) (by kernel_rfl) (fun _ _ _ h => h) (Or.inl ⟨by kernel_rfl, ?_⟩) (by assumption) ?_; rotate_left; focus (intro w hSw; (try dsimp only at hSw); go_simp; try with_reducible rfl))
              try simp only [Act.put, List.setIfInBounds_toArray, List.set_cons_zero, List.set_cons_succ]
              refine wpAnyH_ready (rs := [11]) (by kernel_rfl) (by simp) ?_
              refine AllReadyH.cons rfl (fun K hK => ?_) AllReadyH.nil
              go_simp
              refine hK.out _ _ (by first | with_reducible assumption | exact Ext.drew (by with_reducible assumption) | exact (Ext.set (Ext.drew (by with_reducible assumption)) (by simp; omega) _) | exact (Ext.drew (Ext.set (by with_reducible assumption) (by simp; omega) _)) | exact (Ext.drew (Ext.set (Ext.set (by with_reducible assumption) (by simp; omega) _) (by simp; omega) _))) (fun hHeld => ?_)
              clear hK K
              try simp only [Act.put, List.setIfInBounds_toArray, List.set_cons_zero, List.set_cons_succ]
              (refine wpAnyH_take (i := 12) (v := ?_) rfl (by kernel_rfl) (by kernel_rfl) (by kernel_rfl) (fun _ _ _ h => h) (Or.inl ⟨by kernel_rfl, ?_⟩) (by assumption) ?_; rotate_left; focus (intro w hSw; (try dsimp only at hSw); go_simp; try with_reducible rfl))
              try simp only [Act.put, List.setIfInBounds_toArray, List.set_cons_zero, List.set_cons_succ]
              (refine wpAnyH_take (i := 13) (v := ?_) rfl (by kernel_rfl) (by kernel_rfl) (by kernel_rfl) (fun _ _ _ h => h) (Or.inl ⟨by kernel_rfl, ?_⟩) (by assumption) ?_; rotate_left; focus (intro w hSw; (try dsimp only at hSw); go_simp; try with_reducible rfl))
              try simp only [Act.put, List.setIfInBounds_toArray, List.set_cons_zero, List.set_cons_succ]
              (refine wpAnyH_take (i := 21) (v := ?_) rfl (by kernel_rfl) (by kernel_rfl) (by kernel_rfl) (fun _ _ _ h => h) (Or.inl ⟨by kernel_rfl, ?_⟩) (by assumption) ?_; rotate_left; focus (intro w hSw; (try dsimp only at hSw); go_simp; try with_reducible rfl))
              try simp only [Act.put, List.setIfInBounds_toArray, List.set_cons_zero, List.set_cons_succ]
              (refine wpAnyH_take (i := 22) (v := ?_) rfl (by kernel_rfl) (by kernel_rfl) (by kernel_rfl) (fun _ _ _ h => h) (Or.inl ⟨by kernel_rfl, ?_⟩) (by assumption) ?_; rotate_left; focus (intro w hSw; (try dsimp only at hSw); go_simp; try with_reducible rfl))
              try simp only [Act.put, List.setIfInBounds_toArray, List.set_cons_zero, List.set_cons_succ]
              refine wpAnyH_ready (rs := [23]) (by kernel_rfl) (by simp) ?_
              refine AllReadyH.cons rfl (fun K hK => ?_) AllReadyH.nil
              go_simp
              refine hK.out _ _ (by first | with_reducible assumption | exact Ext.drew (by with_reducible assumption) | exact (Ext.set (Ext.drew (by with_reducible assumption)) (by simp; omega) _) | exact (Ext.drew (Ext.set (by with_reducible assumption) (by simp; omega) _)) | exact (Ext.drew (Ext.set (Ext.set (by with_reducible assumption) (by simp; omega) _) (by simp; omega) _))) (fun hHeld => ?_)
              clear hK K
              try simp only [Act.put, List.setIfInBounds_toArray, List.set_cons_zero, List.set_cons_succ]
              (refine wpAnyH_take (i := 24) (v := ?_) rfl (by kernel_rfl) (by kernel_rfl) (by kernel_rfl) (fun _ _ _ h => h) (Or.inl ⟨by kernel_rfl, ?_⟩) (by assumption) ?_; rotate_left; focus (intro w hSw; (try dsimp only at hSw); go_simp; try with_reducible rfl))
              try simp only [Act.put, List.setIfInBounds_toArray, List.set_cons_zero, List.set_cons_succ]
              (refine wpAnyH_take (i := 25) (v := ?_) rfl (by kernel_rfl) (by kernel_rfl) (by kernel_rfl) (fun _ _ _ h => h) (Or.inl ⟨by kernel_rfl, ?_⟩) (by assumption) ?_; rotate_left; focus (intro w hSw; (try dsimp only at hSw); go_simp; try with_reducible rfl))
              try simp only [Act.put, List.setIfInBounds_toArray, List.set_cons_zero, List.set_cons_succ]
              refine wpAnyH_ready (rs := [26]) (by kernel_rfl) (by simp) ?_
              refine AllReadyH.cons rfl (fun K hK => ?_) AllReadyH.nil
              go_simp
              refine hK.out _ _ (by first | with_reducible assumption | exact Ext.drew (by with_reducible assumption) | exact (Ext.set (Ext.drew (by with_reducible assumption)) (by simp; omega) _) | exact (Ext.drew (Ext.set (by with_reducible assumption) (by simp; omega) _)) | exact (Ext.drew (Ext.set (Ext.set (by with_reducible assumption) (by simp; omega) _) (by simp; omega) _))) (fun hHeld => ?_)
              clear hK K
              try simp only [Act.put, List.setIfInBounds_toArray, List.set_cons_zero, List.set_cons_succ]
              refine wpAnyH_done (by kernel_rfl) ?_ _
              rw [hV5.out, hV3.out]
              go_wp2_with fail
              go_roundw
              case rel => exact ⟨k + 1, by omega, by go_num, hEn, HOn.out.ext (Ext.refl _).drew⟩
              case measure => simp [intOf]; omega
            exact AllReadyH.nil
          · obtain rfl : k = l.length := by omega
            rw [lateTo_end] at hown
            have hbox := (hr.block HBOX.out)
            obtain ⟨z0, z1, z2, z3⟩ := obj_cells4 hbox
            have hrr := Ext.refl wr
            obtain ⟨rq, dq, hst2, hdk⟩ := rich_best HV.out HST.out
            have hCr := campsB_of (rich_vh HV.out)
            obtain ⟨m1, m2, m3⟩ := best_is hCr (by rw [lateL_len]; exact hn4)
            rw [hst2] at m1 m2 m3
            have HM : Hid (bestE (richH ha) (lateL ha.st.length l) = 0 ∧ bestK (richH ha) (lateL ha.st.length l) = dq) := ⟨m1, m3⟩
            have hb2 : Calls Try.prog 31 #[.agg #[.int .i64 (richH ha).ro, .int .i64 (richH ha).cl, .slice (some ⟨g6, 0, none⟩) ha.st.length c6, .slice (some ⟨g10, 0, none⟩) ha.en.length c10], .slice ca l.length cc] wr (RetB (richH ha) (lateL ha.st.length l) wr) := by
              have hhr : HallAt wr (richH ha) ⟨some ⟨g6, 0, none⟩, c6, some ⟨g10, 0, none⟩, c10⟩ := ⟨HA19.out.st.ext (hE19.trans hr), HA19.out.en.ext (hE19.trans hr)⟩
              have hcr : Camps wr ca (lateL ha.st.length l) := by
                have := hown.out
                rw [show l.length = (lateL ha.st.length l).length from (lateL_len _ _).symm] at this
                rcases Nat.eq_zero_or_pos l.length with h0 | h0
                · exact .inl (List.length_eq_zero_iff.1 (by rw [lateL_len]; exact h0))
                · exact hown.out.camps.1
              have := Best_any2 (richH ha) ⟨some ⟨g6, 0, none⟩, c6, some ⟨g10, 0, none⟩, c10⟩ (lateL ha.st.length l) ca cc wr hhr hcr
              rw [lateL_len] at this
              exact this
            have HB2 := Lib.hid hb2
            have T7 : decide (dq ≤ kv) = true := by simp; exact hdk
            clear hb2 hst2 hdk hCr m1 m2 m3 hbox hown
            go_wp2_with (fail)
            (with_reducible refine HB2.out.mono ?_); rintro e w22 ⟨qa2, qc2, rfl, he22, hbi2⟩
            rw [HM.out.1, HM.out.2]
            clear hbi2 HM HB2 z0 z1 z2 z3
            go_wp2_with (fail)
            (with_reducible refine (known_any _).mono ?_); rintro e w23 ⟨rfl, he23⟩
            go_wp2_with (fail)
            go_ret
            exact ⟨rfl, ((hwc.trans hr).trans he22).trans he23⟩

set_option maxRecDepth 100000 in
set_option maxHeartbeats 80000000 in
theorem nothing_any (ha : Hal) (x : HP) (l : List Camp) (la : Option Addr) (lc : Nat) (P : List (List Int)) (qa : Option Addr) (qc : Nat) (w : World) (hh : HallAt w ha x) (hl : Camps w la l)
    (hP : Pls w qa P) (hPb : ∀ i, i < P.length → (lth P i).length * 8 ≤ 140737488351232) :
    Calls Try.prog 8 #[hval ha x, .slice la l.length lc, .slice qa P.length qc] w (Ret (.bool true) w) := by
  have hsplit : (decide ((24 : Int) < (ha.st.length : Int)) = true) ∨
      (decide ((24 : Int) < (ha.st.length : Int)) = false ∧ decide ((4 : Int) < (l.length : Int)) = true) ∨
      (decide ((24 : Int) < (ha.st.length : Int)) = false ∧ decide ((4 : Int) < (l.length : Int)) = false ∧ decide ((20 : Int) < (P.length : Int)) = true) ∨
      (decide ((24 : Int) < (ha.st.length : Int)) = false ∧ decide ((4 : Int) < (l.length : Int)) = false ∧ decide ((20 : Int) < (P.length : Int)) = false ∧ decide ((200 : Int) < (ha.en.length : Int)) = true) ∨
      (decide ((24 : Int) < (ha.st.length : Int)) = false ∧ decide ((4 : Int) < (l.length : Int)) = false ∧ decide ((20 : Int) < (P.length : Int)) = false ∧ decide ((200 : Int) < (ha.en.length : Int)) = false) := by
    cases decide ((24 : Int) < (ha.st.length : Int)) <;> cases decide ((4 : Int) < (l.length : Int)) <;> cases decide ((20 : Int) < (P.length : Int)) <;> cases decide ((200 : Int) < (ha.en.length : Int)) <;> simp
  rcases hsplit with T1 | ⟨T1, T2⟩ | ⟨T1, T2, T3⟩ | ⟨T1, T2, T3, T4⟩ | ⟨T1, T2, T3, T4⟩
  rotate_right
  · by_cases h1 : campsB ha l = true
    · by_cases h2 : bestSt ha l = none
      · exact nothing_none ha x l la lc P qa qc w hh hl hP hPb T1 T2 T3 T4 (.inr h2)
      · exact nothing_some ha x l la lc P qa qc w hh hl hP hPb T1 T2 T3 T4 ⟨h1, h2⟩
    · exact nothing_none ha x l la lc P qa qc w hh hl hP hPb T1 T2 T3 T4 (.inl (by simpa using h1))
  iterate 4
    · clear hh hl hP hPb
      obtain ⟨sa, sc, ea, ec⟩ := x
      go_enter Try.func8, Try.ntmps8
      go_wp2_with (fail)
      generalize hw1 : World.alloc _ _ = w1
      obtain ⟨he, o1, -⟩ := alloc1 hw1
      obtain ⟨b0, b1, b2, b3⟩ := obj_cells4 o1
      clear hw1 o1
      have hr := Ext.refl w1
      go_wp2_with (fail)
      (with_reducible refine (known_any _).mono ?_); rintro e w3 ⟨rfl, he3⟩
      go_wp2_with (fail)
      go_ret
      exact ⟨rfl, he.trans he3⟩
end Go.Proofs.Ytjpgignbjkgjiaa
