/-
  HallChanges answers true for any hall, campaigns, plan, hour, plans and campaign more.
-/
import Derived.Test.YtjpgignbjkgjiaaT9
set_option linter.unusedVariables false
set_option linter.unusedSimpArgs false
namespace Go.Proofs.Ytjpgignbjkgjiaa
open Go.RowKit
attribute [local go_sem ↓] Go.wp_at_zero Go.wp_at_succ
theorem sameB_self2 (xs : List Int) : sameB xs xs = true := by simp [sameB]
/-- Fit's answer, told by the hours that are tried one by one. -/
theorem fit_word {ha : Hal} {l m : List Camp} {p : List Int} {c : Camp} (hm : l ++ [c] = m) (hpl : p.length = l.length) (h0 : errS ha l p = 0) :
    (campsB ha m = false → fitE ha l p c = 2) ∧ (campsB ha m = true → (∀ k : Nat, k < ha.st.length → errS ha m (p ++ [(k : Int)]) = 0 → (∀ j : Nat, j < k → errS ha m (p ++ [(j : Int)]) ≠ 0) → fitE ha l p c = 0 ∧ fitT ha l p c = k) ∧
      ((∀ j : Nat, j < ha.st.length → errS ha m (p ++ [(j : Int)]) ≠ 0) → fitE ha l p c = 102)) := by
  subst hm
  refine ⟨fun h => by simp [fitE, h0, h], fun h => ?_⟩
  have he : ∀ j : Nat, errS ha (l ++ [c]) (p ++ [(j : Int)]) = if (breachS ha (l ++ [c]) (p ++ [(j : Int)])).ru = 0 then 0 else 100 := fun j => errS_is h (by simp [hpl])
  have hq : ∀ j : Nat, errS ha (l ++ [c]) (p ++ [(j : Int)]) ≠ 0 → fitQ ha l p c j = false := fun j hj => by
    rw [he] at hj
    cases hb : fitQ ha l p c j with
    | false => rfl
    | true =>
      have : (breachS ha (l ++ [c]) (p ++ [(j : Int)])).ru = 0 := by simpa [fitQ] using hb
      rw [if_pos this] at hj; exact absurd rfl hj
  have hq1 : ∀ j : Nat, errS ha (l ++ [c]) (p ++ [(j : Int)]) = 0 → fitQ ha l p c j = true := fun j hj => by
    rw [he] at hj
    split at hj
    · rename_i hb; simpa [fitQ] using hb
    · cases hj
  refine ⟨fun k hk hk0 hf => ?_, fun hf => ?_⟩
  · have : fitO ha l p c = some k := fIdx_some hk (hq1 k hk0) (fun j hj => hq j (hf j hj))
    simp [fitE, fitT, h0, h, this, idxZ]
  · have : fitO ha l p c = none := fIdx_none fun j hj => hq j (hf j hj)
    simp [fitE, h0, h, this]
set_option maxRecDepth 100000 in
set_option maxHeartbeats 8000000 in
theorem changes_any (ha : Hal) (x : HP) (l : List Camp) (la : Option Addr) (lc : Nat) (p : List Int) (pa : Option Addr) (pn pc : Nat) (now : Int) (P : List (List Int)) (qa : Option Addr) (qc : Nat) (c : Camp) (w : World) (hh : HallAt w ha x) (hl : Camps w la l) (hp : Ints w pa p) (hpn : p.length = pn)
    (hP : Pls w qa P) (hPb : ∀ i, i < P.length → (lth P i).length * 8 ≤ 140737488351232) :
    Calls Try.prog 9 #[hval ha x, .slice la l.length lc, .agg #[.slice pa pn pc, .int .i64 now, .slice qa P.length qc, .int .i64 c.cu, .int .i64 c.pr, .int .i64 c.ho, .int .i64 c.en, .int .i64 c.ea, .int .i64 c.la, .int .i64 c.we]] w (Ret (.bool true) w) := by
  have hown := fun W (h : Ext w W) q1 q2 => own_any ha x W (hh.ext h) q1 q2
  have hcop := fun W (h : Ext w W) q => copied_any la l.length lc l W (hl.ext h) rfl q
  have hint := fun W (h : Ext w W) q => ints_any pa pn pc p W (hp.ext h) hpn q
  have HOW := Lib.hid hown; have HCP := Lib.hid hcop; have HIN := Lib.hid hint
  have HPN := Lib.hid hpn; have HL := Lib.hid hl; have HP' := Lib.hid hp; have HPL := Lib.hid hP; have HPB := Lib.hid hPb
  clear hown hcop hint hh hl hp hpn hP hPb
  obtain ⟨sa, sc, ea, ec⟩ := x
  obtain ⟨ev, hev⟩ : ∃ v, errIf (campsB ha l) 2 = v := ⟨_, rfl⟩
  obtain ⟨C1, hC1⟩ : ∃ v, decide ((24 : Int) < (ha.st.length : Int)) = v := ⟨_, rfl⟩
  obtain ⟨C2, hC2⟩ : ∃ v, decide ((4 : Int) < (l.length : Int)) = v := ⟨_, rfl⟩
  obtain ⟨C3, hC3⟩ : ∃ v, decide ((10 : Int) < (pn : Int)) = v := ⟨_, rfl⟩
  obtain ⟨C4, hC4⟩ : ∃ v, decide ((20 : Int) < (P.length : Int)) = v := ⟨_, rfl⟩
  obtain ⟨C5, hC5⟩ : ∃ v, decide ((200 : Int) < (ha.en.length : Int)) = v := ⟨_, rfl⟩
  obtain ⟨C6, hC6⟩ : ∃ v, (ev != 0) = v := ⟨_, rfl⟩
  obtain ⟨C7, hC7⟩ : ∃ v, ((pn : Int) != (l.length : Int)) = v := ⟨_, rfl⟩
  obtain ⟨C8, hC8⟩ : ∃ v, decide (now < 0) = v := ⟨_, rfl⟩
  obtain ⟨C9, hC9⟩ : ∃ v, decide ((ha.st.length : Int) < now) = v := ⟨_, rfl⟩
  obtain ⟨G1, hG1⟩ : ∃ v, (C1 || C2) = v := ⟨_, rfl⟩
  obtain ⟨G2, hG2⟩ : ∃ v, (G1 || C3) = v := ⟨_, rfl⟩
  obtain ⟨G3, hG3⟩ : ∃ v, (G2 || C4) = v := ⟨_, rfl⟩
  obtain ⟨G4, hG4⟩ : ∃ v, (G3 || C5) = v := ⟨_, rfl⟩
  obtain ⟨G5, hG5⟩ : ∃ v, (G4 || C6) = v := ⟨_, rfl⟩
  obtain ⟨G6, hG6⟩ : ∃ v, (G5 || C7) = v := ⟨_, rfl⟩
  obtain ⟨G7, hG7⟩ : ∃ v, (G6 || C8) = v := ⟨_, rfl⟩
  obtain ⟨G8, hG8⟩ : ∃ v, (G7 || C9) = v := ⟨_, rfl⟩
  have HGB : Hid (G4 = false → ha.st.length ≤ 24 ∧ ha.en.length ≤ 200 ∧ l.length ≤ 4) := by
    refine Lib.hid fun h => ?_
    rw [← hG4, ← hG3, ← hG2, ← hG1, ← hC1, ← hC2, ← hC3, ← hC4, ← hC5] at h
    simp only [Bool.or_eq_false_iff, decide_eq_false_iff_not] at h
    omega
  have HAL : Hid (G8 = false → ha.st.length ≤ 24 ∧ l.length ≤ 4 ∧ pn ≤ 10 ∧ P.length ≤ 20 ∧ ha.en.length ≤ 200 ∧ campsB ha l = true ∧ pn = l.length ∧ 0 ≤ now ∧ now ≤ ha.st.length) := by
    refine Lib.hid fun h => ?_
    rw [← hG8, ← hG7, ← hG6, ← hG5, ← hG4, ← hG3, ← hG2, ← hG1, ← hC1, ← hC2, ← hC3, ← hC4, ← hC5, ← hC6, ← hC7, ← hC8, ← hC9, ← hev] at h
    simp only [Bool.or_eq_false_iff, decide_eq_false_iff_not, bne_eq_false_iff_eq] at h
    obtain ⟨⟨⟨⟨⟨⟨⟨⟨h1, h2⟩, h3⟩, h4⟩, h5⟩, h6⟩, h7⟩, h8⟩, h9⟩ := h
    have hc : campsB ha l = true := by
      cases hb : campsB ha l with
      | true => rfl
      | false => rw [hb] at h6; cases h6
    exact ⟨by omega, by omega, by omega, by omega, by omega, hc, by omega, by omega, by omega⟩
  have HEV := Lib.hid hev; have HC1 := Lib.hid hC1; have HC2 := Lib.hid hC2; have HC3 := Lib.hid hC3; have HC4 := Lib.hid hC4; have HC5 := Lib.hid hC5; have HC6 := Lib.hid hC6; have HC7 := Lib.hid hC7; have HC8 := Lib.hid hC8; have HC9 := Lib.hid hC9; have HG1 := Lib.hid hG1; have HG2 := Lib.hid hG2; have HG3 := Lib.hid hG3; have HG4 := Lib.hid hG4; have HG5 := Lib.hid hG5; have HG6 := Lib.hid hG6; have HG7 := Lib.hid hG7; have HG8 := Lib.hid hG8
  clear hev hC1 hC2 hC3 hC4 hC5 hC6 hC7 hC8 hC9 hG1 hG2 hG3 hG4 hG5 hG6 hG7 hG8
  go_enter Try.func9, Try.ntmps9
  go_wp2_with (fail)
  generalize hw1 : World.alloc _ _ = w1
  obtain ⟨he, o1, o2, o3, -⟩ := alloc3 hw1
  obtain ⟨b0, b1, b2, b3⟩ := obj_cells4 o1
  have l0 := obj_cells1 o2
  obtain ⟨a0, a1, a2, a3, a4, a5, a6, a7, a8, a9⟩ := obj_cells10 o3
  clear hw1 o1 o2 o3
  have hr0 := Ext.refl w1
  go_upto_region 1 with fail
  refine s1_law he hr0 HOW HCP b0 b1 b2 b3 l0 a0 a1 a2 HEV HC1 HC2 HC3 HC4 HC5 HC6 HC7 HC8 HC9 HG1 HG2 HG3 HG4 HG5 HG6 HG7 HG8 HGB _ (by rfl) rfl rfl rfl ?_
  intro vs1 w1 ls1 hl1 hx1 e1_0 e1_1 e1_2 e1_3 e1_4 e1_5 e1_6 e1_7 e1_8 e1_9 e1_10 e1_11 e1_12 e1_13 e1_14 e1_15 e1_16 e1_17 e1_18 e1_19 e1_20 e1_21 e1_22 e1_23 e1_24 e1_25 e1_26 e1_27 e1_28 e1_29 e1_30 e1_31 e1_32 e1_33 e1_34 e1_35 e1_36 e1_37 e1_38 e1_39 e1_40 e1_41 e1_42 e1_43 e1_44 e1_45 e1_46 e1_47 e1_48 e1_49 e1_50 e1_51 e1_52 e1_53 e1_54 e1_55
  clear e1_0 e1_1 e1_2 e1_3 e1_4 e1_5 e1_6 e1_7 e1_8 e1_9 e1_10 e1_11 e1_12 e1_13 e1_14 e1_15 e1_16 e1_17 e1_18 e1_19 e1_20 e1_21 e1_22 e1_23 e1_24 e1_25 e1_26 e1_27 e1_28 e1_29 e1_30 e1_31 e1_32 e1_33 e1_34 e1_35 e1_36 e1_37 e1_38 e1_39 e1_40 e1_41 e1_42 e1_43 e1_44 e1_45 e1_46 e1_47 e1_48 e1_49 e1_50 e1_51 e1_52 e1_53 e1_54
  simp only [Act.put, List.setIfInBounds_toArray, List.set_cons_zero, List.set_cons_succ]
  rw [e1_55]
  cases G8
  case true =>
    go_wp2_with (fail)
    (with_reducible refine (known_any _).mono ?_); rintro e w3 ⟨rfl, he3⟩
    go_wp2_with (fail)
    go_ret
    exact ⟨rfl, (he.trans hx1).trans he3⟩
  case false =>
    obtain ⟨hn24, hn4, hpn10, hP20, hen200, hcb, hpl, hnow0, hnow9⟩ := HAL.out rfl
    obtain rfl : pn = l.length := hpl
    have hnow1 : now ≤ 1000 := by omega
    clear HAL HGB HEV HC1 HC2 HC3 HC4 HC5 HC6 HC7 HC8 HC9 HG1 HG2 HG3 HG4 HG5 HG6 HG7 HG8 e1_55 hr0
    have hv := campsB_vh hcb
    have hcc : ∀ i, i < l.length → 0 ≤ (cth l i).pr ∧ (cth l i).pr ≤ 24 := fun i hi => ⟨(hv.cb i hi).pr0, (hv.cb i hi).pr1⟩
    have HCC := Lib.hid hcc
    have HV := Lib.hid hv
    have HCB2 := Lib.hid hcb
    obtain ⟨pv, hpv⟩ : ∃ pv, rpP ha l p now = pv := ⟨_, rfl⟩
    obtain ⟨kv, hkv⟩ : ∃ kv, rpK ha l p now = kv := ⟨_, rfl⟩
    obtain ⟨rv, hrv⟩ : ∃ rv, rpE ha l p now = rv := ⟨_, rfl⟩
    obtain ⟨np, hnp⟩ : ∃ np, pv.length = np := ⟨_, rfl⟩
    have HSP : Hid ((rv = 101 ∧ rpSt ha l p now = none) ∨ (rv = 0 ∧ rpSt ha l p now = some (pv, kv) ∧ np = l.length)) := by
      obtain ⟨q1, q2, q3⟩ := rp_is hcb HPN.out hn4 hnow0 hnow9
      cases hs : rpSt ha l p now with
      | none => rw [hs] at q1; exact Lib.hid (.inl ⟨by rw [← hrv, q1]; rfl, rfl⟩)
      | some qc =>
        obtain ⟨q, c'⟩ := qc
        rw [hs] at q1 q2 q3
        refine Lib.hid (.inr ⟨by rw [← hrv, q1]; rfl, by rw [← hpv, ← hkv, q2, q3]; rfl, ?_⟩)
        rw [← hnp, ← hpv, q2]
        exact (rp_some hv hs).1
    obtain ⟨V, hV⟩ : ∃ v, (rv != 0) = v := ⟨_, rfl⟩
    obtain ⟨U, hU⟩ : ∃ v, (rv != 101) = v := ⟨_, rfl⟩
    obtain ⟨X1, hX1⟩ : ∃ v, (V && U) = v := ⟨_, rfl⟩
    obtain ⟨Z, hZ⟩ : ∃ v, (rv == 0) = v := ⟨_, rfl⟩
    obtain ⟨Q1, hQ1⟩ : ∃ v, ((np : Int) != (l.length : Int)) = v := ⟨_, rfl⟩
    obtain ⟨Y, hY⟩ : ∃ v, (Z && Q1) = v := ⟨_, rfl⟩
    have HX4 : Hid ((X1 || Y) = false) := by
      refine Lib.hid ?_
      rw [← hX1, ← hY, ← hV, ← hU, ← hZ, ← hQ1]
      rcases HSP.out with ⟨rfl, -⟩ | ⟨rfl, -, rfl⟩
      · rfl
      · simp
    have HR1 := Lib.hid hpv; have HR2 := Lib.hid hkv; have HR3 := Lib.hid hrv; have HR4 := Lib.hid hnp; have HNP := Lib.hid hnp
    have HV0 := Lib.hid hV; have HU := Lib.hid hU; have HX1 := Lib.hid hX1; have HZ := Lib.hid hZ; have HQ := Lib.hid hQ1; have HY := Lib.hid hY
    clear hv hcc hcb hpv hkv hrv hnp hV hU hX1 hZ hQ1 hY
    go_upto_region 3 with fail
    refine s3_law he hx1 hn24 hen200 hn4 HPN HOW HCP b0 b1 b2 b3 l0 HR1 HR4 HR2 HR3 HIN a0 a1 _ (by rfl) rfl rfl rfl ?_
    intro vs3 w3 ls3 hl3 hx3 e3_0 e3_1 e3_2 e3_3 e3_4 e3_5 e3_6 e3_7 e3_8 e3_9 e3_10 e3_11 e3_12 e3_13 e3_14 e3_15 e3_16
    clear e3_0 e3_1 e3_2 e3_3 e3_4 e3_5 e3_6 e3_7 e3_8 e3_9 e3_10 e3_11 e3_12 e3_13
    simp only [Act.put, List.setIfInBounds_toArray, List.set_cons_zero, List.set_cons_succ]
    obtain ⟨ra, rc, q14, hri⟩ := e3_14
    rw [q14, e3_15, e3_16]
    clear q14 e3_15 e3_16
    have HRI := Lib.hid hri
    clear hri
    have hr3 := hx1.trans hx3
    clear HR1 HR2 HR3
    go_upto_region 4 with fail
    refine s4_law he hr3 l0 HV0 HU HX1 HZ HQ HY HX4 _ (by rfl) rfl rfl rfl ?_
    intro vs4 w4 ls4 hl4 hx4 e4_0 e4_1 e4_2 e4_3 e4_4 e4_5 e4_6 e4_7 e4_8 e4_9 e4_10 e4_11 e4_12 e4_13 e4_14 e4_15 e4_16
    clear e4_0 e4_1 e4_2 e4_3 e4_4 e4_5 e4_6 e4_7 e4_8 e4_9 e4_10 e4_11 e4_12 e4_13 e4_14 e4_15
    simp only [Act.put, List.setIfInBounds_toArray, List.set_cons_zero, List.set_cons_succ]
    rw [e4_16]
    clear e4_16
    have hr4 := hr3.trans hx4
    go_upto_if 119 with fail
    try rw [HZ.out]
    have hrr4 := Ext.refl w4
    refine wp_cutL [11, 12, 120, 121, 122, 123, 124, 125, 126, 127, 128, 129, 130, 131, 132, 133, 134, 135, 136, 137, 138, 139, 140, 141, 142] (fun u wx => Ext w4 wx) ?rest ?first
    case first =>
      intro J K' hJ hK'
      rcases HSP.out with ⟨rfl, -⟩ | ⟨rfl, hsq, hnq⟩
      · obtain rfl : Z = false := HZ.out.symm
        go_wp2_with fail
        exact met_puts hJ (by kernel_rfl) hrr4
      · obtain rfl : Z = true := HZ.out.symm
        have hrs := rp_some HV.out hsq
        obtain ⟨hq1, hq2, hq3, hq4⟩ := hrs
        have hin2 := fun W (h : Ext w4 W) => ints_any ra np rc pv W (HRI.out.ext (hx4.trans h)) HNP.out (by rw [hq1]; omega)
        have HI2 := Lib.hid hin2
        have hcr0 : errS ha l pv = 0 := by rw [errS_is HCB2.out hq1, if_pos hq2]
        have hcr1 : costR ha l pv = kv := by rw [costR, if_pos hcr0, hq3]
        have HC0 := Lib.hid hcr0
        have HC1 := Lib.hid hcr1
        have HQ1 := Lib.hid hq1; have HQ4 := Lib.hid hq4
        have hrw4 := he.trans hr4
        clear hin2 hq1 hq2 hq3 hq4 hsq hnq hcr0 hcr1
        go_upto_region 8 with fail
        refine s8_law he hr4 hn24 hen200 hn4 HPN HOW HCP b0 b1 b2 b3 l0 HI2 _ (by rfl) rfl rfl rfl ?_
        intro vs8 w8 ls8 hl8 hx8 e8_0 e8_1 e8_2 e8_3 e8_4 e8_5 e8_6 e8_7 e8_8 e8_9 e8_10 e8_11
        clear e8_0 e8_1 e8_2 e8_3 e8_4 e8_5 e8_6 e8_7 e8_8 e8_9
        simp only [Act.put, List.setIfInBounds_toArray, List.set_cons_zero, List.set_cons_succ]
        rw [e8_10, e8_11, HC0.out, HC1.out]
        clear e8_10 e8_11
        have hst1 := fun W (h : Ext w8 W) => stays_any (w.heap.size + 1) (w.heap.size + 2) now l la lc p pv pa ra pc rc now W (HL.out.ext (hrw4.trans (hx8.trans h))) (HP'.out.ext (hrw4.trans (hx8.trans h))) (HRI.out.ext (hx4.trans (hx8.trans h))) HPN.out HQ1.out (by omega) hnow0 hnow1 HCC.out (fun W' h' => l0 W' (hr4.trans (hx8.trans (h.trans h')))) (fun W' h' => by rw [HPN.out]; exact a0 W' (hr4.trans (hx8.trans (h.trans h')))) (fun W' h' => a1 W' (hr4.trans (hx8.trans (h.trans h'))))
        simp only [HNP.out, HQ4.out] at hst1
        have HS1 := Lib.hid hst1
        clear hst1
        go_upto_region 9 with fail
        refine s9_law HS1 _ (by rfl) rfl rfl rfl rfl rfl ?_
        intro vs9 w9 ls9 hl9 hx9 e9_0 e9_1 e9_2 e9_3 e9_4 e9_5 e9_6 e9_7 e9_8 e9_9 e9_10 e9_11 e9_12
        clear e9_0 e9_1 e9_2 e9_3 e9_4 e9_5 e9_6 e9_7 e9_8 e9_9 e9_10 e9_11
        simp only [Act.put, List.setIfInBounds_toArray, List.set_cons_zero, List.set_cons_succ]
        rw [e9_12]
        clear e9_12
        have hx89 := hx8.trans hx9
        go_wp2_with fail
        exact met_puts hJ (by kernel_rfl) hx89
    case rest =>
    intro u w8 hx8
    simp only [putsL, List.foldl_cons, List.foldl_nil, Act.put, List.setIfInBounds_toArray, List.set_cons_zero, List.set_cons_succ]
    have hr8 := hr4.trans hx8
    have HCW : Hid (Ext w4 w8) := Lib.hid hx8
    clear hrr4
    have hst := fun W (h : Ext w8 W) q qa qc (hq : Ints W qa q) (hql : q.length = l.length) => stays_any (w.heap.size + 1) (w.heap.size + 2) now l la lc p q pa qa pc qc now W (HL.out.ext (he.trans (hr8.trans h))) (HP'.out.ext (he.trans (hr8.trans h))) hq HPN.out hql (by omega) hnow0 hnow1 HCC.out (fun W' h' => l0 W' (hr8.trans (h.trans h'))) (fun W' h' => by rw [HPN.out]; exact a0 W' (hr8.trans (h.trans h'))) (fun W' h' => a1 W' (hr8.trans (h.trans h')))
    have HST := Lib.hid hst
    clear hst
    have hr88 := Ext.refl w8
    go_wp2_with (fail)
    go_loopw [13] (fun i wr => ∃ k : Nat, k ≤ P.length ∧ i = .int .i64 k ∧ Ext w8 wr) (fun i _ => P.length - (intOf i).toNat)
    case atStart => exact ⟨0, Nat.zero_le _, rfl, hr88⟩
    case round =>
      clear hr88
      obtain ⟨k, hk, rfl, hrk⟩ := hrel
      have hrr := hr8.trans hrk
      by_cases hlt : k < P.length
      · obtain ⟨bq, oq, ppa, ppc, rfl, f0, hpi⟩ := HPL.out.at k hlt
        have hin := fun W (h : Ext wr W) => ints_big ppa (lth P k).length ppc (lth P k) W (hpi.ext (he.trans (hrr.trans h))) rfl (HPB.out k hlt)
        have HI2 := Lib.hid hin
        have HPI := Lib.hid hpi
        clear hin hpi
        go_upto_region 14 with fail
        refine s14_law he hrr hn24 hen200 hn4 HPN HOW HCP b0 b1 b2 b3 l0 hlt hP20 a2 f0 HI2 _ (by rfl) rfl rfl rfl rfl ?_
        intro vs14 w14 ls14 hl14 hx14 e14_0 e14_1 e14_2 e14_3 e14_4 e14_5 e14_6 e14_7 e14_8 e14_9 e14_10 e14_11 e14_12 e14_13 e14_14 e14_15
        clear e14_0 e14_1 e14_2 e14_3 e14_4 e14_5 e14_6 e14_7 e14_8 e14_9 e14_10 e14_11 e14_12 e14_13
        simp only [Act.put, List.setIfInBounds_toArray, List.set_cons_zero, List.set_cons_succ]
        rw [e14_14, e14_15]
        clear e14_14 e14_15
        have hr14 := hrr.trans hx14
        obtain ⟨dk, hdk⟩ : ∃ v, v = costR ha l (lth P k) := ⟨_, rfl⟩
        obtain ⟨ek, hek⟩ : ∃ v, v = errS ha l (lth P k) := ⟨_, rfl⟩
        obtain ⟨nk, hnk⟩ : ∃ v, v = (lth P k).length := ⟨_, rfl⟩
        obtain ⟨S, hS⟩ : ∃ v, v = staysB l p now (lth P k) := ⟨_, rfl⟩
        have hst2 := fun (hql : (lth P k).length = l.length) W (h : Ext w14 W) => HST.out W (hrk.trans (hx14.trans h)) (lth P k) ppa ppc (HPI.out.ext (he.trans (hr14.trans h))) hql
        have hsp : ¬ (ek = 0 ∧ nk = l.length ∧ S = true ∧ (rv ≠ 0 ∨ dk < kv)) := by
          rintro ⟨h0, h1, h2, h3⟩
          rw [hek] at h0
          obtain ⟨-, hl2, hb2⟩ := errS_zero h0
          have hd : dk = costTo l (lth P k) l.length := by rw [hdk, costR, if_pos h0]
          obtain ⟨r, c', q1, q2⟩ := rp_best HV.out hl2 hb2 (by rw [← hS]; exact h2)
          rcases HSP.out with ⟨_, hn⟩ | ⟨e1, e2, e3⟩
          · rw [hn] at q1; cases q1
          · rw [e2] at q1
            simp only [Option.some.injEq, Prod.mk.injEq] at q1
            obtain ⟨rfl, rfl⟩ := q1
            rcases h3 with h3 | h3
            · exact h3 e1
            · omega
        simp only [← hS, ← hnk] at hst2
        rw [← hdk, ← hek]
        rw [← hnk] at f0
        obtain ⟨E, hE⟩ : ∃ v, (ek == 0) = v := ⟨_, rfl⟩
        obtain ⟨N, hN⟩ : ∃ v, ((nk : Int) == (l.length : Int)) = v := ⟨_, rfl⟩
        obtain ⟨X2, hX2⟩ : ∃ v, (E && N) = v := ⟨_, rfl⟩
        obtain ⟨X3, hX3⟩ : ∃ v, (X2 && S) = v := ⟨_, rfl⟩
        obtain ⟨V', hV'⟩ : ∃ v, (rv != 0) = v := ⟨_, rfl⟩
        obtain ⟨M, hM⟩ : ∃ v, decide (dk < kv) = v := ⟨_, rfl⟩
        obtain ⟨Y', hY'⟩ : ∃ v, (V' || M) = v := ⟨_, rfl⟩
        have HST2 : Hid (X2 = true → ∀ W, Ext w14 W → Calls Try.prog 38 #[.slice ppa nk ppc, .pointer (some ⟨w.heap.size + 1, 0, none⟩), .pointer (some ⟨w.heap.size + 2, 0, none⟩)] W (Ret (.bool S) W)) := by
          refine Lib.hid fun h => hst2 ?_
          rw [← hX2, ← hN] at h
          simp at h
          omega
        have HX4' : Hid ((X3 && Y') = false) := by
          refine Lib.hid ?_
          rw [← hX3, ← hX2, ← hE, ← hN, ← hY', ← hV', ← hM]
          cases hb : ((((ek == 0) && ((nk : Int) == (l.length : Int))) && S) && ((rv != 0) || decide (dk < kv))) with
          | false => rfl
          | true =>
            simp only [Bool.and_eq_true, Bool.or_eq_true, beq_iff_eq, bne_iff_ne, ne_eq, decide_eq_true_eq] at hb
            exact absurd ⟨hb.1.1.1, by omega, hb.1.2, hb.2⟩ hsp
        have HE := Lib.hid hE; have HN := Lib.hid hN; have HX2 := Lib.hid hX2; have HX3 := Lib.hid hX3; have HV' := Lib.hid hV'; have HM' := Lib.hid hM; have HY' := Lib.hid hY'
        clear hdk hek hnk hS hst2 hsp HI2 HPI hE hN hX2 hX3 hV' hM hY'
        go_upto_region 15 with fail
        refine s15_law he hr14 hlt hP20 hn4 l0 a2 f0 HST2 HE HN HX2 HX3 HV' HM' HY' HX4' _ (by rfl) rfl rfl rfl rfl rfl rfl rfl rfl ?_
        intro vs15 w15 ls15 hl15 hx15 e15_0 e15_1 e15_2 e15_3 e15_4 e15_5 e15_6 e15_7 e15_8 e15_9 e15_10 e15_11 e15_12 e15_13 e15_14 e15_15 e15_16 e15_17 e15_18 e15_19 e15_20 e15_21 e15_22 e15_23 e15_24 e15_25 e15_26 e15_27 e15_28 e15_29 e15_30
        clear e15_0 e15_1 e15_2 e15_3 e15_4 e15_5 e15_6 e15_7 e15_8 e15_9 e15_10 e15_11 e15_12 e15_13 e15_14 e15_15 e15_16 e15_17 e15_18 e15_19 e15_20 e15_21 e15_22 e15_23 e15_24 e15_25 e15_26 e15_27 e15_28 e15_29
        simp only [Act.put, List.setIfInBounds_toArray, List.set_cons_zero, List.set_cons_succ]
        rw [e15_30]
        clear e15_30
        have hrn := hrk.trans (hx14.trans hx15)
        go_wp2_with (fail)
        go_roundw
        case rel => exact ⟨k + 1, by omega, by go_num, hrn⟩
        case measure => simp [intOf]; omega
      · obtain rfl : k = P.length := by omega
        clear HPL HPB HST
        go_upto_region 17 with fail
        refine s17_law he hrr hn24 hen200 hn4 HPN HOW HCP b0 b1 b2 b3 l0 HIN a0 _ (by rfl) rfl rfl rfl ?_
        intro vs17 w17 ls17 hl17 hx17 e17_0 e17_1 e17_2 e17_3 e17_4 e17_5 e17_6 e17_7 e17_8 e17_9 e17_10 e17_11 e17_13
        clear e17_0 e17_1 e17_2 e17_3 e17_4 e17_5 e17_6 e17_7 e17_8 e17_9 e17_10 e17_11
        simp only [Act.put, List.setIfInBounds_toArray, List.set_cons_zero, List.set_cons_succ]
        rw [e17_13]
        clear e17_13
        have hr17 := hrr.trans hx17
        by_cases hE0 : errS ha l p = 0
        rotate_left
        · have h100 : errS ha l p = 100 := by
            have h1 := errS_is HCB2.out HPN.out
            rw [h1] at hE0 ⊢
            split
            · rename_i q; rw [if_pos q] at hE0; exact absurd rfl hE0
            · rfl
          rw [h100]
          clear h100 hE0
          have hw17 := he.trans hr17
          go_wp2_with (fail)
          (with_reducible refine (known_any _).mono ?_); rintro e w18 ⟨rfl, he18⟩
          go_wp2_with (fail)
          go_ret
          exact ⟨rfl, hw17.trans he18⟩
        have hb0 : (breachS ha l p).ru = 0 := (errS_zero hE0).2.2
        obtain ⟨p0, k0, hst0, hk0⟩ := best_any_plan HV.out HPN.out hb0
        have hz := rp_zero HV.out hb0
        obtain ⟨n0, hn0⟩ : ∃ n, p0.length = n := ⟨_, rfl⟩
        have hn0b : n0 ≤ 1000000 := by rw [← hn0, (best_some HV.out hst0).1]; omega
        have HRP : Hid (rpE ha l p 0 = 0 ∧ rpP ha l p 0 = p0 ∧ rpK ha l p 0 = k0) := by
          obtain ⟨q1, q2, q3⟩ := rp_is HCB2.out HPN.out hn4 (Int.le_refl 0) (by have := HV.out.n1; omega)
          rw [hz, hst0] at q1 q2 q3
          exact Lib.hid ⟨q1, q2, q3⟩
        have HBS : Hid (bestE ha l = 0 ∧ bestP ha l = p0 ∧ bestK ha l = k0) := by
          obtain ⟨q1, q2, q3⟩ := best_is HCB2.out hn4
          rw [hst0] at q1 q2 q3
          exact Lib.hid ⟨q1, q2, q3⟩
        have HR1 := Lib.hid HRP.out.2.1; have HR2 := Lib.hid HRP.out.2.2; have HR3 := Lib.hid HRP.out.1; have HR4 := Lib.hid hn0
        have HB1 := Lib.hid HBS.out.2.1; have HB2 := Lib.hid HBS.out.2.2; have HB3 := Lib.hid HBS.out.1
        obtain ⟨fT, hfT⟩ : ∃ v, fitT ha l p c = v := ⟨_, rfl⟩
        obtain ⟨fE, hfE⟩ : ∃ v, fitE ha l p c = v := ⟨_, rfl⟩
        obtain ⟨m, hm⟩ : ∃ m, l ++ [c] = m := ⟨_, rfl⟩
        have hfw := fit_word hm HPN.out hE0
        rw [hfT, hfE] at hfw
        have HFW := Lib.hid hfw
        have HF1 := Lib.hid hfT; have HF2 := Lib.hid hfE; have HM := Lib.hid hm
        rw [hE0]
        clear hb0 hst0 hk0 hz hn0 HRP HBS hfT hfE hm hfw hE0 HSP HCW
        go_upto_region 20 with fail
        refine s20_law he hr17 hn24 hen200 hn4 HPN HOW HCP b0 b1 b2 b3 l0 HR1 HR4 HR2 HR3 HIN a0 _ (by rfl) rfl rfl rfl ?_
        intro vs20 w20 ls20 hl20 hx20 e20_0 e20_1 e20_2 e20_3 e20_4 e20_5 e20_6 e20_7 e20_8 e20_9 e20_10 e20_11 e20_12 e20_13 e20_14
        clear e20_0 e20_1 e20_2 e20_3 e20_4 e20_5 e20_6 e20_7 e20_8 e20_9 e20_10 e20_11
        simp only [Act.put, List.setIfInBounds_toArray, List.set_cons_zero, List.set_cons_succ]
        obtain ⟨rb, rbc, q12, hrp⟩ := e20_12
        rw [q12, e20_13, e20_14]
        clear q12 e20_13 e20_14 HR1 HR2 HR3
        have HRP2 := Lib.hid hrp
        clear hrp
        have hr20 := hr17.trans hx20
        go_upto_region 21 with fail
        refine s21_law he hr20 hn24 hen200 hn4 HPN HOW HCP b0 b1 b2 b3 l0 HB1 HR4 HB2 HB3 _ (by rfl) rfl rfl ?_
        intro vs21 w21 ls21 hl21 hx21 e21_0 e21_1 e21_2 e21_3 e21_4 e21_5 e21_6 e21_7 e21_8 e21_9 e21_10 e21_11
        clear e21_0 e21_1 e21_2 e21_3 e21_4 e21_5 e21_6 e21_7 e21_8
        simp only [Act.put, List.setIfInBounds_toArray, List.set_cons_zero, List.set_cons_succ]
        obtain ⟨rd, rdc, q9, hrp⟩ := e21_9
        rw [q9, e21_10, e21_11]
        clear q9 e21_10 e21_11 HB1 HB2 HB3
        have hr21 := hr20.trans hx21
        have hsa := fun W (h : Ext w21 W) => same_any p0 p0 rb rd n0 n0 rbc rdc W (HRP2.out.ext (hx21.trans h)) (hrp.ext h) HR4.out HR4.out hn0b hn0b
        simp only [sameB_self2] at hsa
        have HSA := Lib.hid hsa
        clear hrp hsa
        go_upto_region 22 with fail
        refine s22_law HSA _ (by rfl) rfl rfl rfl rfl rfl rfl ?_
        intro vs22 w22 ls22 hl22 hx22 e22_0 e22_1 e22_2 e22_3 e22_4 e22_5 e22_6 e22_7 e22_8 e22_9 e22_10 e22_11 e22_12 e22_13 e22_14 e22_15 e22_16
        clear e22_0 e22_1 e22_2 e22_3 e22_4 e22_5 e22_6 e22_7 e22_8 e22_9 e22_10 e22_11 e22_12 e22_13 e22_14 e22_15
        simp only [Act.put, List.setIfInBounds_toArray, List.set_cons_zero, List.set_cons_succ]
        rw [e22_16]
        clear e22_16 HSA HRP2
        have hr22 := hr21.trans hx22
        go_upto_region 24 with fail
        refine s24_law he hr22 hn24 hen200 hn4 HPN HOW HCP b0 b1 b2 b3 l0 HF1 HF2 HIN a0 a3 a4 a5 a6 a7 a8 a9 _ (by rfl) rfl rfl rfl ?_
        intro vs24 w24 ls24 hl24 hx24 e24_0 e24_1 e24_2 e24_3 e24_4 e24_5 e24_6 e24_7 e24_8 e24_9 e24_10 e24_11 e24_12 e24_13 e24_14
        clear e24_0 e24_1 e24_2 e24_3 e24_4 e24_5 e24_6 e24_7 e24_8 e24_9 e24_10 e24_11 e24_12
        simp only [Act.put, List.setIfInBounds_toArray, List.set_cons_zero, List.set_cons_succ]
        rw [e24_13, e24_14]
        clear e24_13 e24_14 HF1 HF2
        have hr24 := hr22.trans hx24
        go_upto_region 25 with fail
        refine s25_law he hr24 hn4 HCP HM l0 a3 a4 a5 a6 a7 a8 a9 _ (by rfl) rfl rfl ?_
        intro vs25 w25 ls25 hl25 hx25 e25_0 e25_1 e25_2 e25_3 e25_4 e25_5 e25_6
        clear e25_0 e25_1 e25_2 e25_3 e25_4 e25_5 e25_6
        simp only [Act.put, List.setIfInBounds_toArray, List.set_cons_zero, List.set_cons_succ]
        obtain ⟨ma, mc, q25, hmc⟩ : ∃ ma mc, vs25 6 = .slice ma m.length mc ∧ Camps w25 ma m := by
          obtain ⟨j1, -, -, j4, j5⟩ := hx25
          obtain ⟨q1, q2⟩ := j5 (hl25 6 (by omega))
          obtain ⟨a', b', q3, q4⟩ := j4 q1
          exact ⟨a', b', q2.trans q3, q4⟩
        rw [q25]
        clear q25
        have hr25 := hr24.trans hx25.1
        have HMC := Lib.hid hmc
        clear hmc hx25
        have hw25 := he.trans hr25
        obtain ⟨evm, hevm⟩ : ∃ v, errIf (campsB ha m) 2 = v := ⟨_, rfl⟩
        have HEVM := Lib.hid hevm
        clear hevm
        go_wp2_with (fail)
        (with_reducible refine (HOW.out _ hw25 (by omega) (by omega)).mono ?_); rintro e w26 ⟨g6, c6, g10, c10, rfl, he26, -, -, -, ho6, ho10⟩
        have hcc := checkCampaigns ha ⟨some ⟨g6, 0, none⟩, c6, some ⟨g10, 0, none⟩, c10⟩ m ma mc w26 ⟨ho6.ints.1, ho10.ints.1⟩ (HMC.out.ext he26)
        rw [HEVM.out] at hcc
        have HCK := Lib.hid hcc
        clear hcc ho6 ho10
        have hr26 := hr25.trans he26
        go_wp2_with (fail)
        (with_reducible refine HCK.out.mono ?_); rintro e w27 ⟨rfl, he27⟩
        clear HCK
        have hr27 := hr26.trans he27
        have hw27 := he.trans hr27
        have hx27 := he26.trans he27
        cases hcm : campsB ha m with
        | false =>
          obtain rfl : evm = 2 := by rw [← HEVM.out, hcm]; rfl
          obtain rfl : fE = 2 := HFW.out.1 hcm
          clear hcm
          go_wp2_with (fail)
          (with_reducible refine (known_any _).mono ?_); rintro e w28 ⟨rfl, he28⟩
          go_wp2_with (fail)
          go_ret
          exact ⟨rfl, hw27.trans he28⟩
        | true =>
          obtain rfl : evm = 0 := by rw [← HEVM.out, hcm]; rfl
          have HFX := Lib.hid (HFW.out.2 hcm)
          clear hcm HFW HEVM
          have hr77 := Ext.refl w27
          go_wp2_with (fail)
          go_loopw [26] (fun i wz => ∃ k : Nat, k ≤ ha.st.length ∧ i = .int .i64 k ∧ Ext w27 wz ∧ Hid (∀ j : Nat, j < k → errS ha m (p ++ [(j : Int)]) ≠ 0)) (fun i _ => ha.st.length - (intOf i).toNat)
          case atStart => exact ⟨0, Nat.zero_le _, rfl, hr77, Lib.hid fun j hj => absurd hj (Nat.not_lt_zero _)⟩
          case round =>
            clear hr77
            obtain ⟨k, hk, rfl, hrz, HNO⟩ := hrel
            have hrr7 := hr27.trans hrz
            have hmc7 := HMC.out.ext (hx27.trans hrz)
            by_cases hlt7 : k < ha.st.length
            · have HMC7 := Lib.hid hmc7
              clear hmc7
              obtain ⟨ek, hek⟩ : ∃ v, errS ha m (p ++ [(k : Int)]) = v := ⟨_, rfl⟩
              have HEK := Lib.hid hek
              clear hek
              go_upto_region 31 with fail
              refine s31_law he hrr7 hn24 hen200 hn4 HPN HOW b0 b1 b2 b3 HIN a0 HMC7 HEK _ (by rfl) rfl rfl rfl rfl ?_
              intro vs31 w31 ls31 hl31 hx31 e31_0 e31_1 e31_2 e31_3 e31_4 e31_5 e31_6 e31_7 e31_8 e31_9 e31_10 e31_11 e31_12 e31_13 e31_15
              clear e31_0 e31_1 e31_2 e31_3 e31_4 e31_5 e31_6 e31_7 e31_8 e31_9 e31_10 e31_11 e31_12 e31_13
              simp only [Act.put, List.setIfInBounds_toArray, List.set_cons_zero, List.set_cons_succ]
              rw [e31_15]
              clear e31_15
              have hr31 := hrr7.trans hx31.1
              have hrzn := hrz.trans hx31.1
              by_cases h0 : ek = 0
              · subst h0
                obtain ⟨q1, q2⟩ := HFX.out.1 k hlt7 HEK.out HNO.out
                subst q1 q2
                have hw31 := he.trans hr31
                clear hrzn HNO HFX
                go_wp2_with (fail)
                (with_reducible refine (known_any _).mono ?_); rintro e w33 ⟨rfl, he33⟩
                go_wp2_with (fail)
                go_ret
                exact ⟨rfl, hw31.trans he33⟩
              · have T0 : (ek == 0) = false := by simpa using h0
                have hno : ∀ j : Nat, j < k + 1 → errS ha m (p ++ [(j : Int)]) ≠ 0 := fun j hj => by
                  by_cases e : j = k
                  · subst e; rw [HEK.out]; exact h0
                  · exact HNO.out j (by omega)
                have HNO2 := Lib.hid hno
                clear hno h0 HNO
                go_wp2_with (fail)
                go_roundw
                case rel => exact ⟨k + 1, by omega, by go_num, hrzn, HNO2⟩
                case measure => simp [intOf]; omega
            · obtain rfl : k = ha.st.length := by omega
              obtain rfl : fE = 102 := HFX.out.2 HNO.out
              have hw34 := he.trans hrr7
              clear hmc7 HFX HNO
              go_wp2_with (fail)
              (with_reducible refine (known_any _).mono ?_); rintro e w34 ⟨rfl, he34⟩
              go_wp2_with (fail)
              go_ret
              exact ⟨rfl, hw34.trans he34⟩
end Go.Proofs.Ytjpgignbjkgjiaa
