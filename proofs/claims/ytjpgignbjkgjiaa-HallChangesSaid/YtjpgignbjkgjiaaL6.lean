import Derived.Test.YtjpgignbjkgjiaaR18
import Derived.Test.YtjpgignbjkgjiaaR9
import Derived.Test.YtjpgignbjkgjiaaL7
import Derived.Deep.DeepCutAuto
set_option linter.unusedVariables false
set_option linter.unusedSimpArgs false
namespace Go.Proofs.Ytjpgignbjkgjiaa
open Go.RowKit
attribute [local go_sem ↓] Go.wp_at_zero Go.wp_at_succ
theorem ownC_cap {w : World} {B : Nat} {a : Option Addr} {n c : Nat} {cs : List Camp} (h : OwnC w B (.slice a n c) cs) : c ≤ maxLen := by
  rcases h.2 with ⟨hv, _⟩ | ⟨g, cap, cur, hv, _, _, _, hcm, _⟩
  · simp only [Value.slice.injEq] at hv
    rw [hv.2.2]; exact Nat.zero_le _
  · simp only [Value.slice.injEq] at hv
    rw [hv.2.2]; exact hcm
def rpHs (ha : Hal) (l : List Camp) (p : List Int) (now : Int) : List (List Int) := (List.range l.length).map (rpH ha l p now)
theorem rpHs_len (ha : Hal) (l : List Camp) (p : List Int) (now : Int) : (rpHs ha l p now).length = l.length := by simp [rpHs]
theorem lth_rpHs (ha : Hal) (l : List Camp) (p : List Int) (now : Int) (j : Nat) (h : j < l.length) : lth (rpHs ha l p now) j = rpH ha l p now j := by
  rw [lth_eq _ _ (by rw [rpHs_len]; exact h)]; simp [rpHs]
theorem rpHs_take (ha : Hal) (l : List Camp) (p : List Int) (now : Int) (k : Nat) (h : k < l.length) : (rpHs ha l p now).take (k + 1) = (rpHs ha l p now).take k ++ [rpH ha l p now k] := by
  rw [lth_take _ _ (by rw [rpHs_len]; exact h), lth_rpHs _ _ _ _ _ h]
set_option maxRecDepth 100000 in
set_option maxHeartbeats 8000000 in
theorem replans_any (ha : Hal) (x : HP) (l : List Camp) (la : Option Addr) (lc : Nat) (p : List Int) (pa : Option Addr) (pn pc : Nat) (now : Int) (w : World) (hh : HallAt w ha x) (hl : Camps w la l) (hp : Ints w pa p) (hpn : p.length = pn) (hnw : -9223372036854775808 ≤ now ∧ now ≤ 9223372036854775807) :
    Calls Try.prog 6 #[hval ha x, .slice la l.length lc, .agg #[.slice pa pn pc, .int .i64 now]] w (Ret (.bool true) w) := by
  have hwide := fun W => wide_any ha x la l.length lc W
  have hown := fun W (h : Ext w W) q1 q2 => own_any ha x W (hh.ext h) q1 q2
  have hcop := fun W (h : Ext w W) q => copied_any la l.length lc l W (hl.ext h) rfl q
  have hint := fun W (h : Ext w W) q => ints_any pa pn pc p W (hp.ext h) hpn q
  have hrc := fun W (h : Ext w W) => refCampaigns ha x l la lc W (hh.ext h) (hl.ext h)
  have hho := fun W (h : Ext w W) f q q1 q2 => hours_any ha x f W q q1 q2
  have hal := fun W (h : Ext w W) hv ss sla slc hss hsl L hL hm hcnt => refAll ha x l la lc ss sla slc W (hh.ext h) (hl.ext h) hv hss hsl L hL hm hcnt
  have hco := fun W (h : Ext w W) q qa qc (q2 : Ints W qa q) h16 hcb q3 q4 => refCost_any l la lc ha.st.length q qa q.length qc W (hl.ext h) q2 q3 rfl h16 hcb q4
  have HWI := Lib.hid hwide; have HOW := Lib.hid hown; have HCP := Lib.hid hcop; have HIN := Lib.hid hint; have HRC := Lib.hid hrc
  have HHO := Lib.hid hho; have HAL := Lib.hid hal; have HCO := Lib.hid hco
  have HPN := Lib.hid hpn; have HL := Lib.hid hl; have HP' := Lib.hid hp
  clear hwide hown hcop hint hrc hho hal hco hh hl hp hpn
  obtain ⟨hnw0, hnw1⟩ := hnw
  obtain ⟨sa, sc, ea, ec⟩ := x
  have hsplit : (wideB ha.st.length ha.en.length l.length = true) ∨ (wideB ha.st.length ha.en.length l.length = false ∧ decide ((20 : Int) < (pn : Int)) = true) ∨
      (wideB ha.st.length ha.en.length l.length = false ∧ decide ((20 : Int) < (pn : Int)) = false ∧ decide ((14 : Int) < (ha.st.length : Int)) = true ∧ decide ((ha.st.length : Int) ≤ 96) = true) ∨
      (wideB ha.st.length ha.en.length l.length = false ∧ decide ((20 : Int) < (pn : Int)) = false ∧ decide ((14 : Int) < (ha.st.length : Int)) = true ∧ decide ((ha.st.length : Int) ≤ 96) = false) ∨
      (wideB ha.st.length ha.en.length l.length = false ∧ decide ((20 : Int) < (pn : Int)) = false ∧ decide ((14 : Int) < (ha.st.length : Int)) = false) := by
    cases wideB ha.st.length ha.en.length l.length <;> cases decide ((20 : Int) < (pn : Int)) <;> cases decide ((14 : Int) < (ha.st.length : Int)) <;> cases decide ((ha.st.length : Int) ≤ 96) <;> simp
  rcases hsplit with T1 | ⟨T1, T2⟩ | ⟨T1, T2, T3, T4⟩ | ⟨T1, T2, T3, T4⟩ | ⟨T1, T2, T3⟩
  iterate 3
    · rw [T1] at HWI
      go_enter Try.func6, Try.ntmps6
      go_wp2_with (fail)
      generalize hw1 : World.alloc _ _ = w1
      obtain ⟨he, o1, o2, -⟩ := alloc2 hw1
      obtain ⟨b0, b1, b2, b3⟩ := obj_cells4 o1
      obtain ⟨a0, a1⟩ := obj_cells2 o2
      clear hw1 o1 o2
      (with_reducible refine (HWI.out _).mono ?_); rintro e w2 ⟨rfl, he2⟩
      go_wp2_with (fail)
      (with_reducible refine (known_any _).mono ?_); rintro e w3 ⟨rfl, he3⟩
      go_wp2_with (fail)
      go_ret
      exact ⟨rfl, (he.trans he2).trans he3⟩
  · have hwn := wide_no3 T1
    rw [T1] at HWI
    obtain ⟨hn1, hn2, hn3⟩ := hwn
    have hpn20 : pn ≤ 20 := by simp at T2; omega
    have hn14 : 96 < ha.st.length := by simp at T4; omega
    go_enter Try.func6, Try.ntmps6
    go_wp2_with (fail)
    generalize hw1 : World.alloc _ _ = w1
    obtain ⟨he, o1, o2, -⟩ := alloc2 hw1
    obtain ⟨b0, b1, b2, b3⟩ := obj_cells4 o1
    obtain ⟨a0, a1⟩ := obj_cells2 o2
    clear hw1 o1 o2
    (with_reducible refine (HWI.out _).mono ?_); rintro e w2 ⟨rfl, he2⟩
    go_upto_region 3 with fail
    go_region_held3 (fun W => Ext w1 W) (first | with_reducible assumption | exact Ext.drew (by with_reducible assumption))
      (first
      | (go_at_call 15; (with_reducible refine (HOW.out _ (he.trans (by with_reducible assumption)) (by omega) (by omega)).mono ?_); rintro e w3 ⟨g6, c6, g10, c10, rfl, he3, -, -, -, ho6, ho10⟩; have hx3 := Ext.trans (show Ext w1 _ by with_reducible assumption) he3; have HO6 := Lib.hid ho6; have HO10 := Lib.hid ho10; clear ho6 ho10)
      | (go_at_call 16; (with_reducible refine (HCP.out _ (he.trans (by with_reducible assumption)) (by omega)).mono ?_); rintro e w4 ⟨ca, cc, rfl, he4, ho4⟩; have hx4 := Ext.trans (show Ext w1 _ by with_reducible assumption) he4; have HO4 := Lib.hid ho4; clear ho4)
      | (go_at_call 17; (with_reducible refine (HIN.out _ (he.trans (by with_reducible assumption)) (by rw [HPN.out]; omega)).mono ?_); rintro e w5 ⟨ia, ic, rfl, he5, ho5⟩; have hx5 := Ext.trans (show Ext w1 _ by with_reducible assumption) he5; have HO5 := Lib.hid ho5; clear ho5)
      | (go_at_call 25; (with_reducible refine (Replan_any ha ⟨some ⟨g6, 0, none⟩, c6, some ⟨g10, 0, none⟩, c10⟩ l ca cc p ia p.length ic now w5 ⟨HO6.out.ints.1.ext (he4.trans he5), HO10.out.ints.1.ext (he4.trans he5)⟩ (HO4.out.camps.1.ext he5) HO5.out.ints.1 rfl HO4.out.camps.2.2 (ownC_cap HO4.out)).mono ?_); rintro e w6 ⟨ra, rc, rfl, he6, hri⟩; have hx6 := Ext.trans (show Ext w1 _ by with_reducible assumption) he6; have HRI := Lib.hid hri; clear hri)
      | fail)
    clear HOW HWI HO6 HO10 HO4 HO5 he2 he3 he4 he5 he6 hx3 hx4 hx5
    go_upto_region 4 with fail
    go_cut [10] (fun s wx => ∃ b : Bool, s = .bool b ∧ wx = w6 ∧ Hid (rpP ha l p now = [] → rpK ha l p now = 0 → b = true))
    case first =>
      cases T5 : (((rpP ha l p now).length : Int) == 0)
      · have hne : ¬ rpP ha l p now = [] := fun h => by rw [h] at T5; simp at T5
        have HNE := Lib.hid hne
        clear hne
        generalize (rpP ha l p now).length = rn at *
        go_wp2_with fail
        go_meet
        exact ⟨false, rfl, rfl, fun h => absurd h HNE.out⟩
      · cases T6 : (rpK ha l p now == 0)
        · have hne : ¬ rpK ha l p now = 0 := by simpa using T6
          have HNE := Lib.hid hne
          clear hne
          generalize (rpP ha l p now).length = rn at *
          go_wp2_with fail
          go_meet
          exact ⟨false, rfl, rfl, fun _ h => absurd h HNE.out⟩
        · generalize (rpP ha l p now).length = rn at *
          go_wp2_with fail
          go_meet
          exact ⟨true, rfl, rfl, fun _ _ => rfl⟩
    case rest =>
      obtain ⟨b10, rfl, rfl, hb10⟩ := hcut
      clear HCP HIN
      go_wp2_with (fail)
      have TC : campsB ha l = false := by
        cases h : campsB ha l with
        | false => rfl
        | true => have := (campsB_vh h).n2; omega
      have hrc := HRC.out _ (he.trans hx6)
      rw [TC] at hrc
      have hce : checkE ha l p.length = 2 := by rw [checkE, TC]; rfl
      have hz : rpP ha l p now = [] ∧ rpK ha l p now = 0 ∧ rpE ha l p now = 2 := by
        rw [rpP, rpK, rpE, hce]; exact ⟨rfl, rfl, rfl⟩
      have hb := hb10.out hz.1 hz.2.1
      subst hb
      rw [hz.1, hz.2.1, hz.2.2]
      have HR1 := Lib.hid hrc
      clear hrc hce hz hb10
      (with_reducible refine HR1.out.mono ?_); rintro e w8 ⟨rfl, he8⟩
      go_wp2_with (fail)
      (with_reducible refine (known_any _).mono ?_); rintro e w9 ⟨rfl, he9⟩
      go_wp2_with (fail)
      go_ret
      exact ⟨rfl, ((he.trans hx6).trans he8).trans he9⟩
  · have hwn := wide_no3 T1
    rw [T1] at HWI
    obtain ⟨hn1, hn2, hn3⟩ := hwn
    have hpn20 : pn ≤ 20 := by simp at T2; omega
    have hnn : ha.st.length ≤ 14 := by simp at T3; omega
    go_enter Try.func6, Try.ntmps6
    go_wp2_with (fail)
    generalize hw1 : World.alloc _ _ = w1
    obtain ⟨he, o1, o2, -⟩ := alloc2 hw1
    obtain ⟨b0, b1, b2, b3⟩ := obj_cells4 o1
    obtain ⟨a0, a1⟩ := obj_cells2 o2
    clear hw1 o1 o2
    (with_reducible refine (HWI.out _).mono ?_); rintro e w2 ⟨rfl, he2⟩
    go_upto_region 3 with fail
    go_region_held3 (fun W => Ext w1 W) (first | with_reducible assumption | exact Ext.drew (by with_reducible assumption))
      (first
      | (go_at_call 15; (with_reducible refine (HOW.out _ (he.trans (by with_reducible assumption)) (by omega) (by omega)).mono ?_); rintro e w3 ⟨g6, c6, g10, c10, rfl, he3, -, -, -, ho6, ho10⟩; have hx3 := Ext.trans (show Ext w1 _ by with_reducible assumption) he3; have HO6 := Lib.hid ho6; have HO10 := Lib.hid ho10; clear ho6 ho10)
      | (go_at_call 16; (with_reducible refine (HCP.out _ (he.trans (by with_reducible assumption)) (by omega)).mono ?_); rintro e w4 ⟨ca, cc, rfl, he4, ho4⟩; have hx4 := Ext.trans (show Ext w1 _ by with_reducible assumption) he4; have HO4 := Lib.hid ho4; clear ho4)
      | (go_at_call 17; (with_reducible refine (HIN.out _ (he.trans (by with_reducible assumption)) (by rw [HPN.out]; omega)).mono ?_); rintro e w5 ⟨ia, ic, rfl, he5, ho5⟩; have hx5 := Ext.trans (show Ext w1 _ by with_reducible assumption) he5; have HO5 := Lib.hid ho5; clear ho5)
      | (go_at_call 25; (with_reducible refine (Replan_any ha ⟨some ⟨g6, 0, none⟩, c6, some ⟨g10, 0, none⟩, c10⟩ l ca cc p ia p.length ic now w5 ⟨HO6.out.ints.1.ext (he4.trans he5), HO10.out.ints.1.ext (he4.trans he5)⟩ (HO4.out.camps.1.ext he5) HO5.out.ints.1 rfl HO4.out.camps.2.2 (ownC_cap HO4.out)).mono ?_); rintro e w6 ⟨ra, rc, rfl, he6, hri⟩; have hx6 := Ext.trans (show Ext w1 _ by with_reducible assumption) he6; have HRI := Lib.hid hri; clear hri)
      | fail)
    clear HOW HWI HO6 HO10 HO4 HO5 he2 he3 he4 he5 he6 hx3 hx4 hx5
    go_upto_region 4 with fail
    go_cut [10] (fun s wx => ∃ b : Bool, s = .bool b ∧ wx = w6 ∧ Hid (rpP ha l p now = [] → rpK ha l p now = 0 → b = true))
    case first =>
      cases T5 : (((rpP ha l p now).length : Int) == 0)
      · have hne : ¬ rpP ha l p now = [] := fun h => by rw [h] at T5; simp at T5
        have HNE := Lib.hid hne
        clear hne
        generalize (rpP ha l p now).length = rn at *
        go_wp2_with fail
        go_meet
        exact ⟨false, rfl, rfl, fun h => absurd h HNE.out⟩
      · cases T6 : (rpK ha l p now == 0)
        · have hne : ¬ rpK ha l p now = 0 := by simpa using T6
          have HNE := Lib.hid hne
          clear hne
          generalize (rpP ha l p now).length = rn at *
          go_wp2_with fail
          go_meet
          exact ⟨false, rfl, rfl, fun _ h => absurd h HNE.out⟩
        · generalize (rpP ha l p now).length = rn at *
          go_wp2_with fail
          go_meet
          exact ⟨true, rfl, rfl, fun _ _ => rfl⟩
    case rest =>
      obtain ⟨b10, rfl, rfl, hb10⟩ := hcut
      clear HCP HIN
      go_wp2_with (fail)
      cases TC : campsB ha l
      · have hrc := HRC.out _ (he.trans hx6)
        rw [TC] at hrc
        have hce : checkE ha l p.length = 2 := by rw [checkE, TC]; rfl
        have hz : rpP ha l p now = [] ∧ rpK ha l p now = 0 ∧ rpE ha l p now = 2 := by
          rw [rpP, rpK, rpE, hce]; exact ⟨rfl, rfl, rfl⟩
        have hb := hb10.out hz.1 hz.2.1
        subst hb
        rw [hz.1, hz.2.1, hz.2.2]
        have HR1 := Lib.hid hrc
        clear hrc hce hz hb10
        (with_reducible refine HR1.out.mono ?_); rintro e w8 ⟨rfl, he8⟩
        go_wp2_with (fail)
        (with_reducible refine (known_any _).mono ?_); rintro e w9 ⟨rfl, he9⟩
        go_wp2_with (fail)
        go_ret
        exact ⟨rfl, ((he.trans hx6).trans he8).trans he9⟩
      · have hrc := HRC.out _ (he.trans hx6)
        rw [TC] at hrc
        have HR1 := Lib.hid hrc
        have hv := campsB_vh TC
        have HV := Lib.hid hv
        have hl16 := hv.ll
        have hn96 := hv.n2
        have hchk : checkE ha l p.length = if pn = l.length then 0 else 5 := by rw [checkE, TC, HPN.out]; rfl
        have HCK := Lib.hid hchk
        clear hrc hv hchk
        (with_reducible refine HR1.out.mono ?_); rintro e w8 ⟨rfl, he8⟩
        have hx8 := hx6.trans he8
        have hri8 := Lib.hid (HRI.out.ext he8)
        cases T7 : ((pn : Int) != (l.length : Int))
        rotate_left
        · have hce : checkE ha l p.length = 5 := by rw [HCK.out, if_neg (by simp at T7; omega)]
          have hz : rpP ha l p now = [] ∧ rpK ha l p now = 0 ∧ rpE ha l p now = 5 := by
            rw [rpP, rpK, rpE, hce]; exact ⟨rfl, rfl, rfl⟩
          have hb := hb10.out hz.1 hz.2.1
          subst hb
          rw [hz.1, hz.2.1, hz.2.2]
          clear hce hz hb10
          go_wp2_with (fail)
          (with_reducible refine (known_any _).mono ?_); rintro e w9 ⟨rfl, he9⟩
          go_wp2_with (fail)
          go_ret
          exact ⟨rfl, (he.trans hx8).trans he9⟩
        · have hpl : pn = l.length := by simp at T7; omega
          have hce : checkE ha l p.length = 0 := by rw [HCK.out, if_pos hpl]
          have HCE := Lib.hid hce
          have hpn1 : l.length ≤ pn := by omega
          clear hpl hce
          by_cases hnow : 0 ≤ now ∧ now ≤ ha.st.length
          rotate_left
          · have hz : rpP ha l p now = [] ∧ rpK ha l p now = 0 ∧ rpE ha l p now = 3 := by
              have hw : wi now 0 ha.st.length = false := by rw [wi_not]; omega
              rw [rpP, rpK, rpE, HCE.out, hw]; exact ⟨rfl, rfl, rfl⟩
            have hb := hb10.out hz.1 hz.2.1
            subst hb
            rw [hz.1, hz.2.1, hz.2.2]
            clear hz hb10
            rcases (show now < 0 ∨ (0 ≤ now ∧ (ha.st.length : Int) < now) by omega) with hn | ⟨hn, hn'⟩
            all_goals
              go_wp2_with (fail)
              (with_reducible refine (known_any _).mono ?_); rintro e w9 ⟨rfl, he9⟩
              go_wp2_with (fail)
              go_ret
              exact ⟨rfl, (he.trans hx8).trans he9⟩
          · obtain ⟨hnow0, hnow1⟩ := hnow
            have hw : wi now 0 ha.st.length = true := by rw [wi_iff]; exact ⟨hnow0, hnow1⟩
            have HZ : Hid ((rpE ha l p now = if freeTo l p now l.length ≤ 4 then (if stFound (rpSt ha l p now) then 0 else 101) else 5) ∧
                (rpP ha l p now = if freeTo l p now l.length ≤ 4 then stP (rpSt ha l p now) else []) ∧ (rpK ha l p now = if freeTo l p now l.length ≤ 4 then stCost (rpSt ha l p now) else 0)) := by
              rw [rpP, rpK, rpE, HCE.out, hw]; exact ⟨rfl, rfl, rfl⟩
            clear hw
            have hwr := Lib.hid (he.trans hx8)
            have d0 := fun W (h : Ext w8 W) => b0 W (hx8.trans h)
            have d1 := fun W (h : Ext w8 W) => b1 W (hx8.trans h)
            have d2 := fun W (h : Ext w8 W) => b2 W (hx8.trans h)
            have d3 := fun W (h : Ext w8 W) => b3 W (hx8.trans h)
            have f0 := fun W (h : Ext w8 W) => a0 W (hx8.trans h)
            have f1 := fun W (h : Ext w8 W) => a1 W (hx8.trans h)
            clear b0 b1 b2 b3 a0 a1 HRI
            have hr0 := Ext.refl w8
            obtain ⟨P, hP⟩ : ∃ P, P = rpP ha l p now := ⟨_, rfl⟩
            obtain ⟨K, hK⟩ : ∃ K, K = rpK ha l p now := ⟨_, rfl⟩
            obtain ⟨E, hE⟩ : ∃ E, E = rpE ha l p now := ⟨_, rfl⟩
            rw [← hP, ← hK, ← hE] at HZ
            rw [← hP, ← hK] at hb10
            rw [← hP] at hri8
            rw [← hP, ← hK, ← hE]
            clear hP hK hE
            go_wp2_with (fail)
            generalize hw9 : World.alloc _ _ = w9
            obtain ⟨he9, o9, -⟩ := alloc1 hw9
            have hp9 := plans_zero (B := w8.heap.size) o9 (Nat.le_refl _)
            have HP9 := Lib.hid hp9
            clear hw9 o9 hp9
            go_loopw [12, 13, 14] (fun v f i wr => ∃ k : Nat, k ≤ l.length ∧ i = .int .i64 k ∧ f = .int .i64 (freeTo l p now k) ∧ Ext w8 wr ∧ Hid (PlansB w8.heap.size wr v ((rpHs ha l p now).take k))) (fun _ _ i _ => l.length - (intOf i).toNat)
            case atStart => exact ⟨0, Nat.zero_le _, rfl, rfl, he9, by rw [List.take_zero]; exact HP9.out⟩
            case round =>
              clear he9 HP9 hr0
              obtain ⟨k, hk, rfl, rfl, hr, hpla⟩ := hrel
              have hfb := freeTo_bd l p now k
              obtain ⟨hfb1, hfb2⟩ := hfb
              by_cases hlt : k < l.length
              · obtain ⟨b, o, rfl, c0, c1, c2, c3, c4, c5, c6⟩ := (HL.out.ext hwr.out).at k hlt
                obtain ⟨b', o', rfl, p0⟩ := (HP'.out.ext hwr.out).at k (by rw [HPN.out]; omega)
                have hkp : k < pn := by omega
                have hcb := HV.out.cb k hlt
                obtain ⟨-, -, q1, q2, -, -, -, -, -, -, -, -, -⟩ := hcb
                have hplen : ((rpHs ha l p now).take k).length ≤ 900000 := by rw [List.length_take]; omega
                have hrt := rpHs_take ha l p now k hlt
                have HRT := Lib.hid hrt
                obtain ⟨va, vc, hv12⟩ := hpla.out.form
                subst hv12
                clear hrt c0 c2 c3 c4 c5 c6
                generalize (rpHs ha l p now).take k = pl at *
                have s1 : IntKind.i64.wrap (now + (cth l k).pr) = now + (cth l k).pr := IntWalk.i64_in _ (by omega)
                have hfB : freeB (cth l k) (nth p k) now = !decide (nth p k < now + (cth l k).pr) := by
                  unfold freeB; rw [le_lt]
                have hrH : rpH ha l p now k = if freeB (cth l k) (nth p k) now then hoursS ha.st.length (now + (cth l k).pr) else [nth p k] := rfl
                have k0 := fun W (h : Ext wr W) => p0 W (hr.trans h)
                have k1 := fun W (h : Ext wr W) => c1 W (hr.trans h)
                have e0 := fun W (h : Ext wr W) => d0 W (hr.trans h)
                have e1 := fun W (h : Ext wr W) => d1 W (hr.trans h)
                have e2 := fun W (h : Ext wr W) => d2 W (hr.trans h)
                have e3 := fun W (h : Ext wr W) => d3 W (hr.trans h)
                have g0 := fun W (h : Ext wr W) => f0 W (hr.trans h)
                have g1 := fun W (h : Ext wr W) => f1 W (hr.trans h)
                have hr0 := Ext.refl wr
                go_wp2_with (fail)
                refine wp_region_ext (by kernel_rfl) (by kernel_rfl) hr0 ?_
                repeat (first | go_big_quiet_step (fail) | quiet_step (fail))
                refine wpQuiet_nil ?_
                rintro _ ⟨nq, rfl⟩
                obtain ⟨w10, hw10⟩ : ∃ w10, w10 = nq.val := ⟨_, rfl⟩
                have hq : Ext wr w10 := hw10 ▸ nq.ok
                rw [← hw10]
                clear hw10 nq
                clear k0 k1 e0 e1 e2 e3 g0 g1 hr0
                have hr10 := hr.trans hq
                have hpl10 := hpla.out.ext hq
                have HPL10 := Lib.hid hpl10
                clear hpl10
                cases T : decide (nth p k < now + (cth l k).pr)
                · have hfb' : freeB (cth l k) (nth p k) now = true := by rw [hfB, T]; rfl
                  rw [if_pos hfb'] at hrH
                  have HRH := Lib.hid hrH
                  have HF := Lib.hid (freeTo_yes (l := l) (p := p) (now := now) (k := k) hfb')
                  have hho := fun W (h : Ext w W) => HHO.out W h (now + (cth l k).pr) (by omega) (by omega) (by omega)
                  have HH1 := Lib.hid hho
                  clear hfb' hrH hfB hho
                  go_wp2_with (fail)
                  go_region_held3 (fun W => Ext w8 W) (first | with_reducible assumption | exact Ext.drew (by with_reducible assumption) | exact Ext.alloc (by with_reducible assumption) _ | exact (Ext.alloc (by with_reducible assumption) _).drew)
                    (first
                    | (go_at_call 26; (with_reducible refine (HH1.out _ (hwr.out.trans (by with_reducible assumption))).mono ?_); rintro e w11 ⟨ia, ic, rfl, he11, ho11⟩; have hx11 : Ext w10 w11 := Ext.trans (by first | exact (Ext.refl _).drew | exact Ext.refl _) he11; have hk11 := hr10.trans hx11; have hi11 := ho11.intsT)
                    | ((refine step_app (by rfl) (.tmp 122) (.tmp 133) 62 (by rfl) _ _ (by rfl) (by rfl) _ (plans_app _ w8.heap.size _ _ pl (HPL10.out.ext (hx11.alloc _)) ia (hoursS ha.st.length (now + (cth l k).pr)) ic _ (hi11.ext ((Ext.refl _).alloc _)) (heap_new _ _) (by omega) (by have := hk11.size; rw [heap_size]; omega)) ?_; rintro v56 w56 ⟨hp56, hg56⟩; have hx56 : Ext w8 w56 := grown_ext (hk11.alloc _) hg56 HPL10.out.block))
                    | fail)
                  have hp57 : Hid (PlansB w8.heap.size w56 v56 ((rpHs ha l p now).take (k + 1))) := by rw [Hid, HRT.out, HRH.out]; exact hp56
                  clear hi11 ho11 hp56 hg56 he11 hx11 hk11
                  go_wp2_with (fail)
                  go_roundw
                  case rel => exact ⟨k + 1, by omega, by go_num, by rw [HF.out], hx56, hp57⟩
                  case measure => simp [intOf]; omega
                · have hfb' : freeB (cth l k) (nth p k) now = false := by rw [hfB, T]; rfl
                  rw [if_neg (by simp [hfb'])] at hrH
                  have HRH := Lib.hid hrH
                  have HF := Lib.hid (freeTo_no (l := l) (p := p) (now := now) (k := k) hfb')
                  clear hfb' hrH hfB s1
                  have hal1 : (w10.alloc (.cells #[.int .i64 (nth p k)] 3)).heap[w10.heap.size]? = some (.cells #[.int .i64 (nth p k)] 3) := heap_new _ _
                  have hit := intsT_one hal1
                  have happ := plans_app ((w10.alloc (.cells #[.int .i64 (nth p k)] 3)).alloc (.cells #[.slice (some ⟨w10.heap.size, 0, none⟩) [nth p k].length 1] 22)) w8.heap.size 62 _ pl ((HPL10.out.ext ((Ext.refl _).alloc _)).ext ((Ext.refl _).alloc _)) (some ⟨w10.heap.size, 0, none⟩) [nth p k] 1 (w10.alloc (.cells #[.int .i64 (nth p k)] 3)).heap.size (hit.ext ((Ext.refl _).alloc _)) (heap_new _ _) hplen (by have := hr10.size; rw [heap_size, heap_size]; omega)
                  rw [heap_size w10] at happ
                  have HA := Lib.hid happ
                  clear happ hit hal1
                  go_wp2_with (at_builtin; refine wpList_app _ rfl _ _ 62 rfl _ HA.out ?_; rintro v' w' ⟨hv', hg⟩; have hE' : Ext w8 w' := grown_ext ((hr10.alloc _).alloc _) hg HPL10.out.block; have HV' := Lib.hid hv'; clear hg hv' HA)
                  go_roundw
                  case rel => exact ⟨k + 1, by omega, by go_num, by rw [HF.out], hE', by rw [HRT.out, HRH.out]; exact HV'.out⟩
                  case measure => simp [intOf]; omega
              · obtain rfl : k = l.length := by omega
                rw [List.take_of_length_le (by rw [rpHs_len]; exact Nat.le_refl _)] at hpla
                by_cases hfr : freeTo l p now l.length ≤ 4
                rotate_left
                · have hz : P = [] ∧ K = 0 ∧ E = 5 := by
                    have h := HZ.out
                    simp only [if_neg hfr] at h
                    exact ⟨h.2.1, h.2.2, h.1⟩
                  have hb := hb10.out hz.1 hz.2.1
                  obtain ⟨rfl, rfl, rfl⟩ := hz
                  subst hb
                  have hfr2 : (4 : Int) < freeTo l p now l.length := by omega
                  clear hb10 hpla
                  go_wp2_with (fail)
                  (with_reducible refine (known_any _).mono ?_); rintro e w20 ⟨rfl, he20⟩
                  go_wp2_with (fail)
                  go_ret
                  exact ⟨rfl, (hwr.out.trans hr).trans he20⟩
                · by_cases hfr3 : freeTo l p now l.length ≤ 3
                  rotate_left
                  · have hfr2 : (3 : Int) < freeTo l p now l.length := by omega
                    clear hb10 hpla
                    go_wp2_with (fail)
                    (with_reducible refine (known_any _).mono ?_); rintro e w20 ⟨rfl, he20⟩
                    go_wp2_with (fail)
                    go_ret
                    exact ⟨rfl, (hwr.out.trans hr).trans he20⟩
                  · have h := HZ.out
                    simp only [if_pos hfr] at h
                    have HZ2 := Lib.hid h
                    obtain ⟨ss', q1, q2, q3⟩ := hpla.out
                    have hsl' : ss'.length = l.length := by rw [← lsts_len, q1, rpHs_len]
                    rw [hsl'] at q2
                    obtain ⟨sla, slc, hav, hsls⟩ := sls_of_own q2 hsl' fun j hj => (q3 j (by omega)).ints
                    subst hav
                    have hLL : ∀ j, j < l.length → rpH ha l p now j = (sth ss' j).xs := fun j hj => by
                      rw [← lth_lsts _ _ (by omega), q1, lth_rpHs _ _ _ _ _ hj]
                    have hall := HAL.out wr (hwr.out.trans hr) HV.out ss' sla slc hsls hsl' (rpH ha l p now) hLL (fun j hj => by
                      have := rpH_len (p := p) hnn hnow0 (HV.out.cb j hj).pr0
                      split at this <;> omega) fun k hk => rpH_count3 hnn hnow0 (fun j hj => (HV.out.cb j hj).pr0) hfr3 hk
                    have HBA := Lib.hid (rpSt_all (p := p) (now := now) HV.out)
                    rw [← HBA.out] at hall
                    generalize rpSt ha l p now = bst at *
                    have HALL := Lib.hid hall
                    have hbj := Lib.hid (hri8.out.ext hr)
                    have hco := fun q k (h : bst = some (q, k)) W (hW : Ext wr W) qa qc (qi : Ints W qa q) => HCO.out W (hwr.out.trans (hr.trans hW)) q qa qc qi HV.out.ll HV.out.cb (by
                      have h1 := (allSt_some (HBA.out ▸ h)).1
                      have := ((prodN_mem _ _ _).1 h1).1; omega) (fun i hi => by
                      have h1 := (allSt_some (HBA.out ▸ h)).2.1
                      have := inTime_bd (HV.out.cb i hi) ((single_ok (breach_single h1)).1 i hi); omega)
                    have hkk := fun q k (h : bst = some (q, k)) => (allSt_some (HBA.out ▸ h)).2.2
                    have hpl1 := fun q k (h : bst = some (q, k)) => ((prodN_mem _ _ _).1 (allSt_some (HBA.out ▸ h)).1).1
                    have HC2 := Lib.hid hco; have HK2 := Lib.hid hkk; have HP2 := Lib.hid hpl1
                    clear hall hco hkk hpl1 hLL hsls q1 q2 q3 hpla hsl' h
                    go_wp2_with (fail)
                    (with_reducible refine HALL.out.mono ?_); rintro e w20 ⟨ra', rc', rfl, he20, hs20⟩
                    rw [allV_eq]
                    have hx20 := (hwr.out.trans hr).trans he20
                    cases bst with
                    | none =>
                      have hz : P = [] ∧ K = 0 ∧ E = 101 := ⟨HZ2.out.2.1, HZ2.out.2.2, HZ2.out.1⟩
                      have hb := hb10.out hz.1 hz.2.1
                      obtain ⟨rfl, rfl, rfl⟩ := hz
                      subst hb
                      simp only [allSl, stFound, Option.isSome_none]
                      clear hb10
                      go_wp2_with (fail)
                      (with_reducible refine (known_any _).mono ?_); rintro e w21 ⟨rfl, he21⟩
                      go_wp2_with (fail)
                      go_ret
                      exact ⟨rfl, hx20.trans he21⟩
                    | some pk =>
                      obtain ⟨q, k⟩ := pk
                      have hz : P = q ∧ K = k ∧ E = 0 := ⟨HZ2.out.2.1, HZ2.out.2.2, HZ2.out.1⟩
                      obtain ⟨rfl, rfl, rfl⟩ := hz
                      have hin : Ints w20 ra' P := hs20
                      have hin2 : Ints w20 ra P := hbj.out.ext he20
                      have hp16 : P.length ≤ 16 := by have := HP2.out P K rfl; omega
                      have hsm : Calls Try.prog 28 #[.slice ra P.length rc, .slice ra' P.length rc'] w20 (Ret (.bool true) w20) := by
                        have := same_any P P ra ra' P.length P.length rc rc' w20 hin2 hin rfl rfl (by omega) (by omega)
                        rwa [show sameB P P = true from decide_eq_true rfl] at this
                      have hcs := fun W (h : Ext w20 W) => HC2.out P K rfl W (he20.trans h) ra' rc' (hin.ext h)
                      rw [← HK2.out P K rfl] at hcs
                      have HSM := Lib.hid hsm; have HCS := Lib.hid hcs
                      clear hin hin2 hs20 hsm hcs hb10
                      simp only [allSl, stFound, Option.isSome_some]
                      go_wp2_with (fail)
                      (with_reducible refine HSM.out.mono ?_); rintro e w21 ⟨rfl, he21⟩
                      go_wp2_with (fail)
                      (with_reducible refine (HCS.out w21 he21).mono ?_); rintro e w22 ⟨rfl, he22⟩
                      go_wp2_with (fail)
                      (with_reducible refine (known_any _).mono ?_); rintro e w23 ⟨rfl, he23⟩
                      go_wp2_with (fail)
                      go_ret
                      exact ⟨rfl, ((hx20.trans he21).trans he22).trans he23⟩
end Go.Proofs.Ytjpgignbjkgjiaa
