/-
  Walks of the reference: could.
-/
import Derived.Test.YtlahejakcgoheaaRV
set_option linter.unusedVariables false
set_option linter.unusedSimpArgs false
namespace Go.Proofs.Ytlahejakcgoheaa
open Go.RowKit
theorem couldB_p {S : PV} {l : Lk} (h : plainB l = false) : couldB S l = false := by unfold couldB; rw [if_neg (by simp [h])]
section
variable {S : PV} {l : Lk}
theorem could1_eq (hg : Good S) (P : plainB l = true) (h : l.op = 1) : couldB S l = (nameB l.cu && (decide (cusAt l.cu S.chain < 0) && decide ((S.cus.length : Int) < 20))) := by
  rw [couldB_1 S l P h]
  have : (S.find l.cu).isNone = decide (cusAt l.cu S.chain < 0) := by
    have hq := hg.said.at l.cu
    cases hf : S.find l.cu with
    | none => rw [hf] at hq; simp [hq.2 rfl]
    | some c => rw [hf] at hq; simp at hq; simp; exact hq
  rw [this]
theorem could3_eq (P : plainB l = true) (h : l.op = 3) {c : PC} (hf : S.find l.cu = some c) (hb : l.da = S.day ∧ l.bo.length ≠ 0 ∧ l.bo.length ≤ 2016 ∧ l.bo.length % 32 = 0) : couldB S l = ((l.nu == (recsN S l.cu : Int) + 1) && ((l.ve == 1) && (nameB l.ki && (decide (S.day ≤ l.un) && (decide (l.un ≤ 1000000) && decide ((recsN S l.cu : Int) < 30)))))) := by
  have hr : recsN S l.cu = c.recs.length := by unfold recsN; rw [hf]
  rw [couldB_3 S l c P h hf hb, hr, Bool.eq_iff_iff]
  simp only [Bool.and_eq_true, beq_iff_eq, decide_eq_true_eq]
  constructor
  · rintro ⟨h1, h2, h3, h4, h5, h6⟩; exact ⟨h1, h3, h4, h5, h6, by omega⟩
  · rintro ⟨h1, h2, h3, h4, h5, h6⟩; exact ⟨h1, by omega, h2, h3, h4, h5⟩
theorem could_no (hg : Good S) (h1 : ¬ l.op = 1) (h2 : ¬ l.op = 2) (h3 : ¬ l.op = 3) {c : PC} (hf : S.find l.cu = some c) (h : recV S l.cu l.nu = [] ∨ untilR (recV S l.cu l.nu) < S.day) : couldB S l = false := by
  refine couldB_e S l c h1 h2 h3 hf ?_
  have hr := hg.recA hf l.nu
  have hra : recAt S l.cu l.nu = findR c l.nu S.day := by unfold recAt; rw [hf]
  rw [← hra, hr]
  by_cases q : recV S l.cu l.nu = []
  · rw [if_pos q]; simp
  · rw [if_neg q]
    rcases h with h | h
    · exact absurd h q
    · rw [if_pos h]; simp
theorem could4_eq (hg : Good S) (P : plainB l = true) (h : l.op = 4) {c : PC} (hf : S.find l.cu = some c) (hb : l.da = S.day ∧ l.bo.length ≠ 0 ∧ l.bo.length ≤ 2016 ∧ l.bo.length % 32 = 0) (q1 : ¬ recV S l.cu l.nu = []) (q2 : ¬ untilR (recV S l.cu l.nu) < S.day) :
    couldB S l = ((l.ve == ((recV S l.cu l.nu).length : Int) + 1) && decide (l.ve ≤ 20)) := by
  have hr := hg.recA hf l.nu
  have hra : recAt S l.cu l.nu = findR c l.nu S.day := by unfold recAt; rw [hf]
  rw [if_neg q1, if_neg q2] at hr
  rw [couldB_4 S l c P h hf hb (by rw [← hra, hr]), ← hra, hr]
theorem could5_eq (hg : Good S) (P : plainB l = true) (h : l.op = 5) {c : PC} (hf : S.find l.cu = some c) (hb : l.da = S.day ∧ l.bo.length ≠ 0 ∧ l.bo.length ≤ 2016 ∧ l.bo.length % 32 = 0) (q1 : ¬ recV S l.cu l.nu = []) (q2 : ¬ untilR (recV S l.cu l.nu) < S.day) :
    couldB S l = ((l.ve == ((recV S l.cu l.nu).length : Int)) && (decide (0 ≤ cusAt l.ki S.chain) && (!(decide (l.ki = l.cu)) && decide (madeN S l.cu < 20)))) := by
  have hr := hg.recA hf l.nu
  have hra : recAt S l.cu l.nu = findR c l.nu S.day := by unfold recAt; rw [hf]
  rw [if_neg q1, if_neg q2] at hr
  have hm : madeN S l.cu = c.made := by unfold madeN; rw [hf]
  have hs : (S.find l.ki).isSome = decide (0 ≤ cusAt l.ki S.chain) := by
    have hq := hg.said.at l.ki
    cases hf : S.find l.ki with
    | none => rw [hf] at hq; have := hq.2 rfl; simp; omega
    | some c => rw [hf] at hq; simp at hq; simp; exact hq
  rw [couldB_5 S l c P (by omega) (by omega) (by omega) (by omega) hf hb (by rw [← hra, hr]), ← hra, hr, hs, hm]
end
set_option maxRecDepth 100000 in
set_option maxHeartbeats 8000000 in
theorem rcould_any (S : PV) (al : Option Addr) (xs : List Lv) (c : Nat) (x : Lv) (w : World) (hR : RvAt w S al xs) (ho : LkOk x.l) (hsm : SmL x.l) : Calls Try.prog 61 #[rv false al xs.length c, lval x] w (Ret (.bool (couldB S x.l)) w) := by
  have hdy := hR.day false c
  have hcu := hR.cus false c x.l.cu
  have hck := hR.cus false c x.l.ki
  have hpl := fun W => rplain_any x W
  have hnc := fun W => rname_any x.l.cu W ho.cu
  have hnk := fun W => rname_any x.l.ki W ho.ki
  have hrc := hR.cnt false c x.l.cu
  have hvs := hR.vers false c x.l.cu x.l.nu
  have hgn := hR.gone false c
  have hsr := hR.shr false c x.l.cu 0 ⟨#[]⟩
  have hc1 := could1_eq (l := x.l) hR.good
  have hc2 := couldB_2 S x.l
  have hcn := couldB_n S x.l
  have hcb := fun c => couldB_bad S x.l c
  have hc3 := fun c => could3_eq (S := S) (l := x.l) (c := c)
  have hcno := fun c => could_no (l := x.l) hR.good (c := c)
  have hc4 := fun c => could4_eq (l := x.l) hR.good (c := c)
  have hc5 := fun c => could5_eq (l := x.l) hR.good (c := c)
  have hcp := couldB_p (S := S) (l := x.l)
  have hat2 := hR.good.said.at x.l.cu
  have hpo := plain_op (l := x.l)
  have hrl : recsN S x.l.cu ≤ 30 := by
    unfold recsN
    cases hf : S.find x.l.cu with
    | none => exact Nat.zero_le _
    | some c => exact (hR.good.ok.cs c (find_mem hf).1).rl
  have hvl := hR.good.recV_len x.l.cu x.l.nu
  obtain ⟨q, hq⟩ : ∃ q, q = couldB S x.l := ⟨_, rfl⟩
  obtain ⟨dy, hdd⟩ : ∃ z, z = S.day := ⟨_, rfl⟩
  obtain ⟨ad, had⟩ : ∃ z, z = S.adv := ⟨_, rfl⟩
  obtain ⟨at0, hat⟩ : ∃ z, z = cusAt x.l.cu S.chain := ⟨_, rfl⟩
  obtain ⟨at1, hat1⟩ : ∃ z, z = cusAt x.l.ki S.chain := ⟨_, rfl⟩
  obtain ⟨cn, hcn'⟩ : ∃ z : Nat, z = S.cus.length := ⟨_, rfl⟩
  obtain ⟨pb, hpb⟩ : ∃ z, z = plainB x.l := ⟨_, rfl⟩
  obtain ⟨b1, hb1⟩ : ∃ z, z = nameB x.l.cu := ⟨_, rfl⟩
  obtain ⟨b2, hb2⟩ : ∃ z, z = nameB x.l.ki := ⟨_, rfl⟩
  obtain ⟨rn, hrn⟩ : ∃ z, z = recsN S x.l.cu := ⟨_, rfl⟩
  obtain ⟨R, hRR⟩ : ∃ z, z = recV S x.l.cu x.l.nu := ⟨_, rfl⟩
  obtain ⟨md, hmd⟩ : ∃ z, z = madeN S x.l.cu := ⟨_, rfl⟩
  obtain ⟨n, hnn⟩ : ∃ z, z = xs.length := ⟨_, rfl⟩
  obtain ⟨L, hL⟩ : ∃ z, z = x.l.bo.length := ⟨_, rfl⟩
  rw [← hq]
  rw [← hq] at hc1 hc2 hcn hcp
  simp only [← hq] at hcb hc3 hcno hc4 hc5
  simp only [← hdd, ← had, ← hat, ← hat1, ← hcn', ← hpb, ← hb1, ← hb2, ← hrn, ← hRR, ← hmd, ← hnn, ← hL] at hdy hcu hck hpl hnc hnk hrc hvs hgn hsr hc1 hc2 hcb hc3 hcno hc4 hc5 hcp hat2 hpo hrl hvl ⊢
  have HDY := Lib.hid hdy; have HCU := Lib.hid hcu; have HCK := Lib.hid hck; have HPL := Lib.hid hpl; have HNC := Lib.hid hnc; have HNK := Lib.hid hnk; have HRC := Lib.hid hrc; have HVS := Lib.hid hvs; have HGN := Lib.hid hgn; have HSR := Lib.hid hsr
  have HC1 := Lib.hid hc1; have HC2 := Lib.hid hc2; have HCN := Lib.hid hcn; have HCB := Lib.hid hcb; have HC3 := Lib.hid hc3; have HCNO := Lib.hid hcno; have HC4 := Lib.hid hc4; have HC5 := Lib.hid hc5; have HCP := Lib.hid hcp; have HAT := Lib.hid hat2; have HPO := Lib.hid hpo; have HVL := Lib.hid hvl; have HL := Lib.hid hL
  clear hdy hcu hck hpl hnc hnk hrc hvs hgn hsr hc1 hc2 hcn hcb hc3 hcno hc4 hc5 hcp hat2 hpo hvl hL hq hdd had hat hat1 hcn' hpb hb1 hb2 hrn hRR hmd hnn ho hsm hR
  go_enter Try.func61, Try.ntmps61
  go_upto_region 1 with fail
  generalize hw1 : World.alloc _ _ = w1
  obtain ⟨he, o1, o2, hs1⟩ := alloc2 hw1
  have HE := Lib.hid he
  obtain ⟨v0, v1⟩ := obj_cells2 o1
  obtain ⟨d0, d1, d2, d3, d4, d5, d6, d7, d8, d9⟩ := obj_cells10 o2
  clear hw1 o1 o2 hs1
  have E1 := Ext.refl w1
  go_wp2_with (fail)
  (with_reducible refine (HDY.out _ he).mono ?_); rintro e w2 ⟨rfl, he2⟩
  have E2 := Ext.refl w2
  go_wp2_with (fail)
  (with_reducible refine (HCU.out _ (he.trans he2)).mono ?_); rintro e w3 ⟨rfl, he3⟩
  have he13 := he2.trans he3
  have E3 := Ext.refl w3
  clear he2 he3 E2
  go_wp2_with (fail)
  (with_reducible refine (HPL.out _).mono ?_); rintro e w4 ⟨rfl, he4⟩
  have he14 := he13.trans he4
  have E4 := Ext.refl w4
  clear he13 he4 E3
  rw [← HL.out] at d7
  have HX4 := Lib.hid (HE.out.trans he14)
  cases pb
  · have hq : Hid (q = false) := HCP.out (by simp)
    go_wp2_with (fail)
    go_ret
    exact ⟨by rw [hq.out]; rfl, HX4.out⟩
  · cases O1 : ((x.l.op : Int) == 1)
    · have h1 : ¬ x.l.op = 1 := by simp at O1; omega
      cases O2 : ((x.l.op : Int) == 2)
      · have h2 : ¬ x.l.op = 2 := by simp at O2; omega
        have H1 := Lib.hid h1; have H2 := Lib.hid h2
        clear h1 h2
        by_cases u1 : at0 < 0
        · have hq : Hid (q = false) := HCN.out H1.out H2.out (HAT.out.1 u1)
          go_wp2_with (fail)
          go_ret
          exact ⟨by rw [hq.out]; rfl, HX4.out⟩
        · have hfs : Hid (∃ cc, S.find x.l.cu = some cc) := by
            cases hf : S.find x.l.cu with
            | none => exact absurd (HAT.out.2 hf) u1
            | some cc => exact ⟨cc, rfl⟩
          obtain ⟨cc, hf⟩ := hfs.out
          have HF := Lib.hid hf
          clear hf hfs
          cases U2 : (x.l.da != dy)
          rotate_left
          · have hq : Hid (q = false) := HCB.out cc H1.out H2.out HF.out fun z => (by have := z.1; simp [this] at U2)
            go_wp2_with (fail)
            go_ret
            exact ⟨by rw [hq.out]; rfl, HX4.out⟩
          cases U3 : ((L : Int) == 0)
          rotate_left
          · have hq : Hid (q = false) := HCB.out cc H1.out H2.out HF.out fun z => (by have := z.2.1; simp at U3; omega)
            go_wp2_with (fail)
            go_ret
            exact ⟨by rw [hq.out]; rfl, HX4.out⟩
          cases U4 : decide (2016 < (L : Int))
          rotate_left
          · have hq : Hid (q = false) := HCB.out cc H1.out H2.out HF.out fun z => (by have := z.2.2.1; simp at U4; omega)
            go_wp2_with (fail)
            go_ret
            exact ⟨by rw [hq.out]; rfl, HX4.out⟩
          cases U5 : ((L : Int) % 32 != 0)
          rotate_left
          · have hq : Hid (q = false) := HCB.out cc H1.out H2.out HF.out fun z => (by have := z.2.2.2; simp at U5; omega)
            go_wp2_with (fail)
            go_ret
            exact ⟨by rw [hq.out]; rfl, HX4.out⟩
          have hbd : x.l.da = dy ∧ L ≠ 0 ∧ L ≤ 2016 ∧ L % 32 = 0 := by
            refine ⟨by simpa using U2, by simp at U3; omega, by simp at U4; omega, by simp at U5; omega⟩
          have HBD := Lib.hid hbd
          clear hbd
          cases O3 : ((x.l.op : Int) == 3)
          · have h3 : ¬ x.l.op = 3 := by simp at O3; omega
            have H3 := Lib.hid h3
            clear h3
            go_wp2_with (fail)
            (with_reducible refine (HVS.out _ HX4.out).mono ?_); rintro e w5 ⟨la, lc, ys, rfl, he5, hyl, hyo, hyr⟩
            have he15 := he14.trans he5
            have E5 := Ext.refl w5
            obtain ⟨m, hm⟩ : ∃ m, m = ys.length := ⟨_, rfl⟩
            have hm2 : m = R.length := by rw [hm, ← hyr, lks_len]
            have HYL := Lib.hid hyl; have HYR := Lib.hid hyr; have HM := Lib.hid hm; have HM2 := Lib.hid hm2
            rw [← hm]
            have hm20 : m ≤ 20 := by rw [hm2]; exact HVL.out
            have HX5 := Lib.hid (HE.out.trans he15)
            clear E4 he5 hyl hyo hyr hm hm2 he14
            by_cases hz : m = 0
            · have hnil : Hid (R = []) := List.length_eq_zero_iff.1 (by rw [← HM2.out]; exact hz)
              have hq : Hid (q = false) := HCNO.out cc H1.out H2.out H3.out HF.out (.inl hnil.out)
              subst hz
              go_wp2_with (fail)
              go_ret
              exact ⟨by rw [hq.out]; rfl, HX5.out⟩
            · have hnn : Hid (R ≠ []) := fun e => hz (by rw [HM2.out, e]; rfl)
              have hz1 : ¬ ((m : Int) = 0) := by omega
              have hgo := HGN.out la ys lc w5 HX5.out HYL.out (by rw [← HM.out]; omega)
              rw [← HM.out, HYR.out] at hgo
              obtain ⟨g, hg⟩ : ∃ g, g = decide (untilR R < dy) := ⟨_, rfl⟩
              rw [← hg] at hgo
              have HGO := Lib.hid hgo; have HG := Lib.hid hg
              clear hgo hg
              go_wp2_with (fail)
              (with_reducible refine HGO.out.mono ?_); rintro e w6 ⟨rfl, he6⟩
              have he16 := he15.trans he6
              have E6 := Ext.refl w6
              have HX6 := Lib.hid (HE.out.trans he16)
              clear E5 he15 he6
              cases g
              · have hng : Hid (¬ untilR R < dy) := by have := of_decide_eq_false HG.out.symm; exact this
                cases O4 : ((x.l.op : Int) == 4)
                · have h5 : Hid (x.l.op = 5) := by
                    have := HPO.out (by simp)
                    have := H1.out; have := H2.out; have := H3.out
                    simp at O4
                    rw [Hid]; omega
                  have hq5 := HC5.out cc (by simp) h5.out HF.out HBD.out hnn.out (by have := hng.out; omega)
                  rw [← HM2.out] at hq5
                  have HQ5 := Lib.hid hq5
                  clear hq5
                  go_wp2_with (fail)
                  (with_reducible refine (HCK.out _ HX6.out).mono ?_); rintro e w7 ⟨rfl, he7⟩
                  have he17 := he16.trans he7
                  have E7 := Ext.refl w7
                  clear E6 he16 he7
                  go_wp2_with (fail)
                  (with_reducible refine (HSR.out _ (HE.out.trans he17)).mono ?_); rintro e w8 ⟨la8, lc8, ys8, rfl, he8, -, -, -⟩
                  obtain ⟨k8, hk8⟩ : ∃ k, k = ys8.length := ⟨_, rfl⟩
                  rw [← hk8]
                  have he18 := he17.trans he8
                  have E8 := Ext.refl w8
                  have HX8 := Lib.hid (HE.out.trans he18)
                  clear E7 he17 he8 hk8
                  cases T1 : (x.l.ve == (m : Int))
                  · have hq : Hid (q = false) := by rw [Hid, HQ5.out, T1]; rfl
                    go_wp2_with (fail)
                    go_ret
                    exact ⟨by rw [hq.out]; rfl, HX8.out⟩
                  cases T2 : decide (0 ≤ at1)
                  · have hq : Hid (q = false) := by rw [Hid, HQ5.out, T1, T2]; rfl
                    go_wp2_with (fail)
                    go_ret
                    exact ⟨by rw [hq.out]; rfl, HX8.out⟩
                  cases T3 : decide (x.l.ki = x.l.cu)
                  rotate_left
                  · have hq : Hid (q = false) := by rw [Hid, HQ5.out, T1, T2, T3]; rfl
                    have s2 := str_beq x.l.ki x.l.cu; rw [T3] at s2
                    go_wp2_with (fail)
                    go_ret
                    exact ⟨by rw [hq.out]; rfl, HX8.out⟩
                  cases T4 : decide (md < 20)
                  · have hq : Hid (q = false) := by rw [Hid, HQ5.out, T1, T2, T3, T4]; rfl
                    have s2 := str_beq x.l.ki x.l.cu; rw [T3] at s2
                    go_wp2_with (fail)
                    go_ret
                    exact ⟨by rw [hq.out]; rfl, HX8.out⟩
                  · have hq : Hid (q = true) := by rw [Hid, HQ5.out, T1, T2, T3, T4]; rfl
                    have s2 := str_beq x.l.ki x.l.cu; rw [T3] at s2
                    go_wp2_with (fail)
                    go_ret
                    exact ⟨by rw [hq.out]; rfl, HX8.out⟩
                · have h4 : Hid (x.l.op = 4) := by rw [Hid]; simp at O4; omega
                  have hq4 := HC4.out cc (by simp) h4.out HF.out HBD.out hnn.out (by have := hng.out; omega)
                  rw [← HM2.out] at hq4
                  have HQ4 := Lib.hid hq4
                  clear hq4
                  cases T1 : (x.l.ve == (m : Int) + 1)
                  · have hq : Hid (q = false) := by rw [Hid, HQ4.out, T1]; rfl
                    go_wp2_with (fail)
                    go_ret
                    exact ⟨by rw [hq.out]; rfl, HX6.out⟩
                  cases T2 : decide (x.l.ve ≤ 20)
                  · have hq : Hid (q = false) := by rw [Hid, HQ4.out, T1, T2]; rfl
                    go_wp2_with (fail)
                    go_ret
                    exact ⟨by rw [hq.out]; rfl, HX6.out⟩
                  · have hq : Hid (q = true) := by rw [Hid, HQ4.out, T1, T2]; rfl
                    go_wp2_with (fail)
                    go_ret
                    exact ⟨by rw [hq.out]; rfl, HX6.out⟩
              · have hq : Hid (q = false) := HCNO.out cc H1.out H2.out H3.out HF.out (.inr (of_decide_eq_true HG.out.symm))
                go_wp2_with (fail)
                go_ret
                exact ⟨by rw [hq.out]; rfl, HX6.out⟩
          · have h3 : Hid (x.l.op = 3) := by rw [Hid]; simp at O3; omega
            have hq3 := HC3.out cc (by simp) h3.out HF.out HBD.out
            have HQ3 := Lib.hid hq3
            clear hq3
            go_wp2_with (fail)
            (with_reducible refine (HRC.out _ HX4.out).mono ?_); rintro e w5 ⟨rfl, he5⟩
            have he15 := he14.trans he5
            have E5 := Ext.refl w5
            have HX5 := Lib.hid (HE.out.trans he15)
            clear E4 he5 he14
            cases T1 : (x.l.nu == (rn : Int) + 1)
            · have hq : Hid (q = false) := by rw [Hid, HQ3.out, T1]; rfl
              go_wp2_with (fail)
              go_ret
              exact ⟨by rw [hq.out]; rfl, HX5.out⟩
            cases T2 : (x.l.ve == 1)
            · have hq : Hid (q = false) := by rw [Hid, HQ3.out, T1, T2]; rfl
              go_wp2_with (fail)
              go_ret
              exact ⟨by rw [hq.out]; rfl, HX5.out⟩
            go_wp2_with (fail)
            (with_reducible refine (HNK.out _).mono ?_); rintro e w6 ⟨rfl, he6⟩
            have he16 := he15.trans he6
            have E6 := Ext.refl w6
            have HX6 := Lib.hid (HE.out.trans he16)
            clear E5 he6 he15
            cases b2
            · have hq : Hid (q = false) := by rw [Hid, HQ3.out, T1, T2]; rfl
              go_wp2_with (fail)
              go_ret
              exact ⟨by rw [hq.out]; rfl, HX6.out⟩
            cases T4 : decide (dy ≤ x.l.un)
            · have hq : Hid (q = false) := by rw [Hid, HQ3.out, T1, T2, T4]; rfl
              go_wp2_with (fail)
              go_ret
              exact ⟨by rw [hq.out]; rfl, HX6.out⟩
            cases T5 : decide (x.l.un ≤ 1000000)
            · have hq : Hid (q = false) := by rw [Hid, HQ3.out, T1, T2, T4, T5]; rfl
              go_wp2_with (fail)
              go_ret
              exact ⟨by rw [hq.out]; rfl, HX6.out⟩
            cases T6 : decide ((rn : Int) < 30)
            · have hq : Hid (q = false) := by rw [Hid, HQ3.out, T1, T2, T4, T5, T6]; rfl
              go_wp2_with (fail)
              go_ret
              exact ⟨by rw [hq.out]; rfl, HX6.out⟩
            · have hq : Hid (q = true) := by rw [Hid, HQ3.out, T1, T2, T4, T5, T6]; rfl
              go_wp2_with (fail)
              go_ret
              exact ⟨by rw [hq.out]; rfl, HX6.out⟩
      · have h2 : x.l.op = 2 := by simp at O2; omega
        have hq2 := HC2.out (by simp) h2
        have HQ2 := Lib.hid hq2
        clear hq2 h1 h2
        cases T1 : decide (dy < x.l.da)
        · have hq : Hid (q = false) := by rw [Hid, HQ2.out, T1]; rfl
          go_wp2_with (fail)
          go_ret
          exact ⟨by rw [hq.out]; rfl, HX4.out⟩
        cases T2 : decide (x.l.da ≤ 1000000)
        · have hq : Hid (q = false) := by rw [Hid, HQ2.out, T1, T2]; rfl
          go_wp2_with (fail)
          go_ret
          exact ⟨by rw [hq.out]; rfl, HX4.out⟩
        cases T3 : decide (ad < 2000)
        · have hq : Hid (q = false) := by rw [Hid, HQ2.out, T1, T2, T3]; rfl
          go_wp2_with (fail)
          go_ret
          exact ⟨by rw [hq.out]; rfl, HX4.out⟩
        · have hq : Hid (q = true) := by rw [Hid, HQ2.out, T1, T2, T3]; rfl
          go_wp2_with (fail)
          go_ret
          exact ⟨by rw [hq.out]; rfl, HX4.out⟩
    · have h1 : x.l.op = 1 := by simp at O1; omega
      have hq1 := HC1.out (by simp) h1
      have HQ1 := Lib.hid hq1
      clear hq1 h1
      go_wp2_with (fail)
      (with_reducible refine (HNC.out _).mono ?_); rintro e w5 ⟨rfl, he5⟩
      have HX5 := Lib.hid (HX4.out.trans he5)
      have E5 := Ext.refl w5
      clear he5
      cases b1
      · have hq : Hid (q = false) := by rw [Hid, HQ1.out]; rfl
        go_wp2_with (fail)
        go_ret
        exact ⟨by rw [hq.out]; rfl, HX5.out⟩
      cases T1 : decide (at0 < 0)
      · have hq : Hid (q = false) := by rw [Hid, HQ1.out, T1]; rfl
        go_wp2_with (fail)
        go_ret
        exact ⟨by rw [hq.out]; rfl, HX5.out⟩
      cases T2 : decide ((cn : Int) < 20)
      · have hq : Hid (q = false) := by rw [Hid, HQ1.out, T1, T2]; rfl
        go_wp2_with (fail)
        go_ret
        exact ⟨by rw [hq.out]; rfl, HX5.out⟩
      · have hq : Hid (q = true) := by rw [Hid, HQ1.out, T1, T2]; rfl
        go_wp2_with (fail)
        go_ret
        exact ⟨by rw [hq.out]; rfl, HX5.out⟩
end Go.Proofs.Ytlahejakcgoheaa
