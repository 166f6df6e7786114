/-
  Walks: Allowed, check.
-/
import Derived.Test.YtplbofhgmflnlaaGreatM4
set_option linter.unusedVariables false
set_option linter.unusedSimpArgs false
namespace Go.Proofs.YtplbofhgmflnlaaGreat
open Go.RowKit
/-- Bounds of a plan's lengths. -/
structure PlanB (P : Pw) : Prop where
  fl : P.fs.length ≤ 1000000
  gl : P.fo.length ≤ 1000000
  pl : ∀ i, i < P.fo.length → (gth P.fo i).xs.length ≤ 1000000
theorem prsOff {fs : List Fac} {fo : List (Sl Pr)} (h : anyPrsBad fs fo = false) (i : Nat) (hi : i < fo.length) (j : Nat) (hj : j < (gth fo i).xs.length) : prBad fs (gth fo i).xs j = false :=
  fIdx_off (fIdx_off h i hi) j hj
theorem prOk {fs : List Fac} {xs : List Pr} {j : Nat} (h : prBad fs xs j = false) : 0 ≤ (pth xs j).fac ∧ (pth xs j).fac < fs.length ∧ seenB xs j (pth xs j).fac = false ∧ 0 ≤ (pth xs j).lev ∧ (pth xs j).lev < (fth fs (pth xs j).fac.toNat).lev := by
  simp only [prBad, Bool.or_eq_false_iff, decide_eq_false_iff_not] at h
  obtain ⟨⟨⟨⟨h1, h2⟩, h3⟩, h4⟩, h5⟩ := h
  exact ⟨by omega, by omega, h3, by omega, by omega⟩
theorem planOk {P : Pw} (h : planBad P = false) : P.fs.length ≤ 8 ∧ P.fo.length ≤ 40 ∧ anyFacBad P.fs = false ∧ anyPrsBad P.fs P.fo = false := by
  simp only [planBad, Bool.or_eq_false_iff, decide_eq_false_iff_not] at h
  obtain ⟨⟨⟨h1, h2⟩, h3⟩, h4⟩ := h
  exact ⟨by omega, by omega, h3, h4⟩
theorem FoOk.of {w : World} {P : Pw} (hp : PlanAt w P) (hb : PlanB P) (h : planBad P = false) : FoOk w P P.fs.length :=
  ⟨hp.fo, hp.ps, hb.gl, hb.pl, fun i hi j hj => by
    have := prOk (prsOff (planOk h).2.2.2 i hi j hj)
    exact ⟨this.1, this.2.1⟩⟩
def setBad (P : Pw) (s : Se) : Bool := !levB P.fs s.lv.xs || !alwB P.fo s.lv.xs || decide (s.blk < 0) || decide (1000 < s.blk)
theorem enters107 : Enters Tryz.prog 107 := Enters.mk Tryz.func107 rfl rfl
set_option maxHeartbeats 1000000 in
theorem chk1_any (P : Pw) (s : Se) (B : Nat) (w : World) (hp : PlanAt w P) (hb : PlanB P) (hv : planBad P = false) (hl : Ints w s.lv.a s.lv.xs) (hn : s.lv.xs.length ≤ 9223372036854775807)
    (g0 : ∀ W, Ext w W → W.cell? ⟨B, 0, none⟩ = some (.slice P.fa P.fs.length P.fc)) (g1 : ∀ W, Ext w W → W.cell? ⟨B, 1, none⟩ = some (.slice P.ga P.fo.length P.gc)) :
    Calls Tryz.prog 107 #[setV s, .pointer (some ⟨B, 0, none⟩)] w (Ret (.bool (setBad P s)) w) := by
  have hlv := fun W (e : Ext w W) => isLevels_any P s.lv.a s.lv.xs s.lv.c W (hp.ext e) hb.fl (hl.ext e) hn
  have hal := fun W (e : Ext w W) (h : levB P.fs s.lv.xs = true) => allowed_any P s.lv.a s.lv.xs s.lv.c W ((by rw [levB_len h]; exact FoOk.of (hp.ext e) hb hv)) (hl.ext e)
  obtain ⟨⟨a, ls, c⟩, bk⟩ := s
  obtain ⟨fs, fa, fc, fo, ga, gc⟩ := P
  simp only at hlv hal g0 g1
  have HLV := Lib.hid hlv; have HAL := Lib.hid hal
  have HB : Hid (setBad ⟨fs, fa, fc, fo, ga, gc⟩ ⟨⟨a, ls, c⟩, bk⟩ = (!levB fs ls || !alwB fo ls || decide (bk < 0) || decide (1000 < bk))) := rfl
  clear hlv hal hp hb hv hl hn
  obtain ⟨q1, hq1⟩ : ∃ q, q = levB fs ls := ⟨_, rfl⟩
  obtain ⟨q2, hq2⟩ : ∃ q, q = alwB fo ls := ⟨_, rfl⟩
  rw [← hq1] at HLV HAL HB; rw [← hq2] at HAL HB
  clear hq1 hq2
  cases q1
  · go_enter Tryz.func107, Tryz.ntmps107
    go_wp2_with (fail)
    generalize hw1 : World.alloc _ _ = w1
    obtain ⟨he, o1, -⟩ := alloc1 hw1
    obtain ⟨b0, b1⟩ := obj_cells2 o1
    have g2 := fun W (e : Ext w1 W) => g0 W (he.trans e)
    have g3 := fun W (e : Ext w1 W) => g1 W (he.trans e)
    have E1 := Ext.refl w1
    have HE := Lib.hid he
    clear hw1 o1 g0 g1 he
    go_wp2_with (go_at_call 83; (with_reducible refine (HLV.out _ HE.out).mono ?_); rintro e w2 ⟨rfl, he2⟩)
    go_ret
    exact ⟨by rw [HB.out]; rfl, HE.out.trans he2⟩
  · cases q2
    · go_enter Tryz.func107, Tryz.ntmps107
      go_wp2_with (fail)
      generalize hw1 : World.alloc _ _ = w1
      obtain ⟨he, o1, -⟩ := alloc1 hw1
      obtain ⟨b0, b1⟩ := obj_cells2 o1
      have g2 := fun W (e : Ext w1 W) => g0 W (he.trans e)
      have g3 := fun W (e : Ext w1 W) => g1 W (he.trans e)
      have E1 := Ext.refl w1
      have HE := Lib.hid he
      clear hw1 o1 g0 g1 he
      go_wp2_with (first | (go_at_call 83; (with_reducible refine (HLV.out _ HE.out).mono ?_); rintro e w2 ⟨rfl, he2⟩) | (go_at_call 81; (with_reducible refine (HAL.out _ (HE.out.trans he2) (by simp)).mono ?_); rintro e w3 ⟨rfl, he3⟩))
      go_ret
      exact ⟨by rw [HB.out]; rfl, HE.out.trans (he2.trans he3)⟩
    · cases T3 : decide (bk < 0)
      · cases T4 : decide (1000 < bk)
        all_goals
          rw [T3, T4] at HB
          go_enter Tryz.func107, Tryz.ntmps107
          go_wp2_with (fail)
          generalize hw1 : World.alloc _ _ = w1
          obtain ⟨he, o1, -⟩ := alloc1 hw1
          obtain ⟨b0, b1⟩ := obj_cells2 o1
          have g2 := fun W (e : Ext w1 W) => g0 W (he.trans e)
          have g3 := fun W (e : Ext w1 W) => g1 W (he.trans e)
          have E1 := Ext.refl w1
          have HE := Lib.hid he
          clear hw1 o1 g0 g1 he
          go_wp2_with (first | (go_at_call 83; (with_reducible refine (HLV.out _ HE.out).mono ?_); rintro e w2 ⟨rfl, he2⟩) | (go_at_call 81; (with_reducible refine (HAL.out _ (HE.out.trans he2) (by simp)).mono ?_); rintro e w3 ⟨rfl, he3⟩; have he23 := he2.trans he3))
          go_ret
          exact ⟨by rw [HB.out]; rfl, HE.out.trans he23⟩
      · rw [T3] at HB
        go_enter Tryz.func107, Tryz.ntmps107
        go_wp2_with (fail)
        generalize hw1 : World.alloc _ _ = w1
        obtain ⟨he, o1, -⟩ := alloc1 hw1
        obtain ⟨b0, b1⟩ := obj_cells2 o1
        have g2 := fun W (e : Ext w1 W) => g0 W (he.trans e)
        have g3 := fun W (e : Ext w1 W) => g1 W (he.trans e)
        have E1 := Ext.refl w1
        have HE := Lib.hid he
        clear hw1 o1 g0 g1 he
        go_wp2_with (first | (go_at_call 83; (with_reducible refine (HLV.out _ HE.out).mono ?_); rintro e w2 ⟨rfl, he2⟩) | (go_at_call 81; (with_reducible refine (HAL.out _ (HE.out.trans he2) (by simp)).mono ?_); rintro e w3 ⟨rfl, he3⟩; have he23 := he2.trans he3))
        go_ret
        exact ⟨by rw [HB.out]; rfl, HE.out.trans he23⟩
/-- Settings in memory, with their levels. -/
structure SetsAt (w : World) (a : Option Addr) (ss : List Se) : Prop where
  row : Sets w a ss
  lv : ∀ i, i < ss.length → Ints w (eth ss i).lv.a (eth ss i).lv.xs
theorem SetsAt.ext {w w' : World} {a : Option Addr} {ss : List Se} (h : SetsAt w a ss) (e : Ext w w') : SetsAt w' a ss := ⟨h.row.ext setC_len e, fun i hi => (h.lv i hi).ext e⟩
def anySetBad (P : Pw) (ss : List Se) : Bool := ss.any (setBad P)
def checkE (P : Pw) (ss : List Se) : Int := if planBad P then 2 else if 2000 < ss.length then 5 else if anySetBad P ss then 2 else 0
set_option maxHeartbeats 1000000 in
theorem check_any (P : Pw) (a : Option Addr) (ss : List Se) (c : Nat) (w : World) (hp : PlanAt w P) (hb : PlanB P) (hs : SetsAt w a ss) (hn : ss.length ≤ 9223372036854775807) (hl : ∀ i, i < ss.length → (eth ss i).lv.xs.length ≤ 9223372036854775807) :
    Calls Tryz.prog 69 #[planV P, .slice a ss.length c] w (Ret (.int .i64 (checkE P ss)) w) := by
  have hcp := fun W (e : Ext w W) => checkPlan_any P W (hp.ext e) (fun i hi => by have := hb.pl i hi; omega) (by have := hb.fl; omega) (by have := hb.gl; omega)
  have hcf := fun W (e : Ext w W) B (g0 : ∀ W', Ext W W' → W'.cell? ⟨B, 0, none⟩ = some (.slice P.fa P.fs.length P.fc)) (g1 : ∀ W', Ext W W' → W'.cell? ⟨B, 1, none⟩ = some (.slice P.ga P.fo.length P.gc)) (h2 : ss.length ≤ 2000) (h1 : planBad P = false) =>
    containsFunc_set 107 #[.pointer (some ⟨B, 0, none⟩)] a ss.length c ss (setBad P) W rfl (by omega) (hs.row.ext setC_len e) fun i hi =>
      ⟨enters107, fun W' e' => chk1_any P (eth ss i) B W' (hp.ext (e.trans e')) hb h1 ((hs.lv i hi).ext (e.trans e')) (hl i hi) (fun W'' e'' => g0 W'' (e'.trans e'')) (fun W'' e'' => g1 W'' (e'.trans e''))⟩
  obtain ⟨fs, fa, fc, fo, ga, gc⟩ := P
  simp only at hcp hcf
  have HCP := Lib.hid hcp; have HCF := Lib.hid hcf
  have HB : Hid (checkE ⟨fs, fa, fc, fo, ga, gc⟩ ss = if planBad ⟨fs, fa, fc, fo, ga, gc⟩ then 2 else if decide (2000 < (ss.length : Int)) then 5 else if anySetBad ⟨fs, fa, fc, fo, ga, gc⟩ ss then 2 else 0) := by
    have e2 : decide (2000 < (ss.length : Int)) = decide (2000 < ss.length) := by rw [decide_eq_decide]; omega
    show checkE _ _ = _
    rw [e2]; unfold checkE; simp only [decide_eq_true_eq]
  have HPE : Hid (planE ⟨fs, fa, fc, fo, ga, gc⟩ = if planBad ⟨fs, fa, fc, fo, ga, gc⟩ then 2 else 0) := rfl
  clear hcp hcf hp hb hs hl
  cases T1 : planBad ⟨fs, fa, fc, fo, ga, gc⟩
  · rw [T1] at HB HPE HCF
    rw [HPE.out] at HCP
    cases T2 : decide (2000 < (ss.length : Int))
    · rw [T2] at HB
      have h2 : ss.length ≤ 2000 := by simp at T2; omega
      cases T3 : anySetBad ⟨fs, fa, fc, fo, ga, gc⟩ ss
      all_goals
        rw [T3] at HB
        rw [show ss.any (setBad ⟨fs, fa, fc, fo, ga, gc⟩) = anySetBad ⟨fs, fa, fc, fo, ga, gc⟩ ss from rfl, T3] at HCF
        go_enter Tryz.func69, Tryz.ntmps69
        go_wp2_with (fail)
        generalize hw1 : World.alloc _ _ = w1
        obtain ⟨he, o1, -⟩ := alloc1 hw1
        obtain ⟨b0, b1⟩ := obj_cells2 o1
        have E1 := Ext.refl w1
        have HE := Lib.hid he
        clear hw1 o1 he
        go_wp2_with (fail)
        (with_reducible refine (HCP.out _ HE.out).mono ?_); rintro e w2 ⟨rfl, he2⟩
        have HE2 := Lib.hid (HE.out.trans he2)
        have HC := Lib.hid (HCF.out w2 HE2.out w.heap.size (fun W e => b0 W (he2.trans e)) (fun W e => b1 W (he2.trans e)) h2 (by simp))
        go_wp2_with (fail)
        (with_reducible refine HC.out.mono ?_); rintro e w3 ⟨rfl, he3⟩
        go_wp2_with (fail)
        go_ret
        exact ⟨by rw [HB.out]; rfl, HE2.out.trans he3⟩
    · rw [T2] at HB
      go_enter Tryz.func69, Tryz.ntmps69
      go_wp2_with (fail)
      generalize hw1 : World.alloc _ _ = w1
      obtain ⟨he, o1, -⟩ := alloc1 hw1
      obtain ⟨b0, b1⟩ := obj_cells2 o1
      have E1 := Ext.refl w1
      have HE := Lib.hid he
      clear hw1 o1 he
      go_wp2_with (fail)
      (with_reducible refine (HCP.out _ HE.out).mono ?_); rintro e w2 ⟨rfl, he2⟩
      have HE2 := Lib.hid (HE.out.trans he2)
      go_wp2_with (fail)
      go_ret
      exact ⟨by rw [HB.out]; rfl, HE2.out⟩
  · rw [T1] at HB HPE
    rw [HPE.out] at HCP
    go_enter Tryz.func69, Tryz.ntmps69
    go_wp2_with (fail)
    generalize hw1 : World.alloc _ _ = w1
    obtain ⟨he, o1, -⟩ := alloc1 hw1
    obtain ⟨b0, b1⟩ := obj_cells2 o1
    have E1 := Ext.refl w1
    have HE := Lib.hid he
    clear hw1 o1 he
    go_wp2_with (fail)
    (with_reducible refine (HCP.out _ HE.out).mono ?_); rintro e w2 ⟨rfl, he2⟩
    have HE2 := Lib.hid (HE.out.trans he2)
    go_wp2_with (fail)
    go_ret
    exact ⟨by rw [HB.out]; rfl, HE2.out⟩
theorem checkE_ok {P : Pw} {ss : List Se} (h : checkE P ss = 0) : planBad P = false ∧ ss.length ≤ 2000 ∧ ∀ i, i < ss.length → setBad P (eth ss i) = false := by
  unfold checkE at h
  split at h
  · cases h
  · rename_i h1
    split at h
    · cases h
    · rename_i h2
      split at h
      · cases h
      · rename_i h3
        refine ⟨by simpa using h1, by omega, fun i hi => ?_⟩
        have h4 : anySetBad P ss = false := by simpa using h3
        unfold anySetBad at h4
        rw [List.any_eq_false] at h4
        rw [eth_eq ss i hi]
        simpa using h4 _ (List.getElem_mem hi)
theorem setOk {P : Pw} {s : Se} (h : setBad P s = false) : levB P.fs s.lv.xs = true ∧ alwB P.fo s.lv.xs = true ∧ 0 ≤ s.blk ∧ s.blk ≤ 1000 := by
  simp only [setBad, Bool.or_eq_false_iff, Bool.not_eq_false', decide_eq_false_iff_not] at h
  obtain ⟨⟨⟨h1, h2⟩, h3⟩, h4⟩ := h
  exact ⟨h1, h2, by omega, by omega⟩
/-- What Allowed answers. -/
def AllowedV (P : Pw) (ls : List Int) : Value := if planBad P then .tuple #[.bool false, .int .i64 2] else if levB P.fs ls then .tuple #[.bool (alwB P.fo ls), .int .i64 0] else .tuple #[.bool false, .int .i64 2]
set_option maxHeartbeats 1000000 in
theorem Allowed_any (P : Pw) (a : Option Addr) (ls : List Int) (c : Nat) (w : World) (hp : PlanAt w P) (hb : PlanB P) (hl : Ints w a ls) (hn : ls.length ≤ 9223372036854775807) :
    Calls Tryz.prog 23 #[planV P, .slice a ls.length c] w (Ret (AllowedV P ls) w) := by
  have hcp := fun W (e : Ext w W) => checkPlan_any P W (hp.ext e) (fun i hi => by have := hb.pl i hi; omega) (by have := hb.fl; omega) (by have := hb.gl; omega)
  have hlv := fun W (e : Ext w W) => isLevels_any P a ls c W (hp.ext e) hb.fl (hl.ext e) hn
  have hal := fun W (e : Ext w W) (h : levB P.fs ls = true) (hv : planBad P = false) => allowed_any P a ls c W ((by rw [levB_len h]; exact FoOk.of (hp.ext e) hb hv)) (hl.ext e)
  have HB : Hid (AllowedV P ls = if planBad P then .tuple #[.bool false, .int .i64 2] else if levB P.fs ls then .tuple #[.bool (alwB P.fo ls), .int .i64 0] else .tuple #[.bool false, .int .i64 2]) := rfl
  obtain ⟨fs, fa, fc, fo, ga, gc⟩ := P
  simp only at hlv hal hcp HB
  have HCP := Lib.hid hcp; have HLV := Lib.hid hlv; have HAL := Lib.hid hal
  have HPE : Hid (planE ⟨fs, fa, fc, fo, ga, gc⟩ = if planBad ⟨fs, fa, fc, fo, ga, gc⟩ then 2 else 0) := rfl
  clear hcp hlv hal hp hb hl
  obtain ⟨q1, hq1⟩ : ∃ q, q = levB fs ls := ⟨_, rfl⟩
  obtain ⟨q2, hq2⟩ : ∃ q, q = alwB fo ls := ⟨_, rfl⟩
  rw [← hq1] at HLV HAL HB; rw [← hq2] at HAL HB
  clear hq1 hq2
  cases T1 : planBad ⟨fs, fa, fc, fo, ga, gc⟩
  · rw [T1] at HB HPE HAL
    rw [HPE.out] at HCP
    cases q1
    · go_enter Tryz.func23, Tryz.ntmps23
      go_wp2_with (fail)
      generalize hw1 : World.alloc _ _ = w1
      obtain ⟨he, o1, -⟩ := alloc1 hw1
      obtain ⟨b0, b1⟩ := obj_cells2 o1
      have E1 := Ext.refl w1
      have HE := Lib.hid he
      clear hw1 o1 he
      go_wp2_with (first | (go_at_call 42; (with_reducible refine (HCP.out _ HE.out).mono ?_); rintro e w2 ⟨rfl, he2⟩; have HE2 := Lib.hid (HE.out.trans he2)) | (go_at_call 83; (with_reducible refine (HLV.out _ HE2.out).mono ?_); rintro e w3 ⟨rfl, he3⟩))
      go_ret2
      exact ⟨by rw [HB.out]; rfl, HE2.out.trans he3⟩
    · go_enter Tryz.func23, Tryz.ntmps23
      go_wp2_with (fail)
      generalize hw1 : World.alloc _ _ = w1
      obtain ⟨he, o1, -⟩ := alloc1 hw1
      obtain ⟨b0, b1⟩ := obj_cells2 o1
      have E1 := Ext.refl w1
      have HE := Lib.hid he
      clear hw1 o1 he
      go_wp2_with (first | (go_at_call 42; (with_reducible refine (HCP.out _ HE.out).mono ?_); rintro e w2 ⟨rfl, he2⟩; have HE2 := Lib.hid (HE.out.trans he2)) | (go_at_call 83; (with_reducible refine (HLV.out _ HE2.out).mono ?_); rintro e w3 ⟨rfl, he3⟩; have he13 := he2.trans he3) | (go_at_call 81; (with_reducible refine (HAL.out _ (HE2.out.trans he3) (by simp) (by simp)).mono ?_); rintro e w4 ⟨rfl, he4⟩))
      go_ret2
      exact ⟨by rw [HB.out]; rfl, HE.out.trans (he13.trans he4)⟩
  · rw [T1] at HB HPE
    rw [HPE.out] at HCP
    go_enter Tryz.func23, Tryz.ntmps23
    go_wp2_with (fail)
    generalize hw1 : World.alloc _ _ = w1
    obtain ⟨he, o1, -⟩ := alloc1 hw1
    obtain ⟨b0, b1⟩ := obj_cells2 o1
    have E1 := Ext.refl w1
    have HE := Lib.hid he
    clear hw1 o1 he
    go_wp2_with (first | (go_at_call 42; (with_reducible refine (HCP.out _ HE.out).mono ?_); rintro e w2 ⟨rfl, he2⟩; have HE2 := Lib.hid (HE.out.trans he2)))
    go_ret2
    exact ⟨by rw [HB.out]; rfl, HE2.out⟩
end Go.Proofs.YtplbofhgmflnlaaGreat
