/-
  Texts merged: M1, M2, M3, M4, M5, M6.
-/
import Derived.Test.YtplbofhgmflnlaaGreatMA4
section
/-
  Walks: CheckPlan.
-/
set_option linter.unusedVariables false
set_option linter.unusedSimpArgs false
namespace Go.Proofs.YtplbofhgmflnlaaGreat
open Go.RowKit
/-- A plan, with its places. -/
structure Pw where
  fs : List Fac
  fa : Option Addr
  fc : Nat
  fo : List (Sl Pr)
  ga : Option Addr
  gc : Nat
abbrev planV (P : Pw) : Value := .agg #[.slice P.fa P.fs.length P.fc, .slice P.ga P.fo.length P.gc]
structure PlanAt (w : World) (P : Pw) : Prop where
  fs : Facs w P.fa P.fs
  fo : Grps w P.ga P.fo
  ps : ∀ i, i < P.fo.length → Prs w (gth P.fo i).a (gth P.fo i).xs
theorem PlanAt.ext {w w' : World} {P : Pw} (h : PlanAt w P) (e : Ext w w') : PlanAt w' P :=
  ⟨h.fs.ext facC_len e, h.fo.ext grpC_len e, fun i hi => (h.ps i hi).ext prC_len e⟩
def facBad (f : Fac) : Bool := decide (f.lev < 1) || decide (8 < f.lev) || decide (f.cost < 0) || decide (1000 < f.cost)
def anyFacBad (fs : List Fac) : Bool := fs.any facBad
/-- Whether one of the first k pairs is about this factor. -/
def seenB (xs : List Pr) (k : Nat) (q : Int) : Bool := (xs.take k).any fun x => decide (x.fac = q)
def prBad (fs : List Fac) (xs : List Pr) (k : Nat) : Bool :=
  decide ((pth xs k).fac < 0) || decide ((fs.length : Int) ≤ (pth xs k).fac) || seenB xs k (pth xs k).fac || decide ((pth xs k).lev < 0) || decide ((fth fs (pth xs k).fac.toNat).lev ≤ (pth xs k).lev)
def prsBad (fs : List Fac) (xs : List Pr) : Bool := (fIdx (prBad fs xs) xs.length).isSome
def anyPrsBad (fs : List Fac) (fo : List (Sl Pr)) : Bool := (fIdx (fun i => prsBad fs (gth fo i).xs) fo.length).isSome
def planBad (P : Pw) : Bool := decide (8 < P.fs.length) || decide (40 < P.fo.length) || anyFacBad P.fs || anyPrsBad P.fs P.fo
def planE (P : Pw) : Int := if planBad P then 2 else 0
set_option maxHeartbeats 1000000 in
theorem facBad_any (f : Fac) (w : World) : Calls Tryz.prog 91 #[facV f] w (Ret (.bool (facBad f)) w) := by
  have HB : Hid (facBad f = (decide (f.lev < 1) || decide (8 < f.lev) || decide (f.cost < 0) || decide (1000 < f.cost))) := rfl
  cases T1 : decide (f.lev < 1)
  cases T2 : decide (8 < f.lev)
  cases T3 : decide (f.cost < 0)
  cases T4 : decide (1000 < f.cost)
  all_goals
    try rw [T1] at HB
    try rw [T2] at HB
    try rw [T3] at HB
    try rw [T4] at HB
    go_enter Tryz.func91, Tryz.ntmps91
    go_wp2_with (fail)
    generalize hw1 : World.alloc _ _ = w1
    obtain ⟨he, o1, -⟩ := alloc1 hw1
    obtain ⟨b0, b1, b2⟩ := obj_cells3 o1
    clear hw1 o1
    have E1 := Ext.refl w1
    go_wp2_with (fail)
    go_ret
    refine ⟨?_, he⟩
    rw [HB.out]
    rfl
theorem enters91 : Enters Tryz.prog 91 := Enters.mk Tryz.func91 rfl rfl
theorem anyFac_any (a : Option Addr) (fs : List Fac) (c : Nat) (w : World) (h : Facs w a fs) (hl : fs.length ≤ 1000000) : Calls Tryz.prog 92 #[.slice a fs.length c, .func (.func 91) #[] #[]] w (Ret (.bool (anyFacBad fs)) w) :=
  containsFunc_fac 91 #[] a fs.length c fs facBad w rfl hl h fun i _ => ⟨enters91, fun W _ => facBad_any _ W⟩
theorem anyFac_off {fs : List Fac} (h : anyFacBad fs = false) : ∀ i, i < fs.length → 1 ≤ (fth fs i).lev ∧ (fth fs i).lev ≤ 8 ∧ 0 ≤ (fth fs i).cost ∧ (fth fs i).cost ≤ 1000 := by
  intro i hi
  unfold anyFacBad at h
  rw [List.any_eq_false] at h
  have := h _ (List.getElem_mem hi)
  rw [← fth_eq fs i hi] at this
  simp only [facBad, Bool.or_eq_true, decide_eq_true_eq, not_or] at this
  omega
theorem seenB_succ (xs : List Pr) (k : Nat) (hk : k < xs.length) (q : Int) : seenB xs (k + 1) q = (seenB xs k q || decide ((pth xs k).fac = q)) := by
  unfold seenB
  rw [List.take_succ_eq_append_getElem hk, List.any_append, ← pth_eq xs k hk]
  simp
theorem fIdx_isSome {q : Nat → Bool} {n i : Nat} (hi : i < n) (h : q i = true) : (fIdx q n).isSome = true := by
  unfold fIdx
  rw [List.find?_isSome]
  exact ⟨i, by simpa using hi, h⟩
theorem fIdx_off {q : Nat → Bool} {n : Nat} (h : (fIdx q n).isSome = false) : ∀ i, i < n → q i = false := by
  intro i hi
  cases e : q i with
  | false => rfl
  | true => rw [fIdx_isSome hi e] at h; cases h
theorem anyPrs_on {fs : List Fac} {fo : List (Sl Pr)} {k j : Nat} (hk : k < fo.length) (hj : j < (gth fo k).xs.length) (h : prBad fs (gth fo k).xs j = true) : anyPrsBad fs fo = true :=
  fIdx_isSome hk (fIdx_isSome hj h)
/-- The row in which the factors of a combination are marked. -/
def seenC (xs : List Pr) (k : Nat) : Array Value := #[.bool (seenB xs k 0), .bool (seenB xs k 1), .bool (seenB xs k 2), .bool (seenB xs k 3), .bool (seenB xs k 4), .bool (seenB xs k 5), .bool (seenB xs k 6), .bool (seenB xs k 7)]
theorem seenC_at {w : World} {y : Nat} {xs : List Pr} {k : Nat} {T : TypeId} {fz : Nat × Nat} (h : w.heap[y]? = some (.cells (seenC xs k) T fz)) (q : Nat) (hq : q < 8) : ∀ W, Ext w W → W.cell? ⟨y, q, none⟩ = some (.bool (seenB xs k q)) := by
  obtain ⟨h0, h1, h2, h3, h4, h5, h6, h7⟩ := obj_cells8 h
  match q, hq with
  | 0, _ => exact h0
  | 1, _ => exact h1
  | 2, _ => exact h2
  | 3, _ => exact h3
  | 4, _ => exact h4
  | 5, _ => exact h5
  | 6, _ => exact h6
  | 7, _ => exact h7
theorem seenC_set {w : World} {y : Nat} {xs : List Pr} {k : Nat} {T : TypeId} {fz : Nat × Nat} (h : w.heap[y]? = some (.cells (seenC xs k) T fz)) (q : Nat) (hq : q < 8) (hk : k < xs.length) (hx : (pth xs k).fac = (q : Int)) :
    (w.setCell ⟨y, q, none⟩ (.bool true)).heap[y]? = some (.cells (seenC xs (k + 1)) T fz) := by
  have h1 := block_set h q (.bool true)
  rw [h1]
  have e : ∀ r : Nat, seenB xs (k + 1) r = (seenB xs k r || decide (q = r)) := fun r => by
    rw [seenB_succ xs k hk, hx]
    congr 1
    rw [decide_eq_decide]; omega
  have e0 := e 0; have e1 := e 1; have e2 := e 2; have e3 := e 3; have e4 := e 4; have e5 := e 5; have e6 := e 6; have e7 := e 7
  congr 2
  unfold seenC
  match q, hq with
  | 0, _ => simp_all
  | 1, _ => simp_all
  | 2, _ => simp_all
  | 3, _ => simp_all
  | 4, _ => simp_all
  | 5, _ => simp_all
  | 6, _ => simp_all
  | 7, _ => simp_all
set_option maxRecDepth 100000 in
set_option maxHeartbeats 4000000 in
theorem checkPlan_any (P : Pw) (w : World) (h : PlanAt w P) (hl : ∀ i, i < P.fo.length → (gth P.fo i).xs.length ≤ 9223372036854775807) (hf : P.fs.length ≤ 9223372036854775807) (hg : P.fo.length ≤ 9223372036854775807) :
    Calls Tryz.prog 42 #[planV P] w (Ret (.int .i64 (planE P)) w) := by
  obtain ⟨fs, fa, fc, fo, ga, gc⟩ := P
  have HH := Lib.hid h; have HL := Lib.hid hl
  simp only at hf hg
  have HB : Hid (planE ⟨fs, fa, fc, fo, ga, gc⟩ = if (decide (8 < (fs.length : Int)) || decide (40 < (fo.length : Int)) || anyFacBad fs || anyPrsBad fs fo) then 2 else 0) := by
    have e1 : decide (8 < (fs.length : Int)) = decide (8 < fs.length) := by rw [decide_eq_decide]; omega
    have e2 : decide (40 < (fo.length : Int)) = decide (40 < fo.length) := by rw [decide_eq_decide]; omega
    show planE _ = _
    rw [e1, e2]; rfl
  clear h hl
  cases T1 : decide (8 < (fs.length : Int))
  cases T2 : decide (40 < (fo.length : Int))
  cases T3 : anyFacBad fs
  all_goals
    try rw [T1] at HB
    try rw [T2] at HB
    try rw [T3] at HB
    go_enter Tryz.func42, Tryz.ntmps42
    go_wp2_with (fail)
    generalize hw1 : World.alloc _ _ = w1
    obtain ⟨he, o1, -⟩ := alloc1 hw1
    obtain ⟨b0, b1⟩ := obj_cells2 o1
    clear hw1 o1
    have E1 := Ext.refl w1
    have HE := Lib.hid he
    clear he
  rotate_left
  · have HF := Lib.hid (anyFac_any fa fs fc w1 (HH.out.fs.ext facC_len HE.out) (by simp at T1; omega))
    go_wp2_with (fail)
    rw [T3] at HF
    (with_reducible refine HF.out.mono ?_); rintro e w2 ⟨rfl, he2⟩
    go_wp2_with (fail)
    go_ret
    exact ⟨by rw [HB.out]; rfl, HE.out.trans he2⟩
  · go_wp2_with (fail)
    go_ret
    exact ⟨by rw [HB.out]; rfl, HE.out⟩
  · go_wp2_with (fail)
    go_ret
    exact ⟨by rw [HB.out]; rfl, HE.out⟩
  · have HF := Lib.hid (anyFac_any fa fs fc w1 (HH.out.fs.ext facC_len HE.out) (by simp at T1; omega))
    have hf8 : fs.length ≤ 8 := by simp at T1; omega
    have HFO := Lib.hid (anyFac_off T3)
    go_wp2_with (fail)
    rw [T3] at HF
    (with_reducible refine HF.out.mono ?_); rintro e w2 ⟨rfl, he2⟩
    have HE2 := Lib.hid he2
    clear HF T1 T2 T3
    go_wp2_with (fail)
    go_loopw [28] (fun i wr => ∃ k : Nat, k ≤ fo.length ∧ i = .int .i64 k ∧ Ext w1 wr ∧ Hid (∀ j, j < k → prsBad fs (gth fo j).xs = false)) (fun i _ => fo.length - (intOf i).toNat)
    case atStart => exact ⟨0, Nat.zero_le _, rfl, HE2.out, fun j hj => by omega⟩
    case round =>
      obtain ⟨k, hk, rfl, hr, hfa⟩ := hrel
      obtain ⟨wo, rfl⟩ : ∃ wo : World, wo = wr := ⟨_, rfl⟩
      clear he2 E1
      by_cases hlt : k < fo.length
      · obtain ⟨gb, go, rfl, c0⟩ := grp_at (HH.out.fo.ext grpC_len HE.out) k hlt
        have hps := HH.out.ps k hlt
        have hpl := HL.out k hlt
        obtain ⟨x, hx⟩ : ∃ x, x = gth fo k := ⟨_, rfl⟩
        have HX := Lib.hid hx
        rw [← hx] at c0 hps hpl
        clear hx
        obtain ⟨sa, xs, sc⟩ := x
        have HPS := Lib.hid hps
        simp only at hpl c0
        clear hps
        have hi0 : (0 : Int) ≤ (k : Int) := by omega
        have hi1 : (k : Int) < (fo.length : Int) := by omega
        go_upto_region 8 with fail
        generalize hw3 : World.alloc wo _ = w3
        obtain ⟨he3, o3, hs3⟩ := alloc1 hw3
        have hst : Hid (Ext w1 w3 ∧ w3.heap[wo.heap.size]? = some (.cells (seenC xs 0) 151 (0, 0)) ∧ w1.heap.size ≤ wo.heap.size) := ⟨hr.trans he3, o3, hr.size⟩
        obtain ⟨y, hy⟩ : ∃ y, y = wo.heap.size := ⟨_, rfl⟩
        rw [← hy] at hst ⊢
        clear hw3 he3 o3 hs3 hy c0
        go_wp2_with (fail)
        go_loopw [34] (fun i wr => ∃ j : Nat, j ≤ xs.length ∧ i = .int .i64 j ∧ Hid (Ext w1 wr ∧ wr.heap[y]? = some (.cells (seenC xs j) 151 (0, 0)) ∧ w1.heap.size ≤ y) ∧ Hid (∀ i, i < j → prBad fs xs i = false)) (fun i _ => xs.length - (intOf i).toNat)
        case atStart => exact ⟨0, Nat.zero_le _, rfl, hst, fun j hj => by omega⟩
        case round =>
          obtain ⟨j, hj, rfl, hwr, hfb⟩ := hrel
          clear hst
          by_cases hlt2 : j < xs.length
          · obtain ⟨pb, po, rfl, d0, d1⟩ := pr_at ((HPS.out.ext prC_len HE.out).ext prC_len hwr.out.1) j hlt2
            have hpx : Hid (prBad fs xs j = (decide ((pth xs j).fac < 0) || decide ((fs.length : Int) ≤ (pth xs j).fac) || seenB xs j (pth xs j).fac || decide ((pth xs j).lev < 0) || decide ((fth fs (pth xs j).fac.toNat).lev ≤ (pth xs j).lev))) := rfl
            obtain ⟨x, hx⟩ : ∃ x, x = pth xs j := ⟨_, rfl⟩
            rw [← hx] at d0 d1 hpx
            have HX2 := Lib.hid hx
            clear hx
            obtain ⟨xf, xl⟩ := x
            simp only at d0 d1 hpx
            have hj0 : (0 : Int) ≤ (j : Int) := by omega
            have hj1 : (j : Int) < (xs.length : Int) := by omega
            have Er := Ext.refl wr
            go_upto_region 11 with fail
            generalize hw5 : World.alloc wr _ = w5
            obtain ⟨he5, o5, hs5⟩ := alloc1 hw5
            obtain ⟨z0, z1⟩ := obj_cells2 o5
            have hwr5 : Hid (Ext w1 w5 ∧ w5.heap[y]? = some (.cells (seenC xs j) 151 (0, 0)) ∧ w1.heap.size ≤ y) := ⟨hwr.out.1.trans he5, he5.block hwr.out.2.1, hwr.out.2.2⟩
            have E5 := hwr5.out.1
            have hr0 := Ext.refl w5
            have b5 := fun W (e : Ext w5 W) => b0 W (E5.trans e)
            clear hw5 o5 d0 d1 Er he5 hs5 hwr
            cases C1 : decide (xf < 0)
            · have c1 : 0 ≤ xf := by simpa using C1
              obtain ⟨q, rfl⟩ : ∃ q : Nat, xf = (q : Int) := ⟨xf.toNat, by omega⟩
              cases C2 : decide ((fs.length : Int) ≤ (q : Int))
              · have c2 : q < fs.length := by simp at C2; omega
                have hs := seenC_at hwr5.out.2.1 q (by omega)
                obtain ⟨fb, fu, rfl, g0, -, -⟩ := fac_at (HH.out.fs.ext facC_len (HE.out.trans E5)) q c2
                have hq0 : (0 : Int) ≤ (q : Int) := by omega
                have hq1 : (q : Int) < (fs.length : Int) := by omega
                have hq8 : (q : Int) < 8 := by omega
                have hpx2 : Hid (prBad fs xs j = (false || false || seenB xs j (q : Int) || decide (xl < 0) || decide ((fth fs q).lev ≤ xl))) := by
                  have := hpx.out
                  rw [C1, C2, Int.toNat_natCast] at this; exact this
                clear hpx
                have hpx := hpx2
                cases C3 : seenB xs j (q : Int)
                · cases C4 : decide (xl < 0)
                  · cases C5 : decide ((fth fs q).lev ≤ xl)
                    · have hno : Hid (∀ i, i < j + 1 → prBad fs xs i = false) := all_lt_succ hfb.out (by rw [hpx.out, C3, C4, C5]; rfl)
                      refine wp_region_ext (by kernel_rfl) (by kernel_rfl) hr0 ?_
                      repeat (first | go_big_quiet_step (((fail))) | quiet_step (((fail))))
                      refine wpQuiet_nil ?_
                      rintro _ ⟨nq, rfl⟩
                      have he1 := nq.ok
                      have hb6 := he1.block hwr5.out.2.1
                      have f6 := obj_free hb6 nq.val (Ext.refl _)
                      have hnew : Hid (Ext w1 (nq.val.setCell ⟨y, q, none⟩ (.bool true)) ∧ (nq.val.setCell ⟨y, q, none⟩ (.bool true)).heap[y]? = some (.cells (seenC xs (j + 1)) 151 (0, 0)) ∧ w1.heap.size ≤ y) := ⟨(E5.trans he1).set (p := ⟨y, q, none⟩) hwr5.out.2.2 _, seenC_set hb6 q (by omega) hlt2 (by rw [← HX2.out]), hwr5.out.2.2⟩
                      go_wp2_with (fail)
                      go_roundw
                      case rel => exact ⟨j + 1, by omega, by go_num, hnew, hno⟩
                      case measure => simp [intOf]; omega
                    · have HBD : Hid (anyPrsBad fs fo = true) := anyPrs_on (k := k) (j := j) hlt (by rw [← HX.out]; exact hlt2) (by rw [← HX.out]; rw [hpx.out, C3, C4, C5]; rfl)
                      refine wp_region_ext (by kernel_rfl) (by kernel_rfl) hr0 ?_
                      repeat (first | go_big_quiet_step (((fail))) | quiet_step (((fail))))
                      refine wpQuiet_nil ?_
                      rintro _ ⟨nq, rfl⟩
                      have he1 := nq.ok
                      go_wp2_with (fail)
                      go_ret
                      exact ⟨by rw [HB.out, HBD.out]; rfl, HE.out.trans (E5.trans he1)⟩
                  · have HBD : Hid (anyPrsBad fs fo = true) := anyPrs_on (k := k) (j := j) hlt (by rw [← HX.out]; exact hlt2) (by rw [← HX.out]; rw [hpx.out, C3, C4]; rfl)
                    refine wp_region_ext (by kernel_rfl) (by kernel_rfl) hr0 ?_
                    repeat (first | go_big_quiet_step (((fail))) | quiet_step (((fail))))
                    refine wpQuiet_nil ?_
                    rintro _ ⟨nq, rfl⟩
                    have he1 := nq.ok
                    go_wp2_with (fail)
                    go_ret
                    exact ⟨by rw [HB.out, HBD.out]; rfl, HE.out.trans (E5.trans he1)⟩
                · have HBD : Hid (anyPrsBad fs fo = true) := anyPrs_on (k := k) (j := j) hlt (by rw [← HX.out]; exact hlt2) (by rw [← HX.out]; rw [hpx.out, C3]; rfl)
                  refine wp_region_ext (by kernel_rfl) (by kernel_rfl) hr0 ?_
                  repeat (first | go_big_quiet_step (((fail))) | quiet_step (((fail))))
                  refine wpQuiet_nil ?_
                  rintro _ ⟨nq, rfl⟩
                  have he1 := nq.ok
                  go_wp2_with (fail)
                  go_ret
                  exact ⟨by rw [HB.out, HBD.out]; rfl, HE.out.trans (E5.trans he1)⟩
              · have c2 : fs.length ≤ q := by simp at C2; omega
                have c3 : (fs.length : Int) ≤ (q : Int) := by omega
                have HBD : Hid (anyPrsBad fs fo = true) := anyPrs_on (k := k) (j := j) hlt (by rw [← HX.out]; exact hlt2) (by rw [← HX.out]; rw [hpx.out, C1, C2]; rfl)
                refine wp_region_ext (by kernel_rfl) (by kernel_rfl) hr0 ?_
                repeat (first | go_big_quiet_step (((fail))) | quiet_step (((fail))))
                refine wpQuiet_nil ?_
                rintro _ ⟨nq, rfl⟩
                have he1 := nq.ok
                go_wp2_with (fail)
                go_ret
                exact ⟨by rw [HB.out, HBD.out]; rfl, HE.out.trans (E5.trans he1)⟩
            · have HBD : Hid (anyPrsBad fs fo = true) := anyPrs_on (k := k) (j := j) hlt (by rw [← HX.out]; exact hlt2) (by rw [← HX.out]; rw [hpx.out, C1]; rfl)
              refine wp_region_ext (by kernel_rfl) (by kernel_rfl) hr0 ?_
              repeat (first | go_big_quiet_step (((fail))) | quiet_step (((fail))))
              refine wpQuiet_nil ?_
              rintro _ ⟨nq, rfl⟩
              have he1 := nq.ok
              go_wp2_with (fail)
              go_ret
              exact ⟨by rw [HB.out, HBD.out]; rfl, HE.out.trans (E5.trans he1)⟩
          · obtain rfl : j = xs.length := by omega
            have hno : Hid (∀ j, j < k + 1 → prsBad fs (gth fo j).xs = false) := all_lt_succ hfa.out (by rw [← HX.out]; show prsBad fs xs = false; unfold prsBad; rw [fIdx_none hfb.out]; rfl)
            have hrr := hwr.out.1
            clear hfb
            go_wp2_with (fail)
            go_roundw
            case rel => exact ⟨k + 1, by omega, by go_num, hrr, hno⟩
            case measure => simp [intOf]; omega
      · obtain rfl : k = fo.length := by omega
        have HBD : Hid (anyPrsBad fs fo = false) := by show anyPrsBad fs fo = false; unfold anyPrsBad; rw [fIdx_none hfa.out]; rfl
        clear hfa
        go_wp2_with (fail)
        go_ret
        exact ⟨by rw [HB.out, HBD.out]; rfl, HE.out.trans hr⟩
end Go.Proofs.YtplbofhgmflnlaaGreat
end
section
/-
  Walks: sameInts, slices.Clone, isLevels, allowed, Allowed.
-/
set_option linter.unusedVariables false
set_option linter.unusedSimpArgs false
namespace Go.Proofs.YtplbofhgmflnlaaGreat
open Go.RowKit
def sameB (xs ys : List Int) : Bool := decide (xs = ys)
set_option maxHeartbeats 400000 in
theorem same_any (xs ys : List Int) (a b : Option Addr) (n m c d : Nat) (w : World) (hx : Ints w a xs) (hy : Ints w b ys) (hn : xs.length = n) (hm : ys.length = m) (hn1 : n ≤ 1000000) (hm1 : m ≤ 1000000) :
    Calls Tryz.prog 25 #[.slice a n c, .slice b m d] w (Ret (.bool (sameB xs ys)) w) := by
  have HN := Lib.hid hn; have HM := Lib.hid hm
  have hns : n ≤ xs.length := by omega
  have hms : m ≤ ys.length := by omega
  clear hn hm
  cases T : ((n : Int) != (m : Int))
  · have hnm : n ≤ m := by simp at T; omega
    have hmn : m ≤ n := by simp at T; omega
    go_enter Tryz.func25, Tryz.ntmps25
    go_wp2_with (fail)
    go_loopw [5] (fun i wr => ∃ k : Nat, k ≤ n ∧ i = .int .i64 k ∧ Ext w wr ∧ Hid (∀ j, j < k → nth xs j = nth ys j)) (fun i _ => n - (intOf i).toNat)
    case atStart => exact ⟨0, Nat.zero_le _, rfl, Ext.refl _, fun j hj => by omega⟩
    case round =>
      obtain ⟨k, hk, rfl, hr, hf⟩ := hrel
      by_cases hlt : k < n
      · obtain ⟨b', o', rfl, c0⟩ := hx.at k (by omega)
        obtain ⟨b'', o'', rfl, d0⟩ := hy.at k (by omega)
        have hkm : k < m := by omega
        go_wp2_with (fail)
        refine wp_region_ext (by kernel_rfl) (by kernel_rfl) hr ?_
        repeat (first | go_big_quiet_step (fail) | quiet_step (fail))
        refine wpQuiet_nil ?_
        rintro _ ⟨nq, rfl⟩
        have hq := nq.ok
        cases T2 : (nth xs k != nth ys k)
        · have hf2 : Hid (∀ j, j < k + 1 → nth xs j = nth ys j) := fun j hj => by
            rcases Nat.lt_succ_iff_lt_or_eq.1 hj with h | h
            · exact hf.out j h
            · rw [h]; simpa using T2
          go_wp2_with (fail)
          go_roundw
          case rel => exact ⟨k + 1, by omega, by go_num, hq, hf2⟩
          case measure => simp [intOf]; omega
        · have H2 : Hid (sameB xs ys = false) := by
            have : ¬ nth xs k = nth ys k := by simpa using T2
            refine decide_eq_false fun e => this (by rw [e])
          go_wp2_with (fail)
          go_ret
          exact ⟨by rw [H2.out]; rfl, hq⟩
      · obtain rfl : k = n := by omega
        have H2 : Hid (sameB xs ys = true) := decide_eq_true (ext_nth _ _ (by rw [HN.out, HM.out]; omega) fun i hi => hf.out i (by rw [HN.out] at hi; exact hi))
        go_wp2_with (fail)
        go_ret
        exact ⟨by rw [H2.out]; rfl, hr⟩
  · have H2 : Hid (sameB xs ys = false) := by
      have : ¬ n = m := by simp at T; omega
      exact decide_eq_false fun e => this (by rw [← HN.out, ← HM.out, e])
    go_enter Tryz.func25, Tryz.ntmps25
    go_wp2_with (fail)
    go_ret
    exact ⟨by rw [H2.out]; rfl, Ext.refl _⟩
set_option maxHeartbeats 400000 in
theorem clone_int (a : Option Addr) (c : Nat) (xs : List Int) (w : World) (hx : Ints w a xs) (hn : xs.length ≤ 1000000) :
    Calls Tryz.prog 82 #[.slice a xs.length c] w (RetI xs w) := by
  have hnil := fun (W : World) (a : Option Addr) (n c : Nat) => Lib.run_eql_slice_nil (P := Tryz.prog) W 31 3 a n c 0 0 Tryz.underlying31
  cases a with
  | none =>
    obtain rfl := ints_none hx
    have HN := Lib.hid hn; clear hn
    go_enter Tryz.func82, Tryz.ntmps82
    go_wp2_with (fail)
    go_ret
    exact ⟨none, 0, rfl, Ext.refl w, by exact World.ownsRow_nil _ _ _ _⟩
  | some ad =>
    have happ := app_ints (w.alloc (.cells #[] 3)) w.heap.size 31 _ [] xs (some ad) c (own_empty w 3 1) (hx.ext ((Ext.refl w).alloc _)) (by simp; omega) (by simp)
    have HA := Lib.hid happ
    clear hx hn happ
    go_enter Tryz.func82, Tryz.ntmps82
    go_wp2_with (at_builtin; refine wpList_app _ rfl _ _ 31 rfl _ HA.out ?_; rintro v' w' ⟨hv, hg⟩)
    obtain ⟨a', n', c', rfl⟩ := own_slice hv
    obtain ⟨-, hn', -⟩ := hv.ints
    go_ret
    refine ⟨a', c', by rw [hn']; rfl, grown_ext ((Ext.refl w).alloc _) hg (by simp [Value.ownBlock]), ?_⟩
    rw [hn'] at hv
    exact hv
/-! ### isLevels -/
def levBad (fs : List Fac) (ls : List Int) (i : Nat) : Bool := decide (nth ls i < 0) || decide ((fth fs i).lev ≤ nth ls i)
def levB (fs : List Fac) (ls : List Int) : Bool := decide (ls.length = fs.length) && !(fIdx (levBad fs ls) fs.length).isSome
theorem levB_len {fs : List Fac} {ls : List Int} (h : levB fs ls = true) : ls.length = fs.length := by
  simp only [levB, Bool.and_eq_true, decide_eq_true_eq] at h; exact h.1
theorem levB_at {fs : List Fac} {ls : List Int} (h : levB fs ls = true) (i : Nat) (hi : i < fs.length) : 0 ≤ nth ls i ∧ nth ls i < (fth fs i).lev := by
  simp only [levB, Bool.and_eq_true, Bool.not_eq_true'] at h
  have := fIdx_off h.2 i hi
  simp only [levBad, Bool.or_eq_false_iff, decide_eq_false_iff_not] at this
  omega
set_option maxRecDepth 100000 in
set_option maxHeartbeats 2000000 in
theorem isLevels_any (P : Pw) (a : Option Addr) (ls : List Int) (c : Nat) (w : World) (h : PlanAt w P) (hf : P.fs.length ≤ 1000000) (hl : Ints w a ls) (hn : ls.length ≤ 9223372036854775807) :
    Calls Tryz.prog 83 #[planV P, .slice a ls.length c] w (Ret (.bool (levB P.fs ls)) w) := by
  obtain ⟨fs, fa, fc, fo, ga, gc⟩ := P
  have HH := Lib.hid h; have HL := Lib.hid hl
  clear h hl
  simp only at hf ⊢
  cases T : ((ls.length : Int) != (fs.length : Int))
  · have hnm : ls.length ≤ fs.length := by simp at T; omega
    have hmn : fs.length ≤ ls.length := by simp at T; omega
    have HB : Hid (levB fs ls = !(fIdx (levBad fs ls) fs.length).isSome) := by
      show levB fs ls = _
      unfold levB
      rw [decide_eq_true (by omega)]; rfl
    go_enter Tryz.func83, Tryz.ntmps83
    go_wp2_with (fail)
    generalize hw1 : World.alloc _ _ = w1
    obtain ⟨he, o1, -⟩ := alloc1 hw1
    obtain ⟨b0, b1⟩ := obj_cells2 o1
    clear hw1 o1
    have HE := Lib.hid he
    have E1 := Ext.refl w1
    clear he
    go_wp2_with (fail)
    go_loopw [16] (fun i wr => ∃ k : Nat, k ≤ fs.length ∧ i = .int .i64 k ∧ Ext w1 wr ∧ Hid (∀ j, j < k → levBad fs ls j = false)) (fun i _ => fs.length - (intOf i).toNat)
    case atStart => exact ⟨0, Nat.zero_le _, rfl, Ext.refl _, fun j hj => by omega⟩
    case round =>
      obtain ⟨k, hk, rfl, hr, hfa⟩ := hrel
      by_cases hlt : k < fs.length
      · obtain ⟨fb, fu, rfl, g0, g1, g2⟩ := fac_at (HH.out.fs.ext facC_len (HE.out.trans hr)) k hlt
        obtain ⟨lb, lo, rfl, d0⟩ := (HL.out.ext (HE.out.trans hr)).at k (by omega)
        have hkl : k < ls.length := by omega
        have hbx : Hid (levBad fs ls k = (decide (nth ls k < 0) || decide ((fth fs k).lev ≤ nth ls k))) := rfl
        have Er := Ext.refl wr
        go_wp2_with (fail)
        generalize hw3 : World.alloc wr _ = w3
        obtain ⟨he3, o3, hs3⟩ := alloc1 hw3
        obtain ⟨z0, z1, z2⟩ := obj_cells3 o3
        have d3 := fun W (e : Ext w3 W) => d0 W (he3.trans e)
        have hr3 := hr.trans he3
        have hr0 := Ext.refl w3
        clear hw3 o3 d0 g0 g1 g2 Er
        cases C1 : decide (nth ls k < 0)
        · cases C2 : decide ((fth fs k).lev ≤ nth ls k)
          · have hno : Hid (∀ j, j < k + 1 → levBad fs ls j = false) := all_lt_succ hfa.out (by rw [hbx.out, C1, C2]; rfl)
            refine wp_region_ext (by kernel_rfl) (by kernel_rfl) hr0 ?_
            repeat (first | go_big_quiet_step (((fail))) | quiet_step (((fail))))
            refine wpQuiet_nil ?_
            rintro _ ⟨nq, rfl⟩
            have hq := nq.ok
            have hrq := hr3.trans hq
            go_wp2_with (fail)
            go_roundw
            case rel => exact ⟨k + 1, by omega, by go_num, hrq, hno⟩
            case measure => simp [intOf]; omega
          · have HBD : Hid (levB fs ls = false) := by rw [Hid, HB.out, fIdx_isSome hlt (by rw [hbx.out, C1, C2]; rfl)]; rfl
            refine wp_region_ext (by kernel_rfl) (by kernel_rfl) hr0 ?_
            repeat (first | go_big_quiet_step (((fail))) | quiet_step (((fail))))
            refine wpQuiet_nil ?_
            rintro _ ⟨nq, rfl⟩
            have hq := nq.ok
            have hrq := hr3.trans hq
            go_wp2_with (fail)
            go_ret
            exact ⟨by rw [HBD.out]; rfl, HE.out.trans hrq⟩
        · have HBD : Hid (levB fs ls = false) := by rw [Hid, HB.out, fIdx_isSome hlt (by rw [hbx.out, C1]; rfl)]; rfl
          refine wp_region_ext (by kernel_rfl) (by kernel_rfl) hr0 ?_
          repeat (first | go_big_quiet_step (((fail))) | quiet_step (((fail))))
          refine wpQuiet_nil ?_
          rintro _ ⟨nq, rfl⟩
          have hq := nq.ok
          have hrq := hr3.trans hq
          go_wp2_with (fail)
          go_ret
          exact ⟨by rw [HBD.out]; rfl, HE.out.trans hrq⟩
      · obtain rfl : k = fs.length := by omega
        have HBD : Hid (levB fs ls = true) := by rw [Hid, HB.out, fIdx_none hfa.out]; rfl
        go_wp2_with (fail)
        go_ret
        exact ⟨by rw [HBD.out]; rfl, HE.out.trans hr⟩
  · have H2 : Hid (levB fs ls = false) := by
      have : ¬ ls.length = fs.length := by simp at T; omega
      show levB fs ls = false
      unfold levB; rw [decide_eq_false this]; rfl
    go_enter Tryz.func83, Tryz.ntmps83
    go_wp2_with (fail)
    generalize hw1 : World.alloc _ _ = w1
    obtain ⟨he, o1, -⟩ := alloc1 hw1
    obtain ⟨b0, b1⟩ := obj_cells2 o1
    clear hw1 o1
    have E1 := Ext.refl w1
    go_wp2_with (fail)
    go_ret
    exact ⟨by rw [H2.out]; rfl, he⟩
/-! ### allowed -/
def prOff (ls : List Int) (x : Pr) : Bool := nth ls x.fac.toNat != x.lev
def grpOn (ls : List Int) (g : Sl Pr) : Bool := !(g.xs.any (prOff ls))
def alwB (fo : List (Sl Pr)) (ls : List Int) : Bool := !(fo.any (grpOn ls))
theorem enters118 : Enters Tryz.prog 118 := Enters.mk Tryz.func118 rfl rfl
theorem enters116 : Enters Tryz.prog 116 := Enters.mk Tryz.func116 rfl rfl
set_option maxHeartbeats 1000000 in
theorem off_any (B : Nat) (a : Option Addr) (ls : List Int) (c : Nat) (x : Pr) (w : World) (hl : Ints w a ls) (g0 : ∀ W, Ext w W → W.cell? ⟨B, 0, none⟩ = some (.slice a ls.length c)) (h0 : 0 ≤ x.fac) (h1 : x.fac < ls.length) :
    Calls Tryz.prog 118 #[prV x, .pointer (some ⟨B, 0, none⟩)] w (Ret (.bool (prOff ls x)) w) := by
  obtain ⟨xf, xl⟩ := x
  obtain ⟨q, rfl⟩ : ∃ q : Nat, xf = (q : Int) := ⟨xf.toNat, by simp only at h0; omega⟩
  have hq : q < ls.length := by simp only at h1; omega
  clear h0
  have HB : Hid (prOff ls ⟨(q : Int), xl⟩ = (nth ls q != xl)) := by show prOff _ _ = _; unfold prOff; rw [Int.toNat_natCast]
  obtain ⟨b, o, rfl, c0⟩ := hl.at q hq
  have hq0 : (0 : Int) ≤ (q : Int) := by omega
  have hq1 : (q : Int) < (ls.length : Int) := by omega
  clear hl h1
  go_enter Tryz.func118, Tryz.ntmps118
  go_wp2_with (fail)
  generalize hw1 : World.alloc _ _ = w1
  obtain ⟨he, o1, -⟩ := alloc1 hw1
  obtain ⟨b0, b1⟩ := obj_cells2 o1
  have c1 := fun W (e : Ext w1 W) => c0 W (he.trans e)
  have g1 := fun W (e : Ext w1 W) => g0 W (he.trans e)
  have hr0 := Ext.refl w1
  clear hw1 o1 c0 g0
  refine wp_region_ext (by kernel_rfl) (by kernel_rfl) hr0 ?_
  repeat (first | go_big_quiet_step (((fail))) | quiet_step (((fail))))
  refine wpQuiet_nil ?_
  rintro _ ⟨nq, rfl⟩
  have hq := nq.ok
  go_wp2_with (fail)
  go_ret
  exact ⟨by rw [HB.out]; rfl, he.trans hq⟩
set_option maxHeartbeats 1000000 in
theorem grpOn_any (B : Nat) (a : Option Addr) (ls : List Int) (c : Nat) (g : Sl Pr) (w : World) (hl : Ints w a ls) (g0 : ∀ W, Ext w W → W.cell? ⟨B, 0, none⟩ = some (.slice a ls.length c)) (hg : Prs w g.a g.xs) (hn : g.xs.length ≤ 1000000)
    (hb : ∀ i, i < g.xs.length → 0 ≤ (pth g.xs i).fac ∧ (pth g.xs i).fac < ls.length) :
    Calls Tryz.prog 116 #[grpV g, .pointer (some ⟨B, 0, none⟩)] w (Ret (.bool (grpOn ls g)) w) := by
  obtain ⟨ga, xs, gc⟩ := g
  have H := fun W (e : Ext w W) => containsFunc_pr 118 #[.pointer (some ⟨B, 0, none⟩)] ga xs.length gc xs (prOff ls) W rfl hn (hg.ext prC_len e) fun i hi =>
    ⟨enters118, fun W' e' => off_any B a ls c (pth xs i) W' (hl.ext (e.trans e')) (fun W'' e'' => g0 W'' ((e.trans e').trans e'')) (hb i hi).1 (hb i hi).2⟩
  have HH := Lib.hid H
  clear H hl hg hb g0
  obtain ⟨q, hq⟩ : ∃ q, q = xs.any (prOff ls) := ⟨_, rfl⟩
  have HB : Hid (grpOn ls ⟨ga, xs, gc⟩ = !q) := by rw [hq]; rfl
  rw [← hq] at HH
  clear hq
  have E := Ext.refl w
  go_enter Tryz.func116, Tryz.ntmps116
  go_wp2_with (go_at_call 117; (with_reducible refine (HH.out _ E).mono ?_); rintro e w' ⟨rfl, he⟩)
  go_ret
  exact ⟨by rw [HB.out]; rfl, he⟩
/-- What is asked of the combinations of a plan, that 'allowed' can look into levels. -/
structure FoOk (w : World) (P : Pw) (n : Nat) : Prop where
  fo : Grps w P.ga P.fo
  ps : ∀ i, i < P.fo.length → Prs w (gth P.fo i).a (gth P.fo i).xs
  fl : P.fo.length ≤ 1000000
  pl : ∀ i, i < P.fo.length → (gth P.fo i).xs.length ≤ 1000000
  bd : ∀ i, i < P.fo.length → ∀ j, j < (gth P.fo i).xs.length → 0 ≤ (pth (gth P.fo i).xs j).fac ∧ (pth (gth P.fo i).xs j).fac < n
theorem FoOk.ext {w w' : World} {P : Pw} {n : Nat} (h : FoOk w P n) (e : Ext w w') : FoOk w' P n :=
  ⟨h.fo.ext grpC_len e, fun i hi => (h.ps i hi).ext prC_len e, h.fl, h.pl, h.bd⟩
set_option maxHeartbeats 1000000 in
theorem allowed_any (P : Pw) (a : Option Addr) (ls : List Int) (c : Nat) (w : World) (h : FoOk w P ls.length) (hl : Ints w a ls) :
    Calls Tryz.prog 81 #[planV P, .slice a ls.length c] w (Ret (.bool (alwB P.fo ls)) w) := by
  obtain ⟨fs, fa, fc, fo, ga, gc⟩ := P
  have HH := Lib.hid h; have HL := Lib.hid hl
  obtain ⟨q, hq⟩ : ∃ q, q = fo.any (grpOn ls) := ⟨_, rfl⟩
  have HB : Hid (alwB fo ls = !q) := by rw [hq]; rfl
  have HQ := Lib.hid hq
  clear h hl hq
  go_enter Tryz.func81, Tryz.ntmps81
  go_wp2_with (fail)
  generalize hw1 : World.alloc _ _ = w1
  obtain ⟨he, o1, o2, -⟩ := alloc2 hw1
  obtain ⟨b0, b1⟩ := obj_cells2 o1
  have g0 := obj_cells1 o2
  have hcf := fun W (e : Ext w1 W) => containsFunc_grp 116 #[.pointer (some ⟨w.heap.size + 1, 0, none⟩)] ga fo.length gc fo (grpOn ls) W rfl HH.out.fl (HH.out.fo.ext grpC_len (he.trans e)) fun i hi =>
    ⟨enters116, fun W' e' => grpOn_any _ a ls c (gth fo i) W' (HL.out.ext ((he.trans e).trans e')) (fun W'' e'' => g0 W'' ((e.trans e').trans e'')) ((HH.out.ps i hi).ext prC_len ((he.trans e).trans e')) (HH.out.pl i hi) (HH.out.bd i hi)⟩
  rw [← HQ.out] at hcf
  have HC := Lib.hid hcf
  clear hcf hw1 o1 o2
  have E1 := Ext.refl w1
  go_wp2_with (go_at_call 115; (with_reducible refine (HC.out _ E1).mono ?_); rintro e w' ⟨rfl, he'⟩)
  go_ret
  exact ⟨by rw [HB.out]; rfl, he.trans he'⟩
end Go.Proofs.YtplbofhgmflnlaaGreat
end
section
/-
  Walks: draws.below, shuffle at []int, numbers, Shuffle, the reference's Shuffle (printed by genm3.py).
-/
set_option linter.unusedVariables false
set_option linter.unusedSimpArgs false
namespace Go.Proofs.YtplbofhgmflnlaaGreat
open Go.RowKit
/-- The next state of the draws. -/
def lcg (s : Int) : Int := IntKind.u64.wrap (IntKind.u64.wrap (s * 6364136223846793005) + 1442695040888963407)
/-- The number that a state draws. -/
def drw (s m : Int) : Int := wrap64 (IntKind.u64.wrap (s / 4294967296 * IntKind.u64.wrap m) / 4294967296)
theorem lcg_bd (s : Int) : 0 ≤ lcg s ∧ lcg s < 18446744073709551616 := by
  unfold lcg; rw [IntKind.wrap_u64]; omega
theorem drw_bd (s m : Int) (h0 : 0 ≤ s) (h1 : s < 18446744073709551616) (hm : 1 ≤ m) (hm1 : m ≤ 1000000) : 0 ≤ drw s m ∧ drw s m < m := by
  unfold drw
  have e1 : IntKind.u64.wrap m = m := by rw [IntKind.wrap_u64]; omega
  rw [e1]
  obtain ⟨q, hq⟩ : ∃ q, q = s / 4294967296 := ⟨_, rfl⟩
  have hq0 : 0 ≤ q := by omega
  have hq1 : q ≤ 4294967295 := by omega
  rw [← hq]
  have h2 : 0 ≤ q * m := Int.mul_nonneg hq0 (by omega)
  have h3 : q * m ≤ 4294967295 * m := Int.mul_le_mul_of_nonneg_right hq1 (by omega)
  have e2 : IntKind.u64.wrap (q * m) = q * m := by rw [IntKind.wrap_u64]; omega
  rw [e2]
  have hd : 0 ≤ q * m / 4294967296 ∧ q * m / 4294967296 ≤ 1000000 := by omega
  have e3 : wrap64 (q * m / 4294967296) = q * m / 4294967296 := IntWalk.wrap64_in _ (by omega)
  rw [e3]; omega
section
variable {α : Type} [Inhabited α]
def swp (l : List α) (i j : Nat) : List α := (l.set i (l.getD j default)).set j (l.getD i default)
theorem swp_len (l : List α) (i j : Nat) : (swp l i j).length = l.length := by simp [swp]
/-- What is left to be swapped from the places below k on. -/
def shufK : Nat → Int → List α → List α
  | 0, _, l => l
  | 1, _, l => l
  | k + 2, s, l => shufK (k + 1) (lcg s) (swp l (k + 1) (drw (lcg s) ((k + 2 : Nat) : Int)).toNat)
theorem shufK_step (x : Nat) (hx : 1 ≤ x) (s : Int) (l : List α) : shufK (x + 1) s l = shufK x (lcg s) (swp l x (drw (lcg s) ((x : Int) + 1)).toNat) := by
  match x, hx with
  | k + 1, _ => simp only [shufK]; rfl
def shufL (s : Int) (l : List α) : List α := shufK l.length s l
end
theorem swp_int (l : List Int) (i j : Nat) : swp l i j = (l.set i (nth l j)).set j (nth l i) := rfl
set_option maxHeartbeats 400000 in
theorem below_any (B : Nat) (s m : Int) (w : World) (hc : w.cell? ⟨B, 0, none⟩ = some (.int .u64 s)) (hf : w.frozen? ⟨B, 0, none⟩ = false) :
    Calls Tryz.prog 114 #[.pointer (some ⟨B, 0, none⟩), .int .i64 m] w (fun e w' => e = .returned (.int .i64 (drw (lcg s) m)) ∧ w' = w.setCell ⟨B, 0, none⟩ (.int .u64 (lcg s))) := by
  go_enter Tryz.func114, Tryz.ntmps114
  go_wp2_with (fail)
  go_ret
  exact ⟨rfl, rfl⟩
set_option maxRecDepth 100000 in
set_option maxHeartbeats 4000000 in
theorem sw_law {g n c x y : Nat} {vi vj : Int} {wr : World} {S R : World → Prop} (hi0 : (0 : Int) ≤ (x : Int)) (hi1 : (x : Int) < (n : Int)) (hj0 : (0 : Int) ≤ (y : Int)) (hj1 : (y : Int) < (n : Int)) (HCI : Hid (∀ W, Ext wr W → W.cell? ⟨g, x, none⟩ = some (.int .i64 vi))) (HCJ : Hid (∀ W, Ext wr W → W.cell? ⟨g, y, none⟩ = some (.int .i64 vj))) (HF : Hid (∀ W, Ext wr W → W.frozen? ⟨g, x, none⟩ = false)) (HS : Hid (∀ W, Ext wr W → S (W.setCell ⟨g, x, none⟩ (.int .i64 vj)))) (HCJ2 : Hid (∀ W, S W → W.cell? ⟨g, y, none⟩ = some (.int .i64 vj))) (HF2 : Hid (∀ W, S W → W.frozen? ⟨g, y, none⟩ = false)) (HR : Hid (∀ W, S W → R (W.setCell ⟨g, y, none⟩ (.int .i64 vi)))) {Q : Exit → Act → World → Prop} (aZ : Act) (hsz : aZ.tmps.size = 32) (o1 : aZ.tmps[1]?.getD undef = .slice (some ⟨g, 0, none⟩) n c) (o5 : aZ.tmps[5]?.getD undef = .int .i64 (x : Int)) (o6 : aZ.tmps[6]?.getD undef = .int .i64 (y : Int))
    (hend : ∀ (vs : Nat → Value) (w9 : World) (ls9 : Nat → Bool), (∀ j : Nat, j < 16 → ls9 j = true) → ((ls9 15 = true → ls9 13 = true) ∧ (ls9 13 = true → ls9 7 = true ∧ ls9 11 = true) ∧ (ls9 13 = false → Ext wr w9) ∧ (ls9 13 = true → ls9 15 = false → S w9) ∧ (ls9 15 = true → R w9)) → (vs 0 = .slice (some ⟨g, 0, none⟩) n c) → (vs 1 = .int .i64 (x : Int)) → (vs 2 = .slice (some ⟨g, 0, none⟩) n c) → (vs 3 = .int .i64 (y : Int)) → (vs 4 = .slice (some ⟨g, 0, none⟩) n c) → (vs 5 = .int .i64 (y : Int)) → (vs 6 = .pointer (some ⟨g, y, none⟩)) → (vs 7 = .int .i64 vj) → (vs 8 = .slice (some ⟨g, 0, none⟩) n c) → (vs 9 = .int .i64 (x : Int)) → (vs 10 = .pointer (some ⟨g, x, none⟩)) → (vs 11 = .int .i64 vi) → (vs 12 = .pointer (some ⟨g, x, none⟩)) → (vs 14 = .pointer (some ⟨g, y, none⟩)) → Q .normal ((((((((((((((aZ.put (some 18) (vs 0)).put (some 19) (vs 1)).put (some 20) (vs 2)).put (some 21) (vs 3)).put (some 22) (vs 4)).put (some 23) (vs 5)).put (some 24) (vs 6)).put (some 25) (vs 7)).put (some 26) (vs 8)).put (some 27) (vs 9)).put (some 28) (vs 10)).put (some 29) (vs 11)).put (some 30) (vs 12)).put (some 31) (vs 14)) w9) : (regOf Tryz.f80 5).wp Tryz.prog Q aZ wr := by
  conv => arg 2; whnf
  refine wp_region_said3 (fun i v wz => match i with
    | 0 => v = .slice (some ⟨g, 0, none⟩) n c
    | 1 => v = .int .i64 (x : Int)
    | 2 => v = .slice (some ⟨g, 0, none⟩) n c
    | 3 => v = .int .i64 (y : Int)
    | 4 => v = .slice (some ⟨g, 0, none⟩) n c
    | 5 => v = .int .i64 (y : Int)
    | 6 => v = .pointer (some ⟨g, y, none⟩)
    | 7 => v = .int .i64 vj
    | 8 => v = .slice (some ⟨g, 0, none⟩) n c
    | 9 => v = .int .i64 (x : Int)
    | 10 => v = .pointer (some ⟨g, x, none⟩)
    | 11 => v = .int .i64 vi
    | 12 => v = .pointer (some ⟨g, x, none⟩)
    | 13 => True
    | 14 => v = .pointer (some ⟨g, y, none⟩)
    | _ => True) (fun ls vs wz => (ls 15 = true → ls 13 = true) ∧ (ls 13 = true → ls 7 = true ∧ ls 11 = true) ∧ (ls 13 = false → Ext wr wz) ∧ (ls 13 = true → ls 15 = false → S wz) ∧ (ls 15 = true → R wz)) (by kernel_rfl) (by kernel_rfl) (by rw [hsz]; kernel_rfl) ?_ ?_ ?_
  · exact ⟨fun e => (by cases e), fun e => (by cases e), fun _ => (Ext.refl _).drew, fun e => (by cases e), fun e => (by cases e)⟩
  · refine ⟨?_, ?_, ?_, ?_, ?_, ?_, ?_, ?_, ?_, ?_, ?_, ?_, ?_, ?_, ?_, ?_, trivial⟩
    · intro ls vs a w1 hi hJ hold hdep hdon hcl K hK
      have q1 : a.tmps[1]?.getD undef = .slice (some ⟨g, 0, none⟩) n c := (hold 1 (by kernel_rfl)).trans o1
      rw [if_pos (by rfl)]
      clear hold hdep hend hdon hcl o1 o5 o6
      have HJ := Lib.hid hJ
      clear hJ
      go_simp
      exact hK _ _ (fun _ _ _ h => h) HJ.out rfl
    · intro ls vs a w1 hi hJ hold hdep hdon hcl K hK
      have q5 : a.tmps[5]?.getD undef = .int .i64 (x : Int) := (hold 5 (by kernel_rfl)).trans o5
      rw [if_pos (by rfl)]
      clear hold hdep hend hdon hcl o1 o5 o6
      have HJ := Lib.hid hJ
      clear hJ
      go_simp
      exact hK _ _ (fun _ _ _ h => h) HJ.out rfl
    · intro ls vs a w1 hi hJ hold hdep hdon hcl K hK
      have q1 : a.tmps[1]?.getD undef = .slice (some ⟨g, 0, none⟩) n c := (hold 1 (by kernel_rfl)).trans o1
      rw [if_pos (by rfl)]
      clear hold hdep hend hdon hcl o1 o5 o6
      have HJ := Lib.hid hJ
      clear hJ
      go_simp
      exact hK _ _ (fun _ _ _ h => h) HJ.out rfl
    · intro ls vs a w1 hi hJ hold hdep hdon hcl K hK
      have q6 : a.tmps[6]?.getD undef = .int .i64 (y : Int) := (hold 6 (by kernel_rfl)).trans o6
      rw [if_pos (by rfl)]
      clear hold hdep hend hdon hcl o1 o5 o6
      have HJ := Lib.hid hJ
      clear hJ
      go_simp
      exact hK _ _ (fun _ _ _ h => h) HJ.out rfl
    · intro ls vs a w1 hi hJ hold hdep hdon hcl K hK
      have q1 : a.tmps[1]?.getD undef = .slice (some ⟨g, 0, none⟩) n c := (hold 1 (by kernel_rfl)).trans o1
      rw [if_pos (by rfl)]
      clear hold hdep hend hdon hcl o1 o5 o6
      have HJ := Lib.hid hJ
      clear hJ
      go_simp
      exact hK _ _ (fun _ _ _ h => h) HJ.out rfl
    · intro ls vs a w1 hi hJ hold hdep hdon hcl K hK
      have q6 : a.tmps[6]?.getD undef = .int .i64 (y : Int) := (hold 6 (by kernel_rfl)).trans o6
      rw [if_pos (by rfl)]
      clear hold hdep hend hdon hcl o1 o5 o6
      have HJ := Lib.hid hJ
      clear hJ
      go_simp
      exact hK _ _ (fun _ _ _ h => h) HJ.out rfl
    · intro ls vs a w1 hi hJ hold hdep hdon hcl K hK
      have q22 : a.tmps[22]?.getD undef = .slice (some ⟨g, 0, none⟩) n c := (hdep 4 22 (by kernel_rfl) (by kernel_rfl)).2.1.trans (hdep 4 22 (by kernel_rfl) (by kernel_rfl)).2.2
      have q23 : a.tmps[23]?.getD undef = .int .i64 (y : Int) := (hdep 5 23 (by kernel_rfl) (by kernel_rfl)).2.1.trans (hdep 5 23 (by kernel_rfl) (by kernel_rfl)).2.2
      rw [if_pos (by rfl)]
      clear hold hdep hend hdon hcl o1 o5 o6
      have HJ := Lib.hid hJ
      clear hJ
      go_simp
      exact hK _ _ (fun _ _ _ h => h) HJ.out rfl
    · intro ls vs a w1 hi hJ hold hdep hdon hcl K hK
      have q24 : a.tmps[24]?.getD undef = .pointer (some ⟨g, y, none⟩) := (hdep 6 24 (by kernel_rfl) (by kernel_rfl)).2.1.trans (hdep 6 24 (by kernel_rfl) (by kernel_rfl)).2.2
      rw [if_pos (by rfl)]
      clear hold hdep hend hdon hcl o1 o5 o6
      have HJ := Lib.hid hJ
      clear hJ
      obtain ⟨j1, j2, j3, j4, j5⟩ := HJ.out
      have hik : ls 7 = false := hi
      have h13 : ls 13 = false := by
        cases e : ls 13 with
        | false => rfl
        | true => have := j2 e; rw [hik] at this; simp at this
      have c7 := HCJ.out w1 (j3 h13)
      go_simp
      exact hK _ _ (fun _ _ _ h => h) ⟨fun e => by have := j1 (by simpa using e); simp [this], fun e => by have := j2 (by simpa using e); simp [this], fun e => j3 (by simpa using e), fun e e2 => j4 (by simpa using e) (by simpa using e2), fun e => j5 (by simpa using e)⟩ rfl
    · intro ls vs a w1 hi hJ hold hdep hdon hcl K hK
      have q1 : a.tmps[1]?.getD undef = .slice (some ⟨g, 0, none⟩) n c := (hold 1 (by kernel_rfl)).trans o1
      rw [if_pos (by rfl)]
      clear hold hdep hend hdon hcl o1 o5 o6
      have HJ := Lib.hid hJ
      clear hJ
      go_simp
      exact hK _ _ (fun _ _ _ h => h) HJ.out rfl
    · intro ls vs a w1 hi hJ hold hdep hdon hcl K hK
      have q5 : a.tmps[5]?.getD undef = .int .i64 (x : Int) := (hold 5 (by kernel_rfl)).trans o5
      rw [if_pos (by rfl)]
      clear hold hdep hend hdon hcl o1 o5 o6
      have HJ := Lib.hid hJ
      clear hJ
      go_simp
      exact hK _ _ (fun _ _ _ h => h) HJ.out rfl
    · intro ls vs a w1 hi hJ hold hdep hdon hcl K hK
      have q26 : a.tmps[26]?.getD undef = .slice (some ⟨g, 0, none⟩) n c := (hdep 8 26 (by kernel_rfl) (by kernel_rfl)).2.1.trans (hdep 8 26 (by kernel_rfl) (by kernel_rfl)).2.2
      have q27 : a.tmps[27]?.getD undef = .int .i64 (x : Int) := (hdep 9 27 (by kernel_rfl) (by kernel_rfl)).2.1.trans (hdep 9 27 (by kernel_rfl) (by kernel_rfl)).2.2
      rw [if_pos (by rfl)]
      clear hold hdep hend hdon hcl o1 o5 o6
      have HJ := Lib.hid hJ
      clear hJ
      go_simp
      exact hK _ _ (fun _ _ _ h => h) HJ.out rfl
    · intro ls vs a w1 hi hJ hold hdep hdon hcl K hK
      have q28 : a.tmps[28]?.getD undef = .pointer (some ⟨g, x, none⟩) := (hdep 10 28 (by kernel_rfl) (by kernel_rfl)).2.1.trans (hdep 10 28 (by kernel_rfl) (by kernel_rfl)).2.2
      rw [if_pos (by rfl)]
      clear hold hdep hend hdon hcl o1 o5 o6
      have HJ := Lib.hid hJ
      clear hJ
      obtain ⟨j1, j2, j3, j4, j5⟩ := HJ.out
      have hik : ls 11 = false := hi
      have h13 : ls 13 = false := by
        cases e : ls 13 with
        | false => rfl
        | true => have := j2 e; rw [hik] at this; simp at this
      have c7 := HCI.out w1 (j3 h13)
      go_simp
      exact hK _ _ (fun _ _ _ h => h) ⟨fun e => by have := j1 (by simpa using e); simp [this], fun e => by have := j2 (by simpa using e); simp [this], fun e => j3 (by simpa using e), fun e e2 => j4 (by simpa using e) (by simpa using e2), fun e => j5 (by simpa using e)⟩ rfl
    · intro ls vs a w1 hi hJ hold hdep hdon hcl K hK
      have q18 : a.tmps[18]?.getD undef = .slice (some ⟨g, 0, none⟩) n c := (hdep 0 18 (by kernel_rfl) (by kernel_rfl)).2.1.trans (hdep 0 18 (by kernel_rfl) (by kernel_rfl)).2.2
      have q19 : a.tmps[19]?.getD undef = .int .i64 (x : Int) := (hdep 1 19 (by kernel_rfl) (by kernel_rfl)).2.1.trans (hdep 1 19 (by kernel_rfl) (by kernel_rfl)).2.2
      rw [if_pos (by rfl)]
      clear hold hdep hend hdon hcl o1 o5 o6
      have HJ := Lib.hid hJ
      clear hJ
      go_simp
      exact hK _ _ (fun _ _ _ h => h) HJ.out rfl
    · intro ls vs a w1 hi hJ hold hdep hdon hcl K hK
      have q25 : a.tmps[25]?.getD undef = .int .i64 vj := (hdep 7 25 (by kernel_rfl) (by kernel_rfl)).2.1.trans (hdep 7 25 (by kernel_rfl) (by kernel_rfl)).2.2
      have q30 : a.tmps[30]?.getD undef = .pointer (some ⟨g, x, none⟩) := (hdep 12 30 (by kernel_rfl) (by kernel_rfl)).2.1.trans (hdep 12 30 (by kernel_rfl) (by kernel_rfl)).2.2
      have hl7 := hdon 7 (by kernel_rfl)
      have hl11 := hdon 11 (by kernel_rfl)
      rw [if_pos (by rfl)]
      clear hold hdep hend hdon hcl o1 o5 o6
      have HJ := Lib.hid hJ
      clear hJ
      obtain ⟨j1, j2, j3, j4, j5⟩ := HJ.out
      have hik : ls 13 = false := hi
      have h15 : ls 15 = false := by
        cases e : ls 15 with
        | false => rfl
        | true => have := j1 e; rw [hik] at this; cases this
      have hx := j3 hik
      have c1 := HCI.out w1 hx
      have f1 := HF.out w1 hx
      have s1 := HS.out w1 hx
      have hl7' : ls 7 = true := hl7
      have hl11' : ls 11 = true := hl11
      go_simp
      exact hK undef _ (fun _ _ _ h => h) ⟨fun _ => by simp, fun _ => by simp [hl7', hl11'], fun e => by simp at e, fun _ _ => s1, fun e => by simp [h15] at e⟩ trivial
    · intro ls vs a w1 hi hJ hold hdep hdon hcl K hK
      have q20 : a.tmps[20]?.getD undef = .slice (some ⟨g, 0, none⟩) n c := (hdep 2 20 (by kernel_rfl) (by kernel_rfl)).2.1.trans (hdep 2 20 (by kernel_rfl) (by kernel_rfl)).2.2
      have q21 : a.tmps[21]?.getD undef = .int .i64 (y : Int) := (hdep 3 21 (by kernel_rfl) (by kernel_rfl)).2.1.trans (hdep 3 21 (by kernel_rfl) (by kernel_rfl)).2.2
      rw [if_pos (by rfl)]
      clear hold hdep hend hdon hcl o1 o5 o6
      have HJ := Lib.hid hJ
      clear hJ
      go_simp
      exact hK _ _ (fun _ _ _ h => h) HJ.out rfl
    · intro ls vs a w1 hi hJ hold hdep hdon hcl K hK
      have q29 : a.tmps[29]?.getD undef = .int .i64 vi := (hdep 11 29 (by kernel_rfl) (by kernel_rfl)).2.1.trans (hdep 11 29 (by kernel_rfl) (by kernel_rfl)).2.2
      have q31 : a.tmps[31]?.getD undef = .pointer (some ⟨g, y, none⟩) := (hdep 14 31 (by kernel_rfl) (by kernel_rfl)).2.1.trans (hdep 14 31 (by kernel_rfl) (by kernel_rfl)).2.2
      have hl13 := hdon 13 (by kernel_rfl)
      rw [if_pos (by rfl)]
      clear hold hdep hend hdon hcl o1 o5 o6
      have HJ := Lib.hid hJ
      clear hJ
      obtain ⟨j1, j2, j3, j4, j5⟩ := HJ.out
      have hik : ls 15 = false := hi
      have hl13' : ls 13 = true := hl13
      have hs := j4 hl13' hik
      have c1 := HCJ2.out w1 hs
      have f1 := HF2.out w1 hs
      have r1 := HR.out w1 hs
      go_simp
      exact hK undef _ (fun _ _ _ h => h) ⟨fun _ => by simp [hl13'], fun e => by have := j2 hl13'; simp [this], fun e => by simp [hl13'] at e, fun _ e => by simp at e, fun _ => r1⟩ trivial
  · intro vs w9 ls9 hl9 hJ9 hφ
    have e0 := hφ 0 (by kernel_rfl)
    have e1 := hφ 1 (by kernel_rfl)
    have e2 := hφ 2 (by kernel_rfl)
    have e3 := hφ 3 (by kernel_rfl)
    have e4 := hφ 4 (by kernel_rfl)
    have e5 := hφ 5 (by kernel_rfl)
    have e6 := hφ 6 (by kernel_rfl)
    have e7 := hφ 7 (by kernel_rfl)
    have e8 := hφ 8 (by kernel_rfl)
    have e9 := hφ 9 (by kernel_rfl)
    have e10 := hφ 10 (by kernel_rfl)
    have e11 := hφ 11 (by kernel_rfl)
    have e12 := hφ 12 (by kernel_rfl)
    have e14 := hφ 14 (by kernel_rfl)
    have hq := hend vs w9 ls9 hl9 hJ9 e0 e1 e2 e3 e4 e5 e6 e7 e8 e9 e10 e11 e12 e14
    simp only [Act.put] at hq
    simp only [putAll, Act.put]
    exact hq

theorem ownI_ne {w : World} {B g n c D o : Nat} {xs : List Int} (hn : xs.length = n) (h : OwnI w B (.slice (some ⟨g, 0, none⟩) n c) xs) (hne : g ≠ D) (v : Value) : OwnI (w.setCell ⟨D, o, none⟩ v) B (.slice (some ⟨g, 0, none⟩) n c) xs := by
  subst hn
  exact own_of_block h fun k hk => by
    simp only [Value.ownBlock, Option.some.injEq] at hk
    subst hk
    exact heap_set_ne v hne
set_option maxRecDepth 100000 in
set_option maxHeartbeats 2000000 in
theorem shuffle_int (B g n c : Nat) (s : Int) (xs : List Int) (w : World) (hn : xs.length = n) (hm : n ≤ 1000000) (hx : OwnI w B (.slice (some ⟨g, 0, none⟩) n c) xs) (hg : g < w.heap.size) :
    Calls Tryz.prog 80 #[.int .u64 s, .slice (some ⟨g, 0, none⟩) n c] w (fun e w' => e = .returned (.tuple #[]) ∧ ExtX g w w' ∧ OwnI w' B (.slice (some ⟨g, 0, none⟩) n c) (shufK n s xs)) := by
  have HX := Lib.hid hx; have HN := Lib.hid hn
  clear hx hn
  go_enter Tryz.func80, Tryz.ntmps80
  go_wp2_with (fail)
  generalize hw1 : World.alloc _ _ = w1
  obtain ⟨he, o1, -⟩ := alloc1 hw1
  have HO := Lib.hid (HX.out.ext he)
  have HW : Hid (ExtX g w w1) := he.x
  have HG := Lib.hid hg
  obtain ⟨D, hD⟩ : ∃ D, D = w.heap.size := ⟨_, rfl⟩
  have HD := Lib.hid hD
  rw [← hD] at o1 ⊢
  have hgD : g ≠ D := by omega
  have HO1 := Lib.hid o1
  clear hw1 o1 he hD hg
  have HGD := Lib.hid hgD
  clear hgD
  go_loopw [5, 6] (fun i _ wr => ∃ (k : Nat) (t : Int) (ys : List Int), k ≤ n ∧ i = .int .i64 ((k : Int) - 1) ∧ Hid (ys.length = n ∧ shufK k t ys = shufK n s xs ∧ ExtX g w wr ∧ OwnI wr B (.slice (some ⟨g, 0, none⟩) n c) ys ∧ wr.heap[D]? = some (.cells #[.int .u64 t] 173 (0, 0)))) (fun i _ _ => (intOf i).toNat)
  case atStart => exact ⟨n, s, xs, Nat.le_refl _, rfl, HN.out, rfl, HW.out, HO.out, HO1.out⟩
  case round =>
    obtain ⟨k, t, ys, hk, rfl, hh⟩ := hrel
    by_cases hlt : 2 ≤ k
    · obtain ⟨x, rfl⟩ : ∃ x, k = x + 1 := ⟨k - 1, by omega⟩
      have d0 := obj_cells1 hh.out.2.2.2.2
      have df := obj_free hh.out.2.2.2.2
      have hbl : Calls Tryz.prog 114 #[.pointer (some ⟨D, 0, none⟩), .int .i64 ((x : Int) + 1)] wr (fun e w' => e = .returned (.int .i64 (drw (lcg t) ((x : Int) + 1))) ∧ w' = wr.setCell ⟨D, 0, none⟩ (.int .u64 (lcg t))) := below_any D t _ wr (d0 wr (Ext.refl _)) (df wr (Ext.refl _) 0)
      have HBL := Lib.hid hbl
      have hb := drw_bd (lcg t) ((x : Int) + 1) (lcg_bd t).1 (lcg_bd t).2 (by omega) (by omega)
      obtain ⟨y, hy⟩ : ∃ y : Nat, y = (drw (lcg t) ((x : Int) + 1)).toNat := ⟨_, rfl⟩
      have hye : drw (lcg t) ((x : Int) + 1) = (y : Int) := by omega
      have hyn : y < n := by omega
      rw [hye] at HBL
      have HY := Lib.hid hy
      clear hbl d0 df hb hy hye
      have ez : (((x + 1 : Nat) : Int) - 1) = (x : Int) := by omega
      rw [ez]
      clear ez
      go_wp2_with (go_at_call 114; (with_reducible refine HBL.out.mono ?_); rintro e w3 ⟨rfl, rfl⟩)
      clear HBL
      generalize hw4 : World.setCell wr _ _ = w4
      have hb4 : Hid (ExtX g w w4 ∧ OwnI w4 B (.slice (some ⟨g, 0, none⟩) n c) ys ∧ w4.heap[D]? = some (.cells #[.int .u64 (lcg t)] 173 (0, 0)) ∧ g ≠ D) := by
        subst hw4
        refine ⟨?_, ownI_ne hh.out.1 hh.out.2.2.2.1 HGD.out _, block_set hh.out.2.2.2.2 0 _, HGD.out⟩
        have h1 := hh.out.2.2.1
        refine ⟨h1.os, h1.tape, h1.output, by simpa [World.setCell] using h1.size, fun b hb hne => ?_⟩
        rw [heap_set_ne _ (by have := HD.out; omega)]
        exact h1.block b hb hne
      have HLY := Lib.hid hh.out.1
      have HSH := Lib.hid hh.out.2.1
      clear hw4 hh
      have hi0 : (0 : Int) ≤ (x : Int) := by omega
      have hi1 : (x : Int) < (n : Int) := by omega
      have hj0 : (0 : Int) ≤ (y : Int) := by omega
      have hj1 : (y : Int) < (n : Int) := by omega
      have HCI : Hid (∀ W, Ext w4 W → W.cell? ⟨g, x, none⟩ = some (.int .i64 (nth ys x))) := fun W e => ownI_cell HLY.out (hb4.out.2.1.ext e) x (by omega)
      have HCJ : Hid (∀ W, Ext w4 W → W.cell? ⟨g, y, none⟩ = some (.int .i64 (nth ys y))) := fun W e => ownI_cell HLY.out (hb4.out.2.1.ext e) y hyn
      have HF : Hid (∀ W, Ext w4 W → W.frozen? ⟨g, x, none⟩ = false) := fun W e => ownI_free HLY.out (hb4.out.2.1.ext e) _
      obtain ⟨S, hS⟩ : ∃ S : World → Prop, S = fun W => ExtX g w W ∧ OwnI W B (.slice (some ⟨g, 0, none⟩) n c) (ys.set x (nth ys y)) ∧ W.heap[D]? = some (.cells #[.int .u64 (lcg t)] 173 (0, 0)) := ⟨_, rfl⟩
      obtain ⟨R, hR⟩ : ∃ R : World → Prop, R = fun W => ExtX g w W ∧ OwnI W B (.slice (some ⟨g, 0, none⟩) n c) (swp ys x y) ∧ W.heap[D]? = some (.cells #[.int .u64 (lcg t)] 173 (0, 0)) := ⟨_, rfl⟩
      have HS : Hid (∀ W, Ext w4 W → S (W.setCell ⟨g, x, none⟩ (.int .i64 (nth ys y)))) := fun W e => by
        rw [hS]
        exact ⟨(hb4.out.1.trans e.x).set _ _, ownI_set2 HLY.out (hb4.out.2.1.ext e) _, by rw [heap_set_ne _ (Ne.symm hb4.out.2.2.2)]; exact e.block hb4.out.2.2.1⟩
      have HCJ2 : Hid (∀ W, S W → W.cell? ⟨g, y, none⟩ = some (.int .i64 (nth ys y))) := fun W h => by
        rw [hS] at h
        rw [ownI_cell (by rw [List.length_set]; exact HLY.out) h.2.1 y hyn, nth_set _ _ _ _ (by rw [HLY.out]; exact hyn)]
        split
        · rfl
        · rfl
      have HF2 : Hid (∀ W, S W → W.frozen? ⟨g, y, none⟩ = false) := fun W h => by
        rw [hS] at h
        exact ownI_free (by rw [List.length_set]; exact HLY.out) h.2.1 y
      have HR : Hid (∀ W, S W → R (W.setCell ⟨g, y, none⟩ (.int .i64 (nth ys x)))) := fun W h => by
        rw [hS] at h
        rw [hR, swp_int]
        exact ⟨h.1.set _ _, ownI_set2 (by rw [List.length_set]; exact HLY.out) h.2.1 _, by rw [heap_set_ne _ (Ne.symm hb4.out.2.2.2)]; exact h.2.2⟩
      have HRR := Lib.hid hR
      clear hS hR hb4
      go_upto_region 5 with fail
      refine sw_law hi0 hi1 hj0 hj1 HCI HCJ HF HS HCJ2 HF2 HR _ (by rfl) rfl rfl rfl ?_
      intro vs w9 ls9 hl9 hJ9 e0 e1 e2 e3 e4 e5 e6 e7 e8 e9 e10 e11 e12 e14
      simp only [Act.put, List.setIfInBounds_toArray, List.set_cons_zero, List.set_cons_succ]
      rw [e0, e1, e2, e3, e4, e5, e6, e7, e8, e9, e10, e11, e12, e14]
      obtain ⟨-, -, -, -, hj5⟩ := hJ9
      have hfin := hj5 (hl9 15 (by omega))
      rw [HRR.out] at hfin
      have HFIN := Lib.hid hfin
      have HK : Hid ((swp ys x y).length = n ∧ shufK x (lcg t) (swp ys x y) = shufK n s xs) := by
        refine ⟨by rw [swp_len]; exact HLY.out, ?_⟩
        have := HSH.out
        rw [shufK_step x (by omega)] at this
        rw [← this, HY.out]
      clear hj5 hfin HRR HCI HCJ HF HS HCJ2 HF2 HR HSH HY
      go_wp2_with (fail)
      go_roundw
      case rel => exact ⟨x, lcg t, swp ys x y, by omega, by go_num, HK.out.1, HK.out.2, HFIN.out.1, HFIN.out.2.1, HFIN.out.2.2⟩
      case measure => simp [intOf]; omega
    · have hlt' : k ≤ 1 := by omega
      have HK : Hid (shufK k t ys = ys) := by
        match k, hlt' with
        | 0, _ => rfl
        | 1, _ => rfl
      go_wp2_with (fail)
      go_end0
      refine ⟨rfl, hh.out.2.2.1, ?_⟩
      rw [← hh.out.2.1, HK.out]
      exact hh.out.2.2.2.1
end Go.Proofs.YtplbofhgmflnlaaGreat
end
section
/-
  Walks: numbers, Shuffle, the reference's Shuffle (printed by genm4.py).
-/
set_option linter.unusedVariables false
set_option linter.unusedSimpArgs false
namespace Go.Proofs.YtplbofhgmflnlaaGreat
open Go.RowKit
/-- The numbers below n. -/
def rngI (n : Nat) : List Int := fl n fun i => (i : Int)
theorem rngI_len (n : Nat) : (rngI n).length = n := fl_len _ _
theorem shufK_len {α : Type} [Inhabited α] : ∀ (k : Nat) (s : Int) (l : List α), (shufK k s l).length = l.length
  | 0, _, _ => rfl
  | 1, _, _ => rfl
  | k + 2, s, l => by simp only [shufK]; rw [shufK_len (k + 1), swp_len]
theorem shufL_rng (s : Int) (n : Nat) : shufL s (rngI n) = shufK n s (rngI n) := by unfold shufL; rw [rngI_len]
/-- The post of a call that returns a new row, which lies in a block. -/
def RetRow (xs : List Int) (w : World) (e : Ending) (w' : World) : Prop := ∃ g c, e = .returned (.slice (some ⟨g, 0, none⟩) xs.length c) ∧ Ext w w' ∧ OwnI w' w.heap.size (.slice (some ⟨g, 0, none⟩) xs.length c) xs
set_option maxHeartbeats 1000000 in
theorem numbers_any (n : Nat) (w : World) (hn : n ≤ 1000000) : Calls Tryz.prog 74 #[.int .i64 n] w (RetRow (rngI n) w) := by
  have hmk := run_madeI n hn
  go_enter Tryz.func74, Tryz.ntmps74
  go_wp2_with (fail)
  generalize hw : madeI _ _ = w1
  obtain ⟨he, hown, -⟩ := madeI_facts hn hw
  have HE := Lib.hid he
  have HOW := Lib.hid hown
  obtain ⟨g, hg⟩ : ∃ g, g = w.heap.size := ⟨_, rfl⟩
  rw [← hg] at HOW ⊢
  have HG := Lib.hid hg
  clear hmk hw he hown hg
  go_loopw [9] (fun i wr => ∃ k : Nat, k ≤ n ∧ i = .int .i64 k ∧ Hid (ExtX g w wr) ∧ OwnI wr g (.slice (some ⟨g, 0, none⟩) n n) (fl n fun i => if i < k then (i : Int) else 0)) (fun i _ => n - (intOf i).toNat)
  case atStart => exact ⟨0, Nat.zero_le _, rfl, HE.out.x, by simpa using HOW.out⟩
  case round =>
    obtain ⟨k, hk, rfl, hr, hown⟩ := hrel
    by_cases hlt : k < n
    · have hcell := ownI_cell (fl_len _ _) hown k hlt
      have hfr := ownI_free (fl_len _ _) hown k
      have hown2 := ownI_set (j := k) hown (k : Int)
      have e1 : (fun i => if i = k then (k : Int) else if i < k then (i : Int) else 0) = fun i => if i < k + 1 then (i : Int) else 0 := by
        funext i
        by_cases h : i = k
        · subst h; simp
        · by_cases h2 : i < k
          · rw [if_neg h, if_pos h2, if_pos (by omega)]
          · rw [if_neg h, if_neg h2, if_neg (by omega)]
      rw [e1] at hown2
      have HO2 := Lib.hid hown2
      have HR2 : Hid (ExtX g w (wr.setCell ⟨g, k, none⟩ (.int .i64 k))) := hr.out.set _ _
      clear hown hown2 e1 hr
      go_wp2_with (fail)
      go_roundw
      case rel => exact ⟨k + 1, by omega, by go_num, HR2.out, HO2.out⟩
      case measure => simp [intOf]; omega
    · obtain rfl : k = n := by omega
      have e1 : (fl k fun i => if i < k then (i : Int) else 0) = rngI k := fl_congr _ _ _ fun i hi => if_pos hi
      rw [e1] at hown
      have HO2 := Lib.hid hown
      clear hown e1
      go_wp2_with (fail)
      go_ret
      refine ⟨g, k, by rw [rngI_len]; rfl, hr.out.ext (by have := HG.out; omega), ?_⟩
      rw [rngI_len, ← HG.out]; exact HO2.out
theorem own_lt {w : World} {B g n c : Nat} {xs : List Int} (h : OwnI w B (.slice (some ⟨g, 0, none⟩) n c) xs) : B ≤ g ∧ g < w.heap.size := h.lt g rfl
set_option maxHeartbeats 1000000 in
theorem Shuffle_bad (s n : Int) (w : World) (h : n < 0 ∨ 2000 < n) : Calls Tryz.prog 21 #[.int .u64 s, .int .i64 n] w (Ret (.tuple #[.slice none 0 0, .int .i64 3]) w) := by
  by_cases T1 : n < 0
  · go_enter Tryz.func21, Tryz.ntmps21
    go_wp2_with (fail)
    go_ret2
    exact ⟨rfl, Ext.refl w⟩
  · have h2 : 2000 < n := by omega
    clear h
    go_enter Tryz.func21, Tryz.ntmps21
    go_wp2_with (fail)
    go_ret2
    exact ⟨rfl, Ext.refl w⟩
/-- The post of Shuffle. -/
def RetSh (s : Int) (n : Nat) (w : World) (e : Ending) (w' : World) : Prop := ∃ g c, e = .returned (.tuple #[.slice (some ⟨g, 0, none⟩) n c, .int .i64 0]) ∧ Ext w w' ∧ OwnI w' w.heap.size (.slice (some ⟨g, 0, none⟩) n c) (shufL s (rngI n))
set_option maxHeartbeats 1000000 in
theorem Shuffle_ok (s : Int) (n : Nat) (w : World) (hn : n ≤ 2000) : Calls Tryz.prog 21 #[.int .u64 s, .int .i64 n] w (RetSh s n w) := by
  have HN := Lib.hid (numbers_any n w (by omega))
  have h0 : ¬ ((n : Int) < 0) := by omega
  have h1 : ¬ (2000 < (n : Int)) := by omega
  go_enter Tryz.func21, Tryz.ntmps21
  go_wp2_with (go_at_call 74; (with_reducible refine HN.out.mono ?_); rintro e w1 ⟨g, c, rfl, he, ho⟩)
  rw [rngI_len] at ho ⊢
  have HS := Lib.hid (shuffle_int w.heap.size g n c s (rngI n) w1 (rngI_len n) (by omega) ho (own_lt ho).2)
  have HB := Lib.hid (own_lt ho).1
  clear ho HN
  go_wp2_with (go_at_call 80; (with_reducible refine HS.out.mono ?_); rintro e w2 ⟨rfl, he2, ho2⟩)
  go_ret2
  refine ⟨g, c, rfl, ?_, ?_⟩
  · refine ⟨he2.os.trans he.os, he2.tape.trans he.tape, he2.output.trans he.output, Nat.le_trans he.size he2.size, fun k hk => ?_⟩
    rw [he2.block k (by have := he.size; omega) (by have := HB.out; omega)]
    exact Below.block he k hk
  · rw [shufL_rng]; exact ho2
set_option maxRecDepth 100000 in
set_option maxHeartbeats 4000000 in
theorem sw_law26 {g n c x y : Nat} {vi vj : Int} {wr : World} {S R : World → Prop} (hi0 : (0 : Int) ≤ (x : Int)) (hi1 : (x : Int) < (n : Int)) (hj0 : (0 : Int) ≤ (y : Int)) (hj1 : (y : Int) < (n : Int)) (HCI : Hid (∀ W, Ext wr W → W.cell? ⟨g, x, none⟩ = some (.int .i64 vi))) (HCJ : Hid (∀ W, Ext wr W → W.cell? ⟨g, y, none⟩ = some (.int .i64 vj))) (HF : Hid (∀ W, Ext wr W → W.frozen? ⟨g, x, none⟩ = false)) (HS : Hid (∀ W, Ext wr W → S (W.setCell ⟨g, x, none⟩ (.int .i64 vj)))) (HCJ2 : Hid (∀ W, S W → W.cell? ⟨g, y, none⟩ = some (.int .i64 vj))) (HF2 : Hid (∀ W, S W → W.frozen? ⟨g, y, none⟩ = false)) (HR : Hid (∀ W, S W → R (W.setCell ⟨g, y, none⟩ (.int .i64 vi)))) {Q : Exit → Act → World → Prop} (aZ : Act) (hsz : aZ.tmps.size = 51) (o5 : aZ.tmps[5]?.getD undef = .slice (some ⟨g, 0, none⟩) n c) (o7 : aZ.tmps[7]?.getD undef = .int .i64 (x : Int)) (o8 : aZ.tmps[8]?.getD undef = .int .i64 (y : Int))
    (hend : ∀ (vs : Nat → Value) (w9 : World) (ls9 : Nat → Bool), (∀ j : Nat, j < 16 → ls9 j = true) → ((ls9 15 = true → ls9 13 = true) ∧ (ls9 13 = true → ls9 7 = true ∧ ls9 11 = true) ∧ (ls9 13 = false → Ext wr w9) ∧ (ls9 13 = true → ls9 15 = false → S w9) ∧ (ls9 15 = true → R w9)) → (vs 0 = .slice (some ⟨g, 0, none⟩) n c) → (vs 1 = .int .i64 (x : Int)) → (vs 2 = .slice (some ⟨g, 0, none⟩) n c) → (vs 3 = .int .i64 (y : Int)) → (vs 4 = .slice (some ⟨g, 0, none⟩) n c) → (vs 5 = .int .i64 (y : Int)) → (vs 6 = .pointer (some ⟨g, y, none⟩)) → (vs 7 = .int .i64 vj) → (vs 8 = .slice (some ⟨g, 0, none⟩) n c) → (vs 9 = .int .i64 (x : Int)) → (vs 10 = .pointer (some ⟨g, x, none⟩)) → (vs 11 = .int .i64 vi) → (vs 12 = .pointer (some ⟨g, x, none⟩)) → (vs 14 = .pointer (some ⟨g, y, none⟩)) → Q .normal ((((((((((((((aZ.put (some 36) (vs 0)).put (some 37) (vs 1)).put (some 38) (vs 2)).put (some 39) (vs 3)).put (some 40) (vs 4)).put (some 41) (vs 5)).put (some 42) (vs 6)).put (some 43) (vs 7)).put (some 44) (vs 8)).put (some 45) (vs 9)).put (some 46) (vs 10)).put (some 47) (vs 11)).put (some 48) (vs 12)).put (some 49) (vs 14)) w9) : (regOf Tryz.f26 11).wp Tryz.prog Q aZ wr := by
  conv => arg 2; whnf
  refine wp_region_said3 (fun i v wz => match i with
    | 0 => v = .slice (some ⟨g, 0, none⟩) n c
    | 1 => v = .int .i64 (x : Int)
    | 2 => v = .slice (some ⟨g, 0, none⟩) n c
    | 3 => v = .int .i64 (y : Int)
    | 4 => v = .slice (some ⟨g, 0, none⟩) n c
    | 5 => v = .int .i64 (y : Int)
    | 6 => v = .pointer (some ⟨g, y, none⟩)
    | 7 => v = .int .i64 vj
    | 8 => v = .slice (some ⟨g, 0, none⟩) n c
    | 9 => v = .int .i64 (x : Int)
    | 10 => v = .pointer (some ⟨g, x, none⟩)
    | 11 => v = .int .i64 vi
    | 12 => v = .pointer (some ⟨g, x, none⟩)
    | 13 => True
    | 14 => v = .pointer (some ⟨g, y, none⟩)
    | _ => True) (fun ls vs wz => (ls 15 = true → ls 13 = true) ∧ (ls 13 = true → ls 7 = true ∧ ls 11 = true) ∧ (ls 13 = false → Ext wr wz) ∧ (ls 13 = true → ls 15 = false → S wz) ∧ (ls 15 = true → R wz)) (by kernel_rfl) (by kernel_rfl) (by rw [hsz]; kernel_rfl) ?_ ?_ ?_
  · exact ⟨fun e => (by cases e), fun e => (by cases e), fun _ => (Ext.refl _).drew, fun e => (by cases e), fun e => (by cases e)⟩
  · refine ⟨?_, ?_, ?_, ?_, ?_, ?_, ?_, ?_, ?_, ?_, ?_, ?_, ?_, ?_, ?_, ?_, trivial⟩
    · intro ls vs a w1 hi hJ hold hdep hdon hcl K hK
      have q5 : a.tmps[5]?.getD undef = .slice (some ⟨g, 0, none⟩) n c := (hold 5 (by kernel_rfl)).trans o5
      rw [if_pos (by rfl)]
      clear hold hdep hend hdon hcl o5 o7 o8
      have HJ := Lib.hid hJ
      clear hJ
      go_simp
      exact hK _ _ (fun _ _ _ h => h) HJ.out rfl
    · intro ls vs a w1 hi hJ hold hdep hdon hcl K hK
      have q7 : a.tmps[7]?.getD undef = .int .i64 (x : Int) := (hold 7 (by kernel_rfl)).trans o7
      rw [if_pos (by rfl)]
      clear hold hdep hend hdon hcl o5 o7 o8
      have HJ := Lib.hid hJ
      clear hJ
      go_simp
      exact hK _ _ (fun _ _ _ h => h) HJ.out rfl
    · intro ls vs a w1 hi hJ hold hdep hdon hcl K hK
      have q5 : a.tmps[5]?.getD undef = .slice (some ⟨g, 0, none⟩) n c := (hold 5 (by kernel_rfl)).trans o5
      rw [if_pos (by rfl)]
      clear hold hdep hend hdon hcl o5 o7 o8
      have HJ := Lib.hid hJ
      clear hJ
      go_simp
      exact hK _ _ (fun _ _ _ h => h) HJ.out rfl
    · intro ls vs a w1 hi hJ hold hdep hdon hcl K hK
      have q8 : a.tmps[8]?.getD undef = .int .i64 (y : Int) := (hold 8 (by kernel_rfl)).trans o8
      rw [if_pos (by rfl)]
      clear hold hdep hend hdon hcl o5 o7 o8
      have HJ := Lib.hid hJ
      clear hJ
      go_simp
      exact hK _ _ (fun _ _ _ h => h) HJ.out rfl
    · intro ls vs a w1 hi hJ hold hdep hdon hcl K hK
      have q5 : a.tmps[5]?.getD undef = .slice (some ⟨g, 0, none⟩) n c := (hold 5 (by kernel_rfl)).trans o5
      rw [if_pos (by rfl)]
      clear hold hdep hend hdon hcl o5 o7 o8
      have HJ := Lib.hid hJ
      clear hJ
      go_simp
      exact hK _ _ (fun _ _ _ h => h) HJ.out rfl
    · intro ls vs a w1 hi hJ hold hdep hdon hcl K hK
      have q8 : a.tmps[8]?.getD undef = .int .i64 (y : Int) := (hold 8 (by kernel_rfl)).trans o8
      rw [if_pos (by rfl)]
      clear hold hdep hend hdon hcl o5 o7 o8
      have HJ := Lib.hid hJ
      clear hJ
      go_simp
      exact hK _ _ (fun _ _ _ h => h) HJ.out rfl
    · intro ls vs a w1 hi hJ hold hdep hdon hcl K hK
      have q40 : a.tmps[40]?.getD undef = .slice (some ⟨g, 0, none⟩) n c := (hdep 4 40 (by kernel_rfl) (by kernel_rfl)).2.1.trans (hdep 4 40 (by kernel_rfl) (by kernel_rfl)).2.2
      have q41 : a.tmps[41]?.getD undef = .int .i64 (y : Int) := (hdep 5 41 (by kernel_rfl) (by kernel_rfl)).2.1.trans (hdep 5 41 (by kernel_rfl) (by kernel_rfl)).2.2
      rw [if_pos (by rfl)]
      clear hold hdep hend hdon hcl o5 o7 o8
      have HJ := Lib.hid hJ
      clear hJ
      go_simp
      exact hK _ _ (fun _ _ _ h => h) HJ.out rfl
    · intro ls vs a w1 hi hJ hold hdep hdon hcl K hK
      have q42 : a.tmps[42]?.getD undef = .pointer (some ⟨g, y, none⟩) := (hdep 6 42 (by kernel_rfl) (by kernel_rfl)).2.1.trans (hdep 6 42 (by kernel_rfl) (by kernel_rfl)).2.2
      rw [if_pos (by rfl)]
      clear hold hdep hend hdon hcl o5 o7 o8
      have HJ := Lib.hid hJ
      clear hJ
      obtain ⟨j1, j2, j3, j4, j5⟩ := HJ.out
      have hik : ls 7 = false := hi
      have h13 : ls 13 = false := by
        cases e : ls 13 with
        | false => rfl
        | true => have := j2 e; rw [hik] at this; simp at this
      have c7 := HCJ.out w1 (j3 h13)
      go_simp
      exact hK _ _ (fun _ _ _ h => h) ⟨fun e => by have := j1 (by simpa using e); simp [this], fun e => by have := j2 (by simpa using e); simp [this], fun e => j3 (by simpa using e), fun e e2 => j4 (by simpa using e) (by simpa using e2), fun e => j5 (by simpa using e)⟩ rfl
    · intro ls vs a w1 hi hJ hold hdep hdon hcl K hK
      have q5 : a.tmps[5]?.getD undef = .slice (some ⟨g, 0, none⟩) n c := (hold 5 (by kernel_rfl)).trans o5
      rw [if_pos (by rfl)]
      clear hold hdep hend hdon hcl o5 o7 o8
      have HJ := Lib.hid hJ
      clear hJ
      go_simp
      exact hK _ _ (fun _ _ _ h => h) HJ.out rfl
    · intro ls vs a w1 hi hJ hold hdep hdon hcl K hK
      have q7 : a.tmps[7]?.getD undef = .int .i64 (x : Int) := (hold 7 (by kernel_rfl)).trans o7
      rw [if_pos (by rfl)]
      clear hold hdep hend hdon hcl o5 o7 o8
      have HJ := Lib.hid hJ
      clear hJ
      go_simp
      exact hK _ _ (fun _ _ _ h => h) HJ.out rfl
    · intro ls vs a w1 hi hJ hold hdep hdon hcl K hK
      have q44 : a.tmps[44]?.getD undef = .slice (some ⟨g, 0, none⟩) n c := (hdep 8 44 (by kernel_rfl) (by kernel_rfl)).2.1.trans (hdep 8 44 (by kernel_rfl) (by kernel_rfl)).2.2
      have q45 : a.tmps[45]?.getD undef = .int .i64 (x : Int) := (hdep 9 45 (by kernel_rfl) (by kernel_rfl)).2.1.trans (hdep 9 45 (by kernel_rfl) (by kernel_rfl)).2.2
      rw [if_pos (by rfl)]
      clear hold hdep hend hdon hcl o5 o7 o8
      have HJ := Lib.hid hJ
      clear hJ
      go_simp
      exact hK _ _ (fun _ _ _ h => h) HJ.out rfl
    · intro ls vs a w1 hi hJ hold hdep hdon hcl K hK
      have q46 : a.tmps[46]?.getD undef = .pointer (some ⟨g, x, none⟩) := (hdep 10 46 (by kernel_rfl) (by kernel_rfl)).2.1.trans (hdep 10 46 (by kernel_rfl) (by kernel_rfl)).2.2
      rw [if_pos (by rfl)]
      clear hold hdep hend hdon hcl o5 o7 o8
      have HJ := Lib.hid hJ
      clear hJ
      obtain ⟨j1, j2, j3, j4, j5⟩ := HJ.out
      have hik : ls 11 = false := hi
      have h13 : ls 13 = false := by
        cases e : ls 13 with
        | false => rfl
        | true => have := j2 e; rw [hik] at this; simp at this
      have c7 := HCI.out w1 (j3 h13)
      go_simp
      exact hK _ _ (fun _ _ _ h => h) ⟨fun e => by have := j1 (by simpa using e); simp [this], fun e => by have := j2 (by simpa using e); simp [this], fun e => j3 (by simpa using e), fun e e2 => j4 (by simpa using e) (by simpa using e2), fun e => j5 (by simpa using e)⟩ rfl
    · intro ls vs a w1 hi hJ hold hdep hdon hcl K hK
      have q36 : a.tmps[36]?.getD undef = .slice (some ⟨g, 0, none⟩) n c := (hdep 0 36 (by kernel_rfl) (by kernel_rfl)).2.1.trans (hdep 0 36 (by kernel_rfl) (by kernel_rfl)).2.2
      have q37 : a.tmps[37]?.getD undef = .int .i64 (x : Int) := (hdep 1 37 (by kernel_rfl) (by kernel_rfl)).2.1.trans (hdep 1 37 (by kernel_rfl) (by kernel_rfl)).2.2
      rw [if_pos (by rfl)]
      clear hold hdep hend hdon hcl o5 o7 o8
      have HJ := Lib.hid hJ
      clear hJ
      go_simp
      exact hK _ _ (fun _ _ _ h => h) HJ.out rfl
    · intro ls vs a w1 hi hJ hold hdep hdon hcl K hK
      have q43 : a.tmps[43]?.getD undef = .int .i64 vj := (hdep 7 43 (by kernel_rfl) (by kernel_rfl)).2.1.trans (hdep 7 43 (by kernel_rfl) (by kernel_rfl)).2.2
      have q48 : a.tmps[48]?.getD undef = .pointer (some ⟨g, x, none⟩) := (hdep 12 48 (by kernel_rfl) (by kernel_rfl)).2.1.trans (hdep 12 48 (by kernel_rfl) (by kernel_rfl)).2.2
      have hl7 := hdon 7 (by kernel_rfl)
      have hl11 := hdon 11 (by kernel_rfl)
      rw [if_pos (by rfl)]
      clear hold hdep hend hdon hcl o5 o7 o8
      have HJ := Lib.hid hJ
      clear hJ
      obtain ⟨j1, j2, j3, j4, j5⟩ := HJ.out
      have hik : ls 13 = false := hi
      have h15 : ls 15 = false := by
        cases e : ls 15 with
        | false => rfl
        | true => have := j1 e; rw [hik] at this; cases this
      have hx := j3 hik
      have c1 := HCI.out w1 hx
      have f1 := HF.out w1 hx
      have s1 := HS.out w1 hx
      have hl7' : ls 7 = true := hl7
      have hl11' : ls 11 = true := hl11
      go_simp
      exact hK undef _ (fun _ _ _ h => h) ⟨fun _ => by simp, fun _ => by simp [hl7', hl11'], fun e => by simp at e, fun _ _ => s1, fun e => by simp [h15] at e⟩ trivial
    · intro ls vs a w1 hi hJ hold hdep hdon hcl K hK
      have q38 : a.tmps[38]?.getD undef = .slice (some ⟨g, 0, none⟩) n c := (hdep 2 38 (by kernel_rfl) (by kernel_rfl)).2.1.trans (hdep 2 38 (by kernel_rfl) (by kernel_rfl)).2.2
      have q39 : a.tmps[39]?.getD undef = .int .i64 (y : Int) := (hdep 3 39 (by kernel_rfl) (by kernel_rfl)).2.1.trans (hdep 3 39 (by kernel_rfl) (by kernel_rfl)).2.2
      rw [if_pos (by rfl)]
      clear hold hdep hend hdon hcl o5 o7 o8
      have HJ := Lib.hid hJ
      clear hJ
      go_simp
      exact hK _ _ (fun _ _ _ h => h) HJ.out rfl
    · intro ls vs a w1 hi hJ hold hdep hdon hcl K hK
      have q47 : a.tmps[47]?.getD undef = .int .i64 vi := (hdep 11 47 (by kernel_rfl) (by kernel_rfl)).2.1.trans (hdep 11 47 (by kernel_rfl) (by kernel_rfl)).2.2
      have q49 : a.tmps[49]?.getD undef = .pointer (some ⟨g, y, none⟩) := (hdep 14 49 (by kernel_rfl) (by kernel_rfl)).2.1.trans (hdep 14 49 (by kernel_rfl) (by kernel_rfl)).2.2
      have hl13 := hdon 13 (by kernel_rfl)
      rw [if_pos (by rfl)]
      clear hold hdep hend hdon hcl o5 o7 o8
      have HJ := Lib.hid hJ
      clear hJ
      obtain ⟨j1, j2, j3, j4, j5⟩ := HJ.out
      have hik : ls 15 = false := hi
      have hl13' : ls 13 = true := hl13
      have hs := j4 hl13' hik
      have c1 := HCJ2.out w1 hs
      have f1 := HF2.out w1 hs
      have r1 := HR.out w1 hs
      go_simp
      exact hK undef _ (fun _ _ _ h => h) ⟨fun _ => by simp [hl13'], fun e => by have := j2 hl13'; simp [this], fun e => by simp [hl13'] at e, fun _ e => by simp at e, fun _ => r1⟩ trivial
  · intro vs w9 ls9 hl9 hJ9 hφ
    have e0 := hφ 0 (by kernel_rfl)
    have e1 := hφ 1 (by kernel_rfl)
    have e2 := hφ 2 (by kernel_rfl)
    have e3 := hφ 3 (by kernel_rfl)
    have e4 := hφ 4 (by kernel_rfl)
    have e5 := hφ 5 (by kernel_rfl)
    have e6 := hφ 6 (by kernel_rfl)
    have e7 := hφ 7 (by kernel_rfl)
    have e8 := hφ 8 (by kernel_rfl)
    have e9 := hφ 9 (by kernel_rfl)
    have e10 := hφ 10 (by kernel_rfl)
    have e11 := hφ 11 (by kernel_rfl)
    have e12 := hφ 12 (by kernel_rfl)
    have e14 := hφ 14 (by kernel_rfl)
    have hq := hend vs w9 ls9 hl9 hJ9 e0 e1 e2 e3 e4 e5 e6 e7 e8 e9 e10 e11 e12 e14
    simp only [Act.put] at hq
    simp only [putAll, Act.put]
    exact hq

theorem rngI_take (n k : Nat) (hk : k < n) : rngI (k + 1) = rngI k ++ [(k : Int)] := by
  unfold rngI fl; rw [List.range_succ]; simp
set_option maxRecDepth 100000 in
set_option maxHeartbeats 2000000 in
theorem refShuffle_any (s : Int) (n : Nat) (w : World) (hn : n ≤ 2000) : Calls Tryz.prog 26 #[.int .u64 s, .int .i64 n] w (RetI (shufL s (rngI n)) w) := by
  go_enter Tryz.func26, Tryz.ntmps26
  go_wp2_with (fail)
  go_loopw [5, 6] (fun v t wr => ∃ d : Nat, d ≤ n ∧ t = .int .i64 d ∧ Ext w wr ∧ OwnI wr w.heap.size v (rngI d)) (fun _ t _ => n - (intOf t).toNat)
  case atStart => exact ⟨0, Nat.zero_le _, by simp, (Ext.refl w).alloc _, own_lit0 w⟩
  case round =>
    obtain ⟨d, hd, rfl, hr, hown⟩ := hrel
    by_cases hlt : d < n
    · have happ := app_ints (wr.alloc (.cells #[.int .i64 (d : Nat)] 3)) w.heap.size 31 _ _ [(d : Int)] (some ⟨wr.heap.size, 0, none⟩) 1 (hown.ext ((Ext.refl wr).alloc _)) (ints_one (heap_new _ _))
        (by rw [rngI_len]; simp; omega) (by have := hr.size; rw [heap_size]; omega)
      have HA := Lib.hid happ
      have hblk := Lib.hid (own_block hown)
      have HT := Lib.hid (rngI_take n d hlt)
      clear hown happ
      go_wp2_with (at_builtin; refine wpList_app _ rfl _ _ 31 rfl _ HA.out ?_; rintro v' w' ⟨hv, hg⟩; have HG := Lib.hid (grown_ext (hr.alloc _) hg hblk.out); clear HA hg)
      go_roundw
      case rel => exact ⟨d + 1, by omega, by go_num, HG.out, by rw [HT.out]; exact hv⟩
      case measure => simp [intOf]; omega
    · obtain rfl : d = n := by omega
      obtain ⟨a', n', c', rfl⟩ := own_slice hown
      obtain ⟨-, hn', -⟩ := hown.ints
      rw [rngI_len] at hn'
      subst hn'
      have HR := Lib.hid hr
      have HO := Lib.hid hown
      clear hr hown hlt
      go_wp2_with (fail)
      go_loopw [0, 7, 8] (fun sd i _ wr => ∃ (k : Nat) (t : Int) (ys : List Int), k ≤ n' ∧ sd = .int .u64 t ∧ i = .int .i64 ((k : Int) - 1) ∧ Hid (ys.length = n' ∧ shufK k t ys = shufK n' s (rngI n') ∧ Ext w wr ∧ OwnI wr w.heap.size (.slice a' n' c') ys)) (fun _ i _ _ => (intOf i).toNat)
      case atStart => exact ⟨n', s, rngI n', Nat.le_refl _, rfl, rfl, rngI_len _, rfl, HR.out, HO.out⟩
      case round =>
        obtain ⟨k, t, ys, hk, rfl, rfl, hh⟩ := hrel
        by_cases hlt : 2 ≤ k
        · obtain ⟨x, rfl⟩ : ∃ x, k = x + 1 := ⟨k - 1, by omega⟩
          obtain ⟨g, rfl⟩ : ∃ g, a' = some ⟨g, 0, none⟩ := by
            rcases hh.out.2.2.2.2 with ⟨_, h2⟩ | ⟨g, cap, cur, hv, -⟩
            · have := hh.out.1; omega
            · simp only [Value.slice.injEq] at hv
              exact ⟨g, hv.1⟩
          have hb := drw_bd (lcg t) ((x : Int) + 1) (lcg_bd t).1 (lcg_bd t).2 (by omega) (by omega)
          obtain ⟨y, hy⟩ : ∃ y : Nat, y = (drw (lcg t) ((x : Int) + 1)).toNat := ⟨_, rfl⟩
          have hye : drw (lcg t) ((x : Int) + 1) = (y : Int) := by omega
          have hyn : y < n' := by omega
          have HYE : Hid (wrap64 (IntKind.u64.wrap (lcg t / 4294967296 * ((x : Int) + 1)) / 4294967296) = (y : Int)) := by
            have e1 : IntKind.u64.wrap ((x : Int) + 1) = (x : Int) + 1 := by rw [IntKind.wrap_u64]; omega
            have := hye; unfold drw at this; rw [e1] at this; exact this
          have HY := Lib.hid hy
          have HLC : Hid (IntKind.u64.wrap (IntKind.u64.wrap (t * 6364136223846793005) + 1442695040888963407) = lcg t) := rfl
          clear hb hy hye
          have ez : (((x + 1 : Nat) : Int) - 1) = (x : Int) := by omega
          rw [ez]
          clear ez
          have HLY := Lib.hid hh.out.1
          have HSH := Lib.hid hh.out.2.1
          have HE4 := Lib.hid hh.out.2.2.1
          have HO4 := Lib.hid hh.out.2.2.2
          have HB4 := Lib.hid (own_lt hh.out.2.2.2).1
          clear hh
          have hi0 : (0 : Int) ≤ (x : Int) := by omega
          have hi1 : (x : Int) < (n' : Int) := by omega
          have hj0 : (0 : Int) ≤ (y : Int) := by omega
          have hj1 : (y : Int) < (n' : Int) := by omega
          have HCI : Hid (∀ W, Ext wr W → W.cell? ⟨g, x, none⟩ = some (.int .i64 (nth ys x))) := fun W e => ownI_cell HLY.out (HO4.out.ext e) x (by omega)
          have HCJ : Hid (∀ W, Ext wr W → W.cell? ⟨g, y, none⟩ = some (.int .i64 (nth ys y))) := fun W e => ownI_cell HLY.out (HO4.out.ext e) y hyn
          have HF : Hid (∀ W, Ext wr W → W.frozen? ⟨g, x, none⟩ = false) := fun W e => ownI_free HLY.out (HO4.out.ext e) _
          obtain ⟨S, hS⟩ : ∃ S : World → Prop, S = fun W => Ext w W ∧ OwnI W w.heap.size (.slice (some ⟨g, 0, none⟩) n' c') (ys.set x (nth ys y)) := ⟨_, rfl⟩
          obtain ⟨R, hR⟩ : ∃ R : World → Prop, R = fun W => Ext w W ∧ OwnI W w.heap.size (.slice (some ⟨g, 0, none⟩) n' c') (swp ys x y) := ⟨_, rfl⟩
          have HS : Hid (∀ W, Ext wr W → S (W.setCell ⟨g, x, none⟩ (.int .i64 (nth ys y)))) := fun W e => by
            rw [hS]
            exact ⟨(HE4.out.trans e).set HB4.out _, ownI_set2 HLY.out (HO4.out.ext e) _⟩
          have HCJ2 : Hid (∀ W, S W → W.cell? ⟨g, y, none⟩ = some (.int .i64 (nth ys y))) := fun W h => by
            rw [hS] at h
            rw [ownI_cell (by rw [List.length_set]; exact HLY.out) h.2 y hyn, nth_set _ _ _ _ (by rw [HLY.out]; exact hyn)]
            split
            · rfl
            · rfl
          have HF2 : Hid (∀ W, S W → W.frozen? ⟨g, y, none⟩ = false) := fun W h => by
            rw [hS] at h
            exact ownI_free (by rw [List.length_set]; exact HLY.out) h.2 y
          have HR : Hid (∀ W, S W → R (W.setCell ⟨g, y, none⟩ (.int .i64 (nth ys x)))) := fun W h => by
            rw [hS] at h
            rw [hR, swp_int]
            exact ⟨h.1.set HB4.out _, ownI_set2 (by rw [List.length_set]; exact HLY.out) h.2 _⟩
          have HRR := Lib.hid hR
          clear hS hR
          go_upto_region 11 with fail
          rw [HLC.out, HYE.out]
          refine sw_law26 hi0 hi1 hj0 hj1 HCI HCJ HF HS HCJ2 HF2 HR _ (by rfl) rfl rfl rfl ?_
          intro vs w9 ls9 hl9 hJ9 e0 e1 e2 e3 e4 e5 e6 e7 e8 e9 e10 e11 e12 e14
          simp only [Act.put, List.setIfInBounds_toArray, List.set_cons_zero, List.set_cons_succ]
          rw [e0, e1, e2, e3, e4, e5, e6, e7, e8, e9, e10, e11, e12, e14]
          obtain ⟨-, -, -, -, hj5⟩ := hJ9
          have hfin := hj5 (hl9 15 (by omega))
          rw [HRR.out] at hfin
          have HFIN := Lib.hid hfin
          have HK : Hid ((swp ys x y).length = n' ∧ shufK x (lcg t) (swp ys x y) = shufK n' s (rngI n')) := by
            refine ⟨by rw [swp_len]; exact HLY.out, ?_⟩
            have := HSH.out
            rw [shufK_step x (by omega)] at this
            rw [← this, HY.out]
          clear hj5 hfin HRR HCI HCJ HF HS HCJ2 HF2 HR HSH HY HYE HLC
          go_wp2_with (fail)
          go_roundw
          case rel => exact ⟨x, lcg t, swp ys x y, by omega, rfl, by go_num, HK.out.1, HK.out.2, HFIN.out.1, HFIN.out.2⟩
          case measure => simp [intOf]; omega
        · have hlt' : k ≤ 1 := by omega
          have HK : Hid (shufK k t ys = ys) := by
            match k, hlt' with
            | 0, _ => rfl
            | 1, _ => rfl
          go_wp2_with (fail)
          go_ret
          refine ⟨a', c', ?_, hh.out.2.2.1, ?_⟩
          · rw [shufL_rng, shufK_len, rngI_len]; rfl
          · rw [shufL_rng, shufK_len, rngI_len, ← hh.out.2.1, HK.out]
            exact hh.out.2.2.2
end Go.Proofs.YtplbofhgmflnlaaGreat
end
section
/-
  Walks: Allowed, check.
-/
set_option linter.unusedVariables false
set_option linter.unusedSimpArgs false
namespace Go.Proofs.YtplbofhgmflnlaaGreat
open Go.RowKit
/-- Bounds of a plan's lengths. -/
structure PlanB (P : Pw) : Prop where
  fl : P.fs.length ≤ 1000000
  gl : P.fo.length ≤ 1000000
  pl : ∀ i, i < P.fo.length → (gth P.fo i).xs.length ≤ 1000000
theorem prsOff {fs : List Fac} {fo : List (Sl Pr)} (h : anyPrsBad fs fo = false) (i : Nat) (hi : i < fo.length) (j : Nat) (hj : j < (gth fo i).xs.length) : prBad fs (gth fo i).xs j = false :=
  fIdx_off (fIdx_off h i hi) j hj
theorem prOk {fs : List Fac} {xs : List Pr} {j : Nat} (h : prBad fs xs j = false) : 0 ≤ (pth xs j).fac ∧ (pth xs j).fac < fs.length ∧ seenB xs j (pth xs j).fac = false ∧ 0 ≤ (pth xs j).lev ∧ (pth xs j).lev < (fth fs (pth xs j).fac.toNat).lev := by
  simp only [prBad, Bool.or_eq_false_iff, decide_eq_false_iff_not] at h
  obtain ⟨⟨⟨⟨h1, h2⟩, h3⟩, h4⟩, h5⟩ := h
  exact ⟨by omega, by omega, h3, by omega, by omega⟩
theorem planOk {P : Pw} (h : planBad P = false) : P.fs.length ≤ 8 ∧ P.fo.length ≤ 40 ∧ anyFacBad P.fs = false ∧ anyPrsBad P.fs P.fo = false := by
  simp only [planBad, Bool.or_eq_false_iff, decide_eq_false_iff_not] at h
  obtain ⟨⟨⟨h1, h2⟩, h3⟩, h4⟩ := h
  exact ⟨by omega, by omega, h3, h4⟩
theorem FoOk.of {w : World} {P : Pw} (hp : PlanAt w P) (hb : PlanB P) (h : planBad P = false) : FoOk w P P.fs.length :=
  ⟨hp.fo, hp.ps, hb.gl, hb.pl, fun i hi j hj => by
    have := prOk (prsOff (planOk h).2.2.2 i hi j hj)
    exact ⟨this.1, this.2.1⟩⟩
def setBad (P : Pw) (s : Se) : Bool := !levB P.fs s.lv.xs || !alwB P.fo s.lv.xs || decide (s.blk < 0) || decide (1000 < s.blk)
theorem enters107 : Enters Tryz.prog 107 := Enters.mk Tryz.func107 rfl rfl
set_option maxHeartbeats 1000000 in
theorem chk1_any (P : Pw) (s : Se) (B : Nat) (w : World) (hp : PlanAt w P) (hb : PlanB P) (hv : planBad P = false) (hl : Ints w s.lv.a s.lv.xs) (hn : s.lv.xs.length ≤ 9223372036854775807)
    (g0 : ∀ W, Ext w W → W.cell? ⟨B, 0, none⟩ = some (.slice P.fa P.fs.length P.fc)) (g1 : ∀ W, Ext w W → W.cell? ⟨B, 1, none⟩ = some (.slice P.ga P.fo.length P.gc)) :
    Calls Tryz.prog 107 #[setV s, .pointer (some ⟨B, 0, none⟩)] w (Ret (.bool (setBad P s)) w) := by
  have hlv := fun W (e : Ext w W) => isLevels_any P s.lv.a s.lv.xs s.lv.c W (hp.ext e) hb.fl (hl.ext e) hn
  have hal := fun W (e : Ext w W) (h : levB P.fs s.lv.xs = true) => allowed_any P s.lv.a s.lv.xs s.lv.c W ((by rw [levB_len h]; exact FoOk.of (hp.ext e) hb hv)) (hl.ext e)
  obtain ⟨⟨a, ls, c⟩, bk⟩ := s
  obtain ⟨fs, fa, fc, fo, ga, gc⟩ := P
  simp only at hlv hal g0 g1
  have HLV := Lib.hid hlv; have HAL := Lib.hid hal
  have HB : Hid (setBad ⟨fs, fa, fc, fo, ga, gc⟩ ⟨⟨a, ls, c⟩, bk⟩ = (!levB fs ls || !alwB fo ls || decide (bk < 0) || decide (1000 < bk))) := rfl
  clear hlv hal hp hb hv hl hn
  obtain ⟨q1, hq1⟩ : ∃ q, q = levB fs ls := ⟨_, rfl⟩
  obtain ⟨q2, hq2⟩ : ∃ q, q = alwB fo ls := ⟨_, rfl⟩
  rw [← hq1] at HLV HAL HB; rw [← hq2] at HAL HB
  clear hq1 hq2
  cases q1
  · go_enter Tryz.func107, Tryz.ntmps107
    go_wp2_with (fail)
    generalize hw1 : World.alloc _ _ = w1
    obtain ⟨he, o1, -⟩ := alloc1 hw1
    obtain ⟨b0, b1⟩ := obj_cells2 o1
    have g2 := fun W (e : Ext w1 W) => g0 W (he.trans e)
    have g3 := fun W (e : Ext w1 W) => g1 W (he.trans e)
    have E1 := Ext.refl w1
    have HE := Lib.hid he
    clear hw1 o1 g0 g1 he
    go_wp2_with (go_at_call 83; (with_reducible refine (HLV.out _ HE.out).mono ?_); rintro e w2 ⟨rfl, he2⟩)
    go_ret
    exact ⟨by rw [HB.out]; rfl, HE.out.trans he2⟩
  · cases q2
    · go_enter Tryz.func107, Tryz.ntmps107
      go_wp2_with (fail)
      generalize hw1 : World.alloc _ _ = w1
      obtain ⟨he, o1, -⟩ := alloc1 hw1
      obtain ⟨b0, b1⟩ := obj_cells2 o1
      have g2 := fun W (e : Ext w1 W) => g0 W (he.trans e)
      have g3 := fun W (e : Ext w1 W) => g1 W (he.trans e)
      have E1 := Ext.refl w1
      have HE := Lib.hid he
      clear hw1 o1 g0 g1 he
      go_wp2_with (first | (go_at_call 83; (with_reducible refine (HLV.out _ HE.out).mono ?_); rintro e w2 ⟨rfl, he2⟩) | (go_at_call 81; (with_reducible refine (HAL.out _ (HE.out.trans he2) (by simp)).mono ?_); rintro e w3 ⟨rfl, he3⟩))
      go_ret
      exact ⟨by rw [HB.out]; rfl, HE.out.trans (he2.trans he3)⟩
    · cases T3 : decide (bk < 0)
      · cases T4 : decide (1000 < bk)
        all_goals
          rw [T3, T4] at HB
          go_enter Tryz.func107, Tryz.ntmps107
          go_wp2_with (fail)
          generalize hw1 : World.alloc _ _ = w1
          obtain ⟨he, o1, -⟩ := alloc1 hw1
          obtain ⟨b0, b1⟩ := obj_cells2 o1
          have g2 := fun W (e : Ext w1 W) => g0 W (he.trans e)
          have g3 := fun W (e : Ext w1 W) => g1 W (he.trans e)
          have E1 := Ext.refl w1
          have HE := Lib.hid he
          clear hw1 o1 g0 g1 he
          go_wp2_with (first | (go_at_call 83; (with_reducible refine (HLV.out _ HE.out).mono ?_); rintro e w2 ⟨rfl, he2⟩) | (go_at_call 81; (with_reducible refine (HAL.out _ (HE.out.trans he2) (by simp)).mono ?_); rintro e w3 ⟨rfl, he3⟩; have he23 := he2.trans he3))
          go_ret
          exact ⟨by rw [HB.out]; rfl, HE.out.trans he23⟩
      · rw [T3] at HB
        go_enter Tryz.func107, Tryz.ntmps107
        go_wp2_with (fail)
        generalize hw1 : World.alloc _ _ = w1
        obtain ⟨he, o1, -⟩ := alloc1 hw1
        obtain ⟨b0, b1⟩ := obj_cells2 o1
        have g2 := fun W (e : Ext w1 W) => g0 W (he.trans e)
        have g3 := fun W (e : Ext w1 W) => g1 W (he.trans e)
        have E1 := Ext.refl w1
        have HE := Lib.hid he
        clear hw1 o1 g0 g1 he
        go_wp2_with (first | (go_at_call 83; (with_reducible refine (HLV.out _ HE.out).mono ?_); rintro e w2 ⟨rfl, he2⟩) | (go_at_call 81; (with_reducible refine (HAL.out _ (HE.out.trans he2) (by simp)).mono ?_); rintro e w3 ⟨rfl, he3⟩; have he23 := he2.trans he3))
        go_ret
        exact ⟨by rw [HB.out]; rfl, HE.out.trans he23⟩
/-- Settings in memory, with their levels. -/
structure SetsAt (w : World) (a : Option Addr) (ss : List Se) : Prop where
  row : Sets w a ss
  lv : ∀ i, i < ss.length → Ints w (eth ss i).lv.a (eth ss i).lv.xs
theorem SetsAt.ext {w w' : World} {a : Option Addr} {ss : List Se} (h : SetsAt w a ss) (e : Ext w w') : SetsAt w' a ss := ⟨h.row.ext setC_len e, fun i hi => (h.lv i hi).ext e⟩
def anySetBad (P : Pw) (ss : List Se) : Bool := ss.any (setBad P)
def checkE (P : Pw) (ss : List Se) : Int := if planBad P then 2 else if 2000 < ss.length then 5 else if anySetBad P ss then 2 else 0
set_option maxHeartbeats 1000000 in
theorem check_any (P : Pw) (a : Option Addr) (ss : List Se) (c : Nat) (w : World) (hp : PlanAt w P) (hb : PlanB P) (hs : SetsAt w a ss) (hn : ss.length ≤ 9223372036854775807) (hl : ∀ i, i < ss.length → (eth ss i).lv.xs.length ≤ 9223372036854775807) :
    Calls Tryz.prog 69 #[planV P, .slice a ss.length c] w (Ret (.int .i64 (checkE P ss)) w) := by
  have hcp := fun W (e : Ext w W) => checkPlan_any P W (hp.ext e) (fun i hi => by have := hb.pl i hi; omega) (by have := hb.fl; omega) (by have := hb.gl; omega)
  have hcf := fun W (e : Ext w W) B (g0 : ∀ W', Ext W W' → W'.cell? ⟨B, 0, none⟩ = some (.slice P.fa P.fs.length P.fc)) (g1 : ∀ W', Ext W W' → W'.cell? ⟨B, 1, none⟩ = some (.slice P.ga P.fo.length P.gc)) (h2 : ss.length ≤ 2000) (h1 : planBad P = false) =>
    containsFunc_set 107 #[.pointer (some ⟨B, 0, none⟩)] a ss.length c ss (setBad P) W rfl (by omega) (hs.row.ext setC_len e) fun i hi =>
      ⟨enters107, fun W' e' => chk1_any P (eth ss i) B W' (hp.ext (e.trans e')) hb h1 ((hs.lv i hi).ext (e.trans e')) (hl i hi) (fun W'' e'' => g0 W'' (e'.trans e'')) (fun W'' e'' => g1 W'' (e'.trans e''))⟩
  obtain ⟨fs, fa, fc, fo, ga, gc⟩ := P
  simp only at hcp hcf
  have HCP := Lib.hid hcp; have HCF := Lib.hid hcf
  have HB : Hid (checkE ⟨fs, fa, fc, fo, ga, gc⟩ ss = if planBad ⟨fs, fa, fc, fo, ga, gc⟩ then 2 else if decide (2000 < (ss.length : Int)) then 5 else if anySetBad ⟨fs, fa, fc, fo, ga, gc⟩ ss then 2 else 0) := by
    have e2 : decide (2000 < (ss.length : Int)) = decide (2000 < ss.length) := by rw [decide_eq_decide]; omega
    show checkE _ _ = _
    rw [e2]; unfold checkE; simp only [decide_eq_true_eq]
  have HPE : Hid (planE ⟨fs, fa, fc, fo, ga, gc⟩ = if planBad ⟨fs, fa, fc, fo, ga, gc⟩ then 2 else 0) := rfl
  clear hcp hcf hp hb hs hl
  cases T1 : planBad ⟨fs, fa, fc, fo, ga, gc⟩
  · rw [T1] at HB HPE HCF
    rw [HPE.out] at HCP
    cases T2 : decide (2000 < (ss.length : Int))
    · rw [T2] at HB
      have h2 : ss.length ≤ 2000 := by simp at T2; omega
      cases T3 : anySetBad ⟨fs, fa, fc, fo, ga, gc⟩ ss
      all_goals
        rw [T3] at HB
        rw [show ss.any (setBad ⟨fs, fa, fc, fo, ga, gc⟩) = anySetBad ⟨fs, fa, fc, fo, ga, gc⟩ ss from rfl, T3] at HCF
        go_enter Tryz.func69, Tryz.ntmps69
        go_wp2_with (fail)
        generalize hw1 : World.alloc _ _ = w1
        obtain ⟨he, o1, -⟩ := alloc1 hw1
        obtain ⟨b0, b1⟩ := obj_cells2 o1
        have E1 := Ext.refl w1
        have HE := Lib.hid he
        clear hw1 o1 he
        go_wp2_with (fail)
        (with_reducible refine (HCP.out _ HE.out).mono ?_); rintro e w2 ⟨rfl, he2⟩
        have HE2 := Lib.hid (HE.out.trans he2)
        have HC := Lib.hid (HCF.out w2 HE2.out w.heap.size (fun W e => b0 W (he2.trans e)) (fun W e => b1 W (he2.trans e)) h2 (by simp))
        go_wp2_with (fail)
        (with_reducible refine HC.out.mono ?_); rintro e w3 ⟨rfl, he3⟩
        go_wp2_with (fail)
        go_ret
        exact ⟨by rw [HB.out]; rfl, HE2.out.trans he3⟩
    · rw [T2] at HB
      go_enter Tryz.func69, Tryz.ntmps69
      go_wp2_with (fail)
      generalize hw1 : World.alloc _ _ = w1
      obtain ⟨he, o1, -⟩ := alloc1 hw1
      obtain ⟨b0, b1⟩ := obj_cells2 o1
      have E1 := Ext.refl w1
      have HE := Lib.hid he
      clear hw1 o1 he
      go_wp2_with (fail)
      (with_reducible refine (HCP.out _ HE.out).mono ?_); rintro e w2 ⟨rfl, he2⟩
      have HE2 := Lib.hid (HE.out.trans he2)
      go_wp2_with (fail)
      go_ret
      exact ⟨by rw [HB.out]; rfl, HE2.out⟩
  · rw [T1] at HB HPE
    rw [HPE.out] at HCP
    go_enter Tryz.func69, Tryz.ntmps69
    go_wp2_with (fail)
    generalize hw1 : World.alloc _ _ = w1
    obtain ⟨he, o1, -⟩ := alloc1 hw1
    obtain ⟨b0, b1⟩ := obj_cells2 o1
    have E1 := Ext.refl w1
    have HE := Lib.hid he
    clear hw1 o1 he
    go_wp2_with (fail)
    (with_reducible refine (HCP.out _ HE.out).mono ?_); rintro e w2 ⟨rfl, he2⟩
    have HE2 := Lib.hid (HE.out.trans he2)
    go_wp2_with (fail)
    go_ret
    exact ⟨by rw [HB.out]; rfl, HE2.out⟩
theorem checkE_ok {P : Pw} {ss : List Se} (h : checkE P ss = 0) : planBad P = false ∧ ss.length ≤ 2000 ∧ ∀ i, i < ss.length → setBad P (eth ss i) = false := by
  unfold checkE at h
  split at h
  · cases h
  · rename_i h1
    split at h
    · cases h
    · rename_i h2
      split at h
      · cases h
      · rename_i h3
        refine ⟨by simpa using h1, by omega, fun i hi => ?_⟩
        have h4 : anySetBad P ss = false := by simpa using h3
        unfold anySetBad at h4
        rw [List.any_eq_false] at h4
        rw [eth_eq ss i hi]
        simpa using h4 _ (List.getElem_mem hi)
theorem setOk {P : Pw} {s : Se} (h : setBad P s = false) : levB P.fs s.lv.xs = true ∧ alwB P.fo s.lv.xs = true ∧ 0 ≤ s.blk ∧ s.blk ≤ 1000 := by
  simp only [setBad, Bool.or_eq_false_iff, Bool.not_eq_false', decide_eq_false_iff_not] at h
  obtain ⟨⟨⟨h1, h2⟩, h3⟩, h4⟩ := h
  exact ⟨h1, h2, by omega, by omega⟩
/-- What Allowed answers. -/
def AllowedV (P : Pw) (ls : List Int) : Value := if planBad P then .tuple #[.bool false, .int .i64 2] else if levB P.fs ls then .tuple #[.bool (alwB P.fo ls), .int .i64 0] else .tuple #[.bool false, .int .i64 2]
set_option maxHeartbeats 1000000 in
theorem Allowed_any (P : Pw) (a : Option Addr) (ls : List Int) (c : Nat) (w : World) (hp : PlanAt w P) (hb : PlanB P) (hl : Ints w a ls) (hn : ls.length ≤ 9223372036854775807) :
    Calls Tryz.prog 23 #[planV P, .slice a ls.length c] w (Ret (AllowedV P ls) w) := by
  have hcp := fun W (e : Ext w W) => checkPlan_any P W (hp.ext e) (fun i hi => by have := hb.pl i hi; omega) (by have := hb.fl; omega) (by have := hb.gl; omega)
  have hlv := fun W (e : Ext w W) => isLevels_any P a ls c W (hp.ext e) hb.fl (hl.ext e) hn
  have hal := fun W (e : Ext w W) (h : levB P.fs ls = true) (hv : planBad P = false) => allowed_any P a ls c W ((by rw [levB_len h]; exact FoOk.of (hp.ext e) hb hv)) (hl.ext e)
  have HB : Hid (AllowedV P ls = if planBad P then .tuple #[.bool false, .int .i64 2] else if levB P.fs ls then .tuple #[.bool (alwB P.fo ls), .int .i64 0] else .tuple #[.bool false, .int .i64 2]) := rfl
  obtain ⟨fs, fa, fc, fo, ga, gc⟩ := P
  simp only at hlv hal hcp HB
  have HCP := Lib.hid hcp; have HLV := Lib.hid hlv; have HAL := Lib.hid hal
  have HPE : Hid (planE ⟨fs, fa, fc, fo, ga, gc⟩ = if planBad ⟨fs, fa, fc, fo, ga, gc⟩ then 2 else 0) := rfl
  clear hcp hlv hal hp hb hl
  obtain ⟨q1, hq1⟩ : ∃ q, q = levB fs ls := ⟨_, rfl⟩
  obtain ⟨q2, hq2⟩ : ∃ q, q = alwB fo ls := ⟨_, rfl⟩
  rw [← hq1] at HLV HAL HB; rw [← hq2] at HAL HB
  clear hq1 hq2
  cases T1 : planBad ⟨fs, fa, fc, fo, ga, gc⟩
  · rw [T1] at HB HPE HAL
    rw [HPE.out] at HCP
    cases q1
    · go_enter Tryz.func23, Tryz.ntmps23
      go_wp2_with (fail)
      generalize hw1 : World.alloc _ _ = w1
      obtain ⟨he, o1, -⟩ := alloc1 hw1
      obtain ⟨b0, b1⟩ := obj_cells2 o1
      have E1 := Ext.refl w1
      have HE := Lib.hid he
      clear hw1 o1 he
      go_wp2_with (first | (go_at_call 42; (with_reducible refine (HCP.out _ HE.out).mono ?_); rintro e w2 ⟨rfl, he2⟩; have HE2 := Lib.hid (HE.out.trans he2)) | (go_at_call 83; (with_reducible refine (HLV.out _ HE2.out).mono ?_); rintro e w3 ⟨rfl, he3⟩))
      go_ret2
      exact ⟨by rw [HB.out]; rfl, HE2.out.trans he3⟩
    · go_enter Tryz.func23, Tryz.ntmps23
      go_wp2_with (fail)
      generalize hw1 : World.alloc _ _ = w1
      obtain ⟨he, o1, -⟩ := alloc1 hw1
      obtain ⟨b0, b1⟩ := obj_cells2 o1
      have E1 := Ext.refl w1
      have HE := Lib.hid he
      clear hw1 o1 he
      go_wp2_with (first | (go_at_call 42; (with_reducible refine (HCP.out _ HE.out).mono ?_); rintro e w2 ⟨rfl, he2⟩; have HE2 := Lib.hid (HE.out.trans he2)) | (go_at_call 83; (with_reducible refine (HLV.out _ HE2.out).mono ?_); rintro e w3 ⟨rfl, he3⟩; have he13 := he2.trans he3) | (go_at_call 81; (with_reducible refine (HAL.out _ (HE2.out.trans he3) (by simp) (by simp)).mono ?_); rintro e w4 ⟨rfl, he4⟩))
      go_ret2
      exact ⟨by rw [HB.out]; rfl, HE.out.trans (he13.trans he4)⟩
  · rw [T1] at HB HPE
    rw [HPE.out] at HCP
    go_enter Tryz.func23, Tryz.ntmps23
    go_wp2_with (fail)
    generalize hw1 : World.alloc _ _ = w1
    obtain ⟨he, o1, -⟩ := alloc1 hw1
    obtain ⟨b0, b1⟩ := obj_cells2 o1
    have E1 := Ext.refl w1
    have HE := Lib.hid he
    clear hw1 o1 he
    go_wp2_with (first | (go_at_call 42; (with_reducible refine (HCP.out _ HE.out).mono ?_); rintro e w2 ⟨rfl, he2⟩; have HE2 := Lib.hid (HE.out.trans he2)))
    go_ret2
    exact ⟨by rw [HB.out]; rfl, HE2.out⟩
end Go.Proofs.YtplbofhgmflnlaaGreat
end
section
/-
  Walks: Settings.
-/
set_option linter.unusedVariables false
set_option linter.unusedSimpArgs false
namespace Go.Proofs.YtplbofhgmflnlaaGreat
open Go.RowKit
theorem info31 : (Tryz.prog.info? 31).map (fun i => (i.zero, i.size, i.bytes)) = some (some (.slice none 0 0), 1, 24) := by kernel_rfl
abbrev OwnV (w : World) (B : Nat) (v : Value) (vs : List (Sl Int)) : Prop := OwnF 31 1 vecC w B v vs
theorem app_vec (w : World) (B : Nat) (ty : TypeId) (v : Value) (xs ys : List (Sl Int)) (a : Option Addr) (c : Nat) (hv : OwnV w B v xs) (hx : Vecs w a ys) (hn : xs.length + ys.length ≤ 1000000) (hB : B ≤ w.heap.size) :
    ∃ v' w', (Builtin.append_ #[42, 42] ty #[v, .slice a ys.length c]).run Tryz.prog w = .ok v' w' ∧ OwnV w' B v' (xs ++ ys) ∧ w.grownBy w' v.ownBlock := by
  obtain ⟨i0, hi, hz0, hz1, hz2⟩ := info_parts info31
  exact app_row vecC_len vecC_one Tryz.underlying42 hi hz0 hz1 hz2 rfl (by omega) (by omega) w B ty v xs ys a c hv hx hn hB
theorem vec_one {w : World} {b : Nat} {x : Sl Int} {T : TypeId} {fz : Nat × Nat} (h : w.heap[b]? = some (.cells #[.slice x.a x.xs.length x.c] T fz)) : Vecs w (some ⟨b, 0, none⟩) [x] := by
  have c0 := obj_cells1 h
  refine .inr ⟨b, 0, rfl, fun i hi j hj => ?_⟩
  obtain rfl : i = 0 := by simp at hi; omega
  obtain rfl : j = 0 := by omega
  exact c0 w (Ext.refl w)
/-- Each of these rows of numbers is the call's own, and no two lie in one block. -/
structure RowsI (w : World) (B : Nat) (vs : List (Sl Int)) : Prop where
  own : ∀ i, i < vs.length → OwnI w B (.slice (vth vs i).a (vth vs i).xs.length (vth vs i).c) (vth vs i).xs
  apart : ∀ i j, i < j → j < vs.length → ∀ p q, (vth vs i).a = some p → (vth vs j).a = some q → p.block ≠ q.block
theorem RowsI.nil (w : World) (B : Nat) : RowsI w B [] := ⟨fun i hi => by simp at hi, fun i j _ hj => by simp at hj⟩
theorem ownI_lt {w : World} {B n c : Nat} {p : Addr} {xs : List Int} (h : OwnI w B (.slice (some p) n c) xs) : B ≤ p.block ∧ p.block < w.heap.size := h.lt p.block rfl
theorem vth_app (vs : List (Sl Int)) (x : Sl Int) (i : Nat) (hi : i < vs.length) : vth (vs ++ [x]) i = vth vs i := by simp [vth, List.getElem?_append_left hi]
theorem vth_last (vs : List (Sl Int)) (x : Sl Int) : vth (vs ++ [x]) vs.length = x := by simp [vth]
theorem RowsI.kept {w w' : World} {B : Nat} {vs : List (Sl Int)} (h : RowsI w B vs) (hk : ∀ k, B ≤ k → k < w.heap.size → w'.heap[k]? = w.heap[k]?) : RowsI w' B vs :=
  ⟨fun i hi => own_of_block (h.own i hi) fun k hkk => hk k ((h.own i hi).lt k hkk).1 ((h.own i hi).lt k hkk).2, h.apart⟩
theorem RowsI.ext {w w' : World} {B : Nat} {vs : List (Sl Int)} (h : RowsI w B vs) (e : Ext w w') : RowsI w' B vs := ⟨fun i hi => (h.own i hi).ext e, h.apart⟩
theorem RowsI.down {w : World} {B B' : Nat} {vs : List (Sl Int)} (h : RowsI w B vs) (e : B' ≤ B) : RowsI w B' vs := ⟨fun i hi => own_down (h.own i hi) e, h.apart⟩
theorem RowsI.push {w : World} {B M : Nat} {vs : List (Sl Int)} {x : Sl Int} (h : RowsI w B vs) (hx : OwnI w M (.slice x.a x.xs.length x.c) x.xs) (hB : B ≤ M) (hl : ∀ i, i < vs.length → ∀ p, (vth vs i).a = some p → p.block < M) : RowsI w B (vs ++ [x]) := by
  refine ⟨fun i hi => ?_, fun i j hij hj p q hp hq => ?_⟩
  · rw [List.length_append, List.length_singleton] at hi
    by_cases e : i < vs.length
    · rw [vth_app _ _ _ e]; exact h.own i e
    · obtain rfl : i = vs.length := by omega
      rw [vth_last]; exact own_down hx hB
  · rw [List.length_append, List.length_singleton] at hj
    rw [vth_app _ _ _ (by omega)] at hp
    by_cases e : j < vs.length
    · rw [vth_app _ _ _ e] at hq; exact h.apart i j hij e p q hp hq
    · obtain rfl : j = vs.length := by omega
      rw [vth_last] at hq
      rw [hq] at hx
      have := (ownI_lt hx).1
      have := hl i (by omega) p hp
      omega
theorem own_types_ne {w : World} {B B' e e' sz sz' : Nat} {v v' : Value} {n n' : Nat} {xs xs' : List Value} (h : w.ownsRow B e sz v n xs) (h' : w.ownsRow B' e' sz' v' n' xs') (hne : e ≠ e') : ∀ k k', v.ownBlock = some k → v'.ownBlock = some k' → k ≠ k' := by
  intro k k' hk hk' heq
  subst heq
  rcases h.2 with ⟨hv, -⟩ | ⟨g, cap, cur, hv, -, hh, -⟩
  · rw [hv] at hk; cases hk
  · rcases h'.2 with ⟨hv', -⟩ | ⟨g', cap', cur', hv', -, hh', -⟩
    · rw [hv'] at hk'; cases hk'
    · rw [hv] at hk; rw [hv'] at hk'
      simp only [Value.ownBlock, Option.some.injEq] at hk hk'
      subst hk; subst hk'
      rw [hh] at hh'
      simp only [Option.some.injEq, Obj.cells.injEq] at hh'
      exact hne hh'.2.1
theorem RowsI.far {w w' : World} {B : Nat} {vs : List (Sl Int)} {o : Option Nat} (h : RowsI w B vs) (hg : w.grownBy w' o) (hne : ∀ i, i < vs.length → ∀ k, (Value.slice (vth vs i).a (vth vs i).xs.length (vth vs i).c).ownBlock = some k → o ≠ some k) : RowsI w' B vs :=
  ⟨fun i hi => own_of_block (h.own i hi) fun k hkk => hg.block k ((h.own i hi).lt k hkk).2 (fun e => hne i hi k hkk (by first | exact e | exact e.symm)), h.apart⟩
/-! ### plain -/
def levN (f : Fac) : Nat := f.lev.toNat
def prodTo (fs : List Fac) : Nat → Nat
  | 0 => 1
  | k + 1 => prodTo fs k * levN (fth fs k)
theorem prodTo_pos {fs : List Fac} (h : ∀ i, i < fs.length → 1 ≤ (fth fs i).lev) : ∀ k, k ≤ fs.length → 1 ≤ prodTo fs k
  | 0, _ => Nat.le_refl _
  | k + 1, hk => Nat.mul_pos (prodTo_pos h k (by omega)) (by have := h k (by omega); unfold levN; omega)
theorem prodTo_mono {fs : List Fac} (h : ∀ i, i < fs.length → 1 ≤ (fth fs i).lev) (k : Nat) : ∀ d, k + d ≤ fs.length → prodTo fs k ≤ prodTo fs (k + d)
  | 0, _ => Nat.le_refl _
  | d + 1, hd => Nat.le_trans (prodTo_mono h k d (by omega)) (by
      show prodTo fs (k + d) ≤ prodTo fs (k + d) * levN (fth fs (k + d))
      exact Nat.le_mul_of_pos_right _ (by have := h (k + d) (by omega); unfold levN; omega))
/-- The next levels: the places below k are still to be looked at. -/
def nxtK (fs : List Fac) : Nat → List Int → List Int
  | 0, l => l
  | k + 1, l => if nth l k + 1 < (fth fs k).lev then l.set k (nth l k + 1) else nxtK fs k (l.set k 0)
theorem nxtK_len (fs : List Fac) : ∀ k l, (nxtK fs k l).length = l.length
  | 0, _ => rfl
  | k + 1, l => by
    simp only [nxtK]; split
    · simp
    · rw [nxtK_len fs k]; simp
def atK (fs : List Fac) : Nat → List Int
  | 0 => fl fs.length fun _ => 0
  | j + 1 => nxtK fs fs.length (atK fs j)
theorem atK_len (fs : List Fac) : ∀ j, (atK fs j).length = fs.length
  | 0 => fl_len _ _
  | j + 1 => by simp only [atK]; rw [nxtK_len, atK_len fs j]
/-- All levels stay within 0 .. lev - 1. -/
theorem nxtK_bd {fs : List Fac} (h : ∀ i, i < fs.length → 1 ≤ (fth fs i).lev) : ∀ k (l : List Int), k ≤ fs.length → l.length = fs.length → (∀ i, i < fs.length → 0 ≤ nth l i ∧ nth l i < (fth fs i).lev) → ∀ i, i < fs.length → 0 ≤ nth (nxtK fs k l) i ∧ nth (nxtK fs k l) i < (fth fs i).lev
  | 0, _, _, _, hb => hb
  | k + 1, l, hk, hl, hb => by
    simp only [nxtK]; split
    · rename_i hlt
      intro i hi
      rw [nth_set _ _ _ _ (by omega)]
      split
      · rename_i e; subst e; have := hb i hi; exact ⟨by omega, hlt⟩
      · exact hb i hi
    · refine nxtK_bd h k _ (by omega) (by simpa using hl) fun i hi => ?_
      rw [nth_set _ _ _ _ (by omega)]
      split
      · rename_i e; subst e; have := h i hi; exact ⟨by omega, by omega⟩
      · exact hb i hi
theorem atK_bd {fs : List Fac} (h : ∀ i, i < fs.length → 1 ≤ (fth fs i).lev) : ∀ j i, i < fs.length → 0 ≤ nth (atK fs j) i ∧ nth (atK fs j) i < (fth fs i).lev
  | 0, i, hi => by
    simp only [atK]; rw [nth_fl _ _ _ hi]; have := h i hi; omega
  | j + 1, i, hi => nxtK_bd h _ _ (Nat.le_refl _) (atK_len fs j) (atK_bd h j) i hi
def outK (fs : List Fac) (fo : List (Sl Pr)) (j : Nat) : List (List Int) := ((List.range j).map (atK fs)).filter (alwB fo)
theorem outK_succ (fs : List Fac) (fo : List (Sl Pr)) (j : Nat) : outK fs fo (j + 1) = if alwB fo (atK fs j) then outK fs fo j ++ [atK fs j] else outK fs fo j := by
  unfold outK
  rw [List.range_succ, List.map_append, List.filter_append]
  by_cases h : alwB fo (atK fs j) = true
  · simp [h]
  · simp [h]
theorem outK_len (fs : List Fac) (fo : List (Sl Pr)) (j : Nat) : (outK fs fo j).length ≤ j := by
  unfold outK
  exact Nat.le_trans (List.length_filter_le _ _) (by simp)
def settingsS (P : Pw) : List (List Int) := outK P.fs P.fo (prodTo P.fs P.fs.length)
def settE (P : Pw) : Int := if planBad P then 2 else if 2000 < prodTo P.fs P.fs.length then 5 else 0
def RetSets (P : Pw) (w : World) (e : Ending) (w' : World) : Prop :=
  ∃ a vs c, e = .returned (.tuple #[.slice a vs.length c, .int .i64 0]) ∧ Ext w w' ∧ OwnV w' w.heap.size (.slice a vs.length c) vs ∧ RowsI w' w.heap.size vs ∧ vs.map (·.xs) = settingsS P
theorem vxs_len {fs : List Fac} {fo : List (Sl Pr)} {j : Nat} {vs : List (Sl Int)} (h : vs.map (·.xs) = outK fs fo j) : vs.length ≤ j := by
  have := outK_len fs fo j
  rw [← h] at this; simpa using this
set_option maxHeartbeats 1000000 in
theorem settings_err1 (P : Pw) (w : World) (hp : PlanAt w P) (hb : PlanB P) (h : planBad P = true) : Calls Tryz.prog 22 #[planV P] w (Ret (.tuple #[.slice none 0 0, .int .i64 2]) w) := by
  have hcp := fun W (e : Ext w W) => checkPlan_any P W (hp.ext e) (fun i hi => by have := hb.pl i hi; omega) (by have := hb.fl; omega) (by have := hb.gl; omega)
  rw [show planE P = 2 by unfold planE; rw [h]; rfl] at hcp
  obtain ⟨fs, fa, fc, fo, ga, gc⟩ := P
  have HCP := Lib.hid hcp
  clear hcp hp hb h
  go_enter Tryz.func22, Tryz.ntmps22
  go_wp2_with (fail)
  generalize hw1 : World.alloc _ _ = w1
  obtain ⟨he, o1, -⟩ := alloc1 hw1
  obtain ⟨b0, b1⟩ := obj_cells2 o1
  have E1 := Ext.refl w1
  have HE := Lib.hid he
  clear hw1 o1 he
  go_wp2_with (fail)
  (with_reducible refine (HCP.out _ HE.out).mono ?_); rintro e w2 ⟨rfl, he2⟩
  go_wp2_with (fail)
  go_ret2
  exact ⟨rfl, HE.out.trans he2⟩
set_option maxRecDepth 100000 in
set_option maxHeartbeats 4000000 in
theorem settings_ok (P : Pw) (w : World) (hp : PlanAt w P) (hb : PlanB P) (h : planBad P = false) :
    Calls Tryz.prog 22 #[planV P] w (fun e w' => (2000 < prodTo P.fs P.fs.length ∧ Ret (.tuple #[.slice none 0 0, .int .i64 5]) w e w') ∨ (prodTo P.fs P.fs.length ≤ 2000 ∧ RetSets P w e w')) := by
  have hcp := fun W (e : Ext w W) => checkPlan_any P W (hp.ext e) (fun i hi => by have := hb.pl i hi; omega) (by have := hb.fl; omega) (by have := hb.gl; omega)
  rw [show planE P = 0 by unfold planE; rw [h]; rfl] at hcp
  have hal := fun W (e : Ext w W) a c (ls : List Int) (hl : ls.length = P.fs.length) (hi : Ints W a ls) => allowed_any P a ls c W (by rw [hl]; exact FoOk.of (hp.ext e) hb h) hi
  have HP := Lib.hid hp
  have HFB := Lib.hid (anyFac_off (planOk h).2.2.1)
  have hf8 := (planOk h).1
  obtain ⟨fs, fa, fc, fo, ga, gc⟩ := P
  simp only at hal HFB hf8 hcp ⊢
  have HCP := Lib.hid hcp; have HAL := Lib.hid hal
  clear hcp hal hp hb h
  have HMK := Lib.hid (run_madeI fs.length (by omega))
  go_enter Tryz.func22, Tryz.ntmps22
  go_wp2_with (fail)
  generalize hw1 : World.alloc _ _ = w1
  obtain ⟨he, o1, -⟩ := alloc1 hw1
  obtain ⟨b0, b1⟩ := obj_cells2 o1
  have E1 := Ext.refl w1
  have HE := Lib.hid he
  clear hw1 o1 he
  go_wp2_with (fail)
  (with_reducible refine (HCP.out _ HE.out).mono ?_); rintro e w2 ⟨rfl, he2⟩
  have HE2 := Lib.hid he2
  clear HCP E1
  go_wp2_with (fail)
  go_loopw [5, 19] (fun a i wr => ∃ k p : Nat, k ≤ fs.length ∧ i = .int .i64 k ∧ a = .int .i64 p ∧ Ext w1 wr ∧ Hid (p = prodTo fs k ∧ 1 ≤ p ∧ p ≤ 2000)) (fun _ i _ => fs.length - (intOf i).toNat)
  case atStart => exact ⟨0, 1, Nat.zero_le _, rfl, rfl, HE2.out, rfl, Nat.le_refl _, by omega⟩
  case round =>
    obtain ⟨k, p, hk, rfl, rfl, hr, hpp⟩ := hrel
    obtain ⟨wo, rfl⟩ : ∃ wo : World, wo = wr := ⟨_, rfl⟩
    clear he2
    by_cases hlt : k < fs.length
    · obtain ⟨fb, fu, rfl, g0, g1, g2⟩ := fac_at (HP.out.fs.ext facC_len (HE.out.trans hr)) k hlt
      have hbd := HFB.out k hlt
      obtain ⟨L, hL⟩ : ∃ L : Nat, (fth fs k).lev = (L : Int) := ⟨(fth fs k).lev.toNat, by omega⟩
      have HL : Hid (levN (fth fs k) = L) := by unfold levN Hid; rw [hL]; rfl
      rw [hL] at g0 hbd
      have hmul : p * L ≤ 2000 * 8 := Nat.mul_le_mul hpp.out.2.2 (by omega)
      have hmul1 : 1 ≤ p * L := Nat.mul_pos hpp.out.2.1 (by omega)
      have hm0 : (0 : Int) ≤ (p : Int) * (L : Int) := by have := Int.natCast_mul p L; omega
      have hm1 : (p : Int) * (L : Int) ≤ 16000 := by have := Int.natCast_mul p L; omega
      have Er := Ext.refl wo
      clear hL hbd
      cases T : decide ((2000 : Int) < (p : Int) * (L : Int))
      · have HNX : Hid (p * L = prodTo fs (k + 1) ∧ 1 ≤ p * L ∧ p * L ≤ 2000) := by
          refine ⟨by show _ = prodTo fs k * levN (fth fs k); rw [HL.out, hpp.out.1], hmul1, ?_⟩
          simp only [decide_eq_false_iff_not] at T
          have := Int.natCast_mul p L; omega
        go_upto_region 8 with fail
        generalize hw3 : World.alloc wo _ = w3
        obtain ⟨he3, o3, hs3⟩ := alloc1 hw3
        obtain ⟨z0, z1, z2⟩ := obj_cells3 o3
        have hr3 := hr.trans he3
        clear hw3 o3 g0 g1 g2 Er hmul hmul1 hpp HL he3 hs3
        have Er := Ext.refl w3
        go_wp2_with (fail)
        go_roundw
        case rel => exact ⟨k + 1, p * L, by omega, by go_num, by rw [Int.natCast_mul], hr3, HNX.out⟩
        case measure => simp [intOf]; omega
      · have HNX : Hid (2000 < prodTo fs fs.length) := by
          have h1 : 2000 < prodTo fs (k + 1) := by
            show _ < prodTo fs k * levN (fth fs k)
            rw [HL.out, ← hpp.out.1]
            simp only [decide_eq_true_eq] at T
            have := Int.natCast_mul p L; omega
          have h2 := prodTo_mono (fs := fs) (fun i hi => (HFB.out i hi).1) (k + 1) (fs.length - (k + 1)) (by omega)
          rw [show k + 1 + (fs.length - (k + 1)) = fs.length by omega] at h2
          exact Nat.lt_of_lt_of_le h1 h2
        go_upto_region 8 with fail
        generalize hw3 : World.alloc wo _ = w3
        obtain ⟨he3, o3, hs3⟩ := alloc1 hw3
        obtain ⟨z0, z1, z2⟩ := obj_cells3 o3
        have hr3 := hr.trans he3
        clear hw3 o3 g0 g1 g2 Er hmul hmul1 hpp HL he3 hs3
        have Er := Ext.refl w3
        go_wp2_with (fail)
        go_ret2
        exact .inl ⟨HNX.out, rfl, HE.out.trans hr3⟩
    · obtain rfl : k = fs.length := by omega
      have HPP := hpp
      have HMK2 := HMK.out
      go_wp2_with (fail)
      generalize hwm : madeI _ _ = wm
      obtain ⟨hem, hown, hsz⟩ := madeI_facts (n := fs.length) (by omega) hwm
      obtain ⟨g, hg⟩ : ∃ g, g = wo.heap.size := ⟨_, rfl⟩
      rw [← hg] at hown hsz ⊢
      have hp2 : p ≤ 2000 := hpp.out.2.2
      have HG : Hid (g = wo.heap.size ∧ wm.heap.size = g + 1 ∧ w1.heap.size ≤ g) := ⟨hg, hsz, by have := hr.size; omega⟩
      have HRM := Lib.hid (hr.trans hem)
      have HOM := Lib.hid hown
      clear hwm hem hown hsz hg HMK2 hr HMK
      go_loopw [8, 35] (fun out i wr => ∃ (j : Nat) (vs : List (Sl Int)) (a : Option Addr) (c : Nat), j ≤ p ∧ i = .int .i64 j ∧ out = .slice a vs.length c ∧ Hid (Ext w1 wr) ∧ OwnI wr g (.slice (some ⟨g, 0, none⟩) fs.length fs.length) (atK fs j) ∧ Hid (OwnV wr (g + 1) (.slice a vs.length c) vs ∧ RowsI wr (g + 1) vs ∧ vs.map (·.xs) = outK fs fo j ∧ g + 1 ≤ wr.heap.size)) (fun _ i _ => p - (intOf i).toNat)
      case atStart => exact ⟨0, [], none, 0, Nat.zero_le _, rfl, rfl, HRM.out, HOM.out, OwnF.nil _ _ _ _ _, RowsI.nil _ _, rfl, by have := HG.out.2.1; omega⟩
      case round =>
        obtain ⟨j, vs, a, c, hj, rfl, rfl, hr, hown, hvs⟩ := hrel
        by_cases hlt : j < p
        · have hal : Calls Tryz.prog 81 #[.agg #[.slice fa fs.length fc, .slice ga fo.length gc], .slice (some ⟨g, 0, none⟩) fs.length fs.length] wr (Ret (.bool (alwB fo (atK fs j))) wr) := by
            have := HAL.out wr (HE.out.trans hr.out) (some ⟨g, 0, none⟩) fs.length (atK fs j) (atK_len fs j) hown.ints.1
            rw [atK_len] at this; exact this
          obtain ⟨q, hq⟩ : ∃ q, q = alwB fo (atK fs j) := ⟨_, rfl⟩
          rw [← hq] at hal
          have HA1 := Lib.hid hal
          have HQ := Lib.hid hq
          have HOWN := Lib.hid hown
          have hrr := hr.out
          clear hal hq hown
          cases q
          · go_wp2_with (fail)
            (with_reducible refine HA1.out.mono ?_); rintro e wz ⟨rfl, he4⟩
            have HV4 : Hid (OwnV wz (g + 1) (.slice a vs.length c) vs ∧ RowsI wz (g + 1) vs ∧ vs.map (·.xs) = outK fs fo (j + 1) ∧ g + 1 ≤ wz.heap.size) := by
              refine ⟨hvs.out.1.ext he4, hvs.out.2.1.ext he4, ?_, Nat.le_trans hvs.out.2.2.2 he4.size⟩
              rw [outK_succ, ← HQ.out]; exact hvs.out.2.2.1
            have HO4 := Lib.hid (HOWN.out.ext he4)
            have HR4 := Lib.hid (hr.out.trans he4)
            clear hvs HOWN HA1 HQ he4 hrr
            go_wp2_with (fail)
            go_loopw [10] (fun i wr => ∃ (k : Nat) (ys : List Int), k ≤ fs.length ∧ i = .int .i64 ((k : Int) - 1) ∧ Hid (Ext w1 wr ∧ ExtX g wz wr) ∧ OwnI wr g (.slice (some ⟨g, 0, none⟩) fs.length fs.length) ys ∧ Hid (ys.length = fs.length ∧ nxtK fs k ys = atK fs (j + 1) ∧ ∀ i, i < fs.length → 0 ≤ nth ys i ∧ nth ys i < (fth fs i).lev)) (fun i _ => (intOf i + 1).toNat)
            case atStart => exact ⟨fs.length, atK fs j, Nat.le_refl _, rfl, ⟨HR4.out, ExtX.refl _ _⟩, HO4.out, atK_len _ _, rfl, atK_bd (fun i hi => (HFB.out i hi).1) j⟩
            case round =>
              obtain ⟨k, ys, hk, rfl, hrx, hown, hys⟩ := hrel
              by_cases hlt2 : 1 ≤ k
              · obtain ⟨x, rfl⟩ : ∃ x, k = x + 1 := ⟨k - 1, by omega⟩
                have ez : (((x + 1 : Nat) : Int) - 1) = (x : Int) := by omega
                rw [ez]
                clear ez
                have hxn : x < fs.length := by omega
                have hx0 : (0 : Int) ≤ (x : Int) := by omega
                have hx1 : (x : Int) < (fs.length : Int) := by omega
                have hcell := ownI_cell hys.out.1 hown x hxn
                have hfr := ownI_free hys.out.1 hown x
                have hbz := hys.out.2.2 x hxn
                have hbl := HFB.out x hxn
                obtain ⟨z, hz⟩ : ∃ z, z = nth ys x := ⟨_, rfl⟩
                obtain ⟨L, hL⟩ : ∃ L, L = (fth fs x).lev := ⟨_, rfl⟩
                rw [← hz] at hcell hbz
                rw [← hL] at hbz hbl
                have hz0 : 0 ≤ z := hbz.1
                have hz8 : z ≤ 7 := by omega
                have hzL : z < L := hbz.2
                have HZ := Lib.hid hz; have HL := Lib.hid hL
                have HOW := Lib.hid hown
                clear hz hL hbz hbl hown
                go_upto_region 22 with fail
                generalize hw7 : World.setCell wr _ _ = w7
                have HX7 : Hid (Ext w1 w7 ∧ ExtX g wz w7 ∧ OwnI w7 g (.slice (some ⟨g, 0, none⟩) fs.length fs.length) (ys.set x (z + 1))) := by
                  subst hw7
                  exact ⟨hrx.out.1.set HG.out.2.2 _, hrx.out.2.set _ _, ownI_set2 hys.out.1 HOW.out _⟩
                have hc7 : ∀ W, Ext w7 W → W.cell? ⟨g, x, none⟩ = some (.int .i64 (z + 1)) := fun W e => by
                  rw [ownI_cell (by rw [List.length_set]; exact hys.out.1) (HX7.out.2.2.ext e) x hxn, nth_set _ _ _ _ (by rw [hys.out.1]; exact hxn), if_pos rfl]
                obtain ⟨fb, fu, rfl, g0, g1, g2⟩ := fac_at (HP.out.fs.ext facC_len (HE.out.trans HX7.out.1)) x hxn
                rw [← HL.out] at g0
                have b0' := fun W (e : Ext w7 W) => b0 W (HX7.out.1.trans e)
                have hr0 := Ext.refl w7
                clear hw7 hcell hfr g1 g2
                refine wp_region_ext (by kernel_rfl) (by kernel_rfl) hr0 ?_
                repeat (first | go_big_quiet_step (((fail))) | quiet_step (((fail))))
                refine wpQuiet_nil ?_
                rintro _ ⟨nq, rfl⟩
                have hq := nq.ok
                cases T : decide (z + 1 < L)
                · have hfr8 := ownI_free (by rw [List.length_set]; exact hys.out.1) (HX7.out.2.2.ext hq) x
                  have hc8 := hc7 nq.val hq
                  have HNX : Hid (Ext w1 (nq.val.setCell ⟨g, x, none⟩ (.int .i64 0)) ∧ ExtX g wz (nq.val.setCell ⟨g, x, none⟩ (.int .i64 0))) := ⟨(HX7.out.1.trans hq).set HG.out.2.2 _, (HX7.out.2.1.trans hq.x).set _ _⟩
                  have HNO : Hid (OwnI (nq.val.setCell ⟨g, x, none⟩ (.int .i64 0)) g (.slice (some ⟨g, 0, none⟩) fs.length fs.length) (ys.set x 0)) := by
                    have := ownI_set2 (j := x) (by rw [List.length_set]; exact hys.out.1) (HX7.out.2.2.ext hq) 0
                    rw [List.set_set] at this; exact this
                  have HNY : Hid ((ys.set x 0).length = fs.length ∧ nxtK fs x (ys.set x 0) = atK fs (j + 1) ∧ ∀ i, i < fs.length → 0 ≤ nth (ys.set x 0) i ∧ nth (ys.set x 0) i < (fth fs i).lev) := by
                    refine ⟨by rw [List.length_set]; exact hys.out.1, ?_, fun i hi => ?_⟩
                    · have := hys.out.2.1
                      simp only [nxtK] at this
                      rw [← HZ.out, ← HL.out, if_neg (by simpa using T)] at this
                      exact this
                    · rw [nth_set _ _ _ _ (by rw [hys.out.1]; exact hi)]
                      split
                      · have := (HFB.out i hi).1; omega
                      · exact hys.out.2.2 i hi
                  clear HX7 hys
                  go_wp2_with (fail)
                  go_roundw
                  case rel => exact ⟨x, ys.set x 0, by omega, by go_num, HNX.out, HNO.out, HNY.out⟩
                  case measure => first | (simp [intOf]; done) | (simp [intOf]; omega)
                · have HAT : Hid (ys.set x (z + 1) = atK fs (j + 1)) := by
                    have := hys.out.2.1
                    simp only [nxtK] at this
                    rw [← HZ.out, ← HL.out, if_pos (by simpa using T)] at this
                    exact this
                  have HFI := Lib.hid (HX7.out.1.trans hq)
                  have HFX : Hid (ExtX g wz nq.val) := HX7.out.2.1.trans hq.x
                  have HFO := Lib.hid (HX7.out.2.2.ext hq)
                  rw [HAT.out] at HFO
                  have HFV : Hid (g + 1 ≤ wz.heap.size) := HV4.out.2.2.2
                  clear HX7 hys
                  go_wp2_with (fail)
                  go_roundw
                  case rel => exact ⟨j + 1, _, _, _, by omega, by go_num, rfl, HFI.out, HFO.out, own_of_block HV4.out.1 (fun k hk => HFX.out.block k (HV4.out.1.lt k hk).2 (by have := (HV4.out.1.lt k hk).1; omega)), HV4.out.2.1.kept (fun k h1 h2 => HFX.out.block k h2 (by omega)), HV4.out.2.2.1, Nat.le_trans HV4.out.2.2.2 HFX.out.size⟩
                  case measure => first | (simp [intOf]; done) | (simp [intOf]; omega)
              · obtain rfl : k = 0 := by omega
                have HAT : Hid (ys = atK fs (j + 1)) := hys.out.2.1
                rw [HAT.out] at hown
                have HFO := Lib.hid hown
                clear hown hys
                go_wp2_with (fail)
                go_roundw
                case rel => exact ⟨j + 1, _, _, _, by omega, by go_num, rfl, hrx.out.1, HFO.out, own_of_block HV4.out.1 (fun k hk => hrx.out.2.block k (HV4.out.1.lt k hk).2 (by have := (HV4.out.1.lt k hk).1; omega)), HV4.out.2.1.kept (fun k h1 h2 => hrx.out.2.block k h2 (by omega)), HV4.out.2.2.1, Nat.le_trans HV4.out.2.2.2 hrx.out.2.size⟩
                case measure => first | (simp [intOf]; done) | (simp [intOf]; omega)
          · have hcl := fun W (e : Ext wr W) => clone_int (some ⟨g, 0, none⟩) fs.length (atK fs j) W (HOWN.out.ext e).ints.1 (by rw [atK_len]; omega)
            rw [atK_len] at hcl
            have HCL := Lib.hid hcl
            clear hcl
            go_wp2_with (fail)
            (with_reducible refine HA1.out.mono ?_); rintro e w4 ⟨rfl, he4⟩
            go_wp2_with (fail)
            (with_reducible refine (HCL.out w4 he4).mono ?_); rintro e w5 ⟨ca, cc, rfl, he5, hoc⟩
            rw [atK_len] at hoc ⊢
            have he45 := he4.trans he5
            have HEN := Lib.hid hvs.out.2.2.2
            have happ := app_vec (w5.alloc (.cells #[.slice ca fs.length cc] 31)) (g + 1) 42 _ vs [⟨ca, atK fs j, cc⟩] (some ⟨w5.heap.size, 0, none⟩) 1 ((hvs.out.1.ext he45).ext ((Ext.refl w5).alloc _)) (vec_one (by show _ = some (Obj.cells #[.slice ca (atK fs j).length cc] 31 (0, 0)); rw [atK_len]; exact heap_new _ _))
              (by have := vxs_len hvs.out.2.2.1; have := hpp.out.2.2; simp; omega) (by rw [heap_size]; have := hvs.out.2.2.2; have := he45.size; omega)
            have HAP := Lib.hid happ
            have HBK : Hid (∀ k, (Value.slice a vs.length c).ownBlock = some k → g + 1 ≤ k) := fun k hk => (hvs.out.1.lt k hk).1
            have HHO := Lib.hid hoc
            have HE4 := Lib.hid he4; have HE5 := Lib.hid he5
            clear happ HCL HA1 hoc he4 he5
            go_wp2_with (at_builtin; refine wpList_app _ rfl _ _ 42 rfl _ HAP.out ?_; rintro v' w6 ⟨hv6, hg6⟩; obtain ⟨vs2, hvs2⟩ : ∃ v, v = vs ++ [(⟨ca, atK fs j, cc⟩ : Sl Int)] := ⟨_, rfl⟩; rw [← hvs2] at hv6; have HVS2 := Lib.hid hvs2; clear hvs2; obtain ⟨a6, c6, rfl⟩ := ownF_slice hv6)
            have HV4 : Hid (OwnV w6 (g + 1) (.slice a6 vs2.length c6) vs2 ∧ RowsI w6 (g + 1) vs2 ∧ vs2.map (·.xs) = outK fs fo (j + 1) ∧ g + 1 ≤ w6.heap.size) := by
              rw [HVS2.out] at hv6 ⊢
              have hsz5 : w5.heap.size ≤ w6.heap.size := by have := hg6.size; rw [heap_size] at this; omega
              have h45 := HE4.out.size; have h55 := HE5.out.size
              refine ⟨hv6, RowsI.push (M := w4.heap.size) ?_ ?_ (by have := HEN.out; omega) ?_, ?_, by have := HEN.out; omega⟩
              · refine RowsI.far ((hvs.out.2.1.ext he45).ext ((Ext.refl w5).alloc _)) hg6 fun i hi k hk e => ?_
                exact own_types_ne (hvs.out.2.1.own i hi) hvs.out.1 (by decide) k k hk e rfl
              · show OwnI w6 _ (.slice ca (atK fs j).length cc) (atK fs j)
                rw [atK_len]
                refine own_of_block (own_ext HHO.out ((Ext.refl w5).alloc (.cells #[.slice ca fs.length cc] 31))) fun k hk => ?_
                exact hg6.block k (by rw [heap_size]; have := (HHO.out.lt k hk).2; omega) (fun e => by
                  have h1 := (hvs.out.1.lt k (by first | exact e | exact e.symm)).2
                  have h2 := (HHO.out.lt k hk).1
                  omega)
              · intro i hi p hp
                have := hvs.out.2.1.own i hi
                rw [hp] at this
                have := (ownI_lt this).2
                omega
              · rw [List.map_append, hvs.out.2.2.1, outK_succ, ← HQ.out]; rfl
            have HO4 : Hid (OwnI w6 g (.slice (some ⟨g, 0, none⟩) fs.length fs.length) (atK fs j)) := by
              refine own_of_block ((HOWN.out.ext he45).ext ((Ext.refl w5).alloc (.cells #[.slice ca fs.length cc] 31))) fun k hk => ?_
              simp only [Value.ownBlock, Option.some.injEq] at hk
              subst hk
              exact hg6.block g (by rw [heap_size]; have := (own_lt HOWN.out).2; have := he45.size; omega) (fun e => by
                have h1 := HBK.out g (by first | exact e | exact e.symm)
                omega)
            have HR4 : Hid (Ext w1 w6) := grown_ext ((hrr.trans he45).alloc _) hg6 (fun k hk => by have := HBK.out k hk; have := HG.out.2.2; omega)
            clear HAP hv6 hg6 HEN HHO HE4 HE5 HBK hvs HOWN HQ hrr he45
            generalize w6 = wz at *
            go_wp2_with (fail)
            go_loopw [10] (fun i wr => ∃ (k : Nat) (ys : List Int), k ≤ fs.length ∧ i = .int .i64 ((k : Int) - 1) ∧ Hid (Ext w1 wr ∧ ExtX g wz wr) ∧ OwnI wr g (.slice (some ⟨g, 0, none⟩) fs.length fs.length) ys ∧ Hid (ys.length = fs.length ∧ nxtK fs k ys = atK fs (j + 1) ∧ ∀ i, i < fs.length → 0 ≤ nth ys i ∧ nth ys i < (fth fs i).lev)) (fun i _ => (intOf i + 1).toNat)
            case atStart => exact ⟨fs.length, atK fs j, Nat.le_refl _, rfl, ⟨HR4.out, ExtX.refl _ _⟩, HO4.out, atK_len _ _, rfl, atK_bd (fun i hi => (HFB.out i hi).1) j⟩
            case round =>
              obtain ⟨k, ys, hk, rfl, hrx, hown, hys⟩ := hrel
              by_cases hlt2 : 1 ≤ k
              · obtain ⟨x, rfl⟩ : ∃ x, k = x + 1 := ⟨k - 1, by omega⟩
                have ez : (((x + 1 : Nat) : Int) - 1) = (x : Int) := by omega
                rw [ez]
                clear ez
                have hxn : x < fs.length := by omega
                have hx0 : (0 : Int) ≤ (x : Int) := by omega
                have hx1 : (x : Int) < (fs.length : Int) := by omega
                have hcell := ownI_cell hys.out.1 hown x hxn
                have hfr := ownI_free hys.out.1 hown x
                have hbz := hys.out.2.2 x hxn
                have hbl := HFB.out x hxn
                obtain ⟨z, hz⟩ : ∃ z, z = nth ys x := ⟨_, rfl⟩
                obtain ⟨L, hL⟩ : ∃ L, L = (fth fs x).lev := ⟨_, rfl⟩
                rw [← hz] at hcell hbz
                rw [← hL] at hbz hbl
                have hz0 : 0 ≤ z := hbz.1
                have hz8 : z ≤ 7 := by omega
                have hzL : z < L := hbz.2
                have HZ := Lib.hid hz; have HL := Lib.hid hL
                have HOW := Lib.hid hown
                clear hz hL hbz hbl hown
                go_upto_region 22 with fail
                generalize hw7 : World.setCell wr _ _ = w7
                have HX7 : Hid (Ext w1 w7 ∧ ExtX g wz w7 ∧ OwnI w7 g (.slice (some ⟨g, 0, none⟩) fs.length fs.length) (ys.set x (z + 1))) := by
                  subst hw7
                  exact ⟨hrx.out.1.set HG.out.2.2 _, hrx.out.2.set _ _, ownI_set2 hys.out.1 HOW.out _⟩
                have hc7 : ∀ W, Ext w7 W → W.cell? ⟨g, x, none⟩ = some (.int .i64 (z + 1)) := fun W e => by
                  rw [ownI_cell (by rw [List.length_set]; exact hys.out.1) (HX7.out.2.2.ext e) x hxn, nth_set _ _ _ _ (by rw [hys.out.1]; exact hxn), if_pos rfl]
                obtain ⟨fb, fu, rfl, g0, g1, g2⟩ := fac_at (HP.out.fs.ext facC_len (HE.out.trans HX7.out.1)) x hxn
                rw [← HL.out] at g0
                have b0' := fun W (e : Ext w7 W) => b0 W (HX7.out.1.trans e)
                have hr0 := Ext.refl w7
                clear hw7 hcell hfr g1 g2
                refine wp_region_ext (by kernel_rfl) (by kernel_rfl) hr0 ?_
                repeat (first | go_big_quiet_step (((fail))) | quiet_step (((fail))))
                refine wpQuiet_nil ?_
                rintro _ ⟨nq, rfl⟩
                have hq := nq.ok
                cases T : decide (z + 1 < L)
                · have hfr8 := ownI_free (by rw [List.length_set]; exact hys.out.1) (HX7.out.2.2.ext hq) x
                  have hc8 := hc7 nq.val hq
                  have HNX : Hid (Ext w1 (nq.val.setCell ⟨g, x, none⟩ (.int .i64 0)) ∧ ExtX g wz (nq.val.setCell ⟨g, x, none⟩ (.int .i64 0))) := ⟨(HX7.out.1.trans hq).set HG.out.2.2 _, (HX7.out.2.1.trans hq.x).set _ _⟩
                  have HNO : Hid (OwnI (nq.val.setCell ⟨g, x, none⟩ (.int .i64 0)) g (.slice (some ⟨g, 0, none⟩) fs.length fs.length) (ys.set x 0)) := by
                    have := ownI_set2 (j := x) (by rw [List.length_set]; exact hys.out.1) (HX7.out.2.2.ext hq) 0
                    rw [List.set_set] at this; exact this
                  have HNY : Hid ((ys.set x 0).length = fs.length ∧ nxtK fs x (ys.set x 0) = atK fs (j + 1) ∧ ∀ i, i < fs.length → 0 ≤ nth (ys.set x 0) i ∧ nth (ys.set x 0) i < (fth fs i).lev) := by
                    refine ⟨by rw [List.length_set]; exact hys.out.1, ?_, fun i hi => ?_⟩
                    · have := hys.out.2.1
                      simp only [nxtK] at this
                      rw [← HZ.out, ← HL.out, if_neg (by simpa using T)] at this
                      exact this
                    · rw [nth_set _ _ _ _ (by rw [hys.out.1]; exact hi)]
                      split
                      · have := (HFB.out i hi).1; omega
                      · exact hys.out.2.2 i hi
                  clear HX7 hys
                  go_wp2_with (fail)
                  go_roundw
                  case rel => exact ⟨x, ys.set x 0, by omega, by go_num, HNX.out, HNO.out, HNY.out⟩
                  case measure => first | (simp [intOf]; done) | (simp [intOf]; omega)
                · have HAT : Hid (ys.set x (z + 1) = atK fs (j + 1)) := by
                    have := hys.out.2.1
                    simp only [nxtK] at this
                    rw [← HZ.out, ← HL.out, if_pos (by simpa using T)] at this
                    exact this
                  have HFI := Lib.hid (HX7.out.1.trans hq)
                  have HFX : Hid (ExtX g wz nq.val) := HX7.out.2.1.trans hq.x
                  have HFO := Lib.hid (HX7.out.2.2.ext hq)
                  rw [HAT.out] at HFO
                  have HFV : Hid (g + 1 ≤ wz.heap.size) := HV4.out.2.2.2
                  clear HX7 hys
                  go_wp2_with (fail)
                  go_roundw
                  case rel => exact ⟨j + 1, _, _, _, by omega, by go_num, rfl, HFI.out, HFO.out, own_of_block HV4.out.1 (fun k hk => HFX.out.block k (HV4.out.1.lt k hk).2 (by have := (HV4.out.1.lt k hk).1; omega)), HV4.out.2.1.kept (fun k h1 h2 => HFX.out.block k h2 (by omega)), HV4.out.2.2.1, Nat.le_trans HV4.out.2.2.2 HFX.out.size⟩
                  case measure => first | (simp [intOf]; done) | (simp [intOf]; omega)
              · obtain rfl : k = 0 := by omega
                have HAT : Hid (ys = atK fs (j + 1)) := hys.out.2.1
                rw [HAT.out] at hown
                have HFO := Lib.hid hown
                clear hown hys
                go_wp2_with (fail)
                go_roundw
                case rel => exact ⟨j + 1, _, _, _, by omega, by go_num, rfl, hrx.out.1, HFO.out, own_of_block HV4.out.1 (fun k hk => hrx.out.2.block k (HV4.out.1.lt k hk).2 (by have := (HV4.out.1.lt k hk).1; omega)), HV4.out.2.1.kept (fun k h1 h2 => hrx.out.2.block k h2 (by omega)), HV4.out.2.2.1, Nat.le_trans HV4.out.2.2.2 hrx.out.2.size⟩
                case measure => first | (simp [intOf]; done) | (simp [intOf]; omega)
        · obtain rfl : j = p := by omega
          have hq0 : vs.map (·.xs) = outK fs fo (prodTo fs fs.length) := by rw [← hpp.out.1]; exact hvs.out.2.2.1
          have HQ0 := Lib.hid hq0
          clear hq0
          go_wp2_with (fail)
          go_ret2
          refine .inr ⟨by rw [← hpp.out.1]; exact hpp.out.2.2, a, vs, c, rfl, HE.out.trans hr.out, own_base hvs.out.1 ?_, hvs.out.2.1.down ?_, HQ0.out⟩
          · have := HG.out.2.2; have := HE.out.size; omega
          · have := HG.out.2.2; have := HE.out.size; omega
end Go.Proofs.YtplbofhgmflnlaaGreat
end
