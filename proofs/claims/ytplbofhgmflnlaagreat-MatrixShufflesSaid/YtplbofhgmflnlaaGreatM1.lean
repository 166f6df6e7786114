/-
  Walks: CheckPlan.
-/
import Derived.Test.YtplbofhgmflnlaaGreatMB
set_option linter.unusedVariables false
set_option linter.unusedSimpArgs false
namespace Go.Proofs.YtplbofhgmflnlaaGreat
open Go.RowKit
/-- A plan, with its places. -/
structure Pw where
  fs : List Fac
  fa : Option Addr
  fc : Nat
  fo : List (Sl Pr)
  ga : Option Addr
  gc : Nat
abbrev planV (P : Pw) : Value := .agg #[.slice P.fa P.fs.length P.fc, .slice P.ga P.fo.length P.gc]
structure PlanAt (w : World) (P : Pw) : Prop where
  fs : Facs w P.fa P.fs
  fo : Grps w P.ga P.fo
  ps : ∀ i, i < P.fo.length → Prs w (gth P.fo i).a (gth P.fo i).xs
theorem PlanAt.ext {w w' : World} {P : Pw} (h : PlanAt w P) (e : Ext w w') : PlanAt w' P :=
  ⟨h.fs.ext facC_len e, h.fo.ext grpC_len e, fun i hi => (h.ps i hi).ext prC_len e⟩
def facBad (f : Fac) : Bool := decide (f.lev < 1) || decide (8 < f.lev) || decide (f.cost < 0) || decide (1000 < f.cost)
def anyFacBad (fs : List Fac) : Bool := fs.any facBad
/-- Whether one of the first k pairs is about this factor. -/
def seenB (xs : List Pr) (k : Nat) (q : Int) : Bool := (xs.take k).any fun x => decide (x.fac = q)
def prBad (fs : List Fac) (xs : List Pr) (k : Nat) : Bool :=
  decide ((pth xs k).fac < 0) || decide ((fs.length : Int) ≤ (pth xs k).fac) || seenB xs k (pth xs k).fac || decide ((pth xs k).lev < 0) || decide ((fth fs (pth xs k).fac.toNat).lev ≤ (pth xs k).lev)
def prsBad (fs : List Fac) (xs : List Pr) : Bool := (fIdx (prBad fs xs) xs.length).isSome
def anyPrsBad (fs : List Fac) (fo : List (Sl Pr)) : Bool := (fIdx (fun i => prsBad fs (gth fo i).xs) fo.length).isSome
def planBad (P : Pw) : Bool := decide (8 < P.fs.length) || decide (40 < P.fo.length) || anyFacBad P.fs || anyPrsBad P.fs P.fo
def planE (P : Pw) : Int := if planBad P then 2 else 0
set_option maxHeartbeats 1000000 in
theorem facBad_any (f : Fac) (w : World) : Calls Tryz.prog 91 #[facV f] w (Ret (.bool (facBad f)) w) := by
  have HB : Hid (facBad f = (decide (f.lev < 1) || decide (8 < f.lev) || decide (f.cost < 0) || decide (1000 < f.cost))) := rfl
  cases T1 : decide (f.lev < 1)
  cases T2 : decide (8 < f.lev)
  cases T3 : decide (f.cost < 0)
  cases T4 : decide (1000 < f.cost)
  all_goals
    try rw [T1] at HB
    try rw [T2] at HB
    try rw [T3] at HB
    try rw [T4] at HB
    go_enter Tryz.func91, Tryz.ntmps91
    go_wp2_with (fail)
    generalize hw1 : World.alloc _ _ = w1
    obtain ⟨he, o1, -⟩ := alloc1 hw1
    obtain ⟨b0, b1, b2⟩ := obj_cells3 o1
    clear hw1 o1
    have E1 := Ext.refl w1
    go_wp2_with (fail)
    go_ret
    refine ⟨?_, he⟩
    rw [HB.out]
    rfl
theorem enters91 : Enters Tryz.prog 91 := Enters.mk Tryz.func91 rfl rfl
theorem anyFac_any (a : Option Addr) (fs : List Fac) (c : Nat) (w : World) (h : Facs w a fs) (hl : fs.length ≤ 1000000) : Calls Tryz.prog 92 #[.slice a fs.length c, .func (.func 91) #[] #[]] w (Ret (.bool (anyFacBad fs)) w) :=
  containsFunc_fac 91 #[] a fs.length c fs facBad w rfl hl h fun i _ => ⟨enters91, fun W _ => facBad_any _ W⟩
theorem anyFac_off {fs : List Fac} (h : anyFacBad fs = false) : ∀ i, i < fs.length → 1 ≤ (fth fs i).lev ∧ (fth fs i).lev ≤ 8 ∧ 0 ≤ (fth fs i).cost ∧ (fth fs i).cost ≤ 1000 := by
  intro i hi
  unfold anyFacBad at h
  rw [List.any_eq_false] at h
  have := h _ (List.getElem_mem hi)
  rw [← fth_eq fs i hi] at this
  simp only [facBad, Bool.or_eq_true, decide_eq_true_eq, not_or] at this
  omega
theorem seenB_succ (xs : List Pr) (k : Nat) (hk : k < xs.length) (q : Int) : seenB xs (k + 1) q = (seenB xs k q || decide ((pth xs k).fac = q)) := by
  unfold seenB
  rw [List.take_succ_eq_append_getElem hk, List.any_append, ← pth_eq xs k hk]
  simp
theorem fIdx_isSome {q : Nat → Bool} {n i : Nat} (hi : i < n) (h : q i = true) : (fIdx q n).isSome = true := by
  unfold fIdx
  rw [List.find?_isSome]
  exact ⟨i, by simpa using hi, h⟩
theorem fIdx_off {q : Nat → Bool} {n : Nat} (h : (fIdx q n).isSome = false) : ∀ i, i < n → q i = false := by
  intro i hi
  cases e : q i with
  | false => rfl
  | true => rw [fIdx_isSome hi e] at h; cases h
theorem anyPrs_on {fs : List Fac} {fo : List (Sl Pr)} {k j : Nat} (hk : k < fo.length) (hj : j < (gth fo k).xs.length) (h : prBad fs (gth fo k).xs j = true) : anyPrsBad fs fo = true :=
  fIdx_isSome hk (fIdx_isSome hj h)
/-- The row in which the factors of a combination are marked. -/
def seenC (xs : List Pr) (k : Nat) : Array Value := #[.bool (seenB xs k 0), .bool (seenB xs k 1), .bool (seenB xs k 2), .bool (seenB xs k 3), .bool (seenB xs k 4), .bool (seenB xs k 5), .bool (seenB xs k 6), .bool (seenB xs k 7)]
theorem seenC_at {w : World} {y : Nat} {xs : List Pr} {k : Nat} {T : TypeId} {fz : Nat × Nat} (h : w.heap[y]? = some (.cells (seenC xs k) T fz)) (q : Nat) (hq : q < 8) : ∀ W, Ext w W → W.cell? ⟨y, q, none⟩ = some (.bool (seenB xs k q)) := by
  obtain ⟨h0, h1, h2, h3, h4, h5, h6, h7⟩ := obj_cells8 h
  match q, hq with
  | 0, _ => exact h0
  | 1, _ => exact h1
  | 2, _ => exact h2
  | 3, _ => exact h3
  | 4, _ => exact h4
  | 5, _ => exact h5
  | 6, _ => exact h6
  | 7, _ => exact h7
theorem seenC_set {w : World} {y : Nat} {xs : List Pr} {k : Nat} {T : TypeId} {fz : Nat × Nat} (h : w.heap[y]? = some (.cells (seenC xs k) T fz)) (q : Nat) (hq : q < 8) (hk : k < xs.length) (hx : (pth xs k).fac = (q : Int)) :
    (w.setCell ⟨y, q, none⟩ (.bool true)).heap[y]? = some (.cells (seenC xs (k + 1)) T fz) := by
  have h1 := block_set h q (.bool true)
  rw [h1]
  have e : ∀ r : Nat, seenB xs (k + 1) r = (seenB xs k r || decide (q = r)) := fun r => by
    rw [seenB_succ xs k hk, hx]
    congr 1
    rw [decide_eq_decide]; omega
  have e0 := e 0; have e1 := e 1; have e2 := e 2; have e3 := e 3; have e4 := e 4; have e5 := e 5; have e6 := e 6; have e7 := e 7
  congr 2
  unfold seenC
  match q, hq with
  | 0, _ => simp_all
  | 1, _ => simp_all
  | 2, _ => simp_all
  | 3, _ => simp_all
  | 4, _ => simp_all
  | 5, _ => simp_all
  | 6, _ => simp_all
  | 7, _ => simp_all
set_option maxRecDepth 100000 in
set_option maxHeartbeats 4000000 in
theorem checkPlan_any (P : Pw) (w : World) (h : PlanAt w P) (hl : ∀ i, i < P.fo.length → (gth P.fo i).xs.length ≤ 9223372036854775807) (hf : P.fs.length ≤ 9223372036854775807) (hg : P.fo.length ≤ 9223372036854775807) :
    Calls Tryz.prog 42 #[planV P] w (Ret (.int .i64 (planE P)) w) := by
  obtain ⟨fs, fa, fc, fo, ga, gc⟩ := P
  have HH := Lib.hid h; have HL := Lib.hid hl
  simp only at hf hg
  have HB : Hid (planE ⟨fs, fa, fc, fo, ga, gc⟩ = if (decide (8 < (fs.length : Int)) || decide (40 < (fo.length : Int)) || anyFacBad fs || anyPrsBad fs fo) then 2 else 0) := by
    have e1 : decide (8 < (fs.length : Int)) = decide (8 < fs.length) := by rw [decide_eq_decide]; omega
    have e2 : decide (40 < (fo.length : Int)) = decide (40 < fo.length) := by rw [decide_eq_decide]; omega
    show planE _ = _
    rw [e1, e2]; rfl
  clear h hl
  cases T1 : decide (8 < (fs.length : Int))
  cases T2 : decide (40 < (fo.length : Int))
  cases T3 : anyFacBad fs
  all_goals
    try rw [T1] at HB
    try rw [T2] at HB
    try rw [T3] at HB
    go_enter Tryz.func42, Tryz.ntmps42
    go_wp2_with (fail)
    generalize hw1 : World.alloc _ _ = w1
    obtain ⟨he, o1, -⟩ := alloc1 hw1
    obtain ⟨b0, b1⟩ := obj_cells2 o1
    clear hw1 o1
    have E1 := Ext.refl w1
    have HE := Lib.hid he
    clear he
  rotate_left
  · have HF := Lib.hid (anyFac_any fa fs fc w1 (HH.out.fs.ext facC_len HE.out) (by simp at T1; omega))
    go_wp2_with (fail)
    rw [T3] at HF
    (with_reducible refine HF.out.mono ?_); rintro e w2 ⟨rfl, he2⟩
    go_wp2_with (fail)
    go_ret
    exact ⟨by rw [HB.out]; rfl, HE.out.trans he2⟩
  · go_wp2_with (fail)
    go_ret
    exact ⟨by rw [HB.out]; rfl, HE.out⟩
  · go_wp2_with (fail)
    go_ret
    exact ⟨by rw [HB.out]; rfl, HE.out⟩
  · have HF := Lib.hid (anyFac_any fa fs fc w1 (HH.out.fs.ext facC_len HE.out) (by simp at T1; omega))
    have hf8 : fs.length ≤ 8 := by simp at T1; omega
    have HFO := Lib.hid (anyFac_off T3)
    go_wp2_with (fail)
    rw [T3] at HF
    (with_reducible refine HF.out.mono ?_); rintro e w2 ⟨rfl, he2⟩
    have HE2 := Lib.hid he2
    clear HF T1 T2 T3
    go_wp2_with (fail)
    go_loopw [28] (fun i wr => ∃ k : Nat, k ≤ fo.length ∧ i = .int .i64 k ∧ Ext w1 wr ∧ Hid (∀ j, j < k → prsBad fs (gth fo j).xs = false)) (fun i _ => fo.length - (intOf i).toNat)
    case atStart => exact ⟨0, Nat.zero_le _, rfl, HE2.out, fun j hj => by omega⟩
    case round =>
      obtain ⟨k, hk, rfl, hr, hfa⟩ := hrel
      obtain ⟨wo, rfl⟩ : ∃ wo : World, wo = wr := ⟨_, rfl⟩
      clear he2 E1
      by_cases hlt : k < fo.length
      · obtain ⟨gb, go, rfl, c0⟩ := grp_at (HH.out.fo.ext grpC_len HE.out) k hlt
        have hps := HH.out.ps k hlt
        have hpl := HL.out k hlt
        obtain ⟨x, hx⟩ : ∃ x, x = gth fo k := ⟨_, rfl⟩
        have HX := Lib.hid hx
        rw [← hx] at c0 hps hpl
        clear hx
        obtain ⟨sa, xs, sc⟩ := x
        have HPS := Lib.hid hps
        simp only at hpl c0
        clear hps
        have hi0 : (0 : Int) ≤ (k : Int) := by omega
        have hi1 : (k : Int) < (fo.length : Int) := by omega
        go_upto_region 8 with fail
        generalize hw3 : World.alloc wo _ = w3
        obtain ⟨he3, o3, hs3⟩ := alloc1 hw3
        have hst : Hid (Ext w1 w3 ∧ w3.heap[wo.heap.size]? = some (.cells (seenC xs 0) 151 (0, 0)) ∧ w1.heap.size ≤ wo.heap.size) := ⟨hr.trans he3, o3, hr.size⟩
        obtain ⟨y, hy⟩ : ∃ y, y = wo.heap.size := ⟨_, rfl⟩
        rw [← hy] at hst ⊢
        clear hw3 he3 o3 hs3 hy c0
        go_wp2_with (fail)
        go_loopw [34] (fun i wr => ∃ j : Nat, j ≤ xs.length ∧ i = .int .i64 j ∧ Hid (Ext w1 wr ∧ wr.heap[y]? = some (.cells (seenC xs j) 151 (0, 0)) ∧ w1.heap.size ≤ y) ∧ Hid (∀ i, i < j → prBad fs xs i = false)) (fun i _ => xs.length - (intOf i).toNat)
        case atStart => exact ⟨0, Nat.zero_le _, rfl, hst, fun j hj => by omega⟩
        case round =>
          obtain ⟨j, hj, rfl, hwr, hfb⟩ := hrel
          clear hst
          by_cases hlt2 : j < xs.length
          · obtain ⟨pb, po, rfl, d0, d1⟩ := pr_at ((HPS.out.ext prC_len HE.out).ext prC_len hwr.out.1) j hlt2
            have hpx : Hid (prBad fs xs j = (decide ((pth xs j).fac < 0) || decide ((fs.length : Int) ≤ (pth xs j).fac) || seenB xs j (pth xs j).fac || decide ((pth xs j).lev < 0) || decide ((fth fs (pth xs j).fac.toNat).lev ≤ (pth xs j).lev))) := rfl
            obtain ⟨x, hx⟩ : ∃ x, x = pth xs j := ⟨_, rfl⟩
            rw [← hx] at d0 d1 hpx
            have HX2 := Lib.hid hx
            clear hx
            obtain ⟨xf, xl⟩ := x
            simp only at d0 d1 hpx
            have hj0 : (0 : Int) ≤ (j : Int) := by omega
            have hj1 : (j : Int) < (xs.length : Int) := by omega
            have Er := Ext.refl wr
            go_upto_region 11 with fail
            generalize hw5 : World.alloc wr _ = w5
            obtain ⟨he5, o5, hs5⟩ := alloc1 hw5
            obtain ⟨z0, z1⟩ := obj_cells2 o5
            have hwr5 : Hid (Ext w1 w5 ∧ w5.heap[y]? = some (.cells (seenC xs j) 151 (0, 0)) ∧ w1.heap.size ≤ y) := ⟨hwr.out.1.trans he5, he5.block hwr.out.2.1, hwr.out.2.2⟩
            have E5 := hwr5.out.1
            have hr0 := Ext.refl w5
            have b5 := fun W (e : Ext w5 W) => b0 W (E5.trans e)
            clear hw5 o5 d0 d1 Er he5 hs5 hwr
            cases C1 : decide (xf < 0)
            · have c1 : 0 ≤ xf := by simpa using C1
              obtain ⟨q, rfl⟩ : ∃ q : Nat, xf = (q : Int) := ⟨xf.toNat, by omega⟩
              cases C2 : decide ((fs.length : Int) ≤ (q : Int))
              · have c2 : q < fs.length := by simp at C2; omega
                have hs := seenC_at hwr5.out.2.1 q (by omega)
                obtain ⟨fb, fu, rfl, g0, -, -⟩ := fac_at (HH.out.fs.ext facC_len (HE.out.trans E5)) q c2
                have hq0 : (0 : Int) ≤ (q : Int) := by omega
                have hq1 : (q : Int) < (fs.length : Int) := by omega
                have hq8 : (q : Int) < 8 := by omega
                have hpx2 : Hid (prBad fs xs j = (false || false || seenB xs j (q : Int) || decide (xl < 0) || decide ((fth fs q).lev ≤ xl))) := by
                  have := hpx.out
                  rw [C1, C2, Int.toNat_natCast] at this; exact this
                clear hpx
                have hpx := hpx2
                cases C3 : seenB xs j (q : Int)
                · cases C4 : decide (xl < 0)
                  · cases C5 : decide ((fth fs q).lev ≤ xl)
                    · have hno : Hid (∀ i, i < j + 1 → prBad fs xs i = false) := all_lt_succ hfb.out (by rw [hpx.out, C3, C4, C5]; rfl)
                      refine wp_region_ext (by kernel_rfl) (by kernel_rfl) hr0 ?_
                      repeat (first | go_big_quiet_step (((fail))) | quiet_step (((fail))))
                      refine wpQuiet_nil ?_
                      rintro _ ⟨nq, rfl⟩
                      have he1 := nq.ok
                      have hb6 := he1.block hwr5.out.2.1
                      have f6 := obj_free hb6 nq.val (Ext.refl _)
                      have hnew : Hid (Ext w1 (nq.val.setCell ⟨y, q, none⟩ (.bool true)) ∧ (nq.val.setCell ⟨y, q, none⟩ (.bool true)).heap[y]? = some (.cells (seenC xs (j + 1)) 151 (0, 0)) ∧ w1.heap.size ≤ y) := ⟨(E5.trans he1).set (p := ⟨y, q, none⟩) hwr5.out.2.2 _, seenC_set hb6 q (by omega) hlt2 (by rw [← HX2.out]), hwr5.out.2.2⟩
                      go_wp2_with (fail)
                      go_roundw
                      case rel => exact ⟨j + 1, by omega, by go_num, hnew, hno⟩
                      case measure => simp [intOf]; omega
                    · have HBD : Hid (anyPrsBad fs fo = true) := anyPrs_on (k := k) (j := j) hlt (by rw [← HX.out]; exact hlt2) (by rw [← HX.out]; rw [hpx.out, C3, C4, C5]; rfl)
                      refine wp_region_ext (by kernel_rfl) (by kernel_rfl) hr0 ?_
                      repeat (first | go_big_quiet_step (((fail))) | quiet_step (((fail))))
                      refine wpQuiet_nil ?_
                      rintro _ ⟨nq, rfl⟩
                      have he1 := nq.ok
                      go_wp2_with (fail)
                      go_ret
                      exact ⟨by rw [HB.out, HBD.out]; rfl, HE.out.trans (E5.trans he1)⟩
                  · have HBD : Hid (anyPrsBad fs fo = true) := anyPrs_on (k := k) (j := j) hlt (by rw [← HX.out]; exact hlt2) (by rw [← HX.out]; rw [hpx.out, C3, C4]; rfl)
                    refine wp_region_ext (by kernel_rfl) (by kernel_rfl) hr0 ?_
                    repeat (first | go_big_quiet_step (((fail))) | quiet_step (((fail))))
                    refine wpQuiet_nil ?_
                    rintro _ ⟨nq, rfl⟩
                    have he1 := nq.ok
                    go_wp2_with (fail)
                    go_ret
                    exact ⟨by rw [HB.out, HBD.out]; rfl, HE.out.trans (E5.trans he1)⟩
                · have HBD : Hid (anyPrsBad fs fo = true) := anyPrs_on (k := k) (j := j) hlt (by rw [← HX.out]; exact hlt2) (by rw [← HX.out]; rw [hpx.out, C3]; rfl)
                  refine wp_region_ext (by kernel_rfl) (by kernel_rfl) hr0 ?_
                  repeat (first | go_big_quiet_step (((fail))) | quiet_step (((fail))))
                  refine wpQuiet_nil ?_
                  rintro _ ⟨nq, rfl⟩
                  have he1 := nq.ok
                  go_wp2_with (fail)
                  go_ret
                  exact ⟨by rw [HB.out, HBD.out]; rfl, HE.out.trans (E5.trans he1)⟩
              · have c2 : fs.length ≤ q := by simp at C2; omega
                have c3 : (fs.length : Int) ≤ (q : Int) := by omega
                have HBD : Hid (anyPrsBad fs fo = true) := anyPrs_on (k := k) (j := j) hlt (by rw [← HX.out]; exact hlt2) (by rw [← HX.out]; rw [hpx.out, C1, C2]; rfl)
                refine wp_region_ext (by kernel_rfl) (by kernel_rfl) hr0 ?_
                repeat (first | go_big_quiet_step (((fail))) | quiet_step (((fail))))
                refine wpQuiet_nil ?_
                rintro _ ⟨nq, rfl⟩
                have he1 := nq.ok
                go_wp2_with (fail)
                go_ret
                exact ⟨by rw [HB.out, HBD.out]; rfl, HE.out.trans (E5.trans he1)⟩
            · have HBD : Hid (anyPrsBad fs fo = true) := anyPrs_on (k := k) (j := j) hlt (by rw [← HX.out]; exact hlt2) (by rw [← HX.out]; rw [hpx.out, C1]; rfl)
              refine wp_region_ext (by kernel_rfl) (by kernel_rfl) hr0 ?_
              repeat (first | go_big_quiet_step (((fail))) | quiet_step (((fail))))
              refine wpQuiet_nil ?_
              rintro _ ⟨nq, rfl⟩
              have he1 := nq.ok
              go_wp2_with (fail)
              go_ret
              exact ⟨by rw [HB.out, HBD.out]; rfl, HE.out.trans (E5.trans he1)⟩
          · obtain rfl : j = xs.length := by omega
            have hno : Hid (∀ j, j < k + 1 → prsBad fs (gth fo j).xs = false) := all_lt_succ hfa.out (by rw [← HX.out]; show prsBad fs xs = false; unfold prsBad; rw [fIdx_none hfb.out]; rfl)
            have hrr := hwr.out.1
            clear hfb
            go_wp2_with (fail)
            go_roundw
            case rel => exact ⟨k + 1, by omega, by go_num, hrr, hno⟩
            case measure => simp [intOf]; omega
      · obtain rfl : k = fo.length := by omega
        have HBD : Hid (anyPrsBad fs fo = false) := by show anyPrsBad fs fo = false; unfold anyPrsBad; rw [fIdx_none hfa.out]; rfl
        clear hfa
        go_wp2_with (fail)
        go_ret
        exact ⟨by rw [HB.out, HBD.out]; rfl, HE.out.trans hr⟩
end Go.Proofs.YtplbofhgmflnlaaGreat
