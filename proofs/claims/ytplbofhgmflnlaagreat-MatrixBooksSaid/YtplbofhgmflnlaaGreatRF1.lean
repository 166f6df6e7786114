/-
  Walk: the reference's Plan.
-/
import Derived.Test.YtplbofhgmflnlaaGreatMF6
set_option linter.unusedVariables false
set_option linter.unusedSimpArgs false
namespace Go.Proofs.YtplbofhgmflnlaaGreat
open Go.RowKit
theorem bad_of_fac {fs : List Fac} {fo : List (Sl Pr)} {fa ga : Option Addr} {fc gc k : Nat} (hk : k < fs.length) (h : facBad (fth fs k) = true) : planBad ⟨fs, fa, fc, fo, ga, gc⟩ = true := by
  have : anyFacBad fs = true := by
    unfold anyFacBad
    rw [List.any_eq_true]
    exact ⟨fs[k], List.getElem_mem hk, by rw [← fth_eq fs k hk]; exact h⟩
  simp [planBad, this]
theorem bad_of_pr {fs : List Fac} {fo : List (Sl Pr)} {fa ga : Option Addr} {fc gc i j : Nat} (hi : i < fo.length) (hj : j < (gth fo i).xs.length) (h : prBad fs (gth fo i).xs j = true) : planBad ⟨fs, fa, fc, fo, ga, gc⟩ = true := by
  have : anyPrsBad fs fo = true := by
    unfold anyPrsBad
    refine fIdx_isSome hi ?_
    unfold prsBad
    exact fIdx_isSome hj h
  simp [planBad, this]
theorem seenB_one {xs : List Pr} {k j : Nat} {q : Int} (hj : j < k) (hk : k ≤ xs.length) (h : (pth xs j).fac = q) : seenB xs k q = true := by
  unfold seenB
  rw [List.any_eq_true]
  refine ⟨xs[j], ?_, by rw [← pth_eq xs j (by omega)]; simpa using h⟩
  rw [List.mem_take_iff_getElem]
  exact ⟨j, by omega, rfl⟩
theorem seenB_no {xs : List Pr} {k : Nat} {q : Int} (hk : k ≤ xs.length) (h : ∀ j, j < k → (pth xs j).fac ≠ q) : seenB xs k q = false := by
  unfold seenB
  rw [List.any_eq_false]
  intro x hx
  rw [List.mem_take_iff_getElem] at hx
  obtain ⟨j, hj, rfl⟩ := hx
  have := h j (by omega)
  rw [pth_eq xs j (by omega)] at this
  simpa using this
theorem good_plan {fs : List Fac} {fo : List (Sl Pr)} {fa ga : Option Addr} {fc gc : Nat} (h1 : ∀ k, k < fs.length → facBad (fth fs k) = false) (h2 : ∀ i, i < fo.length → prsBad fs (gth fo i).xs = false) :
    planBad ⟨fs, fa, fc, fo, ga, gc⟩ = (decide (8 < fs.length) || decide (40 < fo.length)) := by
  have e1 : anyFacBad fs = false := by
    unfold anyFacBad
    rw [List.any_eq_false]
    intro x hx
    obtain ⟨i, hi, rfl⟩ := List.mem_iff_getElem.1 hx
    rw [← fth_eq fs i hi, h1 i hi]; simp
  have e2 : anyPrsBad fs fo = false := by
    unfold anyPrsBad
    rw [fIdx_none h2]; rfl
  simp [planBad, e1, e2]
set_option maxRecDepth 100000 in
set_option maxHeartbeats 4000000 in
theorem rPlan_any (P : Pw) (w : World) (h : PlanAt w P) (hb : PlanB P) : Calls Tryz.prog 41 #[planV P] w (Ret (.bool (!planBad P)) w) := by
  obtain ⟨fs, fa, fc, fo, ga, gc⟩ := P
  obtain ⟨hfl, hgl, hpl⟩ := hb
  simp only at hfl hgl hpl
  have HH := Lib.hid h; have HPL := Lib.hid hpl
  obtain ⟨q, hq⟩ : ∃ q, q = planBad ⟨fs, fa, fc, fo, ga, gc⟩ := ⟨_, rfl⟩
  rw [← hq]
  have HQ := Lib.hid hq
  clear h hpl hq
  go_enter Tryz.func41, Tryz.ntmps41
  go_wp2_with (fail)
  generalize hw1 : World.alloc _ _ = w1
  obtain ⟨he, o1, -⟩ := alloc1 hw1
  obtain ⟨b0, b1⟩ := obj_cells2 o1
  have HE := Lib.hid he
  have E1 := Ext.refl w1
  clear hw1 o1 he
  go_loopw [3] (fun i wr => ∃ k : Nat, k ≤ fs.length ∧ i = .int .i64 k ∧ Ext w1 wr ∧ Hid (∀ j, j < k → facBad (fth fs j) = false)) (fun i _ => fs.length - (intOf i).toNat)
  case atStart => exact ⟨0, Nat.zero_le _, rfl, Ext.refl _, fun j hj => by omega⟩
  case round =>
    obtain ⟨k, hk, rfl, hr, hh⟩ := hrel
    have B0 := fun W (e : Ext wr W) => b0 W (hr.trans e)
    have Er := Ext.refl wr
    by_cases hlt : k < fs.length
    · obtain ⟨fb, fu, rfl, z0, z1, z2⟩ := fac_at (HH.out.fs.ext facC_len (HE.out.trans hr)) k hlt
      have HBD : Hid (facBad (fth fs k) = (decide ((fth fs k).lev < 1) || decide (8 < (fth fs k).lev) || decide ((fth fs k).cost < 0) || decide (1000 < (fth fs k).cost))) := rfl
      have HT : Hid (facBad (fth fs k) = true → q = true) := fun h => by rw [HQ.out]; exact bad_of_fac hlt h
      obtain ⟨B, hB⟩ : ∃ B, B = facBad (fth fs k) := ⟨_, rfl⟩
      have HB := Lib.hid hB
      rw [← hB] at HBD HT
      obtain ⟨x, hx⟩ : ∃ x, x = (fth fs k).lev := ⟨_, rfl⟩
      obtain ⟨y, hy⟩ : ∃ y, y = (fth fs k).cost := ⟨_, rfl⟩
      obtain ⟨z, hz⟩ : ∃ z, z = (fth fs k).hard := ⟨_, rfl⟩
      rw [← hx] at z0 HBD
      rw [← hy] at z1 HBD
      rw [← hz] at z2
      clear hx hy hz hB
      cases T1 : decide (x < 1)
      cases T2 : decide (8 < x)
      cases T3 : decide (y < 0)
      cases T4 : decide (1000 < y)
      · rw [T1, T2, T3, T4] at HBD
        have HN : Hid (∀ j, j < k + 1 → facBad (fth fs j) = false) := fun j hj => by
          rcases Nat.lt_succ_iff_lt_or_eq.1 hj with h | h
          · exact hh.out j h
          · subst h; rw [← HB.out]; exact HBD.out
        clear hh HT HB HBD
        go_upto_region 5 with fail
        generalize hw3 : World.alloc wr _ = w3
        obtain ⟨he3, o3, hs3⟩ := alloc1 hw3
        obtain ⟨y0, y1, y2⟩ := obj_cells3 o3
        have hr3 := hr.trans he3
        clear hw3 o3 z0 z1 z2 he3 hs3 B0 Er
        have Er := Ext.refl w3
        go_wp2_with (fail)
        go_roundw
        case rel => exact ⟨k + 1, by omega, by go_num, hr3, HN⟩
        case measure => simp [intOf]; omega
      all_goals
        try rw [T1] at HBD
        try rw [T2] at HBD
        try rw [T3] at HBD
        try rw [T4] at HBD
        have HN : Hid (q = true) := HT.out (by rw [HBD.out]; rfl)
        clear hh HT HB HBD
        go_upto_region 5 with fail
        generalize hw3 : World.alloc wr _ = w3
        obtain ⟨he3, o3, hs3⟩ := alloc1 hw3
        obtain ⟨y0, y1, y2⟩ := obj_cells3 o3
        have hr3 := hr.trans he3
        clear hw3 o3 z0 z1 z2 he3 hs3 B0 Er
        have Er := Ext.refl w3
        go_wp2_with (fail)
        go_ret
        exact ⟨by rw [HN.out]; rfl, HE.out.trans hr3⟩
    · obtain rfl : k = fs.length := by omega
      have HF1 := hh
      clear hh B0
      go_wp2_with (fail)
      obtain ⟨w2, rfl⟩ : ∃ w2 : World, w2 = wr := ⟨_, rfl⟩
      have HRR := Lib.hid hr
      have B0 := fun W (e : Ext w2 W) => b0 W (hr.trans e)
      go_loopw [5] (fun i wr => ∃ k : Nat, k ≤ fo.length ∧ i = .int .i64 k ∧ Ext w2 wr ∧ Hid (∀ j, j < k → prsBad fs (gth fo j).xs = false)) (fun i _ => fo.length - (intOf i).toNat)
      case atStart => exact ⟨0, Nat.zero_le _, rfl, Ext.refl _, fun j hj => by omega⟩
      case round =>
        obtain ⟨i, hi, rfl, hr4, hh⟩ := hrel
        obtain ⟨wo, rfl⟩ : ∃ wo : World, wo = wr := ⟨_, rfl⟩
        have C0 := fun W (e : Ext wo W) => B0 W (hr4.trans e)
        have C1 := fun W (e : Ext wo W) => b1 W ((HRR.out.trans hr4).trans e)
        have Eo := Ext.refl wo
        by_cases hlt : i < fo.length
        · obtain ⟨gb, go, rfl, g0⟩ := grp_at (HH.out.fo.ext grpC_len (HE.out.trans (HRR.out.trans hr4))) i hlt
          have hps := Lib.hid ((HH.out.ps i hlt).ext prC_len (HE.out.trans (HRR.out.trans hr4)))
          have hpl := HPL.out i hlt
          simp only at hps
          have HT : Hid (∀ j, j < (gth fo i).xs.length → prBad fs (gth fo i).xs j = true → q = true) := fun j hj h => by rw [HQ.out]; exact bad_of_pr hlt hj h
          have HP2 : Hid ((∀ j, j < (gth fo i).xs.length → prBad fs (gth fo i).xs j = false) → ∀ j, j < i + 1 → prsBad fs (gth fo j).xs = false) := fun h j hj => by
            rcases Nat.lt_succ_iff_lt_or_eq.1 hj with h1 | h1
            · exact hh.out j h1
            · subst h1; unfold prsBad; rw [fIdx_none h]; rfl
          obtain ⟨xs, hxs⟩ : ∃ xs, xs = (gth fo i).xs := ⟨_, rfl⟩
          obtain ⟨pa, hpa⟩ : ∃ pa, pa = (gth fo i).a := ⟨_, rfl⟩
          obtain ⟨pc, hpc⟩ : ∃ pc, pc = (gth fo i).c := ⟨_, rfl⟩
          rw [← hxs, ← hpa, ← hpc] at g0
          rw [← hxs] at hpl HT HP2
          rw [← hxs, ← hpa] at hps
          clear hxs hpa hpc hh B0
          go_wp2_with (fail)
          go_loopw [6] (fun j wr => ∃ k : Nat, k ≤ xs.length ∧ j = .int .i64 k ∧ Ext wo wr ∧ Hid (∀ j, j < k → prBad fs xs j = false)) (fun j _ => xs.length - (intOf j).toNat)
          case atStart => exact ⟨0, Nat.zero_le _, rfl, Ext.refl _, fun j hj => by omega⟩
          case round =>
            obtain ⟨k, hk, rfl, hrk, hh⟩ := hrel
            have D0 := fun W (e : Ext wr W) => C0 W (hrk.trans e)
            have D1 := fun W (e : Ext wr W) => C1 W (hrk.trans e)
            have G0 := fun W (e : Ext wr W) => g0 W (hrk.trans e)
            have Er := Ext.refl wr
            by_cases hlk : k < xs.length
            · obtain ⟨pb, po, rfl, q0, q1⟩ := pr_at (hps.out.ext prC_len hrk) k hlk
              have HBD : Hid (prBad fs xs k = (decide ((pth xs k).fac < 0) || decide ((fs.length : Int) ≤ (pth xs k).fac) || seenB xs k (pth xs k).fac || decide ((pth xs k).lev < 0) || decide ((fth fs (pth xs k).fac.toNat).lev ≤ (pth xs k).lev))) := rfl
              have HTk := Lib.hid (HT.out k hlk)
              have HNk : Hid (prBad fs xs k = false → ∀ j, j < k + 1 → prBad fs xs j = false) := fun h j hj => by
                rcases Nat.lt_succ_iff_lt_or_eq.1 hj with h1 | h1
                · exact hh.out j h1
                · subst h1; exact h
              obtain ⟨B, hB⟩ : ∃ B, B = prBad fs xs k := ⟨_, rfl⟩
              rw [← hB] at HBD HTk HNk
              obtain ⟨f, hf⟩ : ∃ f, f = (pth xs k).fac := ⟨_, rfl⟩
              obtain ⟨l, hl⟩ : ∃ l, l = (pth xs k).lev := ⟨_, rfl⟩
              rw [← hf] at q0 HBD
              rw [← hl] at q1 HBD
              obtain ⟨S, hS⟩ : ∃ S, S = seenB xs k f := ⟨_, rfl⟩
              have HS := Lib.hid hS
              rw [← hS] at HBD
              clear hf hl hB hS hh
              by_cases U1 : f < 0
              · have HN : Hid (q = true) := HTk.out (by rw [HBD.out]; simp [U1])
                clear HBD HTk HNk HS
                go_upto_region 14 with fail
                generalize hw3 : World.alloc wr _ = w3
                obtain ⟨he3, o3, hs3⟩ := alloc1 hw3
                obtain ⟨y0, y1⟩ := obj_cells2 o3
                have hr3 := hrk.trans he3
                have F0 := fun W (e : Ext w3 W) => C0 W (hr3.trans e)
                clear hw3 o3 q0 q1 he3 hs3 Er D0 D1 G0
                have hr0 := Ext.refl w3
                refine wp_region_ext (by kernel_rfl) (by kernel_rfl) hr0 ?_
                repeat (first | go_big_quiet_step (((fail))) | quiet_step (((fail))))
                refine wpQuiet_nil ?_
                rintro _ ⟨nq, rfl⟩
                have hq2 := nq.ok
                go_wp2_with (fail)
                go_ret
                exact ⟨by rw [HN.out]; rfl, HE.out.trans (HRR.out.trans (hr4.trans (hr3.trans hq2)))⟩
              · by_cases U2 : (fs.length : Int) ≤ f
                · have HN : Hid (q = true) := HTk.out (by rw [HBD.out]; simp [U2])
                  clear HBD HTk HNk HS
                  go_upto_region 14 with fail
                  generalize hw3 : World.alloc wr _ = w3
                  obtain ⟨he3, o3, hs3⟩ := alloc1 hw3
                  obtain ⟨y0, y1⟩ := obj_cells2 o3
                  have hr3 := hrk.trans he3
                  have F0 := fun W (e : Ext w3 W) => C0 W (hr3.trans e)
                  clear hw3 o3 q0 q1 he3 hs3 Er D0 D1 G0
                  have hr0 := Ext.refl w3
                  refine wp_region_ext (by kernel_rfl) (by kernel_rfl) hr0 ?_
                  repeat (first | go_big_quiet_step (((fail))) | quiet_step (((fail))))
                  refine wpQuiet_nil ?_
                  rintro _ ⟨nq, rfl⟩
                  have hq2 := nq.ok
                  go_wp2_with (fail)
                  go_ret
                  exact ⟨by rw [HN.out]; rfl, HE.out.trans (HRR.out.trans (hr4.trans (hr3.trans hq2)))⟩
                · obtain ⟨x, rfl⟩ : ∃ x : Nat, f = (x : Int) := ⟨f.toNat, by omega⟩
                  have hxn : x < fs.length := by omega
                  by_cases U3 : l < 0
                  · have HN : Hid (q = true) := HTk.out (by rw [HBD.out]; simp [U3])
                    clear HBD HTk HNk HS
                    go_upto_region 14 with fail
                    generalize hw3 : World.alloc wr _ = w3
                    obtain ⟨he3, o3, hs3⟩ := alloc1 hw3
                    obtain ⟨y0, y1⟩ := obj_cells2 o3
                    have hr3 := hrk.trans he3
                    have F0 := fun W (e : Ext w3 W) => C0 W (hr3.trans e)
                    clear hw3 o3 q0 q1 he3 hs3 Er D0 D1 G0
                    have hr0 := Ext.refl w3
                    refine wp_region_ext (by kernel_rfl) (by kernel_rfl) hr0 ?_
                    repeat (first | go_big_quiet_step (((fail))) | quiet_step (((fail))))
                    refine wpQuiet_nil ?_
                    rintro _ ⟨nq, rfl⟩
                    have hq2 := nq.ok
                    go_wp2_with (fail)
                    go_ret
                    exact ⟨by rw [HN.out]; rfl, HE.out.trans (HRR.out.trans (hr4.trans (hr3.trans hq2)))⟩
                  · obtain ⟨fb, fu, rfl, z0, z1, z2⟩ := fac_at (HH.out.fs.ext facC_len (HE.out.trans (HRR.out.trans (hr4.trans hrk)))) x hxn
                    obtain ⟨L, hL⟩ : ∃ L, L = (fth fs x).lev := ⟨_, rfl⟩
                    have hL2 : L = (fth fs ((x : Int)).toNat).lev := by rw [hL]; rfl
                    rw [← hL] at z0
                    rw [← hL2] at HBD
                    clear hL hL2 z1 z2
                    by_cases U4 : L ≤ l
                    · have HN : Hid (q = true) := HTk.out (by rw [HBD.out]; simp [U4])
                      clear HBD HTk HNk HS
                      go_upto_region 14 with fail
                      generalize hw3 : World.alloc wr _ = w3
                      obtain ⟨he3, o3, hs3⟩ := alloc1 hw3
                      obtain ⟨y0, y1⟩ := obj_cells2 o3
                      have hr3 := hrk.trans he3
                      have F0 := fun W (e : Ext w3 W) => C0 W (hr3.trans e)
                      have Z0 := fun W (e : Ext w3 W) => z0 W (he3.trans e)
                      clear hw3 o3 q0 q1 he3 hs3 Er D0 D1 G0 z0
                      have hr0 := Ext.refl w3
                      refine wp_region_ext (by kernel_rfl) (by kernel_rfl) hr0 ?_
                      repeat (first | go_big_quiet_step (((fail))) | quiet_step (((fail))))
                      refine wpQuiet_nil ?_
                      rintro _ ⟨nq, rfl⟩
                      have hq2 := nq.ok
                      go_wp2_with (fail)
                      go_ret
                      exact ⟨by rw [HN.out]; rfl, HE.out.trans (HRR.out.trans (hr4.trans (hr3.trans hq2)))⟩
                    · have HNS : Hid (S = B) := by
                        rw [Hid, HBD.out]
                        simp only [U1, U2, U3, U4, decide_false, Bool.false_or, Bool.or_false]
                      clear HBD
                      go_upto_region 14 with fail
                      generalize hw3 : World.alloc wr _ = w3
                      obtain ⟨he3, o3, hs3⟩ := alloc1 hw3
                      obtain ⟨y0, y1⟩ := obj_cells2 o3
                      have hr3 := hrk.trans he3
                      have F0 := fun W (e : Ext w3 W) => C0 W (hr3.trans e)
                      have Z0 := fun W (e : Ext w3 W) => z0 W (he3.trans e)
                      obtain ⟨pt, hpt⟩ : ∃ pt, pt = wr.heap.size := ⟨_, rfl⟩
                      rw [← hpt] at y0 y1 ⊢
                      clear hw3 o3 q0 q1 he3 hs3 Er D0 D1 G0 z0 hpt
                      have hr0 := Ext.refl w3
                      refine wp_region_ext (by kernel_rfl) (by kernel_rfl) hr0 ?_
                      repeat (first | go_big_quiet_step (((fail))) | quiet_step (((fail))))
                      refine wpQuiet_nil ?_
                      rintro _ ⟨nq, rfl⟩
                      have hq2 := nq.ok
                      have hr5 := hr3.trans hq2
                      have Y0 := fun W (e : Ext nq.val W) => y0 W (hq2.trans e)
                      obtain ⟨w5, hw5⟩ : ∃ w5, w5 = nq.val := ⟨_, rfl⟩
                      rw [← hw5] at hr5 Y0 ⊢
                      clear hw5 hq2 hr0 y0 y1 F0 Z0 hr3
                      go_wp2_with (fail)
                      go_loopw [8] (fun t wr => ∃ j : Nat, j ≤ k ∧ t = .int .i64 j ∧ Ext w5 wr ∧ Hid (∀ s, s < j → (pth xs s).fac ≠ (x : Int))) (fun t _ => k - (intOf t).toNat)
                      case atStart => exact ⟨0, Nat.zero_le _, rfl, Ext.refl _, fun j hj => by omega⟩
                      case round =>
                        obtain ⟨j, hj, rfl, hrj, hh⟩ := hrel
                        have D1 := fun W (e : Ext wr W) => C1 W ((hr5.trans hrj).trans e)
                        have G0 := fun W (e : Ext wr W) => g0 W ((hr5.trans hrj).trans e)
                        have Y0 := fun W (e : Ext wr W) => Y0 W (hrj.trans e)
                        have hr0 := Ext.refl wr
                        by_cases hlj : j < k
                        · obtain ⟨pb2, po2, hpq, q0, q1⟩ := pr_at (hps.out.ext prC_len (hr5.trans hrj)) j (by omega)
                          simp only [Option.some.injEq, Addr.mk.injEq, and_true] at hpq
                          obtain ⟨rfl, rfl⟩ := hpq
                          have hjx : (j : Int) < (xs.length : Int) := by omega
                          obtain ⟨y, hy⟩ : ∃ y, y = (pth xs j).fac := ⟨_, rfl⟩
                          have HY := Lib.hid hy
                          rw [← hy] at q0
                          clear hy q1
                          by_cases V : y = (x : Int)
                          · have HN : Hid (q = true) := HTk.out (by rw [← HNS.out, HS.out]; exact seenB_one hlj hk (by rw [← HY.out]; exact V))
                            subst V
                            clear HTk HNk HNS HS hh
                            go_upto_region 19 with fail
                            refine wp_region_ext (by kernel_rfl) (by kernel_rfl) hr0 ?_
                            repeat (first | go_big_quiet_step (((fail))) | quiet_step (((fail))))
                            refine wpQuiet_nil ?_
                            rintro _ ⟨nq, rfl⟩
                            have hq2 := nq.ok
                            go_wp2_with (fail)
                            go_ret
                            exact ⟨by rw [HN.out]; rfl, HE.out.trans (HRR.out.trans (hr4.trans (hr5.trans (hrj.trans hq2))))⟩
                          · have V3 : (y == (x : Int)) = false := by simpa using V
                            have HN : Hid (∀ s, s < j + 1 → (pth xs s).fac ≠ (x : Int)) := fun s hs => by
                              rcases Nat.lt_succ_iff_lt_or_eq.1 hs with h1 | h1
                              · exact hh.out s h1
                              · subst h1; rw [← HY.out]; exact V
                            clear hh
                            go_upto_region 19 with fail
                            refine wp_region_ext (by kernel_rfl) (by kernel_rfl) hr0 ?_
                            repeat (first | go_big_quiet_step (((fail))) | quiet_step (((fail))))
                            refine wpQuiet_nil ?_
                            rintro _ ⟨nq, rfl⟩
                            have hq2 := nq.ok
                            go_wp2_with (fail)
                            go_roundw
                            case rel => exact ⟨j + 1, by omega, by go_num, hrj.trans hq2, HN⟩
                            case measure => simp [intOf]; omega
                        · obtain rfl : j = k := by omega
                          have HN : Hid (∀ s, s < j + 1 → prBad fs xs s = false) := HNk.out (by rw [← HNS.out, HS.out]; exact seenB_no (by omega) hh.out)
                          clear hh HTk HNk HNS HS
                          go_wp2_with (fail)
                          go_roundw
                          case rel => exact ⟨j + 1, by omega, by go_num, hr5.trans hrj, HN⟩
                          case measure => simp [intOf]; omega
            · obtain rfl : k = xs.length := by omega
              have HN := Lib.hid (HP2.out hh.out)
              clear hh HT HP2
              go_wp2_with (fail)
              go_roundw
              case rel => exact ⟨i + 1, by omega, by go_num, hr4.trans hrk, HN.out⟩
              case measure => simp [intOf]; omega
        · obtain rfl : i = fo.length := by omega
          have HG := Lib.hid (good_plan (fa := fa) (fc := fc) (ga := ga) (gc := gc) HF1.out hh.out)
          have HG2 : Hid (q = (decide (8 < fs.length) || decide (40 < fo.length))) := by rw [HQ.out]; exact HG.out
          clear hh HF1 HG
          by_cases V1 : fs.length ≤ 8
          · have v1 : (fs.length : Int) ≤ 8 := by omega
            by_cases V2 : fo.length ≤ 40
            · have v2 : (fo.length : Int) ≤ 40 := by omega
              have HN : Hid (q = false) := by rw [Hid, HG2.out]; simp; omega
              go_wp2_with (fail)
              go_ret
              exact ⟨by rw [HN.out]; rfl, HE.out.trans (HRR.out.trans hr4)⟩
            · have v2 : ¬ (fo.length : Int) ≤ 40 := by omega
              have HN : Hid (q = true) := by rw [Hid, HG2.out]; simp; omega
              go_wp2_with (fail)
              go_ret
              exact ⟨by rw [HN.out]; rfl, HE.out.trans (HRR.out.trans hr4)⟩
          · have v1 : ¬ (fs.length : Int) ≤ 8 := by omega
            have HN : Hid (q = true) := by rw [Hid, HG2.out]; simp; omega
            go_wp2_with (fail)
            go_ret
            exact ⟨by rw [HN.out]; rfl, HE.out.trans (HRR.out.trans hr4)⟩
end Go.Proofs.YtplbofhgmflnlaaGreat
