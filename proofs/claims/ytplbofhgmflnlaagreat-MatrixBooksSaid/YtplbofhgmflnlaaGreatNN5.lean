/-
  Texts merged: N2, N3, N4, N5, N6.
-/
import Derived.Test.YtplbofhgmflnlaaGreatML6
section
/-
  Walks: the reference's Levels.
-/
set_option linter.unusedVariables false
set_option linter.unusedSimpArgs false
namespace Go.Proofs.YtplbofhgmflnlaaGreat
open Go.RowKit
theorem levB_no {fs : List Fac} {ls : List Int} {k : Nat} (hk : k < fs.length) (h : levBad fs ls k = true) : levB fs ls = false := by
  cases hb : levB fs ls
  · rfl
  · have := levB_at hb k hk
    simp only [levBad, Bool.or_eq_true, decide_eq_true_eq] at h
    omega
theorem levB_yes {fs : List Fac} {ls : List Int} (hl : ls.length = fs.length) (h : ∀ k, k < fs.length → levBad fs ls k = false) : levB fs ls = true := by
  cases hb : levB fs ls
  · exfalso
    simp only [levB, hl, decide_true, Bool.true_and, Bool.not_eq_false'] at hb
    rw [fIdx_none h] at hb
    cases hb
  · rfl
set_option maxRecDepth 100000 in
set_option maxHeartbeats 4000000 in
theorem rLevels_any (P : Pw) (a : Option Addr) (ls : List Int) (c : Nat) (w : World) (h : PlanAt w P) (hf : P.fs.length ≤ 1000000) (hl : Ints w a ls) (hn : ls.length ≤ 9223372036854775807) :
    Calls Tryz.prog 43 #[planV P, .slice a ls.length c] w (Ret (.bool (levB P.fs ls)) w) := by
  obtain ⟨fs, fa, fc, fo, ga, gc⟩ := P
  have HH := Lib.hid h; have HL := Lib.hid hl
  clear h hl
  simp only at hf ⊢
  go_enter Tryz.func43, Tryz.ntmps43
  go_wp2_with (fail)
  generalize hw1 : World.alloc _ _ = w1
  obtain ⟨he, o1, -⟩ := alloc1 hw1
  obtain ⟨b0, b1⟩ := obj_cells2 o1
  have HE := Lib.hid he
  clear hw1 o1 he
  obtain ⟨n, hnn⟩ : ∃ n, n = ls.length := ⟨_, rfl⟩
  have HNN := Lib.hid hnn
  rw [← hnn] at hn ⊢
  obtain ⟨m, hmm⟩ : ∃ m, m = fs.length := ⟨_, rfl⟩
  have HMM := Lib.hid hmm
  rw [← hmm] at hf b0
  clear hnn hmm
  have hr1 := Ext.refl w1
  go_loopw [5] (fun i wr => ∃ k : Nat, k ≤ n ∧ k ≤ m ∧ i = .int .i64 k ∧ Ext w1 wr ∧ Hid (∀ j, j < k → levBad fs ls j = false)) (fun i _ => n - (intOf i).toNat)
  case atStart => exact ⟨0, Nat.zero_le _, Nat.zero_le _, rfl, Ext.refl _, fun j hj => by omega⟩
  case round =>
    obtain ⟨k, hk, hk2, rfl, hr, hh⟩ := hrel
    have B0 := fun W (e : Ext wr W) => b0 W (hr.trans e)
    have Er := Ext.refl wr
    by_cases c1 : k < n
    · by_cases c2 : k < m
      · obtain ⟨fb, fu, rfl, z0, z1, z2⟩ := fac_at (HH.out.fs.ext facC_len (HE.out.trans hr)) k (by show k < fs.length; rw [← HMM.out]; exact c2)
        obtain ⟨xo, xp, rfl, d0⟩ := (HL.out.ext (HE.out.trans hr)).at k (by rw [← HNN.out]; exact c1)
        have HBD : Hid (levBad fs ls k = (decide (nth ls k < 0) || decide ((fth fs k).lev ≤ nth ls k))) := rfl
        obtain ⟨x, hx⟩ : ∃ x, x = nth ls k := ⟨_, rfl⟩
        obtain ⟨y, hy⟩ : ∃ y, y = (fth fs k).lev := ⟨_, rfl⟩
        rw [← hx] at d0 HBD
        rw [← hy] at z0 HBD
        clear z1 z2 hx hy
        have hr0 := Ext.refl wr
        cases T1 : decide (x < 0)
        · cases T2 : decide (y ≤ x)
          · rw [T1, T2] at HBD
            have h1 : ¬ x < 0 := of_decide_eq_false T1
            have h2 : ¬ y ≤ x := of_decide_eq_false T2
            have HN : Hid (∀ j, j < k + 1 → levBad fs ls j = false) := fun j hj => by
              rcases Nat.lt_succ_iff_lt_or_eq.1 hj with h | h
              · exact hh.out j h
              · subst h; exact HBD.out
            clear T1 T2 HBD hh
            go_upto_region 4 with fail
            refine wp_region_ext (by kernel_rfl) (by kernel_rfl) hr0 ?_
            repeat (first | go_big_quiet_step (((fail))) | quiet_step (((fail))))
            refine wpQuiet_nil ?_
            rintro _ ⟨nq, rfl⟩
            have hq2 := nq.ok
            go_wp2_with (fail)
            go_roundw
            case rel => exact ⟨k + 1, by omega, by omega, by go_num, hr.trans hq2, HN⟩
            case measure => simp [intOf]; omega
          · rw [T1, T2] at HBD
            have h1 : ¬ x < 0 := of_decide_eq_false T1
            have h2 : y ≤ x := of_decide_eq_true T2
            have HN : Hid (levB fs ls = false) := levB_no (by rw [← HMM.out]; exact c2) HBD.out
            rw [HN.out]
            clear T1 T2 HBD hh
            go_upto_region 4 with fail
            refine wp_region_ext (by kernel_rfl) (by kernel_rfl) hr0 ?_
            repeat (first | go_big_quiet_step (((fail))) | quiet_step (((fail))))
            refine wpQuiet_nil ?_
            rintro _ ⟨nq, rfl⟩
            have hq2 := nq.ok
            go_wp2_with (fail)
            go_ret
            exact ⟨rfl, HE.out.trans (hr.trans hq2)⟩
        · rw [T1] at HBD
          have h1 : x < 0 := of_decide_eq_true T1
          have HN : Hid (levB fs ls = false) := levB_no (by rw [← HMM.out]; exact c2) (by rw [HBD.out]; rfl)
          rw [HN.out]
          clear T1 HBD hh
          go_upto_region 4 with fail
          refine wp_region_ext (by kernel_rfl) (by kernel_rfl) hr0 ?_
          repeat (first | go_big_quiet_step (((fail))) | quiet_step (((fail))))
          refine wpQuiet_nil ?_
          rintro _ ⟨nq, rfl⟩
          have hq2 := nq.ok
          go_wp2_with (fail)
          go_ret
          exact ⟨rfl, HE.out.trans (hr.trans hq2)⟩
      · obtain rfl : k = m := by omega
        have hne : ((n : Int) == (k : Int)) = false := by rw [beq_eq_false_iff_ne]; omega
        have HN : Hid (levB fs ls = false) := by
          cases hb : levB fs ls
          · rfl
          · have := levB_len hb
            rw [← HNN.out, ← HMM.out] at this; omega
        go_wp2_with (fail)
        go_ret
        exact ⟨by rw [HN.out]; rfl, HE.out.trans hr⟩
    · obtain rfl : k = n := by omega
      by_cases c3 : k = m
      · subst c3
        have HN : Hid (levB fs ls = true) := levB_yes (by rw [← HNN.out, ← HMM.out]) (fun j hj => hh.out j (by rw [HMM.out]; exact hj))
        go_wp2_with (fail)
        go_ret
        exact ⟨by rw [HN.out]; simp, HE.out.trans hr⟩
      · have hne : ((k : Int) == (m : Int)) = false := by rw [beq_eq_false_iff_ne]; omega
        have HN : Hid (levB fs ls = false) := by
          cases hb : levB fs ls
          · rfl
          · have := levB_len hb
            rw [← HNN.out, ← HMM.out] at this; omega
        go_wp2_with (fail)
        go_ret
        exact ⟨by rw [HN.out]; rfl, HE.out.trans hr⟩
end Go.Proofs.YtplbofhgmflnlaaGreat
end
section
/-
  Walks: the reference's Allowed.
-/
set_option linter.unusedVariables false
set_option linter.unusedSimpArgs false
namespace Go.Proofs.YtplbofhgmflnlaaGreat
open Go.RowKit
/-- Whether the first k pairs of a combination are met. -/
def allTo (ls : List Int) (g : List Pr) (k : Nat) : Bool := (List.range k).all fun j => nth ls (pth g j).fac.toNat == (pth g j).lev
theorem allTo_succ (ls : List Int) (g : List Pr) (k : Nat) : allTo ls g (k + 1) = (allTo ls g k && (nth ls (pth g k).fac.toNat == (pth g k).lev)) := by
  unfold allTo; rw [List.range_succ, List.all_append]; simp
set_option maxRecDepth 100000 in
set_option maxHeartbeats 4000000 in
theorem rAllowed_walk (P : Pw) (a : Option Addr) (ls : List Int) (c : Nat) (w : World) (h : FoOk w P ls.length) (hl : Ints w a ls) :
    Calls Tryz.prog 44 #[planV P, .slice a ls.length c] w (Ret (.bool (!((List.range P.fo.length).any fun i => allTo ls (gth P.fo i).xs (gth P.fo i).xs.length))) w) := by
  obtain ⟨fs, fa, fc, fo, ga, gc⟩ := P
  have HH := Lib.hid h; have HL := Lib.hid hl
  have hfl := h.fl
  have HPL := Lib.hid h.pl
  have HBD := Lib.hid h.bd
  simp only at hfl
  clear h hl
  obtain ⟨G, hG⟩ : ∃ G : Nat → Bool, G = fun i => allTo ls (gth fo i).xs (gth fo i).xs.length := ⟨_, rfl⟩
  show Calls Tryz.prog 44 _ w (Ret (.bool (!((List.range fo.length).any fun i => allTo ls (gth fo i).xs (gth fo i).xs.length))) w)
  rw [show (fun i => allTo ls (gth fo i).xs (gth fo i).xs.length) = G from hG.symm]
  have HG : Hid (∀ i, G i = allTo ls (gth fo i).xs (gth fo i).xs.length) := fun i => by rw [hG]
  clear hG
  go_enter Tryz.func44, Tryz.ntmps44
  go_wp2_with (fail)
  generalize hw1 : World.alloc _ _ = w1
  obtain ⟨he, o1, -⟩ := alloc1 hw1
  obtain ⟨b0, b1⟩ := obj_cells2 o1
  have HE := Lib.hid he
  obtain ⟨fb, hfb⟩ : ∃ fb, fb = w.heap.size := ⟨_, rfl⟩
  rw [← hfb] at b0 b1 ⊢
  clear hw1 o1 he b0 hfb
  go_loopw [5] (fun i wr => ∃ k : Nat, k ≤ fo.length ∧ i = .int .i64 k ∧ Ext w1 wr ∧ Hid (∀ j, j < k → G j = false)) (fun i _ => fo.length - (intOf i).toNat)
  case atStart => exact ⟨0, Nat.zero_le _, rfl, Ext.refl _, fun j hj => by omega⟩
  case round =>
    obtain ⟨i, hi, rfl, hr, hh⟩ := hrel
    have B1 := fun W (e : Ext wr W) => b1 W (hr.trans e)
    have Er := Ext.refl wr
    obtain ⟨wo, rfl⟩ : ∃ wo : World, wo = wr := ⟨_, rfl⟩
    by_cases hlt : i < fo.length
    · obtain ⟨gb, go, rfl, g0⟩ := grp_at (HH.out.fo.ext grpC_len (HE.out.trans hr)) i hlt
      have hps := Lib.hid ((HH.out.ps i hlt).ext prC_len (HE.out.trans hr))
      have hbd := Lib.hid (HBD.out i hlt)
      have hpl := HPL.out i hlt
      have HGi := Lib.hid (HG.out i)
      simp only at hps hbd hpl
      obtain ⟨g, hg⟩ : ∃ g, g = (gth fo i).xs := ⟨_, rfl⟩
      obtain ⟨pa, hpa⟩ : ∃ pa, pa = (gth fo i).a := ⟨_, rfl⟩
      obtain ⟨pc, hpc⟩ : ∃ pc, pc = (gth fo i).c := ⟨_, rfl⟩
      rw [← hg, ← hpa, ← hpc] at g0
      rw [← hg] at hbd hpl HGi
      rw [← hg, ← hpa] at hps
      clear hg hpa hpc
      go_wp2_with (fail)
      go_loopw [6, 7] (fun v i2 wr => ∃ k : Nat, k ≤ g.length ∧ i2 = .int .i64 k ∧ v = .bool (allTo ls g k) ∧ Ext wo wr) (fun _ i2 _ => g.length - (intOf i2).toNat)
      case atStart => exact ⟨0, Nat.zero_le _, rfl, rfl, Ext.refl _⟩
      case round =>
        obtain ⟨k, hk, rfl, rfl, hrk⟩ := hrel
        have B2 := fun W (e : Ext wr W) => B1 W (hrk.trans e)
        have G2 := fun W (e : Ext wr W) => g0 W (hrk.trans e)
        have hr0 := Ext.refl wr
        by_cases hlk : k < g.length
        · obtain ⟨pb, po, rfl, q0, q1⟩ := pr_at (hps.out.ext prC_len hrk) k hlk
          obtain ⟨f0, f1⟩ := hbd.out k hlk
          obtain ⟨x, hx⟩ : ∃ x : Nat, x = (pth g k).fac.toNat := ⟨_, rfl⟩
          have hxe : (pth g k).fac = (x : Int) := by omega
          have hxl : x < ls.length := by omega
          obtain ⟨xo, xp, rfl, d0⟩ := (HL.out.ext ((HE.out.trans hr).trans hrk)).at x hxl
          have HS := Lib.hid (allTo_succ ls g k)
          rw [← hx] at HS
          rw [hxe] at q0
          obtain ⟨y, hy⟩ : ∃ y, y = (pth g k).lev := ⟨_, rfl⟩
          rw [← hy] at q1 HS
          obtain ⟨z, hz⟩ : ∃ z, z = nth ls x := ⟨_, rfl⟩
          rw [← hz] at d0 HS
          obtain ⟨S, hS⟩ : ∃ S, S = allTo ls g k := ⟨_, rfl⟩
          rw [← hS] at HS ⊢
          have hxi : (0 : Int) ≤ (x : Int) := by omega
          have hxj : (x : Int) < (ls.length : Int) := by omega
          clear hx hxe hxl hy hz hS f0 f1 B1 g0
          cases S
          · go_upto_region 8 with fail
            refine wp_region_ext (by kernel_rfl) (by kernel_rfl) hr0 ?_
            repeat (first | go_big_quiet_step (((fail))) | quiet_step (((fail))))
            refine wpQuiet_nil ?_
            rintro _ ⟨nq, rfl⟩
            have hq2 := nq.ok
            go_wp2_with (fail)
            go_roundw
            case rel => exact ⟨k + 1, by omega, by go_num, by rw [HS.out]; rfl, hrk.trans hq2⟩
            case measure => simp [intOf]; omega
          · go_upto_region 8 with fail
            refine wp_region_ext (by kernel_rfl) (by kernel_rfl) hr0 ?_
            repeat (first | go_big_quiet_step (((fail))) | quiet_step (((fail))))
            refine wpQuiet_nil ?_
            rintro _ ⟨nq, rfl⟩
            have hq2 := nq.ok
            go_wp2_with (fail)
            go_roundw
            case rel => exact ⟨k + 1, by omega, by go_num, by rw [HS.out, Bool.true_and], hrk.trans hq2⟩
            case measure => simp [intOf]; omega
        · obtain rfl : k = g.length := by omega
          cases S : allTo ls g g.length
          · have HN : Hid (∀ j, j < i + 1 → G j = false) := fun j hj => by
              rcases Nat.lt_succ_iff_lt_or_eq.1 hj with h | h
              · exact hh.out j h
              · subst h; rw [HGi.out]; exact S
            go_wp2_with (fail)
            go_roundw
            case rel => exact ⟨i + 1, by omega, by go_num, hr.trans hrk, HN⟩
            case measure => simp [intOf]; omega
          · have HN : Hid ((List.range fo.length).any G = true) := by
              rw [Hid, List.any_eq_true]
              exact ⟨i, List.mem_range.2 hlt, by rw [HGi.out]; exact S⟩
            go_wp2_with (fail)
            go_ret
            exact ⟨by rw [HN.out]; rfl, HE.out.trans (hr.trans hrk)⟩
    · obtain rfl : i = fo.length := by omega
      have HN : Hid ((List.range fo.length).any G = false) := by
        rw [Hid, List.any_eq_false]
        intro j hj
        rw [hh.out j (List.mem_range.1 hj)]; simp
      go_wp2_with (fail)
      go_ret
      exact ⟨by rw [HN.out]; rfl, HE.out.trans hr⟩
theorem map_pth (g : List Pr) : (List.range g.length).map (pth g) = g := by
  apply List.ext_getElem
  · simp
  · intro n h1 h2
    simp only [List.getElem_map, List.getElem_range]
    exact pth_eq g n h2
theorem map_gth (g : List (Sl Pr)) : (List.range g.length).map (gth g) = g := by
  apply List.ext_getElem
  · simp
  · intro n h1 h2
    simp only [List.getElem_map, List.getElem_range]
    exact gth_eq g n h2
theorem allTo_on (ls : List Int) (g : Sl Pr) : allTo ls g.xs g.xs.length = grpOn ls g := by
  unfold allTo grpOn
  have e : (fun j => nth ls (pth g.xs j).fac.toNat == (pth g.xs j).lev) = (fun p => !(prOff ls p)) ∘ (pth g.xs) := by
    funext j; simp [prOff, bne]
  rw [e, ← List.all_map, map_pth, List.not_any_eq_all_not]
theorem rAllowed_any (P : Pw) (a : Option Addr) (ls : List Int) (c : Nat) (w : World) (h : FoOk w P ls.length) (hl : Ints w a ls) :
    Calls Tryz.prog 44 #[planV P, .slice a ls.length c] w (Ret (.bool (alwB P.fo ls)) w) := by
  have := rAllowed_walk P a ls c w h hl
  have e : (List.range P.fo.length).any (fun i => allTo ls (gth P.fo i).xs (gth P.fo i).xs.length) = P.fo.any (grpOn ls) := by
    have e2 : (fun i => allTo ls (gth P.fo i).xs (gth P.fo i).xs.length) = (grpOn ls) ∘ (gth P.fo) := by
      funext i; exact allTo_on ls _
    rw [e2, ← List.any_map, map_gth]
  rw [e] at this
  exact this
end Go.Proofs.YtplbofhgmflnlaaGreat
end
section
/-
  Walks: the reference's Cost.
-/
set_option linter.unusedVariables false
set_option linter.unusedSimpArgs false
namespace Go.Proofs.YtplbofhgmflnlaaGreat
open Go.RowKit
set_option maxRecDepth 100000 in
set_option maxHeartbeats 2000000 in
theorem rCost_any (P : Pw) (s u : Se) (w : World) (h : PlanAt w P) (hf : P.fs.length ≤ 8) (hc : ∀ i, i < P.fs.length → 0 ≤ (fth P.fs i).cost ∧ (fth P.fs i).cost ≤ 1000) (hs : Ints w s.lv.a s.lv.xs) (hu : Ints w u.lv.a u.lv.xs)
    (ls : s.lv.xs.length = P.fs.length) (lu : u.lv.xs.length = P.fs.length) :
    Calls Tryz.prog 105 #[planV P, setV s, setV u] w (Ret (.int .i64 (costS P.fs s.lv.xs u.lv.xs)) w) := by
  obtain ⟨fs, fa, fc, fo, ga, gc⟩ := P
  obtain ⟨⟨xa, xs, xc⟩, xb⟩ := s
  obtain ⟨⟨ya, ys, yc⟩, yb⟩ := u
  have HH := Lib.hid h; have HX := Lib.hid hs; have HY := Lib.hid hu
  have HC := Lib.hid hc; have HBD := Lib.hid (costTo_bd xs ys hc)
  have LX := Lib.hid ls; have LY := Lib.hid lu
  simp only at hf ⊢
  clear h hs hu hc ls lu
  have hxn : fs.length ≤ xs.length := by have := LX.out; simp only at this; omega
  have hyn : fs.length ≤ ys.length := by have := LY.out; simp only at this; omega
  go_enter Tryz.func105, Tryz.ntmps105
  go_wp2_with (fail)
  generalize hw1 : World.alloc _ _ = w1
  obtain ⟨he, o1, o2, o3, -⟩ := alloc3 hw1
  obtain ⟨b0, b1⟩ := obj_cells2 o1
  obtain ⟨s0, s1⟩ := obj_cells2 o2
  obtain ⟨t0, t1⟩ := obj_cells2 o3
  clear hw1 o1 o2 o3
  have HE := Lib.hid he
  clear he
  go_loopw [7, 8] (fun s i wr => ∃ k : Nat, k ≤ fs.length ∧ i = .int .i64 k ∧ s = .int .i64 (costTo fs xs ys k) ∧ Ext w1 wr) (fun _ i _ => fs.length - (intOf i).toNat)
  case atStart => exact ⟨0, Nat.zero_le _, rfl, rfl, Ext.refl _⟩
  case round =>
    obtain ⟨k, hk, rfl, rfl, hr⟩ := hrel
    have B0 := fun W (e : Ext wr W) => b0 W (hr.trans e)
    have S0 := fun W (e : Ext wr W) => s0 W (hr.trans e)
    have T0 := fun W (e : Ext wr W) => t0 W (hr.trans e)
    have hr0 := Ext.refl wr
    by_cases hlt : k < fs.length
    · obtain ⟨fb, fu, rfl, g0, g1, g2⟩ := fac_at (HH.out.fs.ext facC_len (HE.out.trans hr)) k hlt
      obtain ⟨xo, xp, rfl, d0⟩ := (HX.out.ext (HE.out.trans hr)).at k (by show k < xs.length; omega)
      obtain ⟨yo, yp, rfl, e0⟩ := (HY.out.ext (HE.out.trans hr)).at k (by show k < ys.length; omega)
      have hxk : k < xs.length := by omega
      have hyk : k < ys.length := by omega
      have hcb := HC.out k hlt
      have hbd := HBD.out k hk
      obtain ⟨z, hz⟩ : ∃ z, z = costTo fs xs ys k := ⟨_, rfl⟩
      obtain ⟨q, hq⟩ : ∃ q, q = (fth fs k).cost := ⟨_, rfl⟩
      have HNX : Hid (costTo fs xs ys (k + 1) = z + if nth xs k != nth ys k then q else 0) := by rw [Hid, hz, hq]; rfl
      rw [← hz] at hbd ⊢
      rw [← hq] at hcb g1
      clear hz hq b0 s0 t0 g0 g2
      cases T : (nth xs k != nth ys k)
      · rw [T] at HNX
        have HN2 := Lib.hid (show costTo fs xs ys (k + 1) = z by have := HNX.out; simpa using this)
        clear HNX
        go_upto_region 5 with fail
        refine wp_region_ext (by kernel_rfl) (by kernel_rfl) hr0 ?_
        repeat (first | go_big_quiet_step (((fail))) | quiet_step (((fail))))
        refine wpQuiet_nil ?_
        rintro _ ⟨nq, rfl⟩
        have hq2 := nq.ok
        go_wp2_with (fail)
        go_roundw
        case rel => exact ⟨k + 1, by omega, by go_num, by rw [HN2.out], hr.trans hq2⟩
        case measure => simp [intOf]; omega
      · rw [T] at HNX
        have HN2 := Lib.hid (show costTo fs xs ys (k + 1) = z + q by have := HNX.out; simpa using this)
        clear HNX
        go_upto_region 5 with fail
        refine wp_region_ext (by kernel_rfl) (by kernel_rfl) hr0 ?_
        repeat (first | go_big_quiet_step (((fail))) | quiet_step (((fail))))
        refine wpQuiet_nil ?_
        rintro _ ⟨nq, rfl⟩
        have hq2 := nq.ok
        go_wp2_with (fail)
        go_roundw
        case rel => exact ⟨k + 1, by omega, by go_num, by rw [HN2.out], hr.trans hq2⟩
        case measure => simp [intOf]; omega
    · obtain rfl : k = fs.length := by omega
      have HR : Hid (costTo fs xs ys fs.length = costS fs xs ys) := rfl
      go_wp2_with (fail)
      go_ret
      exact ⟨by rw [← HR.out]; rfl, HE.out.trans hr⟩
end Go.Proofs.YtplbofhgmflnlaaGreat
end
section
/-
  Walks: the reference's Same.
-/
set_option linter.unusedVariables false
set_option linter.unusedSimpArgs false
namespace Go.Proofs.YtplbofhgmflnlaaGreat
open Go.RowKit
def hardB (fs : List Fac) (xs ys : List Int) (i : Nat) : Bool := (fth fs i).hard && (nth xs i != nth ys i)
def sameG (fs : List Fac) (s u : Se) : Bool := ((List.range fs.length).all fun i => !hardB fs s.lv.xs u.lv.xs i) && (s.blk == u.blk)
set_option maxRecDepth 100000 in
set_option maxHeartbeats 2000000 in
theorem rSame_any (P : Pw) (s u : Se) (w : World) (h : PlanAt w P) (hf : P.fs.length ≤ 8) (hs : Ints w s.lv.a s.lv.xs) (hu : Ints w u.lv.a u.lv.xs)
    (ls : s.lv.xs.length = P.fs.length) (lu : u.lv.xs.length = P.fs.length) :
    Calls Tryz.prog 95 #[planV P, setV s, setV u] w (Ret (.bool (sameG P.fs s u)) w) := by
  obtain ⟨fs, fa, fc, fo, ga, gc⟩ := P
  obtain ⟨⟨xa, xs, xc⟩, xb⟩ := s
  obtain ⟨⟨ya, ys, yc⟩, yb⟩ := u
  have HH := Lib.hid h; have HX := Lib.hid hs; have HY := Lib.hid hu
  have LX := Lib.hid ls; have LY := Lib.hid lu
  have HS : Hid (sameG fs ⟨⟨xa, xs, xc⟩, xb⟩ ⟨⟨ya, ys, yc⟩, yb⟩ = (((List.range fs.length).all fun i => !hardB fs xs ys i) && (xb == yb))) := rfl
  simp only at hf ⊢
  clear h hs hu ls lu
  have hxn : fs.length ≤ xs.length := by have := LX.out; simp only at this; omega
  have hyn : fs.length ≤ ys.length := by have := LY.out; simp only at this; omega
  go_enter Tryz.func95, Tryz.ntmps95
  go_wp2_with (fail)
  generalize hw1 : World.alloc _ _ = w1
  obtain ⟨he, o1, o2, o3, -⟩ := alloc3 hw1
  obtain ⟨b0, b1⟩ := obj_cells2 o1
  obtain ⟨s0, s1⟩ := obj_cells2 o2
  obtain ⟨t0, t1⟩ := obj_cells2 o3
  clear hw1 o1 o2 o3
  have HE := Lib.hid he
  clear he
  go_loopw [7] (fun i wr => ∃ k : Nat, k ≤ fs.length ∧ i = .int .i64 k ∧ Ext w1 wr ∧ Hid (∀ j, j < k → hardB fs xs ys j = false)) (fun i _ => fs.length - (intOf i).toNat)
  case atStart => exact ⟨0, Nat.zero_le _, rfl, Ext.refl _, fun j hj => by omega⟩
  case round =>
    obtain ⟨k, hk, rfl, hr, hh⟩ := hrel
    have B0 := fun W (e : Ext wr W) => b0 W (hr.trans e)
    have S0 := fun W (e : Ext wr W) => s0 W (hr.trans e)
    have T0 := fun W (e : Ext wr W) => t0 W (hr.trans e)
    have S1 := fun W (e : Ext wr W) => s1 W (hr.trans e)
    have T1 := fun W (e : Ext wr W) => t1 W (hr.trans e)
    have hr0 := Ext.refl wr
    clear b0 s0 t0 s1 t1
    by_cases hlt : k < fs.length
    · obtain ⟨fb, fu, rfl, g0, g1, g2⟩ := fac_at (HH.out.fs.ext facC_len (HE.out.trans hr)) k hlt
      obtain ⟨xo, xp, rfl, d0⟩ := (HX.out.ext (HE.out.trans hr)).at k (by show k < xs.length; omega)
      obtain ⟨yo, yp, rfl, e0⟩ := (HY.out.ext (HE.out.trans hr)).at k (by show k < ys.length; omega)
      have hxk : k < xs.length := by omega
      have hyk : k < ys.length := by omega
      have HB : Hid (hardB fs xs ys k = ((fth fs k).hard && (nth xs k != nth ys k))) := rfl
      obtain ⟨H, hH⟩ : ∃ H, H = (fth fs k).hard := ⟨_, rfl⟩
      rw [← hH] at g2 HB
      clear hH g0 g1
      have hno : H = true → (nth xs k != nth ys k) = true → Hid ((List.range fs.length).all (fun i => !hardB fs xs ys i) = false) := fun h1 h2 => by
        rw [Hid, List.all_eq_false]
        exact ⟨k, List.mem_range.2 hlt, by rw [HB.out, h1, h2]; simp⟩
      have hyes : (H && (nth xs k != nth ys k)) = false → Hid (∀ j, j < k + 1 → hardB fs xs ys j = false) := fun h1 j hj => by
        rcases Nat.lt_succ_iff_lt_or_eq.1 hj with h | h
        · exact hh.out j h
        · subst h; rw [HB.out]; exact h1
      have HNO := Lib.hid hno; have HYES := Lib.hid hyes
      clear hno hyes hh HB
      cases H
      · have HN := HYES.out (by simp)
        clear HNO HYES
        go_upto_region 4 with fail
        refine wp_region_ext (by kernel_rfl) (by kernel_rfl) hr0 ?_
        repeat (first | go_big_quiet_step (((fail))) | quiet_step (((fail))))
        refine wpQuiet_nil ?_
        rintro _ ⟨nq, rfl⟩
        have hq2 := nq.ok
        go_wp2_with (fail)
        go_roundw
        case rel => exact ⟨k + 1, by omega, by go_num, hr.trans hq2, HN⟩
        case measure => simp [intOf]; omega
      · cases T : (nth xs k != nth ys k)
        · have HN := HYES.out (by rw [T]; rfl)
          clear HNO HYES
          go_upto_region 4 with fail
          refine wp_region_ext (by kernel_rfl) (by kernel_rfl) hr0 ?_
          repeat (first | go_big_quiet_step (((fail))) | quiet_step (((fail))))
          refine wpQuiet_nil ?_
          rintro _ ⟨nq, rfl⟩
          have hq2 := nq.ok
          go_wp2_with (fail)
          go_roundw
          case rel => exact ⟨k + 1, by omega, by go_num, hr.trans hq2, HN⟩
          case measure => simp [intOf]; omega
        · have HN := HNO.out rfl T
          clear HNO HYES
          go_upto_region 4 with fail
          refine wp_region_ext (by kernel_rfl) (by kernel_rfl) hr0 ?_
          repeat (first | go_big_quiet_step (((fail))) | quiet_step (((fail))))
          refine wpQuiet_nil ?_
          rintro _ ⟨nq, rfl⟩
          have hq2 := nq.ok
          go_wp2_with (fail)
          go_ret
          exact ⟨by rw [HS.out, HN.out]; rfl, HE.out.trans (hr.trans hq2)⟩
    · obtain rfl : k = fs.length := by omega
      have HN : Hid ((List.range fs.length).all (fun i => !hardB fs xs ys i) = true) := by
        rw [Hid, List.all_eq_true]
        intro j hj
        rw [hh.out j (List.mem_range.1 hj)]; rfl
      go_wp2_with (fail)
      go_ret
      exact ⟨by rw [HS.out, HN.out]; rfl, HE.out.trans hr⟩
end Go.Proofs.YtplbofhgmflnlaaGreat
end
section
/-
  Plain: two settings are in one group just if their keys are one.
-/
set_option linter.unusedVariables false
set_option linter.unusedSimpArgs false
namespace Go.Proofs.YtplbofhgmflnlaaGreat
theorem sameG_key {fs : List Fac} {s u : Se} (hf : fs.length ≤ 8) : sameG fs s u = true ↔ gL fs s = gL fs u := by
  unfold sameG gL gT
  rw [Bool.and_eq_true, List.all_eq_true, beq_iff_eq, List.cons.injEq]
  constructor
  · rintro ⟨h1, h2⟩
    refine ⟨h2, fl_congr _ _ _ fun i hi => ?_⟩
    by_cases hl : i < fs.length
    · have := h1 i (List.mem_range.2 hl)
      simp only [hl, decide_true, Bool.true_and]
      cases hh : (fth fs i).hard
      · simp
      · simp only [hardB, hh, Bool.true_and] at this
        simpa [bne] using this
    · simp [hl]
  · rintro ⟨h1, h2⟩
    refine ⟨fun i hi => ?_, h1⟩
    rw [List.mem_range] at hi
    have e1 := congrArg (fun l => nth l i) h2
    (try simp only at e1)
    rw [nth_fl _ _ _ (by omega), nth_fl _ _ _ (by omega)] at e1
    unfold hardB
    cases hh : (fth fs i).hard
    · rfl
    · simp only [hi, hh, decide_true, Bool.true_and, if_true] at e1
      simp [e1]
end Go.Proofs.YtplbofhgmflnlaaGreat
end
