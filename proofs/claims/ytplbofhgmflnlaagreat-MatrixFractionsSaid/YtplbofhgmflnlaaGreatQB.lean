/-
  Walks: the law's sameWords, the reference's Runs.
-/
import Derived.Test.YtplbofhgmflnlaaGreatQA
import Derived.Test.YtplbofhgmflnlaaGreatNO4
set_option linter.unusedVariables false
set_option linter.unusedSimpArgs false
namespace Go.Proofs.YtplbofhgmflnlaaGreat
open Go.RowKit
theorem ext_wth (xs ys : List Wd) (h : xs.length = ys.length) (e : ∀ i, i < xs.length → wth xs i = wth ys i) : xs = ys := by
  apply List.ext_getElem h
  intro i h1 h2
  have := e i h1
  rwa [wth_eq _ _ h1, wth_eq _ _ h2] at this
set_option maxHeartbeats 2000000 in
theorem sameW_any (xs ys : List Wd) (a b : Option Addr) (n m c d : Nat) (w : World) (hx : Wds w a xs) (hy : Wds w b ys) (hn : xs.length = n) (hm : ys.length = m) (hn1 : n ≤ 1000000) (hm1 : m ≤ 1000000) :
    Calls Tryz.prog 37 #[.slice a n c, .slice b m d] w (Ret (.bool (decide (xs = ys))) w) := by
  have HN := Lib.hid hn; have HM := Lib.hid hm
  have HX := Lib.hid hx; have HY := Lib.hid hy
  clear hn hm hx hy
  by_cases hnm : n = m
  · subst hnm
    go_enter Tryz.func37, Tryz.ntmps37
    go_wp2_with (fail)
    go_loopw [5] (fun i wr => ∃ k : Nat, k ≤ n ∧ i = .int .i64 k ∧ Ext w wr ∧ Hid (∀ j, j < k → wth xs j = wth ys j)) (fun i _ => n - (intOf i).toNat)
    case atStart => exact ⟨0, Nat.zero_le _, rfl, Ext.refl _, fun j hj => by omega⟩
    case round =>
      obtain ⟨k, hk, rfl, hr, hf⟩ := hrel
      by_cases hlt : k < n
      · obtain ⟨b', o', rfl, c0, c1⟩ := wd_at (RowAt.ext wdC_len HX.out hr) k (by rw [HN.out]; exact hlt)
        obtain ⟨b'', o'', rfl, d0, d1⟩ := wd_at (RowAt.ext wdC_len HY.out hr) k (by rw [HM.out]; exact hlt)
        obtain ⟨x, hxe⟩ : ∃ x, x = wth xs k := ⟨_, rfl⟩
        obtain ⟨y, hye⟩ : ∃ y, y = wth ys k := ⟨_, rfl⟩
        rw [← hxe] at c0 c1
        rw [← hye] at d0 d1
        have HXE := Lib.hid hxe
        have HYE := Lib.hid hye
        obtain ⟨xm, xo⟩ := x
        obtain ⟨ym, yo⟩ := y
        have E0 := Ext.refl wr
        have HR := Lib.hid hr
        clear hxe hye hr
        by_cases e : xm = ym ∧ xo = yo
        · obtain ⟨rfl, rfl⟩ := e
          have hf2 : Hid (∀ j, j < k + 1 → wth xs j = wth ys j) := fun j hj => by
            rcases Nat.lt_succ_iff_lt_or_eq.1 hj with h | h
            · exact hf.out j h
            · rw [h, ← HXE.out, ← HYE.out]
          go_wp2_with (fail)
          refine wp_region_ext (by kernel_rfl) (by kernel_rfl) E0 ?_
          repeat (first | go_big_quiet_step (fail) | quiet_step (fail))
          refine wpQuiet_nil ?_
          rintro _ ⟨nq, rfl⟩
          have hq := nq.ok
          go_wp2_with (fail)
          go_roundw
          case rel => exact ⟨k + 1, by omega, by go_num, HR.out.trans hq, hf2⟩
          case measure => simp [intOf]; omega
        · have H2 : Hid (decide (xs = ys) = false) := decide_eq_false fun e2 => e (by
            have : (⟨xm, xo⟩ : Wd) = ⟨ym, yo⟩ := by rw [HXE.out, HYE.out, e2]
            cases this; exact ⟨rfl, rfl⟩)
          by_cases e1 : xm = ym
          · subst e1
            have e2 : ¬ xo = yo := fun h => e ⟨rfl, h⟩
            clear e
            go_wp2_with (fail)
            refine wp_region_ext (by kernel_rfl) (by kernel_rfl) E0 ?_
            repeat (first | go_big_quiet_step (fail) | quiet_step (fail))
            refine wpQuiet_nil ?_
            rintro _ ⟨nq, rfl⟩
            have hq := nq.ok
            go_wp2_with (fail)
            go_ret
            exact ⟨by rw [H2.out]; rfl, HR.out.trans hq⟩
          · have e2 : ¬ (xm : Int) = (ym : Int) := by omega
            clear e e1
            go_wp2_with (fail)
            refine wp_region_ext (by kernel_rfl) (by kernel_rfl) E0 ?_
            repeat (first | go_big_quiet_step (fail) | quiet_step (fail))
            refine wpQuiet_nil ?_
            rintro _ ⟨nq, rfl⟩
            have hq := nq.ok
            go_wp2_with (fail)
            go_ret
            exact ⟨by rw [H2.out]; rfl, HR.out.trans hq⟩
      · obtain rfl : k = n := by omega
        have H2 : Hid (decide (xs = ys) = true) := decide_eq_true (ext_wth _ _ (by rw [HN.out, HM.out]) fun i hi => hf.out i (by rw [HN.out] at hi; exact hi))
        go_wp2_with (fail)
        go_ret
        exact ⟨by rw [H2.out]; rfl, hr⟩
  · have H2 : Hid (decide (xs = ys) = false) := decide_eq_false fun e => hnm (by rw [← HN.out, ← HM.out, e])
    have hni : ((n : Int) != (m : Int)) = true := by rw [bne_iff_ne]; omega
    clear hnm
    go_enter Tryz.func37, Tryz.ntmps37
    go_wp2_with (fail)
    go_ret
    exact ⟨by rw [H2.out]; rfl, Ext.refl _⟩
/-! ### the reference's Runs -/
theorem app_u_one {w : World} {B : Nat} {v : Value} {xs : List Nat} (h : OwnU w B v xs) (hB : B ≤ w.heap.size) (k : Nat) (hn : xs.length ≤ 100000) :
    ∃ v' w', (Builtin.append_ #[61, 61] 61 #[v, .slice (some ⟨w.heap.size, 0, none⟩) 1 1]).run Tryz.prog (w.alloc (.cells #[.int .u16 (k : Int)] 59)) = .ok v' w' ∧ OwnU w' B v' (xs ++ [k]) ∧ (∃ a c, v' = .slice a (xs.length + 1) c) ∧ ∀ w0, Ext w0 w → w0.heap.size ≤ B → Ext w0 w' := by
  have hx := (Ext.refl w).alloc (.cells #[.int .u16 (k : Int)] 59)
  obtain ⟨v', w', r1, r2, r3⟩ := app_u16 (w.alloc (.cells #[.int .u16 (k : Int)] 59)) B 61 v xs [k] (some ⟨w.heap.size, 0, none⟩) 1 (OwnF.ext h hx) (u16_one (heap_new _ _)) (by simp; omega) (by rw [heap_size]; omega)
  refine ⟨v', w', r1, r2, ?_, fun w0 e0 hb => grown_ext (e0.trans hx) r3 (fun k hk => Nat.le_trans hb (h.lt k hk).1)⟩
  obtain ⟨a, c, rfl⟩ := ownF_slice r2
  exact ⟨a, c, by simp⟩
/-- Whether a run fits the first k words. -/
def fitTo (ws : List Wd) (run k : Nat) : Bool := (List.range k).all fun j => !badRun run (wth ws j)
theorem fitTo_succ (ws : List Wd) (run k : Nat) : fitTo ws run (k + 1) = (fitTo ws run k && !badRun run (wth ws k)) := by
  unfold fitTo; rw [List.range_succ, List.all_append]; simp
theorem fitTo_all (ws : List Wd) (run : Nat) : fitTo ws run ws.length = !ws.any (badRun run) := by
  unfold fitTo
  have h1 : (List.range ws.length).map (wth ws) = ws := by
    apply List.ext_getElem
    · simp
    · intro i h1 h2
      simp [wth_eq _ _ h2]
  have h2 : ws.any (badRun run) = (List.range ws.length).any fun j => badRun run (wth ws j) := by
    conv => lhs; rw [← h1]
    simp only [List.any_map, Function.comp_def]
  rw [h2, List.not_any_eq_all_not]
set_option maxHeartbeats 4000000 in
theorem rRuns_any (F : Fr) (m : Nat) (w : World) (h : FrAt w F) (hb : FrB F) (hm : F.n = (m : Int)) (hm12 : m ≤ 12) (hl : F.ws.length ≤ 12) : Calls Tryz.prog 34 #[frV F] w (fun e w' => ∃ a c, e = .returned (.slice a (runsTo F.ws (2 ^ m)).length c) ∧ Ext w w' ∧ OwnU w' w.heap.size (.slice a (runsTo F.ws (2 ^ m)).length c) (runsTo F.ws (2 ^ m))) := by
  have HB := Lib.hid hb.1
  have H := Lib.hid h
  obtain ⟨n, ws, wa, wc⟩ := F
  simp only at hm hl
  subst hm
  clear h hb
  have hpow : (2 : Nat) ^ m ≤ 4096 := by
    have : (2 : Nat) ^ m ≤ 2 ^ 12 := Nat.pow_le_pow_right (by omega) hm12
    omega
  have h0 : (0 : Int) ≤ (m : Int) := by omega
  show Calls Tryz.prog 34 #[frV ⟨(m : Int), ws, wa, wc⟩] w (fun e w' => ∃ a c, e = .returned (.slice a (runsTo ws (2 ^ m)).length c) ∧ Ext w w' ∧ OwnU w' w.heap.size (.slice a (runsTo ws (2 ^ m)).length c) (runsTo ws (2 ^ m)))
  obtain ⟨Q, hQ⟩ : ∃ Q : Nat, Q = 2 ^ m := ⟨_, rfl⟩
  rw [← hQ] at hpow ⊢
  have hQi : (2 : Int) ^ m = (Q : Int) := by rw [hQ]; norm_cast
  clear hQ
  go_enter Tryz.func34, Tryz.ntmps34
  go_upto_region 1 with fail
  generalize hw1 : World.alloc _ _ = w1
  obtain ⟨he, o1, -⟩ := alloc1 hw1
  obtain ⟨b0, b1⟩ := obj_cells2 o1
  have E1 := Ext.refl w1
  have HE := Lib.hid he
  clear hw1 o1 he
  go_wp2_with (fail)
  have HO : Hid (OwnU (w1.alloc (.cells #[] 59)) w1.heap.size (.slice (some ⟨w1.heap.size, 0, none⟩) 0 0) (runsTo ws 0)) := own_empty w1 59 1
  have HX0 : Hid (Ext w1 (w1.alloc (.cells #[] 59))) := E1.alloc _
  go_loopw [3, 4] (fun v i wr => ∃ k : Nat, k ≤ Q ∧ i = .int .i64 k ∧ Hid (Ext w1 wr) ∧ Hid (OwnU wr w1.heap.size v (runsTo ws k))) (fun _ i _ => Q - (intOf i).toNat)
  case atStart => exact ⟨0, Nat.zero_le _, rfl, HX0.out, HO.out⟩
  case round =>
    obtain ⟨k, hk, rfl, HR, hown⟩ := hrel
    obtain ⟨wo, rfl⟩ : ∃ wo : World, wo = wr := ⟨_, rfl⟩
    have hr := HR.out
    have B0 := fun W (e : Ext wo W) => b0 W (HR.out.trans e)
    have Eo := Ext.refl wo
    by_cases hlt : k < Q
    · have hk16 : k < 65536 := by omega
      go_wp2_with (fail)
      go_loopw [5, 6] (fun x i wi => ∃ j : Nat, j ≤ ws.length ∧ i = .int .i64 j ∧ x = .bool (fitTo ws k j) ∧ Ext wo wi) (fun _ i _ => ws.length - (intOf i).toNat)
      case atStart => exact ⟨0, Nat.zero_le _, rfl, rfl, Ext.refl _⟩
      case round =>
        obtain ⟨j, hj, rfl, rfl, hi⟩ := hrel
        have d0 := fun W (e : Ext wr W) => b0 W (HR.out.trans (hi.trans e))
        have d1 := fun W (e : Ext wr W) => b1 W (HR.out.trans (hi.trans e))
        have E0 := Ext.refl wr
        have HI := Lib.hid hi
        by_cases hjl : j < ws.length
        · obtain ⟨sb, so, rfl, q0, q1⟩ := wd_at (RowAt.ext wdC_len (show Wds w wa ws from H.out) (HE.out.trans (HR.out.trans hi))) j hjl
          have HN := Lib.hid (fitTo_succ ws k j)
          obtain ⟨x, hx⟩ : ∃ x, x = wth ws j := ⟨_, rfl⟩
          rw [← hx] at q0 q1 HN
          have hxm : x.mask < 65536 := by rw [hx]; exact HB.out j hjl
          obtain ⟨xm, xo⟩ := x
          obtain ⟨z, hz⟩ : ∃ z, z = oddB xm k := ⟨_, rfl⟩
          have HC : Hid (∀ W, Calls Tryz.prog 89 #[.int .u16 (xm : Int), .int .u16 (k : Int)] W (fun e w' => e = .returned (.bool z) ∧ w' = W)) := fun W => by rw [hz]; exact odd_any xm k W hxm hk16
          have HBR : Hid (badRun k ⟨xm, xo⟩ = (z != xo)) := by rw [Hid, hz]; rfl
          rw [HBR.out] at HN
          obtain ⟨y, hy⟩ : ∃ y, y = fitTo ws k j := ⟨_, rfl⟩
          rw [← hy] at HN ⊢
          clear hx hxm hz hy HBR b0 b1 hr hi B0 Eo
          cases y
          · go_wp2_with (fail)
            refine wp_region_ext (by kernel_rfl) (by kernel_rfl) E0 ?_
            repeat (first | go_big_quiet_step (fail) | quiet_step (fail))
            refine wpQuiet_nil ?_
            rintro _ ⟨nq, rfl⟩
            have hq := nq.ok
            go_wp2_with (fail)
            go_roundw
            case rel => exact ⟨j + 1, by omega, by go_num, by rw [HN.out]; rfl, HI.out.trans hq⟩
            case measure => simp [intOf]; omega
          · go_upto_region 9 with fail
            refine wp_region_ext (by kernel_rfl) (by kernel_rfl) E0 ?_
            repeat (first | go_big_quiet_step ((go_at_call 89; with_reducible exact Calls.later_same (HC.out _))) | quiet_step ((go_at_call 89; with_reducible exact Calls.later_same (HC.out _))))
            refine wpQuiet_nil ?_
            rintro _ ⟨nq, rfl⟩
            have hq := nq.ok
            go_wp2_with (fail)
            go_roundw
            case rel => exact ⟨j + 1, by omega, by go_num, by rw [HN.out]; cases z <;> cases xo <;> rfl, HI.out.trans hq⟩
            case measure => simp [intOf]; omega
        · obtain rfl : j = ws.length := by omega
          have HA := Lib.hid (fitTo_all ws k)
          have HO2 := Lib.hid (hown.out.ext hi)
          have HN : Hid (runsTo ws (k + 1) = if ws.any (badRun k) then runsTo ws k else runsTo ws k ++ [k]) := runsTo_succ ws k
          obtain ⟨y, hy⟩ : ∃ y, y = ws.any (badRun k) := ⟨_, rfl⟩
          rw [← hy] at HA HN
          rw [HA.out]
          have HX : Hid (Ext w1 wr) := HR.out.trans hi
          clear hy HA b0 b1 hr hi hown HR B0 Eo
          cases y
          · have HAP := Lib.hid (app_u_one HO2.out HX.out.size k (by have := runsTo_len ws k; omega))
            go_wp2_with (at_builtin; refine wpList_app _ rfl _ _ 61 rfl _ HAP.out ?_; rintro v' w6 ⟨hv6, ⟨a6, c6, rfl⟩, he6⟩)
            have HX6 : Hid (Ext w1 w6) := he6 w1 HX.out (Nat.le_refl _)
            have HV6 : Hid (OwnU w6 w1.heap.size (.slice a6 ((runsTo ws k).length + 1) c6) (runsTo ws (k + 1))) := by rw [HN.out]; exact hv6
            clear hv6 he6 HAP
            go_wp2_with (fail)
            go_roundw
            case rel => exact ⟨k + 1, by omega, by go_num, HX6.out, HV6.out⟩
            case measure => simp [intOf]; omega
          · go_wp2_with (fail)
            go_roundw
            case rel => exact ⟨k + 1, by omega, by go_num, HX.out, by rw [HN.out]; exact HO2.out⟩
            case measure => simp [intOf]; omega
    · obtain rfl : k = Q := by omega
      obtain ⟨oa, oc, ho⟩ := ownF_slice hown.out
      subst ho
      go_wp2_with (fail)
      go_ret
      exact ⟨oa, oc, rfl, HE.out.trans hr, own_base hown.out HE.out.size⟩
end Go.Proofs.YtplbofhgmflnlaaGreat
