/-
  Walk: MatrixSettings, where the plan is valid and has not too many settings.
-/
import Derived.Test.YtplbofhgmflnlaaGreatST3
set_option linter.unusedVariables false
set_option linter.unusedSimpArgs false
namespace Go.Proofs.YtplbofhgmflnlaaGreat
open Go.RowKit
set_option maxRecDepth 100000 in
set_option maxHeartbeats 4000000 in
theorem st_short (P : Pw) (a : Option Addr) (ls : List Int) (c : Nat) (w : World) (hp : PlanAt w P) (hl : Ints w a ls) (hn : ls.length ≤ 10) (h1 : wideP P.fs P.fo = false) (h0 : planBad P = false) (hp2 : prodTo P.fs P.fs.length ≤ 2000) :
    Calls Tryz.prog 8 #[planV P, .slice a ls.length c] w (Ret (.bool true) w) := by
  have hb := planB_wide h1
  have hwp := fun W (e : Ext w W) => wideP_any P.fs P.fo P.fa P.ga P.fc P.gc W (hp.ext e).fo (fun i hi => by have := hb.pl i hi; omega)
  have hov := fun W (e : Ext w W) => own_wide P W (hp.ext e) h1
  have hrp := fun W (e : Ext w W) => rPlan_any P W (hp.ext e) hb
  have hrl := fun W (e : Ext w W) => rLevels_any P a ls c W (hp.ext e) hb.fl (hl.ext e) (by omega)
  have hra := fun W (e : Ext w W) (hx : levB P.fs ls = true) => rAllowed_any P a ls c W (by rw [levB_len hx]; exact FoOk.of (hp.ext e) hb h0) (hl.ext e)
  have hse : ∀ Q W, SameP P Q → PlanAt W Q → Calls Tryz.prog 22 #[planV Q] W (RetSets Q W) := fun Q W s hq => (settings_ok Q W hq (hb.same s) (by rw [← s.bad]; exact h0)).mono (by
    rintro e w' (⟨h, -⟩ | ⟨-, h⟩)
    · exfalso; rw [← s.fs] at h; omega
    · exact h)
  have hrs : ∀ W, Ext w W → Calls Tryz.prog 45 #[planV P] W (RetSetsR P W) := fun W e => (rSettings_any P W (hp.ext e) hb h0).mono (by
    rintro e w' (⟨h, -⟩ | ⟨-, h⟩)
    · exfalso; omega
    · exact h)
  have hal : ∀ Q W a' c', SameP P Q → PlanAt W Q → Ints W a' ls → Calls Tryz.prog 23 #[planV Q, .slice a' ls.length c'] W (Ret (.tuple #[.bool (levB P.fs ls && alwB P.fo ls), .int .i64 (if levB P.fs ls then 0 else 2)]) W) := fun Q W a' c' s hq hi => by
    have := Allowed_any Q a' ls c' W hq (hb.same s) hi (by omega)
    rwa [show AllowedV Q ls = .tuple #[.bool (levB P.fs ls && alwB P.fo ls), .int .i64 (if levB P.fs ls then 0 else 2)] by unfold AllowedV; rw [← s.bad, h0, ← s.fs, ← s.alw]; cases levB P.fs ls <;> rfl] at this
  have hcp : ∀ Q W, SameP P Q → PlanAt W Q → Calls Tryz.prog 42 #[planV Q] W (Ret (.int .i64 0) W) := fun Q W s hq => by
    have hbq := hb.same s
    have := checkPlan_any Q W hq (fun i hi => by have := hbq.pl i hi; omega) (by have := hbq.fl; omega) (by have := hbq.gl; omega)
    rwa [show planE Q = 0 by unfold planE; rw [← s.bad, h0]; rfl] at this
  rw [h1] at hwp
  rw [h0] at hrp
  have HP2 : Hid (prodTo P.fs P.fs.length ≤ 2000) := hp2
  have HF8 : Hid (P.fs.length ≤ 8) := (planOk h0).1
  obtain ⟨x, hx⟩ : ∃ x, x = levB P.fs ls := ⟨_, rfl⟩
  obtain ⟨q, hq⟩ : ∃ q, q = alwB P.fo ls := ⟨_, rfl⟩
  rw [← hx] at hrl hra
  rw [← hx, ← hq] at hal
  rw [← hq] at hra
  obtain ⟨P0, hP0⟩ : ∃ P0, P0 = P := ⟨_, rfl⟩
  rw [← hP0] at hse hal hcp HF8 HP2
  have HRP0 := Lib.hid hP0
  obtain ⟨fs, fa, fc, fo, ga, gc⟩ := P
  simp only at hwp hra hrl hrp hov hrs
  have HWP := Lib.hid hwp; have HOV := Lib.hid hov; have HRP := Lib.hid hrp; have HSE := Lib.hid hse; have HAL := Lib.hid hal; have HCP := Lib.hid hcp; have HRL := Lib.hid hrl; have HRA := Lib.hid hra; have HRS := Lib.hid hrs
  have HL := Lib.hid hl
  clear hwp hov hrp hse hal hcp hl hp h0 h1 hb hrl hra hrs hx hq hP0 hp2
  have hd : x = false ∨ (x = true ∧ q = false) ∨ (x = true ∧ q = true) := by cases x <;> cases q <;> simp
  rcases hd with rfl | ⟨rfl, rfl⟩ | ⟨rfl, rfl⟩ <;> (
  simp only [Bool.false_and, Bool.true_and, if_true, Bool.false_eq_true, if_false] at HAL HRA HRL
  go_enter Tryz.func8, Tryz.ntmps8
  go_wp2_with (fail)
  generalize hw1 : World.alloc _ _ = w1
  obtain ⟨he, o1, -⟩ := alloc1 hw1
  obtain ⟨b0, b1⟩ := obj_cells2 o1
  have E1 := Ext.refl w1
  have HE := Lib.hid he
  clear hw1 o1 he
  go_wp2_with (fail)
  (with_reducible refine (HWP.out _ HE.out).mono ?_); rintro e w2 ⟨rfl, he2⟩
  go_wp2_with (fail)
  (with_reducible refine (HOV.out _ (HE.out.trans he2)).mono ?_); rintro e w3 ⟨Q, rfl, he3, hq3, hsp⟩
  rw [← HRP0.out] at hsp
  have HSP := Lib.hid hsp; have HQ3 := Lib.hid hq3
  have HE3 := Lib.hid (he2.trans he3)
  clear hsp hq3 HWP HOV
  obtain ⟨qs, qa, qc, qo, pa, pc⟩ := Q
  have B0 := fun W (e : Ext w3 W) => b0 W (HE3.out.trans e)
  have B1 := fun W (e : Ext w3 W) => b1 W (HE3.out.trans e)
  clear b0 b1 E1 he2 he3
  go_upto_region 4 with fail
  generalize hw4 : World.alloc _ _ = w4
  obtain ⟨he4, o4, hs4⟩ := alloc1 hw4
  obtain ⟨q0, q1⟩ := obj_cells2 o4
  have C0 := fun W (e : Ext w4 W) => B0 W (he4.trans e)
  have C1 := fun W (e : Ext w4 W) => B1 W (he4.trans e)
  have HE4 := Lib.hid (HE.out.trans (HE3.out.trans he4))
  have HQ4 := Lib.hid (HQ3.out.ext he4)
  obtain ⟨bq, hbq⟩ : ∃ bq, bq = w3.heap.size := ⟨_, rfl⟩
  rw [← hbq] at q0 q1 ⊢
  have E4 := Ext.refl w4
  clear hw4 o4 hs4 he4 hbq B0 B1
  go_wp2_with (fail)
  (with_reducible refine (HSE.out ⟨qs, qa, qc, qo, pa, pc⟩ _ HSP.out HQ4.out).mono ?_); rintro e w5 ⟨sa, vs, sc, rfl, he5, hov, hrv, hxs⟩
  have HXS : Hid (vs.map (·.xs) = settingsS P0) := by rw [Hid, hxs]; exact HSP.out.settings.symm
  have HSV : Hid (OwnV w5 w4.heap.size (.slice sa vs.length sc) vs ∧ RowsI w5 w4.heap.size vs) := ⟨hov, hrv⟩
  clear hov hrv hxs
  have HC0 : Hid (∀ W, Ext w5 W → W.cell? ⟨bq, 0, none⟩ = some (.slice qa qs.length qc)) := fun W e => q0 W (he5.trans e)
  have HC1 : Hid (∀ W, Ext w5 W → W.cell? ⟨bq, 1, none⟩ = some (.slice pa qo.length pc)) := fun W e => q1 W (he5.trans e)
  have HI : Hid (Ints w5 a ls ∧ ls.length ≤ 1000000) := ⟨HL.out.ext (HE4.out.trans he5), by omega⟩
  have HCALL := Lib.hid (fun W (e : Ext w5 W) a c (hi : Ints W a ls) => HAL.out ⟨qs, qa, qc, qo, pa, pc⟩ W a c HSP.out (HQ4.out.ext (he5.trans e)) hi)
  have HE5 := Lib.hid (HE4.out.trans he5); have HX5 := Lib.hid he5
  clear he5
  go_upto_region 5 with fail
  refine al_law HC0 HC1 HI HCALL _ (by rfl) rfl rfl ?_
  intro vs' w9 ls9 hl9 hJ9 e0 e1 e2 e3 e4 e5 e6 e7 e8 e9
  simp only [Act.put, List.setIfInBounds_toArray, List.set_cons_zero, List.set_cons_succ]
  rw [e0, e2, e4, e5, e6, e7, e8, e9]
  have he9 := hJ9.1
  have D0 := fun W (e : Ext w9 W) => C0 W ((HX5.out.trans he9).trans e)
  have D1 := fun W (e : Ext w9 W) => C1 W ((HX5.out.trans he9).trans e)
  have Q0 := fun W (e : Ext w9 W) => q0 W ((HX5.out.trans he9).trans e)
  have Q1 := fun W (e : Ext w9 W) => q1 W ((HX5.out.trans he9).trans e)
  have HE9 := Lib.hid (HE5.out.trans he9)
  have HX9 := Lib.hid (HX5.out.trans he9)
  have HY9 := Lib.hid he9
  have HQ9 := Lib.hid (HQ4.out.ext (HX5.out.trans he9))
  have E9 := Ext.refl w9
  clear hJ9 hl9 HCALL HC0 HC1 HI he9 C0 C1 q0 q1 E4 HX5
  generalize vs' 1 = v1
  generalize vs' 3 = v3
  go_wp2_with (fail)
  (with_reducible refine (HRP.out _ HE9.out).mono ?_); rintro e w10 ⟨rfl, he10⟩
  go_wp2_with (fail)
  (with_reducible refine (HCP.out ⟨qs, qa, qc, qo, pa, pc⟩ _ HSP.out (HQ9.out.ext he10)).mono ?_); rintro e w11 ⟨rfl, he11⟩
  have he911 : Ext w9 w11 := he10.trans he11
  clear he10 he11
  go_wp2_with (fail)
  (with_reducible refine (HRL.out _ (HE9.out.trans he911)).mono ?_); rintro e w12 ⟨rfl, he12⟩
  have he912 : Ext w9 w12 := he911.trans he12
  clear he911 he12
  go_wp2_with (fail)
  first
    | ((with_reducible refine (HRA.out _ (HE9.out.trans he912) (by first | trivial | rfl)).mono ?_); rintro e w13 ⟨rfl, he13⟩)
    | (obtain ⟨w13, rfl⟩ : ∃ w13 : World, w13 = w12 := ⟨_, rfl⟩; have he13 := Ext.refl w13)
  have he913 : Ext w9 w13 := he912.trans he13
  clear he912 he13
  try go_wp2_with (fail)
  (with_reducible refine (HRS.out _ (HE9.out.trans he913)).mono ?_); rintro e w14 ⟨ma, ms, mc, rfl, he14, hom, hrm, hxm⟩
  rw [← HRP0.out, ← HXS.out] at hxm
  have hvm : vs.length = ms.length := by have := congrArg List.length hxm; simpa using this.symm
  have hne : ((vs.length : Int) != (ms.length : Int)) = false := by rw [hvm]; simp
  have HXY : Hid (∀ i, i < vs.length → (vth vs i).xs = (vth ms i).xs ∧ (vth vs i).xs.length ≤ 8) := fun i hi => by
    have e1 : (vs.map (·.xs))[i]? = (ms.map (·.xs))[i]? := by rw [hxm]
    rw [List.getElem?_map, List.getElem?_map, List.getElem?_eq_getElem hi, List.getElem?_eq_getElem (by rw [← hvm]; exact hi)] at e1
    simp only [Option.map_some, Option.some.injEq] at e1
    rw [vth_eq _ _ hi, vth_eq _ _ (by rw [← hvm]; exact hi)]
    refine ⟨e1, ?_⟩
    have hm : (vs[i]).xs ∈ vs.map (·.xs) := List.mem_map.2 ⟨_, List.getElem_mem hi, rfl⟩
    rw [HXS.out] at hm
    unfold settingsS outK at hm
    obtain ⟨j, -, hj⟩ := List.mem_map.1 (List.mem_filter.1 hm).1
    rw [← hj, atK_len]
    exact HF8.out
  have HAP : Hid (∀ i j, i < j → j < vs.length → ∀ p q, (vth vs i).a = some p → (vth vs j).a = some q → p.block ≠ q.block) := HSV.out.2.apart
  have HLT : Hid (∀ i, i < vs.length → ∀ p, (vth vs i).a = some p → p.block < w13.heap.size) := fun i hi p hp => by
    have := HSV.out.2.own i hi
    rw [hp] at this
    have h2 := (ownI_lt this).2
    have h3 := (HY9.out.trans he913).size
    omega
  obtain ⟨M, hM⟩ : ∃ M, M = w13.heap.size := ⟨_, rfl⟩
  have HVL : Hid (vs.length ≤ 2000) := by
    have e1 := vxs_len HXS.out
    exact Nat.le_trans e1 HP2.out
  have HST0 : Hid (StR w4 w14 M vs ms (.slice sa vs.length sc) (.slice ma ms.length mc) 0) :=
    ⟨HX9.out.trans (he913.trans he14), OwnF.ext HSV.out.1 (HY9.out.trans (he913.trans he14)), fun j _ hj => (HSV.out.2.own j hj).ext (HY9.out.trans (he913.trans he14)), by rw [hM]; exact ⟨hom, hrm⟩⟩
  have HVM := Lib.hid hvm
  rw [← hM] at HLT
  clear hom hrm hxm HSV HXS hM he14 he913 HRS HRP HSE HAL HCP HRL HRA HQ9 HQ4 HQ3 hvm D0 D1 Q0 Q1 E9
  have hvl := HVL.out
  go_wp2_with (fail)
  go_loopw [14] (fun i wr => ∃ k : Nat, k ≤ vs.length ∧ i = .int .i64 k ∧ Hid (StR w4 wr M vs ms (.slice sa vs.length sc) (.slice ma ms.length mc) k)) (fun i _ => vs.length - (intOf i).toNat)
  case atStart => exact ⟨0, Nat.zero_le _, rfl, HST0.out⟩
  case round =>
    obtain ⟨k, hk, rfl, hst⟩ := hrel
    by_cases hlt : k < vs.length
    · obtain ⟨lb, rfl, -, -, -⟩ := OwnF.cell vecC_len hst.out.hd k hlt
      obtain ⟨mb, rfl, -, -, -⟩ := OwnF.cell vecC_len hst.out.ms.1 k (by rw [← HVM.out]; exact hlt)
      have hlm : (k : Int) < (ms.length : Int) := by rw [← HVM.out]; omega
      have L0 : ∀ W, Ext wr W → W.cell? ⟨lb, k, none⟩ = some (slV (vth vs k)) := fun W e => ownV_cell rfl (OwnF.ext hst.out.hd e) k hlt
      have M0 : ∀ W, Ext wr W → W.cell? ⟨mb, k, none⟩ = some (slV (vth ms k)) := fun W e => ownV_cell rfl (OwnF.ext hst.out.ms.1 e) k (by rw [← HVM.out]; exact hlt)
      have hro := (hst.out.row k (Nat.le_refl _) hlt)
      have hrm : OwnI wr M (slV (vth ms k)) (vth ms k).xs := hst.out.ms.2.own k (by rw [← HVM.out]; exact hlt)
      obtain ⟨hxy, hx8⟩ := HXY.out k hlt
      have HAK := Lib.hid (fun j (h1 : k < j) (h2 : j < vs.length) => HAP.out k j h1 h2)
      have HLK := Lib.hid (HLT.out k hlt)
      obtain ⟨s, hs⟩ : ∃ s, s = vth vs k := ⟨_, rfl⟩
      obtain ⟨t, ht⟩ : ∃ t, t = vth ms k := ⟨_, rfl⟩
      have HS := Lib.hid hs
      rw [← hs] at L0 hro hxy hx8 HAK HLK
      rw [← ht] at M0 hrm hxy
      clear ht hs
      obtain ⟨xa, xs, xc⟩ := s
      obtain ⟨ya, ys, yc⟩ := t
      simp only [slV] at L0 M0 hro hrm hxy hx8 HAK HLK
      subst hxy
      have HSA : Hid (∀ n : Later wr, Calls Tryz.prog 25 #[.slice xa xs.length xc, .slice ya xs.length yc] n.val (Ret (.bool true) n.val)) := fun n => by
        have := same_any xs xs xa ya xs.length xs.length xc yc n.val (hro.ints.1.ext n.ok) (hrm.ints.1.ext n.ok) rfl rfl (by omega) (by omega)
        rwa [show sameB xs xs = true by simp [sameB]] at this
      have hr0 := Ext.refl wr
      have HRO := Lib.hid hro
      clear hro hrm
      go_upto_region 25 with fail
      refine wp_region_ext (by kernel_rfl) (by kernel_rfl) hr0 ?_
      repeat (first | go_big_quiet_step (((go_at_call 25; exact Calls.later (HSA.out _)))) | quiet_step (((go_at_call 25; exact Calls.later (HSA.out _)))))
      refine wpQuiet_nil ?_
      rintro _ ⟨nq, rfl⟩
      have HST1 := Lib.hid (hst.out.later nq.ok).next
      have HRO1 := Lib.hid (HRO.out.ext nq.ok)
      clear hst HRO HSA L0 M0 hr0
      go_wp2_with (fail)
      go_loopw [15] (fun i wr => ∃ (j : Nat) (ys : List Int), j ≤ xs.length ∧ i = .int .i64 j ∧ Hid (StR w4 wr M vs ms (.slice (some ⟨lb, 0, none⟩) vs.length sc) (.slice (some ⟨mb, 0, none⟩) ms.length mc) (k + 1)) ∧ Hid (OwnI wr w4.heap.size (.slice xa xs.length xc) ys ∧ ys.length = xs.length)) (fun i _ => xs.length - (intOf i).toNat)
      case atStart => exact ⟨0, xs, Nat.zero_le _, rfl, HST1.out, HRO1.out, rfl⟩
      case round =>
        obtain ⟨j, ys, hj, rfl, hst, hys⟩ := hrel
        have L0 : ∀ W, Ext wr W → W.cell? ⟨lb, k, none⟩ = some (.slice xa xs.length xc) := fun W e => by
          have := ownV_cell rfl (OwnF.ext hst.out.hd e) k hlt
          rw [← HS.out] at this
          exact this
        have hr0 := Ext.refl wr
        by_cases hlj : j < xs.length
        · obtain ⟨r, rfl⟩ := own_addr hys.out.1 (fun e => by have := hys.out.2; rw [e] at this; simp at this; omega)
          have hcell := ownI_cell hys.out.2 hys.out.1 j hlj
          have hfr := ownI_free hys.out.2 hys.out.1 j
          go_upto_region 29 with fail
          generalize hw7 : World.setCell wr _ _ = w7
          have HST7 : Hid (StR w4 w7 M vs ms (.slice (some ⟨lb, 0, none⟩) vs.length sc) (.slice (some ⟨mb, 0, none⟩) ms.length mc) (k + 1)) := by
            rw [← hw7]
            exact hst.out.write hlt (by rw [← HS.out]) hys.out.1 (fun j h1 h2 p hp e => HAK.out j h1 h2 _ p rfl hp e.symm) (HLK.out _ rfl) _
          have HYS7 : Hid (OwnI w7 w4.heap.size (.slice (some ⟨r, 0, none⟩) xs.length xc) (ys.set j (-1)) ∧ (ys.set j (-1)).length = xs.length) := by
            rw [← hw7]
            exact ⟨ownI_set2 hys.out.2 hys.out.1 _, by rw [List.length_set]; exact hys.out.2⟩
          clear hw7 hst hys hcell hfr L0 hr0
          go_wp2_with (fail)
          go_roundw
          case rel => exact ⟨j + 1, _, by omega, by go_num, HST7.out, HYS7.out⟩
          case measure => simp [intOf]; omega
        · obtain rfl : j = xs.length := by omega
          go_wp2_with (fail)
          go_roundw
          case rel => exact ⟨k + 1, by omega, by go_num, hst.out⟩
          case measure => simp [intOf]; omega
    · obtain rfl : k = vs.length := by omega
      go_wp2_with (fail)
      (with_reducible refine (known_any _).mono ?_); rintro e w17 ⟨rfl, he17⟩
      go_wp2_with (fail)
      go_ret
      exact ⟨rfl, HE4.out.trans (hst.out.ext.trans he17)⟩)
end Go.Proofs.YtplbofhgmflnlaaGreat
