/-
  Walk: the reference's Valid.
-/
import Derived.Test.YtplbofhgmflnlaaGreatNN5
import Derived.Test.YtplbofhgmflnlaaGreatRF1
set_option linter.unusedVariables false
set_option linter.unusedSimpArgs false
namespace Go.Proofs.YtplbofhgmflnlaaGreat
open Go.RowKit
theorem check_bad {P : Pw} {ss : List Se} {k : Nat} (h1 : planBad P = false) (h2 : ss.length ≤ 2000) (hk : k < ss.length) (h : setBad P (eth ss k) = true) : checkE P ss = 2 := by
  have : anySetBad P ss = true := by
    unfold anySetBad
    rw [List.any_eq_true]
    exact ⟨ss[k], List.getElem_mem hk, by rw [← eth_eq ss k hk]; exact h⟩
  simp [checkE, h1, this, Nat.not_lt.2 h2]
theorem check_good {P : Pw} {ss : List Se} (h1 : planBad P = false) (h2 : ss.length ≤ 2000) (h : ∀ k, k < ss.length → setBad P (eth ss k) = false) : checkE P ss = 0 := by
  have : anySetBad P ss = false := by
    unfold anySetBad
    rw [List.any_eq_false]
    intro x hx
    obtain ⟨i, hi, rfl⟩ := List.mem_iff_getElem.1 hx
    rw [← eth_eq ss i hi, h i hi]; simp
  simp [checkE, h1, this, Nat.not_lt.2 h2]
set_option maxRecDepth 100000 in
set_option maxHeartbeats 4000000 in
theorem rValid_any (P : Pw) (a : Option Addr) (ss : List Se) (sc : Nat) (w : World) (hp : PlanAt w P) (hb : PlanB P) (hs : SetsAt w a ss) (hn : ss.length ≤ 9223372036854775807) (hl : ∀ i, i < ss.length → (eth ss i).lv.xs.length ≤ 9223372036854775807) :
    Calls Tryz.prog 48 #[planV P, .slice a ss.length sc] w (Ret (.int .i64 (checkE P ss)) w) := by
  have hpl := fun W (e : Ext w W) => rPlan_any P W (hp.ext e) hb
  have hlv := fun W (e : Ext w W) p (hp' : p < ss.length) => rLevels_any P (eth ss p).lv.a (eth ss p).lv.xs (eth ss p).lv.c W (hp.ext e) hb.fl ((hs.ext e).lv p hp') (hl p hp')
  have hal := fun W (e : Ext w W) p (hp' : p < ss.length) (h1 : planBad P = false) (h2 : levB P.fs (eth ss p).lv.xs = true) => rAllowed_any P (eth ss p).lv.a (eth ss p).lv.xs (eth ss p).lv.c W (by rw [levB_len h2]; exact FoOk.of (hp.ext e) hb h1) ((hs.ext e).lv p hp')
  have hcb := fun (h1 : planBad P = false) (h2 : ss.length ≤ 2000) k (hk : k < ss.length) => check_bad h1 h2 hk
  have hcg := fun (h1 : planBad P = false) (h2 : ss.length ≤ 2000) => check_good (ss := ss) h1 h2
  have hsb : ∀ s, setBad P s = (!levB P.fs s.lv.xs || !alwB P.fo s.lv.xs || decide (s.blk < 0) || decide (1000 < s.blk)) := fun _ => rfl
  have hce : checkE P ss = if planBad P then 2 else if 2000 < ss.length then 5 else if anySetBad P ss then 2 else 0 := rfl
  obtain ⟨C, hC⟩ : ∃ C, C = checkE P ss := ⟨_, rfl⟩
  obtain ⟨D, hD⟩ : ∃ D, D = planBad P := ⟨_, rfl⟩
  obtain ⟨SB, hSB⟩ : ∃ SB, SB = setBad P := ⟨_, rfl⟩
  rw [← hC] at hcb hcg hce ⊢
  rw [← hD] at hal hcb hcg hce hpl
  rw [← hSB] at hcb hcg hsb
  obtain ⟨fs, fa, fc, fo, ga, gc⟩ := P
  simp only at hal hpl hlv hsb ⊢
  have HPL := Lib.hid hpl; have HLV := Lib.hid hlv; have HAL := Lib.hid hal; have HCB := Lib.hid hcb; have HCG := Lib.hid hcg; have HSB := Lib.hid hsb; have HCE := Lib.hid hce
  have HS := Lib.hid hs
  clear hpl hlv hal hcb hcg hsb hce hp hb hs hl hC hD hSB
  go_enter Tryz.func48, Tryz.ntmps48
  go_wp2_with (fail)
  generalize hw1 : World.alloc _ _ = w1
  obtain ⟨he, o1, -⟩ := alloc1 hw1
  obtain ⟨b0, b1⟩ := obj_cells2 o1
  have HE := Lib.hid he
  have E1 := Ext.refl w1
  clear hw1 o1 he
  go_wp2_with (fail)
  (with_reducible refine (HPL.out _ HE.out).mono ?_); rintro e w2 ⟨rfl, he2⟩
  cases D
  · by_cases h2 : ss.length ≤ 2000
    · have B0 := fun W (e : Ext w2 W) => b0 W (he2.trans e)
      have B1 := fun W (e : Ext w2 W) => b1 W (he2.trans e)
      have HE2 := Lib.hid he2
      have E2 := Ext.refl w2
      clear b0 b1 E1 he2
      go_wp2_with (fail)
      go_loopw [5] (fun i wr => ∃ k : Nat, k ≤ ss.length ∧ i = .int .i64 k ∧ Ext w2 wr ∧ Hid (∀ j, j < k → SB (eth ss j) = false)) (fun i _ => ss.length - (intOf i).toNat)
      case atStart => exact ⟨0, Nat.zero_le _, rfl, Ext.refl _, fun j hj => by omega⟩
      case round =>
        obtain ⟨k, hk, rfl, hr, hh⟩ := hrel
        have C0 := fun W (e : Ext wr W) => B0 W (hr.trans e)
        have C1 := fun W (e : Ext wr W) => B1 W (hr.trans e)
        have hr0 := Ext.refl wr
        by_cases hlt : k < ss.length
        · obtain ⟨sb, so, rfl, d0, d1⟩ := set_at (HS.out.ext ((HE.out.trans HE2.out).trans hr)).row k hlt
          have HL1 : Hid (∀ n : Later wr, Calls Tryz.prog 43 #[.agg #[.slice fa fs.length fc, .slice ga fo.length gc], .slice (eth ss k).lv.a (eth ss k).lv.xs.length (eth ss k).lv.c] n.val (Ret (.bool (levB fs (eth ss k).lv.xs)) n.val)) := fun n => HLV.out n.val (((HE.out.trans HE2.out).trans hr).trans n.ok) k hlt
          have HA1 : Hid (levB fs (eth ss k).lv.xs = true → ∀ n : Later wr, Calls Tryz.prog 44 #[.agg #[.slice fa fs.length fc, .slice ga fo.length gc], .slice (eth ss k).lv.a (eth ss k).lv.xs.length (eth ss k).lv.c] n.val (Ret (.bool (alwB fo (eth ss k).lv.xs)) n.val)) := fun h n => HAL.out n.val (((HE.out.trans HE2.out).trans hr).trans n.ok) k hlt (by simp) h
          have HSk := Lib.hid (HSB.out (eth ss k))
          have HCk := Lib.hid (HCB.out (by simp) h2 k hlt)
          have HNk : Hid (SB (eth ss k) = false → ∀ j, j < k + 1 → SB (eth ss j) = false) := fun h j hj => by
            rcases Nat.lt_succ_iff_lt_or_eq.1 hj with h1 | h1
            · exact hh.out j h1
            · subst h1; exact h
          obtain ⟨Sk, hSk⟩ : ∃ Sk, Sk = SB (eth ss k) := ⟨_, rfl⟩
          rw [← hSk] at HSk HCk HNk
          obtain ⟨s, hse⟩ : ∃ s, s = eth ss k := ⟨_, rfl⟩
          rw [← hse] at d0 d1 HL1 HA1 HSk
          clear hSk hse hh
          obtain ⟨⟨la, xs, lc⟩, blk⟩ := s
          simp only at d0 d1 HL1 HA1 HSk
          cases T1 : levB fs xs
          · rw [T1] at HL1 HSk
            have HN : Hid (C = 2) := HCk.out HSk.out
            clear HSk HCk HNk HA1 T1
            go_upto_region 8 with fail
            refine wp_region_ext (by kernel_rfl) (by kernel_rfl) hr0 ?_
            repeat (first | go_big_quiet_step (((go_at_call 43; exact Calls.later (HL1.out _)))) | quiet_step (((go_at_call 43; exact Calls.later (HL1.out _)))))
            refine wpQuiet_nil ?_
            rintro _ ⟨nq, rfl⟩
            have hq2 := nq.ok
            go_wp2_with (fail)
            go_ret
            exact ⟨by rw [HN.out]; rfl, HE.out.trans (HE2.out.trans (hr.trans hq2))⟩
          · have HA2 := Lib.hid (HA1.out T1)
            rw [T1] at HL1 HSk
            cases T2 : alwB fo xs
            · rw [T2] at HA2 HSk
              have HN : Hid (C = 2) := HCk.out (by rw [HSk.out]; rfl)
              clear HSk HCk HNk HA1 T1 T2
              go_upto_region 8 with fail
              refine wp_region_ext (by kernel_rfl) (by kernel_rfl) hr0 ?_
              repeat (first | go_big_quiet_step (((first | (go_at_call 43; exact Calls.later (HL1.out _)) | (go_at_call 44; exact Calls.later (HA2.out _))))) | quiet_step (((first | (go_at_call 43; exact Calls.later (HL1.out _)) | (go_at_call 44; exact Calls.later (HA2.out _))))))
              refine wpQuiet_nil ?_
              rintro _ ⟨nq, rfl⟩
              have hq2 := nq.ok
              go_wp2_with (fail)
              go_ret
              exact ⟨by rw [HN.out]; rfl, HE.out.trans (HE2.out.trans (hr.trans hq2))⟩
            · rw [T2] at HA2 HSk
              by_cases U1 : blk < 0
              · have HN : Hid (C = 2) := HCk.out (by rw [HSk.out]; simp [U1])
                clear HSk HCk HNk HA1 T1 T2
                go_upto_region 8 with fail
                refine wp_region_ext (by kernel_rfl) (by kernel_rfl) hr0 ?_
                repeat (first | go_big_quiet_step (((first | (go_at_call 43; exact Calls.later (HL1.out _)) | (go_at_call 44; exact Calls.later (HA2.out _))))) | quiet_step (((first | (go_at_call 43; exact Calls.later (HL1.out _)) | (go_at_call 44; exact Calls.later (HA2.out _))))))
                refine wpQuiet_nil ?_
                rintro _ ⟨nq, rfl⟩
                have hq2 := nq.ok
                go_wp2_with (fail)
                go_ret
                exact ⟨by rw [HN.out]; rfl, HE.out.trans (HE2.out.trans (hr.trans hq2))⟩
              · by_cases U2 : 1000 < blk
                · have HN : Hid (C = 2) := HCk.out (by rw [HSk.out]; simp [U2])
                  clear HSk HCk HNk HA1 T1 T2
                  go_upto_region 8 with fail
                  refine wp_region_ext (by kernel_rfl) (by kernel_rfl) hr0 ?_
                  repeat (first | go_big_quiet_step (((first | (go_at_call 43; exact Calls.later (HL1.out _)) | (go_at_call 44; exact Calls.later (HA2.out _))))) | quiet_step (((first | (go_at_call 43; exact Calls.later (HL1.out _)) | (go_at_call 44; exact Calls.later (HA2.out _))))))
                  refine wpQuiet_nil ?_
                  rintro _ ⟨nq, rfl⟩
                  have hq2 := nq.ok
                  go_wp2_with (fail)
                  go_ret
                  exact ⟨by rw [HN.out]; rfl, HE.out.trans (HE2.out.trans (hr.trans hq2))⟩
                · have HN := Lib.hid (HNk.out (by rw [HSk.out]; simp [U1, U2]))
                  clear HSk HCk HNk HA1 T1 T2
                  go_upto_region 8 with fail
                  refine wp_region_ext (by kernel_rfl) (by kernel_rfl) hr0 ?_
                  repeat (first | go_big_quiet_step (((first | (go_at_call 43; exact Calls.later (HL1.out _)) | (go_at_call 44; exact Calls.later (HA2.out _))))) | quiet_step (((first | (go_at_call 43; exact Calls.later (HL1.out _)) | (go_at_call 44; exact Calls.later (HA2.out _))))))
                  refine wpQuiet_nil ?_
                  rintro _ ⟨nq, rfl⟩
                  have hq2 := nq.ok
                  go_wp2_with (fail)
                  go_roundw
                  case rel => exact ⟨k + 1, by omega, by go_num, hr.trans hq2, HN.out⟩
                  case measure => simp [intOf]; omega
        · obtain rfl : k = ss.length := by omega
          have HN : Hid (C = 0) := HCG.out (by simp) h2 hh.out
          clear hh
          go_wp2_with (fail)
          go_ret
          exact ⟨by rw [HN.out]; rfl, HE.out.trans (HE2.out.trans hr)⟩
    · have HN : Hid (C = 5) := by rw [Hid, HCE.out]; simp; omega
      have h3 : (2000 : Int) < (ss.length : Int) := by omega
      go_wp2_with (fail)
      go_ret
      exact ⟨by rw [HN.out]; rfl, HE.out.trans he2⟩
  · have HN : Hid (C = 2) := by rw [Hid, HCE.out]; rfl
    go_wp2_with (fail)
    go_ret
    exact ⟨by rw [HN.out]; rfl, HE.out.trans he2⟩
end Go.Proofs.YtplbofhgmflnlaaGreat
