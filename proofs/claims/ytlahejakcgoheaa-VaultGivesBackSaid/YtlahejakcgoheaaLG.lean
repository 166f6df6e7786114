/-
  Walk: the law VaultGivesBack.
-/
import Derived.Test.YtlahejakcgoheaaTB
import Derived.Test.YtlahejakcgoheaaQC
set_option linter.unusedVariables false
set_option linter.unusedSimpArgs false
namespace Go.Proofs.Ytlahejakcgoheaa
open Go.RowKit
theorem sealR_0 {S : PV} {n p k t : ByteArray} {un : Int} (h : sealE S n p k un t = 0) (h2 : recsN S n = 0) : sealR S n p k un t = .tuple #[.int .i64 1, .int .i64 0] := by
  unfold sealR; rw [h, h2]; simp
theorem revR_0 {S : PV} {n p t : ByteArray} {num : Int} {k : Nat} (h : revE S n p num t = 0) (h2 : (recAt S n num).1.length = k) : revR S n p num t = .tuple #[.int .i64 ((k : Int) + 1), .int .i64 0] := by
  unfold revR; rw [h, h2]; simp
set_option maxRecDepth 100000 in
set_option maxHeartbeats 8000000 in
theorem gives_any (a : Option Addr) (ts : List ByteArray) (c : Nat) (pass share : ByteArray) (w : World) (hx : Txts w a ts) (hp : pass.size ≤ maxLen) (hs : share.size ≤ maxLen) (hl : ts.length ≤ 9223372036854775807) :
    Calls Try.prog 11 #[.slice a ts.length c, .string pass, .string share] w (Ret (.bool true) w) := by
  have HX := Lib.hid hx; have HP := Lib.hid hp; have HS := Lib.hid hs
  obtain ⟨n, hn⟩ : ∃ n, n = ts.length := ⟨_, rfl⟩
  have HN := Lib.hid hn
  rw [← hn] at hl ⊢
  clear hx hn hp hs
  by_cases hb : 1 ≤ n ∧ n ≤ 20
  · have hn20 := hb.2
    have hn1 := hb.1
    clear hb hl
    have T1 : decide (20 < (n : Int)) = false := by simp; omega
    have T2 : ((n : Int) == 0) = false := by simp; omega
    go_enter Try.func11, Try.ntmps11
    go_wp2_with (fail)
    clear T1 T2
    go_loopw [7] (fun i wr => ∃ k : Nat, k ≤ n ∧ i = .int .i64 k ∧ Hid (∀ i, i < k → (sth ts i).size ≤ 2000) ∧ Ext w wr) (fun i _ => n - (intOf i).toNat)
    case atStart => exact ⟨0, Nat.zero_le _, rfl, fun i hi => by omega, Ext.refl w⟩
    case round =>
      obtain ⟨k, hk, rfl, hsz, he⟩ := hrel
      by_cases hlt : k < n
      · obtain ⟨b, o, rfl, hc⟩ := HX.out.at k (by rw [← HN.out]; exact hlt)
        have c0 := hc wr he
        have hi0 : (0 : Int) ≤ (k : Int) := by omega
        have hi1 : (k : Int) < (n : Int) := by omega
        obtain ⟨t, ht⟩ : ∃ t, t = sth ts k := ⟨_, rfl⟩
        rw [← ht] at c0
        cases T : decide (2000 < (t.size : Int))
        · have hsz' : Hid (∀ i, i < k + 1 → (sth ts i).size ≤ 2000) := fun i hi => by
            rcases Nat.lt_or_ge i k with q | q
            · exact hsz.out i q
            · obtain rfl : i = k := by omega
              rw [← ht]; simp at T; omega
          clear hc ht
          go_wp2_with (fail)
          go_roundw
          case rel => exact ⟨k + 1, by omega, by go_num, hsz', he⟩
          case measure => simp [intOf]; omega
        · clear hc ht
          go_wp2_with (fail)
          (with_reducible refine (known_any _).mono ?_); rintro e w3 ⟨rfl, he3⟩
          go_wp2_with (fail)
          go_ret
          exact ⟨rfl, he.trans he3⟩
      · obtain rfl : k = n := by omega
        have h0 : (sth ts 0).size ≤ 2000 := hsz.out 0 (by omega)
        have H0 := Lib.hid h0
        clear h0
        go_wp2_with (fail)
        (with_reducible refine (new_f _).mono ?_); rintro e w1 ⟨b, rfl, hv⟩
        have hv := hv.base he
        have hen := enrol_f hv Good.new bAda pass (small (by decide)) HP.out
        obtain ⟨e1, he1⟩ : ∃ e1, e1 = enrolE PV.new bAda pass := ⟨_, rfl⟩
        rw [← he1] at hen
        have HEN := Lib.hid hen; have HE1 := Lib.hid he1
        clear hen he1 hv he
        go_wp2_with (fail)
        (with_reducible refine HEN.out.mono ?_); rintro e w2 ⟨rfl, hv⟩
        by_cases q1 : e1 = 0
        · have hen := enrol_f hv (Good.new.enrol bAda pass) bBob bB (small (by decide)) (small (by decide))
          obtain ⟨e2, he2⟩ : ∃ e2, e2 = enrolE (enrolS PV.new bAda pass) bBob bB := ⟨_, rfl⟩
          rw [← he2] at hen
          have HEN2 := Lib.hid hen; have HE2 := Lib.hid he2
          rw [q1] at HE1
          clear hen he2 hv HEN
          subst q1
          go_wp2_with (fail)
          (with_reducible refine HEN2.out.mono ?_); rintro e w3 ⟨rfl, hv⟩
          by_cases q2 : e2 = 0
          · rw [q2] at HE2
            obtain ⟨s1, s2, s3⟩ := seal_first (share := share) HE1.out.symm HE2.out.symm H0.out
            obtain ⟨bt, ot, hat, hct⟩ := HX.out.at 0 (by rw [← HN.out]; omega)
            have hct := Lib.hid hct
            have c0 := hct.out w3 hv.old
            rw [Nat.add_zero] at c0
            have hse := seal_f hv ((Good.new.enrol bAda pass).enrol bBob bB) bAda pass bPolar (sth ts 0) 5 (small (by decide)) HP.out (small (by decide)) (by have := H0.out; unfold maxLen; omega) (by omega) (by omega)
            rw [show enrolS (enrolS PV.new bAda pass) bBob bB = gS2 pass from rfl, sealR_0 s1 s2] at hse
            subst hat
            have hi : (0 : Int) < (k : Int) := by omega
            have HSE := Lib.hid hse; have HGB := Lib.hid s3
            subst q2
            clear hse s1 s2 s3 HEN2 HE1 HE2 hv
            obtain ⟨t0, ht0⟩ : ∃ t0, t0 = sth ts 0 := ⟨_, rfl⟩
            rw [← ht0] at c0 HSE HGB
            have HT0 := Lib.hid ht0
            clear ht0
            go_wp2_with (fail)
            (with_reducible refine HSE.out.mono ?_); rintro e w4 ⟨rfl, hv⟩
            generalize sealS (gS2 pass) bAda pass bPolar 5 _ = S3 at *
            have hre := rel_f hv HGB.out.good bAda pass 1 bBob share (small (by decide)) HP.out (small (by decide)) HS.out (by omega) (by omega)
            have hg4 := HGB.out.rel H0.out
            obtain ⟨g, hg⟩ : ∃ g, g = relE S3 bAda pass 1 bBob share := ⟨_, rfl⟩
            rw [← hg] at hre hg4
            have HRE := Lib.hid hre; have HG4 := Lib.hid hg4
            clear hre hg4 hg hv HSE HGB c0 hi
            go_wp2_with (fail)
            (with_reducible refine HRE.out.mono ?_); rintro e w5 ⟨rfl, hv⟩
            generalize relS S3 bAda pass 1 bBob share = S4 at *
            have HV := Lib.hid hv
            clear HRE hv
            go_wp2_with (fail)
            go_loopw [12] (fun i wr => ∃ j : Nat, 1 ≤ j ∧ j ≤ k ∧ i = .int .i64 j ∧ Hid (∃ S, FreshV w wr b S ∧ GB pass share ts j (decide (g = 0)) S)) (fun i _ => k - (intOf i).toNat)
            case atStart => exact ⟨1, Nat.le_refl _, hn1, rfl, ⟨S4, HV.out, HG4.out⟩⟩
            case round =>
              obtain ⟨j, hj1, hj, rfl, hSS⟩ := hrel
              obtain ⟨S, hv, hgb⟩ := hSS.out
              by_cases hlt : j < k
              · obtain ⟨bb, oo, hae, hc⟩ := HX.out.at j (by rw [← HN.out]; exact hlt)
                simp only [Option.some.injEq, Addr.mk.injEq, and_true] at hae
                obtain ⟨rfl, rfl⟩ := hae
                have c0 := hc wr hv.old
                have hts := hsz.out j hlt
                obtain ⟨v1, v2, v3⟩ := hgb.rev (by omega) hts
                have hre := rev_f hv hgb.good bAda pass 1 (sth ts j) (small (by decide)) HP.out (by unfold maxLen; omega) (by omega) (by omega)
                rw [revR_0 v1 v2] at hre
                obtain ⟨t, ht⟩ : ∃ t, t = sth ts j := ⟨_, rfl⟩
                rw [← ht] at c0 hre v3
                have hi0 : (0 : Int) ≤ (j : Int) := by omega
                have hi1 : (j : Int) < (k : Int) := by omega
                have HRE := Lib.hid hre; have HV3 := Lib.hid v3
                clear hSS hv hgb hc hts v1 v2 v3 hre ht
                go_wp2_with (fail)
                (with_reducible refine HRE.out.mono ?_); rintro e w6 ⟨rfl, hv⟩
                have HV6 := Lib.hid hv
                clear hv
                go_wp2_with (fail)
                go_roundw
                case rel => exact ⟨j + 1, by omega, by omega, by go_num, ⟨_, HV6.out, HV3.out⟩⟩
                case measure => simp [intOf]; omega
              · obtain rfl : j = k := by omega
                have HGB := Lib.hid hgb; have HV6 := Lib.hid hv
                clear hSS hgb hv HG4 HV hlt hj
                go_wp2_with (fail)
                go_loopw [15] (fun i wr => ∃ q : Nat, q ≤ j ∧ i = .int .i64 q ∧ Hid (FreshV w wr b S)) (fun i _ => j - (intOf i).toNat)
                case atStart => exact ⟨0, Nat.zero_le _, rfl, HV6.out⟩
                case round =>
                  obtain ⟨q, hq, rfl, hv⟩ := hrel
                  by_cases hlt : q < j
                  · obtain ⟨bb, oo, hae, hc⟩ := HX.out.at q (by rw [← HN.out]; exact hlt)
                    simp only [Option.some.injEq, Addr.mk.injEq, and_true] at hae
                    obtain ⟨rfl, rfl⟩ := hae
                    have hop := open_f hv.out HGB.out.good bAda pass 1 ((q : Int) + 1) (small (by decide)) HP.out (by omega) (by omega) (by omega) (by omega)
                    rw [OpenV, HGB.out.open q hlt] at hop
                    obtain ⟨t, ht⟩ : ∃ t, t = sth ts q := ⟨_, rfl⟩
                    rw [← ht] at hc hop
                    have hi0 : (0 : Int) ≤ (q : Int) := by omega
                    have hi1 : (q : Int) < (j : Int) := by omega
                    have HOP := Lib.hid hop; have HC := Lib.hid hc
                    clear hop hc ht
                    go_wp2_with (fail)
                    (with_reducible refine HOP.out.mono ?_); rintro e w7 ⟨rfl, he7⟩
                    have HV7 := Lib.hid (hv.out.ext he7)
                    have c0 := HC.out w7 HV7.out.old
                    clear he7
                    go_wp2_with (fail)
                    go_roundw
                    case rel => exact ⟨q + 1, by omega, by go_num, HV7⟩
                    case measure => simp [intOf]; omega
                  · obtain rfl : q = j := by omega
                    obtain ⟨m, hm⟩ : ∃ m, q = m + 1 := ⟨q - 1, by omega⟩
                    obtain ⟨bb, oo, hae, hc⟩ := HX.out.at m (by rw [← HN.out]; omega)
                    simp only [Option.some.injEq, Addr.mk.injEq, and_true] at hae
                    obtain ⟨rfl, rfl⟩ := hae
                    have hop := open_f hv.out HGB.out.good bAda pass 1 0 (small (by decide)) HP.out (by omega) (by omega) (by omega) (by omega)
                    rw [OpenV, HGB.out.openLast, show q - 1 = m by omega] at hop
                    obtain ⟨t, ht⟩ : ∃ t, t = sth ts m := ⟨_, rfl⟩
                    rw [← ht] at hc hop
                    have hmq : (q : Int) - 1 = (m : Int) := by omega
                    have hi0 : (0 : Int) ≤ (m : Int) := by omega
                    have hi1 : (m : Int) < (q : Int) := by omega
                    have HOP := Lib.hid hop; have HC := Lib.hid hc
                    clear hop hc ht hm
                    go_wp2_with (fail)
                    (with_reducible refine HOP.out.mono ?_); rintro e w7 ⟨rfl, he7⟩
                    have HV7 := Lib.hid (hv.out.ext he7)
                    have c0 := HC.out w7 HV7.out.old
                    clear he7 hv HOP HV6
                    go_upto_region 30 with fail
                    by_cases g0 : g = 0
                    · have T : (g == 0) = true := by simpa using g0
                      have hgb := HGB.out
                      rw [decide_eq_true g0] at hgb
                      have hbo := bor_f HV7.out HGB.out.good bBob bB bAda 1 share (small (by decide)) (small (by decide)) (small (by decide)) HS.out (by omega) (by omega)
                      rw [borV, hgb.bor, ← HT0.out] at hbo
                      have HBO := Lib.hid hbo
                      have hq0 : (0 : Int) < (q : Int) := by omega
                      clear hgb hbo c0 hmq hi0 hi1
                      go_wp2_with (fail)
                      (with_reducible refine HBO.out.mono ?_); rintro e w8 ⟨rfl, he8⟩
                      have HV8 := Lib.hid (HV7.out.ext he8)
                      have c0 := hct.out w8 HV8.out.old
                      rw [Nat.add_zero, ← HT0.out] at c0
                      clear he8 HV7 HBO T
                      have hli := list_f HV8.out HGB.out.good bAda pass (small (by decide)) HP.out
                      unfold RetList at hli
                      rw [HGB.out.list] at hli
                      have HLI := Lib.hid hli
                      have hav := HGB.out.adv6
                      have HAV := Lib.hid hav
                      have HXV := Lib.hid HV8.out
                      clear hli hav
                      go_upto_region 34 with fail
                      go_wp2_with (fail)
                      (with_reducible refine HLI.out.mono ?_); rintro e x1 ⟨la, lc, rfl, hex, hown⟩
                      have HX1 := Lib.hid (HXV.out.ext hex)
                      obtain ⟨lb, lo, hla, hlc⟩ := (OwnE.ents hown).at 0 (by simp)
                      obtain ⟨l0, l1, l2, l3, l4, l5⟩ := hlc x1 (Ext.refl _)
                      subst hla
                      simp only [eth, List.getD_cons_zero, Nat.zero_mul, Nat.add_zero] at l0 l1 l2 l3 l4 l5
                      have had := adv_f HX1.out HGB.out.good 6 (by omega) (by omega)
                      rw [HAV.out.1] at had
                      have HAD := Lib.hid had
                      clear had hown hlc hex HLI
                      go_wp2_with (fail)
                      (with_reducible refine HAD.out.mono ?_); rintro e x2 ⟨rfl, hv⟩
                      have hop := open_f hv (HGB.out.good.adv 6) bAda pass 1 0 (small (by decide)) HP.out (by omega) (by omega) (by omega) (by omega)
                      rw [OpenV, HAV.out.2.1] at hop
                      obtain ⟨tx, htx⟩ : ∃ tx, tx = (openR (advS S 6) bAda pass 1 0).1 := ⟨_, rfl⟩
                      rw [← htx] at hop
                      have HOP := Lib.hid hop; have HX2 := Lib.hid hv
                      clear hop htx hv l0 l1 l2 l3 l4 l5 HX1 HAD
                      go_wp2_with (fail)
                      (with_reducible refine HOP.out.mono ?_); rintro e x3 ⟨rfl, hex⟩
                      have HX3 := Lib.hid (HX2.out.ext hex)
                      have hli := list_f HX3.out (HGB.out.good.adv 6) bAda pass (small (by decide)) HP.out
                      unfold RetList at hli
                      rw [HAV.out.2.2] at hli
                      have HLI := Lib.hid hli
                      clear hli hex HX2 HOP
                      go_wp2_with (fail)
                      (with_reducible refine HLI.out.mono ?_); rintro e x4 ⟨la, lc, rfl, hex, hown⟩
                      have HX4 := Lib.hid (HX3.out.ext hex)
                      obtain ⟨lb, lo, hla, hlc⟩ := (OwnE.ents hown).at 0 (by simp)
                      obtain ⟨l0, l1, l2, l3, l4, l5⟩ := hlc x4 (Ext.refl _)
                      subst hla
                      simp only [eth, List.getD_cons_zero, Nat.zero_mul, Nat.add_zero] at l0 l1 l2 l3 l4 l5
                      clear hown hlc hex HLI
                      go_wp2_with (fail)
                      (with_reducible refine (known_any _).mono ?_); rintro e x5 ⟨rfl, hex⟩
                      go_wp2_with (fail)
                      go_ret
                      exact ⟨rfl, HX4.out.old.trans hex⟩
                    · have T : (g == 0) = false := by simpa using g0
                      clear c0 hmq hi0 hi1
                      have hli := list_f HV7.out HGB.out.good bAda pass (small (by decide)) HP.out
                      unfold RetList at hli
                      rw [HGB.out.list] at hli
                      have HLI := Lib.hid hli
                      have hav := HGB.out.adv6
                      have HAV := Lib.hid hav
                      have HXV := Lib.hid HV7.out
                      clear hli hav
                      go_upto_region 34 with fail
                      go_wp2_with (fail)
                      (with_reducible refine HLI.out.mono ?_); rintro e x1 ⟨la, lc, rfl, hex, hown⟩
                      have HX1 := Lib.hid (HXV.out.ext hex)
                      obtain ⟨lb, lo, hla, hlc⟩ := (OwnE.ents hown).at 0 (by simp)
                      obtain ⟨l0, l1, l2, l3, l4, l5⟩ := hlc x1 (Ext.refl _)
                      subst hla
                      simp only [eth, List.getD_cons_zero, Nat.zero_mul, Nat.add_zero] at l0 l1 l2 l3 l4 l5
                      have had := adv_f HX1.out HGB.out.good 6 (by omega) (by omega)
                      rw [HAV.out.1] at had
                      have HAD := Lib.hid had
                      clear had hown hlc hex HLI
                      go_wp2_with (fail)
                      (with_reducible refine HAD.out.mono ?_); rintro e x2 ⟨rfl, hv⟩
                      have hop := open_f hv (HGB.out.good.adv 6) bAda pass 1 0 (small (by decide)) HP.out (by omega) (by omega) (by omega) (by omega)
                      rw [OpenV, HAV.out.2.1] at hop
                      obtain ⟨tx, htx⟩ : ∃ tx, tx = (openR (advS S 6) bAda pass 1 0).1 := ⟨_, rfl⟩
                      rw [← htx] at hop
                      have HOP := Lib.hid hop; have HX2 := Lib.hid hv
                      clear hop htx hv l0 l1 l2 l3 l4 l5 HX1 HAD
                      go_wp2_with (fail)
                      (with_reducible refine HOP.out.mono ?_); rintro e x3 ⟨rfl, hex⟩
                      have HX3 := Lib.hid (HX2.out.ext hex)
                      have hli := list_f HX3.out (HGB.out.good.adv 6) bAda pass (small (by decide)) HP.out
                      unfold RetList at hli
                      rw [HAV.out.2.2] at hli
                      have HLI := Lib.hid hli
                      clear hli hex HX2 HOP
                      go_wp2_with (fail)
                      (with_reducible refine HLI.out.mono ?_); rintro e x4 ⟨la, lc, rfl, hex, hown⟩
                      have HX4 := Lib.hid (HX3.out.ext hex)
                      obtain ⟨lb, lo, hla, hlc⟩ := (OwnE.ents hown).at 0 (by simp)
                      obtain ⟨l0, l1, l2, l3, l4, l5⟩ := hlc x4 (Ext.refl _)
                      subst hla
                      simp only [eth, List.getD_cons_zero, Nat.zero_mul, Nat.add_zero] at l0 l1 l2 l3 l4 l5
                      clear hown hlc hex HLI
                      go_wp2_with (fail)
                      (with_reducible refine (known_any _).mono ?_); rintro e x5 ⟨rfl, hex⟩
                      go_wp2_with (fail)
                      go_ret
                      exact ⟨rfl, HX4.out.old.trans hex⟩
          · go_wp2_with (fail)
            (with_reducible refine (known_any _).mono ?_); rintro e w4 ⟨rfl, he4⟩
            go_wp2_with (fail)
            go_ret
            exact ⟨rfl, hv.old.trans he4⟩
        · go_wp2_with (fail)
          (with_reducible refine (known_any _).mono ?_); rintro e w4 ⟨rfl, he4⟩
          go_wp2_with (fail)
          go_ret
          exact ⟨rfl, hv.old.trans he4⟩
  · by_cases hb2 : 20 < n
    · have T1 : decide (20 < (n : Int)) = true := by simp; omega
      go_enter Try.func11, Try.ntmps11
      go_wp2_with (fail)
      (with_reducible refine (known_any _).mono ?_); rintro e w4 ⟨rfl, he4⟩
      go_wp2_with (fail)
      go_ret
      exact ⟨rfl, he4⟩
    · have T1 : decide (20 < (n : Int)) = false := by simp; omega
      have T2 : ((n : Int) == 0) = true := by simp; omega
      go_enter Try.func11, Try.ntmps11
      go_wp2_with (fail)
      (with_reducible refine (known_any _).mono ?_); rintro e w4 ⟨rfl, he4⟩
      go_wp2_with (fail)
      go_ret
      exact ⟨rfl, he4⟩
end Go.Proofs.Ytlahejakcgoheaa
