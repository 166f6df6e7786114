/-
  Walk: the law VaultYears.
-/
import Derived.Test.YtlahejakcgoheaaLS
set_option linter.unusedVariables false
set_option linter.unusedSimpArgs false
namespace Go.Proofs.Ytlahejakcgoheaa
open Go.RowKit
theorem playR_len {S : PV} (hg : Good S) (o : Op) : (playR S o).list.length ≤ 30 := by
  unfold playR
  repeat' (split; simp)
  all_goals try simp
  unfold listR
  split
  · simp
  · cases hf : S.find o.name with
    | none => simp
    | some c => simp only [entries_len]; exact (hg.ok.cs c (find_mem hf).1).rl
set_option maxRecDepth 100000 in
set_option maxHeartbeats 4000000 in
theorem l10_law {S : PV} {x : Op} {b1 b2 ob oo k n c B : Nat} {w wr : World} (hk0 : (0 : Int) ≤ (k : Int)) (hk1 : (k : Int) < (n : Int)) (HT : Hid (Two w wr b1 S b2 S B)) (HG : Hid (Good S)) (HO : Hid (OpOk x)) (HC : Hid (∀ W, Ext w W → OpC W ob (oo + k * 9) x)) {Q : Exit → Act → World → Prop} (aZ : Act) (hsz : aZ.tmps.size = 87) (o1 : aZ.tmps[1]?.getD undef = .slice (some ⟨ob, oo, none⟩) n c) (o5 : aZ.tmps[5]?.getD undef = ptr b1) (o8 : aZ.tmps[8]?.getD undef = ptr b2) (o10 : aZ.tmps[10]?.getD undef = .int .i64 k)
    (hend : ∀ (vs : Nat → Value) (w9 : World) (ls9 : Nat → Bool), (∀ j : Nat, j < 14 → ls9 j = true) → (Ext w w9 ∧ (ls9 5 = false → ∃ B, Two w w9 b1 S b2 S B) ∧ (ls9 5 = true → ls9 11 = false → ∃ a c B, vs 5 = resval (playR S x) a c ∧ Two w w9 b1 (playS S x) b2 S B ∧ OwnE w9 B (.slice a (playR S x).list.length c) (playR S x).list) ∧ (ls9 11 = true → ls9 5 = true ∧ ∃ a c a' c' B, vs 5 = resval (playR S x) a c ∧ vs 11 = resval (playR S x) a' c' ∧ Two w w9 b1 (playS S x) b2 (playS S x) B ∧ Ents w9 a (playR S x).list ∧ Ents w9 a' (playR S x).list)) → (vs 0 = ptr b1) → (vs 1 = .slice (some ⟨ob, oo, none⟩) n c) → (vs 2 = .int .i64 k) → (vs 3 = .pointer (some ⟨ob, oo + k * 9, none⟩)) → (vs 4 = opval x) → (∃ a c, vs 5 = resval (playR S x) a c) → (vs 6 = ptr b2) → (vs 7 = .slice (some ⟨ob, oo, none⟩) n c) → (vs 8 = .int .i64 k) → (vs 9 = .pointer (some ⟨ob, oo + k * 9, none⟩)) → (vs 10 = opval x) → (∃ a c, vs 11 = resval (playR S x) a c) → (vs 12 = .bool true) → (vs 13 = .bool false) → Q .normal ((((((((((((((aZ.put (some 65) (vs 0)).put (some 66) (vs 1)).put (some 67) (vs 2)).put (some 68) (vs 3)).put (some 69) (vs 4)).put (some 70) (vs 5)).put (some 71) (vs 6)).put (some 72) (vs 7)).put (some 73) (vs 8)).put (some 74) (vs 9)).put (some 75) (vs 10)).put (some 76) (vs 11)).put (some 77) (vs 12)).put (some 78) (vs 13)) w9) : (regOf Try.f10 15).wp Try.prog Q aZ wr := by
  conv => arg 2; whnf
  refine wp_region_said3 (fun i v wz => match i with
    | 0 => v = ptr b1
    | 1 => v = .slice (some ⟨ob, oo, none⟩) n c
    | 2 => v = .int .i64 k
    | 3 => v = .pointer (some ⟨ob, oo + k * 9, none⟩)
    | 4 => v = opval x
    | 5 => ∃ a c, v = resval (playR S x) a c
    | 6 => v = ptr b2
    | 7 => v = .slice (some ⟨ob, oo, none⟩) n c
    | 8 => v = .int .i64 k
    | 9 => v = .pointer (some ⟨ob, oo + k * 9, none⟩)
    | 10 => v = opval x
    | 11 => ∃ a c, v = resval (playR S x) a c
    | 12 => v = .bool true
    | _ => v = .bool false) (fun ls vs wz => Ext w wz ∧ (ls 5 = false → ∃ B, Two w wz b1 S b2 S B) ∧ (ls 5 = true → ls 11 = false → ∃ a c B, vs 5 = resval (playR S x) a c ∧ Two w wz b1 (playS S x) b2 S B ∧ OwnE wz B (.slice a (playR S x).list.length c) (playR S x).list) ∧ (ls 11 = true → ls 5 = true ∧ ∃ a c a' c' B, vs 5 = resval (playR S x) a c ∧ vs 11 = resval (playR S x) a' c' ∧ Two w wz b1 (playS S x) b2 (playS S x) B ∧ Ents wz a (playR S x).list ∧ Ents wz a' (playR S x).list)) (by kernel_rfl) (by kernel_rfl) (by rw [hsz]; kernel_rfl) ?_ ?_ ?_
  · exact ⟨HT.out.old.drew, fun _ => ⟨_, HT.out.ext (Ext.refl _).drew⟩, fun e => (by cases e), fun e => (by cases e)⟩
  · refine ⟨?_, ?_, ?_, ?_, ?_, ?_, ?_, ?_, ?_, ?_, ?_, ?_, ?_, ?_, trivial⟩
    · intro ls vs a w1 hi hJ hold hdep K hK
      have q5 : a.tmps[5]?.getD undef = ptr b1 := (hold 5 (by kernel_rfl)).trans o5
      rw [if_pos (by rfl)]
      clear hold hdep hend o1 o5 o8 o10
      have HJ := Lib.hid hJ
      clear hJ
      go_simp
      exact hK _ _ (fun _ _ _ h => h) HJ.out rfl
    · intro ls vs a w1 hi hJ hold hdep K hK
      have q1 : a.tmps[1]?.getD undef = .slice (some ⟨ob, oo, none⟩) n c := (hold 1 (by kernel_rfl)).trans o1
      rw [if_pos (by rfl)]
      clear hold hdep hend o1 o5 o8 o10
      have HJ := Lib.hid hJ
      clear hJ
      go_simp
      exact hK _ _ (fun _ _ _ h => h) HJ.out rfl
    · intro ls vs a w1 hi hJ hold hdep K hK
      have q10 : a.tmps[10]?.getD undef = .int .i64 k := (hold 10 (by kernel_rfl)).trans o10
      rw [if_pos (by rfl)]
      clear hold hdep hend o1 o5 o8 o10
      have HJ := Lib.hid hJ
      clear hJ
      go_simp
      exact hK _ _ (fun _ _ _ h => h) HJ.out rfl
    · intro ls vs a w1 hi hJ hold hdep K hK
      have q66 : a.tmps[66]?.getD undef = .slice (some ⟨ob, oo, none⟩) n c := (hdep 1 66 (by kernel_rfl) (by kernel_rfl)).2.1.trans (hdep 1 66 (by kernel_rfl) (by kernel_rfl)).2.2
      have q67 : a.tmps[67]?.getD undef = .int .i64 k := (hdep 2 67 (by kernel_rfl) (by kernel_rfl)).2.1.trans (hdep 2 67 (by kernel_rfl) (by kernel_rfl)).2.2
      rw [if_pos (by rfl)]
      clear hold hdep hend o1 o5 o8 o10
      have HJ := Lib.hid hJ
      clear hJ
      go_simp
      exact hK _ _ (fun _ _ _ h => h) HJ.out rfl
    · intro ls vs a w1 hi hJ hold hdep K hK
      have q68 : a.tmps[68]?.getD undef = .pointer (some ⟨ob, oo + k * 9, none⟩) := (hdep 3 68 (by kernel_rfl) (by kernel_rfl)).2.1.trans (hdep 3 68 (by kernel_rfl) (by kernel_rfl)).2.2
      rw [if_pos (by rfl)]
      clear hold hdep hend o1 o5 o8 o10
      have HJ := Lib.hid hJ
      clear hJ
      have hz1 := HJ.out.1
      obtain ⟨x0, x1, x2, x3, x4, x5, x6, x7, x8⟩ := HC.out _ hz1
      go_simp
      exact hK _ _ (fun _ _ _ h => h) HJ.out rfl
    · intro ls vs a w1 hi hJ hold hdep K hK
      have q65 : a.tmps[65]?.getD undef = ptr b1 := (hdep 0 65 (by kernel_rfl) (by kernel_rfl)).2.1.trans (hdep 0 65 (by kernel_rfl) (by kernel_rfl)).2.2
      have q69 : a.tmps[69]?.getD undef = opval x := (hdep 4 69 (by kernel_rfl) (by kernel_rfl)).2.1.trans (hdep 4 69 (by kernel_rfl) (by kernel_rfl)).2.2
      rw [if_pos (by rfl)]
      clear hold hdep hend o1 o5 o8 o10
      have HJ := Lib.hid hJ
      clear hJ
      obtain ⟨j1, j2, j3, j4⟩ := HJ.out
      have hi5 : ls 5 = false := hi
      obtain ⟨B5, jt⟩ := j2 hi
      go_simp
      go_at_call 22
      (with_reducible refine (play_two1 jt HG.out x HO.out).mono ?_); rintro e w20 ⟨a5, c5, rfl, ht, ho⟩
      exact hK _ _ (fun _ _ _ h => h) ⟨ht.old, fun e => (by simp at e), fun _ _ => ⟨a5, c5, _, by simp, ht, ho⟩, fun e => by have := (j4 (by simpa using e)).1; rw [hi5] at this; cases this⟩ ⟨a5, c5, rfl⟩
    · intro ls vs a w1 hi hJ hold hdep K hK
      have q8 : a.tmps[8]?.getD undef = ptr b2 := (hold 8 (by kernel_rfl)).trans o8
      rw [if_pos (by rfl)]
      clear hold hdep hend o1 o5 o8 o10
      have HJ := Lib.hid hJ
      clear hJ
      go_simp
      exact hK _ _ (fun _ _ _ h => h) HJ.out rfl
    · intro ls vs a w1 hi hJ hold hdep K hK
      have q1 : a.tmps[1]?.getD undef = .slice (some ⟨ob, oo, none⟩) n c := (hold 1 (by kernel_rfl)).trans o1
      rw [if_pos (by rfl)]
      clear hold hdep hend o1 o5 o8 o10
      have HJ := Lib.hid hJ
      clear hJ
      go_simp
      exact hK _ _ (fun _ _ _ h => h) HJ.out rfl
    · intro ls vs a w1 hi hJ hold hdep K hK
      have q10 : a.tmps[10]?.getD undef = .int .i64 k := (hold 10 (by kernel_rfl)).trans o10
      rw [if_pos (by rfl)]
      clear hold hdep hend o1 o5 o8 o10
      have HJ := Lib.hid hJ
      clear hJ
      go_simp
      exact hK _ _ (fun _ _ _ h => h) HJ.out rfl
    · intro ls vs a w1 hi hJ hold hdep K hK
      have q72 : a.tmps[72]?.getD undef = .slice (some ⟨ob, oo, none⟩) n c := (hdep 7 72 (by kernel_rfl) (by kernel_rfl)).2.1.trans (hdep 7 72 (by kernel_rfl) (by kernel_rfl)).2.2
      have q73 : a.tmps[73]?.getD undef = .int .i64 k := (hdep 8 73 (by kernel_rfl) (by kernel_rfl)).2.1.trans (hdep 8 73 (by kernel_rfl) (by kernel_rfl)).2.2
      rw [if_pos (by rfl)]
      clear hold hdep hend o1 o5 o8 o10
      have HJ := Lib.hid hJ
      clear hJ
      go_simp
      exact hK _ _ (fun _ _ _ h => h) HJ.out rfl
    · intro ls vs a w1 hi hJ hold hdep K hK
      have q74 : a.tmps[74]?.getD undef = .pointer (some ⟨ob, oo + k * 9, none⟩) := (hdep 9 74 (by kernel_rfl) (by kernel_rfl)).2.1.trans (hdep 9 74 (by kernel_rfl) (by kernel_rfl)).2.2
      rw [if_pos (by rfl)]
      clear hold hdep hend o1 o5 o8 o10
      have HJ := Lib.hid hJ
      clear hJ
      have hz1 := HJ.out.1
      obtain ⟨x0, x1, x2, x3, x4, x5, x6, x7, x8⟩ := HC.out _ hz1
      go_simp
      exact hK _ _ (fun _ _ _ h => h) HJ.out rfl
    · intro ls vs a w1 hi hJ hold hdep K hK
      have q71 : a.tmps[71]?.getD undef = ptr b2 := (hdep 6 71 (by kernel_rfl) (by kernel_rfl)).2.1.trans (hdep 6 71 (by kernel_rfl) (by kernel_rfl)).2.2
      have q75 : a.tmps[75]?.getD undef = opval x := (hdep 10 75 (by kernel_rfl) (by kernel_rfl)).2.1.trans (hdep 10 75 (by kernel_rfl) (by kernel_rfl)).2.2
      obtain ⟨hl5, -, -⟩ := hdep 5 70 (by kernel_rfl) (by kernel_rfl)
      rw [if_pos (by rfl)]
      clear hold hdep hend o1 o5 o8 o10
      have HJ := Lib.hid hJ
      clear hJ
      obtain ⟨j1, j2, j3, j4⟩ := HJ.out
      have hi11 : ls 11 = false := hi
      have hl5' : ls 5 = true := hl5
      obtain ⟨a5, c5, B5, e5, jt, jo⟩ := j3 hl5' hi11
      go_simp
      go_at_call 22
      (with_reducible refine (play_two2 jt HG.out x HO.out).mono ?_); rintro e w20 ⟨a6, c6, rfl, ht, ho, hkp⟩
      exact hK _ _ (fun _ _ _ h => h) ⟨ht.old, fun e => (by have e' : ls 5 = false := e; rw [hl5'] at e'; cases e'), fun _ e => (by simp at e), fun _ => ⟨by simpa using hl5', a5, c5, a6, c6, _, by simpa using e5, by simp, ht, OwnE.ents (hkp.own jo), OwnE.ents ho⟩⟩ ⟨a6, c6, rfl⟩
    · intro ls vs a w1 hi hJ hold hdep K hK
      obtain ⟨hl5, q70, p70⟩ := hdep 5 70 (by kernel_rfl) (by kernel_rfl)
      obtain ⟨hl11, q76, p76⟩ := hdep 11 76 (by kernel_rfl) (by kernel_rfl)
      rw [if_pos (by rfl)]
      clear hold hdep hend o1 o5 o8 o10
      have HJ := Lib.hid hJ
      clear hJ
      obtain ⟨j1, j2, j3, j4⟩ := HJ.out
      have hl11' : ls 11 = true := hl11
      obtain ⟨k0, a5, c5, a6, c6, B6, e5, e6, jt, y1, y2⟩ := j4 hl11'
      rw [e5] at q70
      rw [e6] at q76
      have hsm := fun W (e : Ext w1 W) => same_any (playR S x) a5 a6 c5 c6 W (y1.ext e) (y2.ext e) (by have := playR_len HG.out x; omega)
      have HSM := Lib.hid hsm
      have E1 := Ext.refl w1
      clear hsm y1 y2
      go_simp
      go_at_call 24
      (with_reducible refine (HSM.out _ E1).mono ?_); rintro e w20 ⟨rfl, he20⟩
      exact hK _ _ (fun _ _ _ h => h) ⟨j1.trans he20, fun e => by have e' : ls 5 = false := e; obtain ⟨B9, t9⟩ := j2 e'; exact ⟨B9, t9.ext he20⟩, fun e e2 => by obtain ⟨q1, q2, q3, q4, q5, q6⟩ := j3 e e2; exact ⟨q1, q2, q3, q4, q5.ext he20, OwnF.ext q6 he20⟩, fun e => by obtain ⟨p0, p1, p2, p3, p4, p5, p6, p7, p8, p9, p10⟩ := j4 e; exact ⟨p0, p1, p2, p3, p4, p5, p6, p7, p8.ext he20, p9.ext he20, p10.ext he20⟩⟩ rfl
    · intro ls vs a w1 hi hJ hold hdep K hK
      have q77 : a.tmps[77]?.getD undef = .bool true := (hdep 12 77 (by kernel_rfl) (by kernel_rfl)).2.1.trans (hdep 12 77 (by kernel_rfl) (by kernel_rfl)).2.2
      rw [if_pos (by rfl)]
      clear hold hdep hend o1 o5 o8 o10
      have HJ := Lib.hid hJ
      clear hJ
      go_simp
      exact hK _ _ (fun _ _ _ h => h) HJ.out rfl
  · intro vs w9 ls9 hl9 hJ9 hφ
    have e0 := hφ 0 (by kernel_rfl)
    have e1 := hφ 1 (by kernel_rfl)
    have e2 := hφ 2 (by kernel_rfl)
    have e3 := hφ 3 (by kernel_rfl)
    have e4 := hφ 4 (by kernel_rfl)
    have e5 := hφ 5 (by kernel_rfl)
    have e6 := hφ 6 (by kernel_rfl)
    have e7 := hφ 7 (by kernel_rfl)
    have e8 := hφ 8 (by kernel_rfl)
    have e9 := hφ 9 (by kernel_rfl)
    have e10 := hφ 10 (by kernel_rfl)
    have e11 := hφ 11 (by kernel_rfl)
    have e12 := hφ 12 (by kernel_rfl)
    have e13 := hφ 13 (by kernel_rfl)
    have hq := hend vs w9 ls9 hl9 hJ9 e0 e1 e2 e3 e4 e5 e6 e7 e8 e9 e10 e11 e12 e13
    simp only [Act.put] at hq
    simp only [putAll, Act.put]
    exact hq
theorem dump_lks {S : PV} {w w' : World} {a : Option Addr} {c : Nat} {xs : List Lv} {w0 : World} {b : Nat} (h : FreshV w0 w b S) (hg : Good S) (hx : lks xs = S.chain) : LksOk xs ∧ xs.length ≤ 14420 := by
  refine ⟨LksOk.of hx h.oks, ?_⟩
  rw [← lks_len, hx]
  exact hg.inv.short
set_option maxRecDepth 100000 in
set_option maxHeartbeats 8000000 in
theorem years_any (a1 a2 : Option Addr) (xs ys : List Op) (c1 c2 : Nat) (w : World) (hx : Ops w a1 xs) (hy : Ops w a2 ys) (hl1 : xs.length ≤ 9223372036854775807) (hl2 : ys.length ≤ 9223372036854775807) :
    Calls Try.prog 10 #[.slice a1 xs.length c1, .slice a2 ys.length c2] w (Ret (.bool true) w) := by
  have HX := Lib.hid hx; have HY := Lib.hid hy
  have hwd1 := fun W (e : Ext w W) => wide_any a1 xs c1 W (hx.ext e) hl1
  have hwd2 := fun W (e : Ext w W) => wide_any a2 ys c2 W (hy.ext e) hl2
  obtain ⟨n, hn⟩ : ∃ n, n = xs.length := ⟨_, rfl⟩
  obtain ⟨m, hm⟩ : ∃ m, m = ys.length := ⟨_, rfl⟩
  obtain ⟨q1, hq1⟩ : ∃ q, q = wideB xs := ⟨_, rfl⟩
  obtain ⟨q2, hq2⟩ : ∃ q, q = wideB ys := ⟨_, rfl⟩
  have HN := Lib.hid hn; have HM := Lib.hid hm; have HQ1 := Lib.hid hq1; have HQ2 := Lib.hid hq2
  rw [← hn, ← hq1] at hwd1
  rw [← hm, ← hq2] at hwd2
  rw [← hn] at hl1; rw [← hm] at hl2
  rw [← hn, ← hm]
  have HW1 := Lib.hid hwd1; have HW2 := Lib.hid hwd2
  clear hx hy hn hm hq1 hq2 hwd1 hwd2
  go_enter Try.func10, Try.ntmps10
  go_wp2_with (fail)
  (with_reducible refine (HW1.out _ (Ext.refl _)).mono ?_); rintro e w1 ⟨rfl, he1⟩
  cases q1
  · go_wp2_with (fail)
    (with_reducible refine (HW2.out _ he1).mono ?_); rintro e w2 ⟨rfl, he2⟩
    have he2 := he1.trans he2
    clear he1
    cases q2
    · have hb1 := wideB_false HQ1.out.symm
      have hb2 := wideB_false HQ2.out.symm
      rw [← HN.out] at hb1
      rw [← HM.out] at hb2
      have hn25 := hb1.1
      have HB1 := Lib.hid hb1
      clear hb1 hb2 hl1 hl2 HW1 HW2
      cases T : decide (15 < (m : Int))
      · have hm15 : m ≤ 15 := by simp at T; omega
        go_wp2_with (fail)
        (with_reducible refine (new_f _).mono ?_); rintro e w3 ⟨b1, rfl, hv⟩
        have HV := Lib.hid (hv.base he2)
        clear hv he2
        go_wp2_with (fail)
        go_loopw [6] (fun i wr => ∃ k : Nat, k ≤ n ∧ i = .int .i64 k ∧ Hid (FreshV w wr b1 (playsS PV.new (xs.take k)))) (fun i _ => n - (intOf i).toNat)
        case atStart => exact ⟨0, Nat.zero_le _, rfl, HV.out⟩
        case round =>
          obtain ⟨k, hk, rfl, hv⟩ := hrel
          by_cases hlt : k < n
          · obtain ⟨b, o, rfl, hc⟩ := HX.out.at k (by rw [← HN.out]; exact hlt)
            obtain ⟨c0, c1', c2', c3, c4, c5, c6, c7, c8⟩ := hc wr hv.out.old
            have hpl := play_f hv.out (Good.new.plays _) (oth xs k) (HX.out.2 k (by rw [← HN.out]; exact hlt))
            have hst := playsS_take PV.new xs k (by rw [← HN.out]; exact hlt)
            have HPL := Lib.hid hpl; have HST := Lib.hid hst
            generalize oth xs k = x at *
            clear hc hpl hst hv
            have hi0 : (0 : Int) ≤ (k : Int) := by omega
            have hi1 : (k : Int) < (n : Int) := by omega
            go_wp2_with (fail)
            (with_reducible refine HPL.out.mono ?_); rintro e w4 ⟨ra, rc, rfl, hv, -⟩
            rw [← HST.out] at hv
            have HV4 := Lib.hid hv
            clear hv
            go_wp2_with (fail)
            go_roundw
            case rel => exact ⟨k + 1, by omega, by go_num, HV4⟩
            case measure => simp [intOf]; omega
          · obtain rfl : k = n := by omega
            have hg := Good.new.plays xs
            have hv2 := hv.out
            rw [List.take_of_length_le (by rw [← HN.out]; exact Nat.le_refl _)] at hv2
            generalize playsS PV.new xs = S at *
            have hdm := dump_f hv2 hg
            have HDM := Lib.hid hdm; have HG := Lib.hid hg; have HV2 := Lib.hid hv2
            clear hdm hg hv2 hv
            go_wp2_with (fail)
            (with_reducible refine HDM.out.mono ?_); rintro e w4 ⟨da, dc, ds, rfl, he4, hds, hown⟩
            have hlk := hown.links
            obtain ⟨hok, hdl⟩ := dump_lks (w' := w4) (a := da) (c := dc) HV2.out HG.out hds
            have hld := load_f (c := dc) hlk hok (by omega)
            rw [hds, HG.out.load.1, HG.out.load.2] at hld
            simp only [if_true] at hld
            have HLD := Lib.hid hld; have HLK := Lib.hid hlk; have HOK := Lib.hid hok; have HDS := Lib.hid hds
            have HV4 := Lib.hid (HV2.out.ext he4)
            clear hown hlk hok hld hds he4 HV2
            go_wp2_with (fail)
            (with_reducible refine HLD.out.mono ?_); rintro e w5 ⟨b2, rfl, hv5⟩
            have HT5 := Lib.hid (Two.of HV4.out hv5)
            have HE45 := Lib.hid hv5.old
            have hdm2 := dump_f HT5.out.snd HG.out
            have HDM2 := Lib.hid hdm2
            clear hdm2 hv5 HLD HV4
            go_wp2_with (fail)
            (with_reducible refine HDM2.out.mono ?_); rintro e w6 ⟨ea, ec, es, rfl, he6, hes, hown⟩
            obtain ⟨hok2, hel⟩ := dump_lks (w' := w6) (a := ea) (c := ec) HT5.out.snd HG.out hes
            have hsl := sameLinks_any ea da es ds ec dc w6 hown.links (HLK.out.ext (HE45.out.trans he6)) (by rw [hes, HDS.out]) hok2 (by omega)
            have HSL := Lib.hid hsl
            have HT6 := Lib.hid (HT5.out.ext he6)
            clear hsl hok2 hown hes he6
            go_wp2_with (fail)
            (with_reducible refine HSL.out.mono ?_); rintro e w7 ⟨rfl, he7⟩
            have HT7 := Lib.hid (HT6.out.ext he7)
            have hd7 := day_f HT7.out.snd
            have HD7 := Lib.hid hd7
            clear HSL HT6 he7 hd7
            go_wp2_with (fail)
            (with_reducible refine HD7.out.mono ?_); rintro e w8 ⟨rfl, he8⟩
            have HT8 := Lib.hid (HT7.out.ext he8)
            have hd8 := day_f HT8.out.fst
            have HD8 := Lib.hid hd8
            clear HT7 HD7 he8 hd8
            go_wp2_with (fail)
            (with_reducible refine HD8.out.mono ?_); rintro e w9 ⟨rfl, he9⟩
            have HT9 := Lib.hid (HT8.out.ext he9)
            clear HT8 HD8 he9
            go_wp2_with (fail)
            go_loopw [10] (fun i wr => ∃ k : Nat, k ≤ m ∧ i = .int .i64 k ∧ Hid (∃ B, Two w wr b1 (playsS S (ys.take k)) b2 (playsS S (ys.take k)) B)) (fun i _ => m - (intOf i).toNat)
            case atStart => exact ⟨0, Nat.zero_le _, rfl, ⟨_, HT9.out⟩⟩
            case round =>
              obtain ⟨k, hk, rfl, hv⟩ := hrel
              obtain ⟨B, hT⟩ := hv.out
              have HT := Lib.hid hT
              clear hv hT
              by_cases hlt : k < m
              · obtain ⟨ob, oo, rfl, hc⟩ := HY.out.at k (by rw [← HM.out]; exact hlt)
                have hst := playsS_take S ys k (by rw [← HM.out]; exact hlt)
                have ho := HY.out.2 k (by rw [← HM.out]; exact hlt)
                have hgk := HG.out.plays (ys.take k)
                have HST := Lib.hid hst; have HO := Lib.hid ho; have HGK := Lib.hid hgk; have HC := Lib.hid hc
                generalize oth ys k = x at *
                generalize playsS S (ys.take k) = Sk at *
                clear hst ho hgk hc
                have hk0 : (0 : Int) ≤ (k : Int) := by omega
                have hk1 : (k : Int) < (m : Int) := by omega
                go_upto_region 15 with fail
                refine l10_law hk0 hk1 HT HGK HO HC _ (by rfl) rfl rfl rfl rfl ?_
                intro vs w9 ls9 hl9 hJ9 e0 e1 e2 e3 e4 e5 e6 e7 e8 e9 e10 e11 e12 e13
                obtain ⟨j1, j2, j3, j4⟩ := hJ9
                obtain ⟨k0, a5, c5, a6, c6, B6, f5, f6, jt, y1, y2⟩ := j4 (hl9 11 (by omega))
                simp only [Act.put, List.setIfInBounds_toArray, List.set_cons_zero, List.set_cons_succ]
                rw [e0, e1, e2, e3, e4, e6, e7, e8, e9, e10, e12, e13, f5, f6]
                have HJ := Lib.hid jt
                clear e0 e1 e2 e3 e4 e5 e6 e7 e8 e9 e10 e11 e12 e13 j1 j2 j3 j4 f5 f6 jt y1 y2 hl9
                go_wp2_with (fail)
                go_roundw
                case rel => exact ⟨k + 1, by omega, by go_num, ⟨_, by rw [HST.out]; exact HJ.out⟩⟩
                case measure => simp [intOf]; omega
              · obtain rfl : k = m := by omega
                have hgk := HG.out.plays (ys.take k)
                generalize playsS S (ys.take k) = Sk at *
                have hdm := dump_f HT.out.fst hgk
                have HDM := Lib.hid hdm; have HGK := Lib.hid hgk
                clear hdm hgk
                go_wp2_with (fail)
                (with_reducible refine HDM.out.mono ?_); rintro e w10 ⟨fa, fc, fs, rfl, he10, hfs, hown⟩
                obtain ⟨hok, hfl⟩ := dump_lks (w' := w10) (a := fa) (c := fc) HT.out.fst HGK.out hfs
                have HF := Lib.hid hown.links; have HOK := Lib.hid hok; have HFS := Lib.hid hfs
                have HT10 := Lib.hid (HT.out.ext he10)
                have hdm := dump_f HT10.out.snd HGK.out
                have HDM2 := Lib.hid hdm
                clear hdm hown hok hfs he10 HDM
                go_wp2_with (fail)
                (with_reducible refine HDM2.out.mono ?_); rintro e w11 ⟨ga, gc, gs, rfl, he11, hgs, hown⟩
                have hsl := sameLinks_any fa ga fs gs fc gc w11 (HF.out.ext he11) hown.links (by rw [hgs, HFS.out]) HOK.out (by omega)
                have HSL := Lib.hid hsl
                have HT11 := Lib.hid (HT10.out.ext he11)
                clear hsl hown hgs he11 HDM2
                go_wp2_with (fail)
                (with_reducible refine HSL.out.mono ?_); rintro e w12 ⟨rfl, he12⟩
                have HE12 := Lib.hid (HT11.out.old.trans he12)
                clear HSL he12
                go_wp2_with (fail)
                (with_reducible refine (known_any _).mono ?_); rintro e w13 ⟨rfl, he13⟩
                go_wp2_with (fail)
                go_ret
                exact ⟨rfl, HE12.out.trans he13⟩
      · go_wp2_with (fail)
        (with_reducible refine (known_any _).mono ?_); rintro e w3 ⟨rfl, he3⟩
        go_wp2_with (fail)
        go_ret
        exact ⟨rfl, he2.trans he3⟩
    · go_wp2_with (fail)
      (with_reducible refine (known_any _).mono ?_); rintro e w3 ⟨rfl, he3⟩
      go_wp2_with (fail)
      go_ret
      exact ⟨rfl, he2.trans he3⟩
  · go_wp2_with (fail)
    (with_reducible refine (known_any _).mono ?_); rintro e w3 ⟨rfl, he3⟩
    go_wp2_with (fail)
    go_ret
    exact ⟨rfl, he1.trans he3⟩
end Go.Proofs.Ytlahejakcgoheaa
