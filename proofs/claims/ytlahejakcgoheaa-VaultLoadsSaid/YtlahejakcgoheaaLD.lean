/-
  Texts merged: L1, L2.
-/
import Derived.Test.YtlahejakcgoheaaWD
import Derived.Test.YtlahejakcgoheaaPL
section
/-
  Walk: sameBytes.
-/
set_option linter.unusedVariables false
set_option linter.unusedSimpArgs false
namespace Go.Proofs.Ytlahejakcgoheaa
open Go.RowKit
theorem take_eq_succ {xs ys : List UInt8} {k : Nat} (h1 : k < xs.length) (h2 : k < ys.length) (h : xs.take k = ys.take k) (he : bth xs k = bth ys k) : xs.take (k + 1) = ys.take (k + 1) := by
  rw [List.take_succ_eq_append_getElem h1, List.take_succ_eq_append_getElem h2, h]
  rw [bth_eq _ _ h1, bth_eq _ _ h2] at he
  rw [UInt8.toNat_inj.1 he]
set_option maxRecDepth 100000 in
set_option maxHeartbeats 2000000 in
theorem sameBytes_any (a a' : Option Addr) (xs ys : List UInt8) (c c' : Nat) (w : World) (hx : Byts w a xs) (hy : Byts w a' ys) (hl : xs.length ≤ 9223372036854775807) :
    Calls Try.prog 18 #[.slice a xs.length c, .slice a' ys.length c'] w (Ret (.bool (decide (xs = ys))) w) := by
  have HX := Lib.hid hx; have HY := Lib.hid hy
  obtain ⟨q, hq⟩ : ∃ q, q = decide (xs = ys) := ⟨_, rfl⟩
  rw [← hq]
  obtain ⟨n, hn⟩ : ∃ n, n = xs.length := ⟨_, rfl⟩
  obtain ⟨m, hm⟩ : ∃ m, m = ys.length := ⟨_, rfl⟩
  have HQ := Lib.hid hq; have HN := Lib.hid hn; have HM := Lib.hid hm
  rw [← hn] at hl ⊢
  rw [← hm]
  clear hx hy hq hn hm
  cases T : ((n : Int) != (m : Int))
  · have hnm : n = m := by simp at T; omega
    subst hnm
    go_enter Try.func18, Try.ntmps18
    go_wp2_with (fail)
    go_loopw [5] (fun i wr => ∃ k : Nat, k ≤ n ∧ i = .int .i64 k ∧ Hid (xs.take k = ys.take k) ∧ Ext w wr) (fun i _ => n - (intOf i).toNat)
    case atStart => exact ⟨0, Nat.zero_le _, rfl, rfl, Ext.refl w⟩
    case round =>
      obtain ⟨k, hk, rfl, ht, he⟩ := hrel
      by_cases hlt : k < n
      · obtain ⟨b, o, rfl, hc⟩ := HX.out.at k (by rw [← HN.out]; exact hlt)
        obtain ⟨b', o', rfl, hc'⟩ := HY.out.at k (by rw [← HM.out]; exact hlt)
        have hc := fun W (e : Ext wr W) => hc W (he.trans e)
        have hc' := fun W (e : Ext wr W) => hc' W (he.trans e)
        have hi0 : (0 : Int) ≤ (k : Int) := by omega
        have hi1 : (k : Int) < (n : Int) := by omega
        have hr0 := Ext.refl wr
        cases T2 : ((bth xs k : Int) != (bth ys k : Int))
        · have ht2 : Hid (xs.take (k + 1) = ys.take (k + 1)) := take_eq_succ (by rw [← HN.out]; exact hlt) (by rw [← HM.out]; exact hlt) ht.out (by simp at T2; omega)
          go_upto_region 6 with fail
          refine wp_region_ext (by kernel_rfl) (by kernel_rfl) hr0 ?_
          repeat (first | go_big_quiet_step ((fail)) | quiet_step ((fail)))
          refine wpQuiet_nil ?_
          rintro _ ⟨nq, rfl⟩
          have he2 := he.trans nq.ok
          go_wp2_with (fail)
          go_roundw
          case rel => exact ⟨k + 1, by omega, by go_num, ht2, he2⟩
          case measure => simp [intOf]; omega
        · have hq : Hid (q = false) := by
            rw [Hid, HQ.out, decide_eq_false_iff_not]
            intro e; subst e
            simp at T2
          go_upto_region 6 with fail
          refine wp_region_ext (by kernel_rfl) (by kernel_rfl) hr0 ?_
          repeat (first | go_big_quiet_step ((fail)) | quiet_step ((fail)))
          refine wpQuiet_nil ?_
          rintro _ ⟨nq, rfl⟩
          have he2 := he.trans nq.ok
          go_wp2_with (fail)
          go_ret
          exact ⟨by rw [hq.out]; rfl, he2⟩
      · obtain rfl : k = n := by omega
        have hq : Hid (q = true) := by
          rw [Hid, HQ.out, decide_eq_true_eq]
          have := ht.out
          rwa [List.take_of_length_le (by rw [← HN.out]; exact Nat.le_refl _), List.take_of_length_le (by rw [← HM.out]; exact Nat.le_refl _)] at this
        go_wp2_with (fail)
        go_ret
        exact ⟨by rw [hq.out]; rfl, he⟩
  · have hq : Hid (q = false) := by
      rw [Hid, HQ.out, decide_eq_false_iff_not]
      intro e; subst e
      rw [HN.out, HM.out] at T; simp at T
    go_enter Try.func18, Try.ntmps18
    go_wp2_with (fail)
    go_ret
    exact ⟨by rw [hq.out]; rfl, Ext.refl _⟩
end Go.Proofs.Ytlahejakcgoheaa
end
section
/-
  Walk: the law VaultDigestsDiffer.
-/
set_option linter.unusedVariables false
set_option linter.unusedSimpArgs false
namespace Go.Proofs.Ytlahejakcgoheaa
open Go.RowKit
theorem bth_z {bs : List UInt8} {k : Nat} (h : ((bth bs k : Int) != 0) = false) : bs.getD k 0 = 0 := by
  have h1 : bth bs k = 0 := by
    rw [bne_eq_false_iff_eq] at h; omega
  unfold bth at h1
  exact UInt8.toNat_inj.1 h1
theorem bth_nz {bs : List UInt8} {k : Nat} (h : ((bth bs k : Int) != 0) = true) : (bs.getD k 0 != 0) = true := by
  rw [bne_iff_ne] at h ⊢
  intro e
  refine h ?_
  unfold bth
  rw [e]; rfl
set_option maxRecDepth 100000 in
set_option maxHeartbeats 8000000 in
theorem differ_any (s t at0 : Nat) (a ba : Option Addr) (xs bs : List UInt8) (c bc : Nat) (w : World) (hs : s < 18446744073709551616) (ht : t < 18446744073709551616) (hat : at0 < 65536) (hx : Byts w a xs) (hb : Byts w ba bs) :
    Calls Try.prog 4 #[.int .u64 s, .slice a xs.length c, .agg #[.int .u16 at0, .slice ba bs.length bc, .int .u64 t]] w (Ret (.bool true) w) := by
  have HX := Lib.hid hx; have HB := Lib.hid hb
  obtain ⟨n, hn⟩ : ∃ n, n = xs.length := ⟨_, rfl⟩
  obtain ⟨m, hm⟩ : ∃ m, m = bs.length := ⟨_, rfl⟩
  have HN := Lib.hid hn; have HM := Lib.hid hm
  rw [← hn, ← hm]
  clear hx hb hn hm
  cases T1 : decide (300 < (n : Int))
  · have hn3 : n ≤ 300 := by simp at T1; omega
    go_enter Try.func4, Try.ntmps4
    go_upto_region 1 with fail
    generalize hw1 : World.alloc _ _ = w1
    obtain ⟨he1, o1, -⟩ := alloc1 hw1
    clear hw1
    have HO1 := Lib.hid o1
    obtain ⟨b0, b1, b2⟩ := obj_cells3 o1
    have hcp : ∀ W, Ext w W → Calls Try.prog 13 #[.int .u64 s, .slice a n c] W (RetB (ciph s xs) W) := fun W e => by
      have := cipher_any s a xs c W hs (HX.out.ext e) (by rw [← HN.out]; omega)
      rw [← HN.out] at this; exact this
    have HCP := Lib.hid hcp
    clear hcp o1
    go_wp2_with (fail)
    (with_reducible refine (HCP.out _ he1).mono ?_); rintro e w2 ⟨a2, c2, rfl, he2, ho2⟩
    have hcp2 : Calls Try.prog 13 #[.int .u64 s, .slice a2 (ciph s xs).length c2] w2 (RetB (ciph s (ciph s xs)) w2) := cipher_any s a2 (ciph s xs) c2 w2 hs ho2.byts.1 (by rw [ciph_len, ← HN.out]; omega)
    have HCP2 := Lib.hid hcp2
    have he12 := he1.trans he2
    clear hcp2 ho2
    go_wp2_with (fail)
    (with_reducible refine HCP2.out.mono ?_); rintro e w3 ⟨a3, c3, rfl, he3, ho3⟩
    rw [ciph_twice] at ho3 ⊢
    have he13 := he12.trans he3
    have hsb := sameBytes_any a3 a xs xs c3 c w3 ho3.byts.1 (HX.out.ext he13) (by rw [← HN.out]; omega)
    rw [decide_eq_true rfl, ← HN.out] at hsb
    have HSB := Lib.hid hsb
    rw [← HN.out]
    clear hsb ho3
    go_wp2_with (fail)
    (with_reducible refine HSB.out.mono ?_); rintro e w4 ⟨rfl, he4⟩
    have he14 := he13.trans he4
    have hE14 : Ext w1 w4 := (he2.trans he3).trans he4
    clear he1 he2 he12 he3 he13 he4 HCP HCP2 HSB
    go_upto_region 6 with fail
    have happ := app_bytes (w4.alloc (.cells #[] 5)) w4.heap.size 23 (.slice (some ⟨w4.heap.size, 0, none⟩) 0 0) [] xs a c (.inr ⟨w4.heap.size, 0, #[], (0, 0), rfl, Nat.le_refl _, heap_new _ _, by simp, by simp [maxLen], by simp, by simp [rowB], .inl rfl⟩) ((HX.out.ext he14).ext ((Ext.refl w4).alloc _)) (by rw [← HN.out]; simp; omega) (by rw [heap_size]; omega)
    rw [← HN.out] at happ
    simp only [List.nil_append] at happ
    have HA := Lib.hid happ
    clear happ
    go_upto_region 7 with (at_builtin; refine wpList_app _ rfl _ _ 23 rfl _ HA.out ?_; rintro v' w5 ⟨ho5, hg5, -⟩; have he5 := grown_ext (w := w4) ((Ext.refl w4).alloc _) hg5 (by intro k hk; simp [Value.ownBlock] at hk; omega); obtain ⟨a4, c4, rfl⟩ := ho5.slice; rw [← HN.out] at ho5 ⊢; have HO5 := Lib.hid ho5; clear ho5 hg5)
    have he15 := he14.trans he5
    have hB : w.heap.size < w4.heap.size := by have := lt_of_block HO1.out; have := hE14.size; omega
    clear HA
    have hdd : ∀ (u : Nat) (W : World), Ext w W → Calls Try.prog 14 #[.int .u64 u, .slice a n c] W (Ret (u64 (hbs (nh u) xs)) W) := fun u W e => by
      have := digest_any u a xs c W (HX.out.ext e) (by rw [← HN.out]; omega)
      rwa [← HN.out] at this
    have HDD := Lib.hid hdd
    clear hdd
    go_wp2_with (fail)
    go_loopw [9, 10] (fun ch i wr => ∃ k : Nat, k ≤ 7 ∧ k ≤ m ∧ i = .int .i64 k ∧ ch = .bool (chgK xs bs at0 k) ∧ Hid (OwnB wr w4.heap.size (.slice a4 n c4) (xorK xs bs at0 k)) ∧ Hid (Ext w4 wr)) (fun _ i _ => m - (intOf i).toNat)
    case atStart => exact ⟨0, by omega, by omega, rfl, rfl, HO5, he5⟩
    case round =>
      obtain ⟨k, hk7, hkm, rfl, rfl, ho, he⟩ := hrel
      have hx1 := hE14.trans he.out
      have b0r := fun W (e : Ext wr W) => b0 W (hx1.trans e)
      have b1r := fun W (e : Ext wr W) => b1 W (hx1.trans e)
      have hr0 := Ext.refl wr
      by_cases hk : k < m
      · by_cases hk2 : k < 7
        · obtain ⟨bb, bo, rfl, hb⟩ := HB.out.at k (by rw [← HM.out]; exact hk)
          have hbr := fun W (e : Ext wr W) => hb W ((he14.trans he.out).trans e)
          have hi0 : (0 : Int) ≤ (k : Int) := by omega
          have hi1 : (k : Int) < (m : Int) := by omega
          by_cases hin : at0 + k < n
          · go_upto_region 13 with fail
            obtain ⟨j, hj⟩ : ∃ j : Nat, j = at0 + k := ⟨_, rfl⟩
            have hlen := xorK_len xs bs at0 k
            have hjl : j < (xorK xs bs at0 k).length := by rw [hlen, ← HN.out]; omega
            obtain ⟨g, rfl⟩ : ∃ g, a4 = some ⟨g, 0, none⟩ := by
              rcases ho.out with ⟨-, e⟩ | ⟨g, cap, cur, fz, hv, -⟩
              · rw [e] at hjl; simp at hjl
              · simp only [Value.slice.injEq] at hv; exact ⟨g, hv.1⟩
            have hoc := fun W (e : Ext wr W) => (ho.out.ext e).cell j hjl
            have hof := fun W (e : Ext wr W) => (ho.out.ext e).free j hjl
            have hset := ho.out.set ((xorK xs bs at0 k).getD j 0 ^^^ bs.getD k 0) hjl
            have hgB : w4.heap.size ≤ g := (ho.out.lt g (by simp [Value.ownBlock])).1
            have hes := he.out.set (p := ⟨g, j, none⟩) hgB (u8 ((xorK xs bs at0 k).getD j 0 ^^^ bs.getD k 0).toNat)
            have hxs : xorK xs bs at0 (k + 1) = (xorK xs bs at0 k).set j ((xorK xs bs at0 k).getD j 0 ^^^ bs.getD k 0) := by
              rw [xorK, if_pos (by rw [← HN.out]; omega), ← hj]
            have hch : chgK xs bs at0 (k + 1) = (chgK xs bs at0 k || (bs.getD k 0 != 0)) := by
              rw [chgK, decide_eq_true (show at0 + k < xs.length by rw [← HN.out]; omega)]; rfl
            rw [← hxs] at hset
            have hxb : bits .xor .u8 (bth (xorK xs bs at0 k) j : Int) (bth bs k : Int) = ((((xorK xs bs at0 k).getD j 0 ^^^ bs.getD k 0).toNat : Nat) : Int) := by
              have := u8_xor_nat (bth (xorK xs bs at0 k) j) (bth bs k) (bth_lt _ _) (bth_lt _ _)
              rw [this, UInt8.toNat_xor]; rfl
            have HSET := Lib.hid hset; have HES := Lib.hid hes; have HCH := Lib.hid hch; have HXB := Lib.hid hxb
            have hj0 : (0 : Int) ≤ (at0 : Int) + (k : Int) := by omega
            have hj1 : (at0 : Int) + (k : Int) < (n : Int) := by omega
            have htn : ((at0 : Int) + (k : Int)).toNat = at0 + k := by omega
            clear hlen hset hes hxs hch hxb hjl ho
            subst hj
            go_region_law (fail)
            all_goals
              rw [HXB.out]
              have hE7 := HES.out.drew
              have hO7 := HSET.out.ext ((Ext.refl _).drew)
              have HO7 := Lib.hid hO7
              clear HSET HES hO7 hoc hof b0r b1r hbr hr0 htn
              generalize World.drew _ = w7 at *
              have b1r := fun W (e : Ext w7 W) => b1 W ((hE14.trans hE7).trans e)
              have hbr := fun W (e : Ext w7 W) => hb W ((he14.trans hE7).trans e)
              have HE7 := Lib.hid hE7
              have hr0 := Ext.refl w7
              cases hc : chgK xs bs at0 k
              · cases T5 : ((bth bs k : Int) != 0)
                · have hnew : Hid (chgK xs bs at0 (k + 1) = false) := by
                    rw [Hid, HCH.out, hc]
                    rw [bth_z T5]; rfl
                  go_wp2_with (fail)
                  go_roundw
                  case rel => exact ⟨k + 1, by omega, by omega, by go_num, by rw [hnew.out], HO7, HE7⟩
                  case measure => simp [intOf]; omega
                · have hnew : Hid (chgK xs bs at0 (k + 1) = true) := by
                    rw [Hid, HCH.out, hc]
                    rw [bth_nz T5]; rfl
                  go_wp2_with (fail)
                  go_roundw
                  case rel => exact ⟨k + 1, by omega, by omega, by go_num, by rw [hnew.out], HO7, HE7⟩
                  case measure => simp [intOf]; omega
              · have hnew : Hid (chgK xs bs at0 (k + 1) = true) := by
                  rw [Hid, HCH.out, hc]; rfl
                go_wp2_with (fail)
                go_roundw
                case rel => exact ⟨k + 1, by omega, by omega, by go_num, by rw [hnew.out], HO7, HE7⟩
                case measure => simp [intOf]; omega
          · have HC : Hid (chgK xs bs at0 (k + 1) = chgK xs bs at0 k ∧ xorK xs bs at0 (k + 1) = xorK xs bs at0 k) := by
              have : ¬ at0 + k < xs.length := by rw [← HN.out]; exact hin
              refine ⟨by simp [chgK, this], ?_⟩
              rw [xorK, if_neg this]
            go_wp2_with (fail)
            go_roundw
            case rel => exact ⟨k + 1, by omega, by omega, by go_num, by rw [HC.out.1], by rw [HC.out.2]; exact ho, he⟩
            case measure => simp [intOf]; omega
        · have hstop := hk2
          go_wp2_with (fail)
          have hxw := he14.trans he.out
          have hd2 := fun W (e : Ext wr W) => (show Calls Try.prog 14 #[.int .u64 s, .slice a4 n c4] W (Ret (.int .u64 ((hbs (nh s) (xorK xs bs at0 k) : Nat) : Int)) W) from by
            have := digest_any s a4 (xorK xs bs at0 k) c4 W (ho.out.ext e).byts.1 (by rw [xorK_len, ← HN.out]; omega)
            rwa [xorK_len, ← HN.out] at this)
          have HD2 := Lib.hid hd2
          have hlaw := burst_law s xs bs at0 k hk7
          obtain ⟨X, hX⟩ : ∃ X, X = hbs (nh s) xs := ⟨_, rfl⟩
          obtain ⟨Y, hY⟩ : ∃ Y, Y = hbs (nh s) (xorK xs bs at0 k) := ⟨_, rfl⟩
          obtain ⟨Z, hZ⟩ : ∃ Z, Z = hbs (nh t) xs := ⟨_, rfl⟩
          have hst := hbs_start s t xs
          rw [← hX, ← hY] at hlaw
          rw [← hX, ← hZ] at hst
          rw [← hY] at HD2
          have hd1 := HDD.out s
          have hd3 := HDD.out t
          rw [← hX] at hd1
          rw [← hZ] at hd3
          have HD1 := Lib.hid hd1; have HD3 := Lib.hid hd3; have HST := Lib.hid hst; have HLAW := Lib.hid hlaw
          clear hd1 hd2 hd3 hst hlaw hX hY hZ b0r b1r
          (with_reducible refine (HD1.out wr hxw).mono ?_); rintro e w8 ⟨rfl, he8⟩
          go_wp2_with (fail)
          (with_reducible refine (HD2.out w8 he8).mono ?_); rintro e w9 ⟨rfl, he9⟩
          have hw9 := (hxw.trans he8).trans he9
          have b2r := fun W (e : Ext w9 W) => b2 W ((((hE14.trans he.out).trans he8).trans he9).trans e)
          have hr0 := Ext.refl w9
          obtain ⟨q, hq⟩ : ∃ q, q = chgK xs bs at0 k := ⟨_, rfl⟩
          have T6 : ((X : Int) != (Y : Int)) = q := by
            rw [hq]
            cases e : chgK xs bs at0 k with
            | false =>
              rw [bne_eq_false_iff_eq]
              have h1 : ¬ X ≠ Y := fun h => by have := HLAW.out.1 h; rw [e] at this; cases this
              omega
            | true =>
              rw [bne_iff_ne]
              have h1 := HLAW.out.2 e
              omega
          rw [← hq]
          clear hq
          obtain ⟨r, hr⟩ : ∃ r, r = decide (s % p61 = t % p61) := ⟨_, rfl⟩
          have T7 : ((X : Int) == (Z : Int)) = r := by
            rw [hr, Bool.eq_iff_iff, beq_iff_eq, decide_eq_true_eq, ← HST.out]; omega
          have T8 : ((s : Int) % 2305843009213693951 == (t : Int) % 2305843009213693951) = r := by
            rw [hr, Bool.eq_iff_iff, beq_iff_eq, decide_eq_true_eq]; unfold p61; omega
          clear hr
          go_upto_region 17 with fail
          refine wp_region_ext (by kernel_rfl) (by kernel_rfl) hr0 ?_
          repeat (first | go_big_quiet_step ((first | (go_at_call 14; first | exact Calls.later (HD1.out _ (hw9.trans (Later.ok _))) | exact Calls.later (HD3.out _ (hw9.trans (Later.ok _)))) | (go_at_call 12; exact Calls.later (known_any _)))) | quiet_step ((first | (go_at_call 14; first | exact Calls.later (HD1.out _ (hw9.trans (Later.ok _))) | exact Calls.later (HD3.out _ (hw9.trans (Later.ok _)))) | (go_at_call 12; exact Calls.later (known_any _)))))
          refine wpQuiet_nil ?_
          rintro _ ⟨nq, rfl⟩
          have hw10 := hw9.trans nq.ok
          go_wp2_with (fail)
          go_ret
          exact ⟨rfl, hw10⟩
      · go_wp2_with (fail)
        have hxw := he14.trans he.out
        have hd2 := fun W (e : Ext wr W) => (show Calls Try.prog 14 #[.int .u64 s, .slice a4 n c4] W (Ret (.int .u64 ((hbs (nh s) (xorK xs bs at0 k) : Nat) : Int)) W) from by
          have := digest_any s a4 (xorK xs bs at0 k) c4 W (ho.out.ext e).byts.1 (by rw [xorK_len, ← HN.out]; omega)
          rwa [xorK_len, ← HN.out] at this)
        have HD2 := Lib.hid hd2
        have hlaw := burst_law s xs bs at0 k hk7
        obtain ⟨X, hX⟩ : ∃ X, X = hbs (nh s) xs := ⟨_, rfl⟩
        obtain ⟨Y, hY⟩ : ∃ Y, Y = hbs (nh s) (xorK xs bs at0 k) := ⟨_, rfl⟩
        obtain ⟨Z, hZ⟩ : ∃ Z, Z = hbs (nh t) xs := ⟨_, rfl⟩
        have hst := hbs_start s t xs
        rw [← hX, ← hY] at hlaw
        rw [← hX, ← hZ] at hst
        rw [← hY] at HD2
        have hd1 := HDD.out s
        have hd3 := HDD.out t
        rw [← hX] at hd1
        rw [← hZ] at hd3
        have HD1 := Lib.hid hd1; have HD3 := Lib.hid hd3; have HST := Lib.hid hst; have HLAW := Lib.hid hlaw
        clear hd1 hd2 hd3 hst hlaw hX hY hZ b0r b1r
        (with_reducible refine (HD1.out wr hxw).mono ?_); rintro e w8 ⟨rfl, he8⟩
        go_wp2_with (fail)
        (with_reducible refine (HD2.out w8 he8).mono ?_); rintro e w9 ⟨rfl, he9⟩
        have hw9 := (hxw.trans he8).trans he9
        have b2r := fun W (e : Ext w9 W) => b2 W ((((hE14.trans he.out).trans he8).trans he9).trans e)
        have hr0 := Ext.refl w9
        obtain ⟨q, hq⟩ : ∃ q, q = chgK xs bs at0 k := ⟨_, rfl⟩
        have T6 : ((X : Int) != (Y : Int)) = q := by
          rw [hq]
          cases e : chgK xs bs at0 k with
          | false =>
            rw [bne_eq_false_iff_eq]
            have h1 : ¬ X ≠ Y := fun h => by have := HLAW.out.1 h; rw [e] at this; cases this
            omega
          | true =>
            rw [bne_iff_ne]
            have h1 := HLAW.out.2 e
            omega
        rw [← hq]
        clear hq
        obtain ⟨r, hr⟩ : ∃ r, r = decide (s % p61 = t % p61) := ⟨_, rfl⟩
        have T7 : ((X : Int) == (Z : Int)) = r := by
          rw [hr, Bool.eq_iff_iff, beq_iff_eq, decide_eq_true_eq, ← HST.out]; omega
        have T8 : ((s : Int) % 2305843009213693951 == (t : Int) % 2305843009213693951) = r := by
          rw [hr, Bool.eq_iff_iff, beq_iff_eq, decide_eq_true_eq]; unfold p61; omega
        clear hr
        go_upto_region 17 with fail
        refine wp_region_ext (by kernel_rfl) (by kernel_rfl) hr0 ?_
        repeat (first | go_big_quiet_step ((first | (go_at_call 14; first | exact Calls.later (HD1.out _ (hw9.trans (Later.ok _))) | exact Calls.later (HD3.out _ (hw9.trans (Later.ok _)))) | (go_at_call 12; exact Calls.later (known_any _)))) | quiet_step ((first | (go_at_call 14; first | exact Calls.later (HD1.out _ (hw9.trans (Later.ok _))) | exact Calls.later (HD3.out _ (hw9.trans (Later.ok _)))) | (go_at_call 12; exact Calls.later (known_any _)))))
        refine wpQuiet_nil ?_
        rintro _ ⟨nq, rfl⟩
        have hw10 := hw9.trans nq.ok
        go_wp2_with (fail)
        go_ret
        exact ⟨rfl, hw10⟩
  · go_enter Try.func4, Try.ntmps4
    go_wp2_with (fail)
    have he1 := (Ext.refl w).alloc (.cells #[.int .u16 (at0 : Int), .slice ba m bc, .int .u64 (t : Int)] 32)
    generalize World.alloc _ _ = w1 at *
    (with_reducible refine (known_any w1).mono ?_); rintro e w2 ⟨rfl, he2⟩
    go_wp2_with (fail)
    go_ret
    exact ⟨rfl, he1.trans he2⟩
end Go.Proofs.Ytlahejakcgoheaa
end
