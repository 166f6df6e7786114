/-
  Walk: the law MatrixAliased.
-/
import Derived.Test.YtplbofhgmflnlaaGreatQA
import Derived.Test.YtplbofhgmflnlaaGreatKD3
import Derived.Test.YtplbofhgmflnlaaGreatOC2
set_option linter.unusedVariables false
set_option linter.unusedSimpArgs false
namespace Go.Proofs.YtplbofhgmflnlaaGreat
open Go.RowKit
set_option maxRecDepth 100000 in
set_option maxHeartbeats 4000000 in
theorem aliased_wide (F : Fr) (a b : Int) (w : World) (hw : wideN F.n F.ws.length = true) : Calls Tryz.prog 7 #[frV F, .int .u16 a, .int .u16 b] w (Ret (.bool true) w) := by
  have HW := Lib.hid (fun W => wideF_any F.n F.ws.length F.wa F.wc W)
  rw [hw] at HW
  obtain ⟨n, ws, wa, wc⟩ := F
  clear hw
  go_enter Tryz.func7, Tryz.ntmps7
  go_wp2_with (fail)
  generalize hw1 : World.alloc _ _ = w1
  obtain ⟨he, o1, -⟩ := alloc1 hw1
  obtain ⟨b0, b1⟩ := obj_cells2 o1
  have HE := Lib.hid he
  clear hw1 o1 he
  go_wp2_with (first
    | (go_at_call 27; (with_reducible refine (HW.out _).mono ?_); rintro e w2 ⟨rfl, he2⟩)
    | (go_at_call 17; (with_reducible refine (known_any _).mono ?_); rintro e w3 ⟨rfl, he3⟩))
  go_ret
  exact ⟨rfl, HE.out.trans (he2.trans he3)⟩
set_option maxRecDepth 100000 in
set_option maxHeartbeats 4000000 in
theorem aliased_bad (F : Fr) (a b : Int) (w : World) (hw : wideN F.n F.ws.length = false) (h : FrAt w F) (hb : FrB F) (hv : checkF F ≠ 0) : Calls Tryz.prog 7 #[frV F, .int .u16 a, .int .u16 b] w (Ret (.bool true) w) := by
  have HW := Lib.hid (fun W => wideF_any F.n F.ws.length F.wa F.wc W)
  rw [hw] at HW
  have HRU := Lib.hid (fun W (e : Ext w W) => Runs_no F W (h.ext e) hb hv)
  rw [checkF_two hv] at HRU
  have HRE := Lib.hid (fun W (e : Ext w W) => Relation_no F W (h.ext e) hb hv)
  obtain ⟨n, ws, wa, wc⟩ := F
  clear hw h hb hv
  go_enter Tryz.func7, Tryz.ntmps7
  go_wp2_with (fail)
  generalize hw1 : World.alloc _ _ = w1
  obtain ⟨he, o1, -⟩ := alloc1 hw1
  obtain ⟨b0, b1⟩ := obj_cells2 o1
  have HE := Lib.hid he
  have E1 := Ext.refl w1
  clear hw1 o1 he
  go_wp2_with (first
    | (go_at_call 27; (with_reducible refine (HW.out _).mono ?_); rintro e w2 ⟨rfl, he2⟩)
    | (go_at_call 28; (with_reducible refine (HRU.out _ (HE.out.trans he2)).mono ?_); rintro e w3 ⟨rfl, he3⟩; have he13 := he2.trans he3)
    | (go_at_call 29; (with_reducible refine (HRE.out _ (HE.out.trans he13)).mono ?_); rintro e w4 ⟨rfl, he4⟩; have he14 := he13.trans he4)
    | (go_at_call 17; (with_reducible refine (known_any _).mono ?_); rintro e w5 ⟨rfl, he5⟩))
  go_ret
  exact ⟨rfl, HE.out.trans (he14.trans he5)⟩
theorem runsTo_bd (ws : List Wd) (k : Nat) : ∀ r ∈ runsTo ws k, r < k := fun r hr => List.mem_range.1 (List.mem_filter.1 hr).1
set_option maxRecDepth 100000 in
set_option maxHeartbeats 4000000 in
theorem aliased_clash (F : Fr) (a b : Int) (w : World) (hw : wideN F.n F.ws.length = false) (h : FrAt w F) (hb : FrB F) (hv : checkF F = 0) (hc : clashW F.ws = true) : Calls Tryz.prog 7 #[frV F, .int .u16 a, .int .u16 b] w (Ret (.bool true) w) := by
  have HW := Lib.hid (fun W => wideF_any F.n F.ws.length F.wa F.wc W)
  rw [hw] at HW
  obtain ⟨m, hm, hm1, hm12, hl, -⟩ := checkF_ok hv
  have HRU : Hid (∀ W, Ext w W → Calls Tryz.prog 28 #[frV F] W (fun e w' => ∃ a c, e = .returned (.tuple #[.slice a 0 c, .int .i64 0]) ∧ Ext W w')) := fun W e => (Runs_ok F m W (h.ext e) hb hv hm hm12 hl).mono (by
    rintro e w' ⟨a, c, rfl, he, -⟩
    rw [runs_clash hc]
    exact ⟨a, c, rfl, he⟩)
  have HRE : Hid (∀ W, Ext w W → Calls Tryz.prog 29 #[frV F] W (Ret (.tuple #[.slice none 0 0, .int .i64 60]) W)) := fun W e => (Relation_ok F W (h.ext e) hb hv).mono (by
    rintro e w' ⟨he, ⟨-, rfl⟩ | ⟨h2, -⟩⟩
    · exact ⟨rfl, he⟩
    · rw [hc] at h2; cases h2)
  obtain ⟨n, ws, wa, wc⟩ := F
  clear hw h hb hv hm hm1 hm12 hl hc
  go_enter Tryz.func7, Tryz.ntmps7
  go_wp2_with (fail)
  generalize hw1 : World.alloc _ _ = w1
  obtain ⟨he, o1, -⟩ := alloc1 hw1
  obtain ⟨b0, b1⟩ := obj_cells2 o1
  have HE := Lib.hid he
  have E1 := Ext.refl w1
  clear hw1 o1 he
  go_wp2_with (first
    | (go_at_call 27; (with_reducible refine (HW.out _).mono ?_); rintro e w2 ⟨rfl, he2⟩)
    | (go_at_call 28; (with_reducible refine (HRU.out _ (HE.out.trans he2)).mono ?_); rintro e w3 ⟨ra, rc, rfl, he3⟩; have he13 := he2.trans he3)
    | (go_at_call 29; (with_reducible refine (HRE.out _ (HE.out.trans he13)).mono ?_); rintro e w4 ⟨rfl, he4⟩; have he14 := he13.trans he4)
    | (go_at_call 17; (with_reducible refine (known_any _).mono ?_); rintro e w5 ⟨rfl, he5⟩))
  go_ret
  exact ⟨rfl, HE.out.trans (he14.trans he5)⟩
theorem wideN_no {n m k : Nat} (h : wideN (m : Int) k = false) (hm : m ≤ 12) (hk : k ≤ 12) : m ≤ 7 ∧ k ≤ 5 := by
  unfold wideN at h
  simp only [Bool.or_eq_false_iff, Bool.and_eq_false_iff, decide_eq_false_iff_not] at h
  omega
set_option maxRecDepth 100000 in
set_option maxHeartbeats 4000000 in
theorem aliased_ok (F : Fr) (a b : Nat) (w : World) (hw : wideN F.n F.ws.length = false) (h : FrAt w F) (hb : FrB F) (hv : checkF F = 0) (hc : clashW F.ws = false) (ha : a < 65536) (hb' : b < 65536) : Calls Tryz.prog 7 #[frV F, .int .u16 (a : Int), .int .u16 (b : Int)] w (Ret (.bool true) w) := by
  have HW := Lib.hid (fun W => wideF_any F.n F.ws.length F.wa F.wc W)
  rw [hw] at HW
  obtain ⟨m, hm, hm1, hm12, hl, hms⟩ := checkF_ok hv
  have hm7 : m ≤ 7 := (wideN_no (n := 0) (by rw [hm] at hw; exact hw) hm12 hl).1
  obtain ⟨rs, hrs⟩ : ∃ rs, rs = runsTo F.ws (2 ^ m) := ⟨_, rfl⟩
  obtain ⟨l, hrl⟩ : ∃ l, RelOf F.ws oneW l := ⟨_, relTo_rel hc⟩
  obtain ⟨nr, hnr⟩ : ∃ nr, nr = rs.length := ⟨_, rfl⟩
  obtain ⟨nl, hnl⟩ : ∃ nl, nl = l.length := ⟨_, rfl⟩
  obtain ⟨Q, hQ⟩ : ∃ Q, Q = 2 ^ m := ⟨_, rfl⟩
  have hcount : nr * (nl + 1) = Q := by rw [hnr, hnl, hQ, hrs]; exact runs_count (by omega) hc hrl hms
  have hQ128 : Q ≤ 128 := by rw [hQ]; exact Nat.pow_le_pow_right (n := 2) (by omega) hm7
  have hnr128 : nr ≤ 128 := by
    rw [hnr, hrs]; exact Nat.le_trans (runsTo_len _ _) (by rw [← hQ]; exact hQ128)
  have hnl128 : nl ≤ 128 := by
    rcases Nat.eq_zero_or_pos nr with h0 | h0
    · rw [h0, Nat.zero_mul] at hcount
      have := Nat.two_pow_pos m
      omega
    · have : 1 * (nl + 1) ≤ nr * (nl + 1) := Nat.mul_le_mul_right _ h0
      omega
  have hci : (nr : Int) * ((nl : Int) + 1) = (Q : Int) := by rw [← hcount]; push_cast; rfl
  have HRU : Hid (∀ W, Ext w W → Calls Tryz.prog 28 #[frV F] W (fun e w' => ∃ a c, e = .returned (.tuple #[.slice a nr c, .int .i64 0]) ∧ Ext W w' ∧ OwnU w' W.heap.size (.slice a nr c) rs)) := fun W e => (Runs_ok F m W (h.ext e) hb hv hm hm12 hl).mono (by
    rintro e w' ⟨a, c, rfl, he, ho⟩
    rw [← hrs, ← hnr] at ho ⊢
    exact ⟨a, c, rfl, he, ho⟩)
  have HRE : Hid (∀ W, Ext w W → Calls Tryz.prog 29 #[frV F] W (fun e w' => ∃ a c, e = .returned (.tuple #[.slice a nl c, .int .i64 0]) ∧ Ext W w')) := fun W e => (Relation_ok F W (h.ext e) hb hv).mono (by
    rintro e w' ⟨he, ⟨h2, -⟩ | ⟨-, a, c, l', rfl, hl', -⟩⟩
    · rw [hc] at h2; cases h2
    · rw [hl'.unique hrl, ← hnl]
      exact ⟨a, c, rfl, he⟩)
  obtain ⟨a', ha'⟩ : ∃ a', a' = a &&& (Q - 1) := ⟨_, rfl⟩
  obtain ⟨b', hb2⟩ : ∃ b', b' = b &&& (Q - 1) := ⟨_, rfl⟩
  have hQ1 : 1 ≤ Q := by rw [hQ]; exact Nat.two_pow_pos m
  have haQ : a' < Q := by rw [ha']; exact Nat.lt_of_le_of_lt Nat.and_le_right (by omega)
  have hbQ : b' < Q := by rw [hb2]; exact Nat.lt_of_le_of_lt Nat.and_le_right (by omega)
  have handa : bits .and .u16 (a : Int) ((Q : Int) - 1) = (a' : Int) := by
    rw [ha', show ((Q : Int) - 1) = ((Q - 1 : Nat) : Int) by omega]; exact bits_and_u16_nat a (Q - 1) ha (by omega)
  have handb : bits .and .u16 (b : Int) ((Q : Int) - 1) = (b' : Int) := by
    rw [hb2, show ((Q : Int) - 1) = ((Q - 1 : Nat) : Int) by omega]; exact bits_and_u16_nat b (Q - 1) hb' (by omega)
  have HAL : Hid (∀ W, Ext w W → Calls Tryz.prog 31 #[frV F, .int .u16 (a' : Int)] W (fun e w' => ∃ p c l', e = .returned (.tuple #[.slice p nl c, .int .i64 0]) ∧ Ext W w' ∧ RelOf F.ws ⟨a', false⟩ l' ∧ l'.length = nl ∧ OwnW w' W.heap.size (.slice p nl c) l')) := fun W e => (Aliases_ok F a' m W (h.ext e) hb hv hm (by rw [← hQ]; exact haQ)).mono (by
    rintro e w' ⟨he, ⟨h2, -⟩ | ⟨-, p, c, l', rfl, hl', ho⟩⟩
    · rw [hc] at h2; cases h2
    · have hll : l'.length = nl := by rw [hnl]; exact rel_len hc hl' hrl
      rw [hll] at ho ⊢
      exact ⟨p, c, l', rfl, he, hl', hll, ho⟩)
  have HOD : Hid (∀ x r W, x < Q → r < Q → Calls Tryz.prog 39 #[.int .u16 (x : Nat), .int .u16 (r : Nat)] W (fun e w' => e = .returned (.bool (oddB x r)) ∧ w' = W)) := fun x r W hx hr => lawOdd_any x r W (by omega) (by omega)
  have HRB : Hid (∀ r ∈ rs, r < Q) := fun r hr => by rw [hrs] at hr; rw [hQ]; exact runsTo_bd _ _ r hr
  have HSELF : Hid (a' = b' → sameRuns a' b' rs = nr) := fun e => by rw [← e, same_self, hnr]
  have HFND : Hid (∀ l', RelOf F.ws ⟨a', false⟩ l' → ∀ x ∈ l', x.mask = b' → sameRuns a' b' rs = if x.odd then 0 else nr) := fun l' hl' x hx he => by
    rw [hnr, hrs]; exact alias_found hl' hx he
  have HNON : Hid (∀ l', RelOf F.ws ⟨a', false⟩ l' → a' ≠ b' → (∀ x ∈ l', x.mask ≠ b') → 2 * sameRuns a' b' rs = nr) := fun l' hl' hab hn => by
    rw [hnr, hrs]
    exact same_half (by omega) hc hrl hms (by rw [← hQ]; exact haQ) (by rw [← hQ]; exact hbQ) hab (alias_none hl' hrl hn)
  have hQi : (2 : Int) ^ m = (Q : Int) := by rw [hQ]; norm_cast
  have HRL : Hid (rs.length = nr) := hnr.symm
  obtain ⟨n, ws, wa, wc⟩ := F
  simp only at hm
  subst hm
  have h0 : (0 : Int) ≤ (m : Int) := by omega
  clear hw h hb hv hl hms hrs hrl hc ha hb' hcount hnr hnl hQ ha' hb2 hm12
  go_enter Tryz.func7, Tryz.ntmps7
  go_wp2_with (fail)
  generalize hw1 : World.alloc _ _ = w1
  obtain ⟨he, o1, -⟩ := alloc1 hw1
  obtain ⟨b0, b1⟩ := obj_cells2 o1
  have HE := Lib.hid he
  have E1 := Ext.refl w1
  clear hw1 o1 he
  go_upto_region 7 with (first
    | (go_at_call 27; (with_reducible refine (HW.out _).mono ?_); rintro e w2 ⟨rfl, he2⟩)
    | (go_at_call 28; (with_reducible refine (HRU.out _ (HE.out.trans he2)).mono ?_); rintro e w3 ⟨ra, rc, rfl, he3, ho3⟩; have he13 := he2.trans he3; have HO3 := Lib.hid ho3; clear ho3)
    | (go_at_call 29; (with_reducible refine (HRE.out _ (HE.out.trans he13)).mono ?_); rintro e w4 ⟨ta, tc, rfl, he4⟩; have he14 := he13.trans he4))
  have HR4 := Lib.hid (HO3.out.ext he4)
  have HE4 : Hid (Ext w w4) := HE.out.trans he14
  have c0 := fun W (e : Ext w4 W) => b0 W (he14.trans e)
  have c1 := fun W (e : Ext w4 W) => b1 W (he14.trans e)
  have E4 := Ext.refl w4
  clear b0 b1 he2 he3 he13 he4 he14 HO3 E1 HE HW HRU HRE
  go_upto_region 9 with fail
  refine wp_region_ext (by kernel_rfl) (by kernel_rfl) E4 ?_
  repeat (first | go_big_quiet_step (fail) | quiet_step (fail))
  refine wpQuiet_nil ?_
  rintro _ ⟨nq, rfl⟩
  have hq := nq.ok
  have HAL5 := Lib.hid (HAL.out nq.val (HE4.out.trans hq))
  have HR5 := Lib.hid (HR4.out.ext hq)
  have HE5 : Hid (Ext w nq.val) := HE4.out.trans hq
  have d0 := fun W (e : Ext nq.val W) => c0 W (hq.trans e)
  have d1 := fun W (e : Ext nq.val W) => c1 W (hq.trans e)
  clear HAL c0 c1 hq HR4 HE4 E4 handa handb
  go_upto_region 10 with fail
  generalize nq.val = w5 at *
  have E5 := Ext.refl w5
  go_upto_region 13 with (go_at_call 31; (with_reducible refine HAL5.out.mono ?_); rintro e w6 ⟨p, c, l', rfl, he6, hl', hll, hol⟩)
  have HL' := Lib.hid hl'
  have HLL := Lib.hid hll
  have HOL := Lib.hid hol
  have HR6 := Lib.hid (HR5.out.ext he6)
  have HE6 : Hid (Ext w w6) := HE5.out.trans he6
  clear HAL5 d0 d1 E5 HR5 HE5 he6 hl' hll hol
  go_wp2_with (fail)
  go_loopw [12, 13] (fun s i wr => ∃ k z : Nat, k ≤ nr ∧ z ≤ k ∧ i = .int .i64 k ∧ s = .int .i64 z ∧ Hid (z = sameRuns a' b' (rs.take k)) ∧ Hid (Ext w6 wr)) (fun _ i _ => nr - (intOf i).toNat)
  case atStart => exact ⟨0, 0, Nat.zero_le _, Nat.zero_le _, rfl, rfl, rfl, Ext.refl _⟩
  case round =>
    obtain ⟨k, z, hk, hz, rfl, rfl, HZ, HX⟩ := hrel
    by_cases hlt : k < nr
    · obtain ⟨g, rfl, -, -, hc⟩ := OwnF.cell u16C_len (HR6.out.ext HX.out) k (by rw [HRL.out]; exact hlt)
      have hkr : k < rs.length := by rw [HRL.out]; exact hlt
      obtain ⟨r, hr⟩ : ∃ r, r = rs[k] := ⟨_, rfl⟩
      have hc0 := hc 0 (by omega)
      rw [← hr] at hc0
      have q0 : ∀ W, Ext wr W → W.cell? ⟨g, k, none⟩ = some (.int .u16 (r : Int)) := fun W e => e.cell (by simpa [u16C] using hc0)
      have hrQ : r < Q := HRB.out r (by rw [hr]; exact List.getElem_mem hkr)
      obtain ⟨x, hx⟩ : ∃ x, x = oddB a' r := ⟨_, rfl⟩
      obtain ⟨y, hy⟩ : ∃ y, y = oddB b' r := ⟨_, rfl⟩
      have HA : Hid (∀ W, Calls Tryz.prog 39 #[.int .u16 (a' : Int), .int .u16 (r : Int)] W (fun e w' => e = .returned (.bool x) ∧ w' = W)) := fun W => by rw [hx]; exact HOD.out a' r W haQ hrQ
      have HB : Hid (∀ W, Calls Tryz.prog 39 #[.int .u16 (b' : Int), .int .u16 (r : Int)] W (fun e w' => e = .returned (.bool y) ∧ w' = W)) := fun W => by rw [hy]; exact HOD.out b' r W hbQ hrQ
      have HN : z + (if x == y then 1 else 0) = sameRuns a' b' (rs.take (k + 1)) := by
        rw [List.take_succ_eq_append_getElem hkr, sameRuns_snoc, ← hr, ← hx, ← hy, HZ.out]
      have HN1 : Hid (x = y → z + 1 = sameRuns a' b' (rs.take (k + 1))) := fun e => by rw [← HN, e]; simp
      have HN0 : Hid (x ≠ y → z = sameRuns a' b' (rs.take (k + 1))) := fun e => by rw [← HN, if_neg (by simpa using e)]; rfl
      clear HN
      have E0 := Ext.refl wr
      clear hc hc0 hr hrQ hx hy HZ
      go_upto_region 17 with fail
      refine wp_region_ext (by kernel_rfl) (by kernel_rfl) E0 ?_
      repeat (first | go_big_quiet_step ((go_at_call 39; first | with_reducible exact Calls.later_same (HA.out _) | with_reducible exact Calls.later_same (HB.out _))) | quiet_step ((go_at_call 39; first | with_reducible exact Calls.later_same (HA.out _) | with_reducible exact Calls.later_same (HB.out _))))
      refine wpQuiet_nil ?_
      rintro _ ⟨nq2, rfl⟩
      have hq := nq2.ok
      have HX2 : Hid (Ext w6 nq2.val) := HX.out.trans hq
      cases x
      · cases y
        · go_wp2_with (fail)
          go_roundw
          case rel => exact ⟨k + 1, z + 1, by omega, by omega, by go_num, by go_num, HN1.out rfl, HX2.out⟩
          case measure => simp [intOf]; omega
        · go_wp2_with (fail)
          go_roundw
          case rel => exact ⟨k + 1, z, by omega, by omega, by go_num, rfl, HN0.out (by simp), HX2.out⟩
          case measure => simp [intOf]; omega
      · cases y
        · go_wp2_with (fail)
          go_roundw
          case rel => exact ⟨k + 1, z, by omega, by omega, by go_num, rfl, HN0.out (by simp), HX2.out⟩
          case measure => simp [intOf]; omega
        · go_wp2_with (fail)
          go_roundw
          case rel => exact ⟨k + 1, z + 1, by omega, by omega, by go_num, by go_num, HN1.out rfl, HX2.out⟩
          case measure => simp [intOf]; omega
    · obtain rfl : k = nr := by omega
      have HZ2 : Hid (z = sameRuns a' b' rs) := by have := HZ.out; rwa [← HRL.out, List.take_length] at this
      have HOL7 := Lib.hid (HOL.out.ext HX.out)
      have HE7 : Hid (Ext w wr) := HE6.out.trans HX.out
      clear HR6 HZ HOL HX
      by_cases hab : a' = b'
      · have hzn : z = k := by rw [HZ2.out]; exact HSELF.out hab
        subst hzn
        subst hab
        go_wp2_with (go_at_call 17; (with_reducible refine (known_any _).mono ?_); rintro e w8 ⟨rfl, he8⟩)
        go_ret
        exact ⟨rfl, HE7.out.trans he8⟩
      · have habi : ((a' : Int) == (b' : Int)) = false := by rw [beq_eq_false_iff_ne]; omega
        have HAB := Lib.hid hab
        clear hab
        go_wp2_with (fail)
        go_loopw [14] (fun i wr2 => ∃ j : Nat, j ≤ nl ∧ i = .int .i64 j ∧ Hid (∀ q, q < j → (wth l' q).mask ≠ b') ∧ Hid (Ext wr wr2)) (fun i _ => nl - (intOf i).toNat)
        case atStart => exact ⟨0, Nat.zero_le _, rfl, fun q hq => by omega, Ext.refl _⟩
        case round =>
          obtain ⟨j, hj, rfl, HF, HX⟩ := hrel
          by_cases hjl : j < nl
          · have hjl' : j < l'.length := by rw [HLL.out]; exact hjl
            obtain ⟨g, rfl, -, -, hc⟩ := OwnF.cell wdC_len (HOL7.out.ext HX.out) j hjl'
            have hc0 := hc 0 (by omega)
            have hc1 := hc 1 (by omega)
            obtain ⟨x, hx⟩ : ∃ x, x = l'[j] := ⟨_, rfl⟩
            have hxm : x ∈ l' := by rw [hx]; exact List.getElem_mem hjl'
            have hxw : wth l' j = x := by rw [wth_eq _ _ hjl', hx]
            rw [← hx] at hc0 hc1
            have HXM := Lib.hid hxm
            have HXW := Lib.hid hxw
            obtain ⟨xm, xo⟩ := x
            have q0 : ∀ W, Ext wr W → W.cell? ⟨g, j * 2, none⟩ = some (.int .u16 (xm : Int)) := fun W e => e.cell (by simpa [wdC] using hc0)
            have q1 : ∀ W, Ext wr W → W.cell? ⟨g, j * 2 + 1, none⟩ = some (.bool xo) := fun W e => e.cell (by simpa [wdC] using hc1)
            have E0 := Ext.refl wr
            have HEX : Hid (Ext w wr) := HE7.out.trans HX.out
            clear hc hc0 hc1 hx hxm hxw
            by_cases he : xm = b'
            · have hfz := HFND.out l' HL'.out ⟨xm, xo⟩ HXM.out he
              rw [← HZ2.out] at hfz
              have hei : ((xm : Int) == (b' : Int)) = true := by rw [beq_iff_eq]; omega
              clear he
              cases xo
              · simp only [Bool.false_eq_true, if_false] at hfz
                subst hfz
                go_wp2_with (go_at_call 17; (with_reducible refine (known_any _).mono ?_); rintro e w8 ⟨rfl, he8⟩)
                go_ret
                exact ⟨rfl, HEX.out.trans he8⟩
              · simp only [if_true] at hfz
                subst hfz
                go_wp2_with (go_at_call 17; (with_reducible refine (known_any _).mono ?_); rintro e w8 ⟨rfl, he8⟩)
                go_ret
                exact ⟨rfl, HEX.out.trans he8⟩
            · have hei : ((xm : Int) == (b' : Int)) = false := by rw [beq_eq_false_iff_ne]; omega
              have HF2 : Hid (∀ q, q < j + 1 → (wth l' q).mask ≠ b') := fun q hq => by
                rcases Nat.lt_succ_iff_lt_or_eq.1 hq with h | h
                · exact HF.out q h
                · rw [h, HXW.out]; exact he
              clear he
              go_wp2_with (fail)
              go_roundw
              case rel => exact ⟨j + 1, by omega, by go_num, HF2, HX⟩
              case measure => simp [intOf]; omega
          · obtain rfl : j = nl := by omega
            have hz2 := HNON.out l' HL'.out HAB.out (fun x hx e => by
              obtain ⟨q, hq, hqe⟩ := List.getElem_of_mem hx
              refine HF.out q (by rw [HLL.out] at hq; exact hq) ?_
              rw [wth_eq _ _ hq, hqe]; exact e)
            rw [← HZ2.out] at hz2
            have hzi : 2 * (z : Int) = (k : Int) := by omega
            have HEX : Hid (Ext w wr) := HE7.out.trans HX.out
            clear hz2
            go_wp2_with (go_at_call 17; (with_reducible refine (known_any _).mono ?_); rintro e w8 ⟨rfl, he8⟩)
            go_ret
            exact ⟨rfl, HEX.out.trans he8⟩
theorem aliased_any (F : Fr) (a b : Nat) (w : World) (h : FrAt w F) (hb : FrB F) (ha : a < 65536) (hb' : b < 65536) : Calls Tryz.prog 7 #[frV F, .int .u16 (a : Int), .int .u16 (b : Int)] w (Ret (.bool true) w) := by
  cases hw : wideN F.n F.ws.length with
  | true => exact aliased_wide F a b w hw
  | false =>
    by_cases hv : checkF F = 0
    · cases hc : clashW F.ws with
      | true => exact aliased_clash F a b w hw h hb hv hc
      | false => exact aliased_ok F a b w hw h hb hv hc ha hb'
    · exact aliased_bad F a b w hw h hb hv
end Go.Proofs.YtplbofhgmflnlaaGreat
