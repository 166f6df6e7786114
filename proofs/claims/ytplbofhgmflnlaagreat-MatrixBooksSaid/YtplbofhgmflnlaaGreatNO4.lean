/-
  Texts merged: N7, N8, N9, N10.
-/
import Derived.Test.YtplbofhgmflnlaaGreatNN5
section
/-
  Walks: the reference's First.
-/
set_option linter.unusedVariables false
set_option linter.unusedSimpArgs false
namespace Go.Proofs.YtplbofhgmflnlaaGreat
open Go.RowKit
set_option maxRecDepth 100000 in
set_option maxHeartbeats 2000000 in
theorem rFirst_any (P : Pw) (a : Option Addr) (ss : List Se) (sc : Nat) (i : Nat) (w : World) (h : PlanAt w P) (hf : P.fs.length ≤ 8) (hs : SetsAt w a ss) (hi : i < ss.length) (hn : ss.length ≤ 1000000)
    (hl : ∀ j, j < ss.length → (eth ss j).lv.xs.length = P.fs.length) :
    Calls Tryz.prog 94 #[planV P, .slice a ss.length sc, .int .i64 (i : Int)] w (fun e w' => ∃ k : Nat, e = .returned (.int .i64 (k : Int)) ∧ Ext w w' ∧ k ≤ i ∧ sameG P.fs (eth ss k) (eth ss i) = true ∧ ∀ j, j < k → sameG P.fs (eth ss j) (eth ss i) = false) := by
  have hsm := fun W (e : Ext w W) p (hp : p < ss.length) => rSame_any P (eth ss p) (eth ss i) W (h.ext e) hf ((hs.ext e).lv p hp) ((hs.ext e).lv i hi) (hl p hp) (hl i hi)
  have hii : sameG P.fs (eth ss i) (eth ss i) = true := (sameG_key hf).2 rfl
  obtain ⟨fs, fa, fc, fo, ga, gc⟩ := P
  obtain ⟨G, hG⟩ : ∃ G : Nat → Bool, G = fun p => sameG fs (eth ss p) (eth ss i) := ⟨_, rfl⟩
  have HSM : Hid (∀ W, Ext w W → ∀ p, p < ss.length → Calls Tryz.prog 95 #[.agg #[.slice fa fs.length fc, .slice ga fo.length gc], setV (eth ss p), setV (eth ss i)] W (Ret (.bool (G p)) W)) := fun W e p hp => by rw [hG]; exact hsm W e p hp
  have HGI : Hid (G i = true) := by rw [hG]; exact hii
  have HG : Hid (∀ p, G p = sameG fs (eth ss p) (eth ss i)) := fun p => by rw [hG]
  have HS := Lib.hid hs
  clear hsm hii hG h hs hl
  go_enter Tryz.func94, Tryz.ntmps94
  go_wp2_with (fail)
  generalize hw1 : World.alloc _ _ = w1
  obtain ⟨he, o1, -⟩ := alloc1 hw1
  obtain ⟨b0, b1⟩ := obj_cells2 o1
  have HE := Lib.hid he
  clear hw1 o1 he
  go_loopw [7] (fun v wr => ∃ k : Nat, k ≤ i ∧ v = .int .i64 k ∧ Ext w1 wr ∧ Hid (∀ j, j < k → G j = false)) (fun v _ => i + 1 - (intOf v).toNat)
  case atStart => exact ⟨0, Nat.zero_le _, rfl, Ext.refl _, fun j hj => by omega⟩
  case round =>
    obtain ⟨k, hk, rfl, hr, hh⟩ := hrel
    have hkn : k < ss.length := by omega
    obtain ⟨sb, so, rfl, d0, d1⟩ := set_at (HS.out.ext (HE.out.trans hr)).row k hkn
    obtain ⟨sb', so', hbo, e0, e1⟩ := set_at (HS.out.ext (HE.out.trans hr)).row i hi
    simp only [Option.some.injEq, Addr.mk.injEq, and_true] at hbo
    obtain ⟨rfl, rfl⟩ := hbo
    have B0 := fun W (e : Ext wr W) => b0 W (hr.trans e)
    have B1 := fun W (e : Ext wr W) => b1 W (hr.trans e)
    have hr0 := Ext.refl wr
    have HCL : Hid (∀ n : Later wr, Calls Tryz.prog 95 #[.agg #[.slice fa fs.length fc, .slice ga fo.length gc], setV (eth ss k), setV (eth ss i)] n.val (Ret (.bool (G k)) n.val)) := fun n => HSM.out n.val ((HE.out.trans hr).trans n.ok) k hkn
    cases T : G k
    · rw [T] at HCL
      have hki : k < i := by
        rcases Nat.lt_or_ge k i with h | h
        · exact h
        · exfalso
          have : k = i := by omega
          subst this
          have := HGI.out
          rw [T] at this; cases this
      have HN : Hid (∀ j, j < k + 1 → G j = false) := fun j hj => by
        rcases Nat.lt_succ_iff_lt_or_eq.1 hj with h | h
        · exact hh.out j h
        · subst h; exact T
      clear hh T
      go_upto_region 2 with fail
      refine wp_region_ext (by kernel_rfl) (by kernel_rfl) hr0 ?_
      repeat (first | go_big_quiet_step (((go_at_call 95; exact Calls.later (HCL.out _)))) | quiet_step (((go_at_call 95; exact Calls.later (HCL.out _)))))
      refine wpQuiet_nil ?_
      rintro _ ⟨nq, rfl⟩
      have hq2 := nq.ok
      go_wp2_with (fail)
      go_roundw
      case rel => exact ⟨k + 1, by omega, by go_num, hr.trans hq2, HN⟩
      case measure => simp [intOf]; omega
    · rw [T] at HCL
      have HT := Lib.hid T
      clear T
      go_upto_region 2 with fail
      refine wp_region_ext (by kernel_rfl) (by kernel_rfl) hr0 ?_
      repeat (first | go_big_quiet_step (((go_at_call 95; exact Calls.later (HCL.out _)))) | quiet_step (((go_at_call 95; exact Calls.later (HCL.out _)))))
      refine wpQuiet_nil ?_
      rintro _ ⟨nq, rfl⟩
      have hq2 := nq.ok
      go_wp2_with (fail)
      go_ret
      exact ⟨k, rfl, HE.out.trans (hr.trans hq2), hk, by rw [← HG.out]; exact HT.out, fun j hj => by rw [← HG.out]; exact hh.out j hj⟩
end Go.Proofs.YtplbofhgmflnlaaGreat
end
section
/-
  Walks: the reference's before.
-/
set_option linter.unusedVariables false
set_option linter.unusedSimpArgs false
namespace Go.Proofs.YtplbofhgmflnlaaGreat
open Go.RowKit
set_option maxHeartbeats 2000000 in
theorem before_any (x y : Wd) (w : World) (hx : x.mask < 65536) (hy : y.mask < 65536) : Calls Tryz.prog 124 #[wdV x, wdV y] w (Ret (.bool (ltW x y)) w) := by
  obtain ⟨k, o⟩ := x
  obtain ⟨l, s⟩ := y
  obtain ⟨p, hp⟩ : ∃ p, p = ones k := ⟨_, rfl⟩
  obtain ⟨q, hq⟩ : ∃ q, q = ones l := ⟨_, rfl⟩
  have HP : Hid (∀ W, Calls Tryz.prog 36 #[.int .u16 (k : Int)] W (fun e w' => e = .returned (.int .i64 (p : Int)) ∧ w' = W)) := fun W => by rw [hp]; exact bits_any k W hx
  have HQ : Hid (∀ W, Calls Tryz.prog 36 #[.int .u16 (l : Int)] W (fun e w' => e = .returned (.int .i64 (q : Int)) ∧ w' = W)) := fun W => by rw [hq]; exact bits_any l W hy
  have HR : Hid (ltW ⟨k, o⟩ ⟨l, s⟩ = decide (p < q ∨ (p = q ∧ k < l))) := by rw [Hid, hp, hq]; rfl
  clear hp hq hx hy
  by_cases hpq : p = q
  · have HR2 : Hid (ltW ⟨k, o⟩ ⟨l, s⟩ = decide (k < l)) := by
      rw [Hid, HR.out, decide_eq_decide]; omega
    subst hpq
    rw [HR2.out]
    clear HR HR2
    go_enter Tryz.func124, Tryz.ntmps124
    go_upto_region 1 with fail
    generalize hw1 : World.alloc _ _ = w1
    obtain ⟨he, o1, o2, -⟩ := alloc2 hw1
    obtain ⟨a0, a1⟩ := obj_cells2 o1
    obtain ⟨b0, b1⟩ := obj_cells2 o2
    have hr0 := Ext.refl w1
    have HE := Lib.hid he
    clear hw1 o1 o2 he
    refine wp_region_ext (by kernel_rfl) (by kernel_rfl) hr0 ?_
    repeat (first | go_big_quiet_step (((go_at_call 36; first | with_reducible exact Calls.later_same (HP.out _) | with_reducible exact Calls.later_same (HQ.out _)))) | quiet_step (((go_at_call 36; first | with_reducible exact Calls.later_same (HP.out _) | with_reducible exact Calls.later_same (HQ.out _)))))
    refine wpQuiet_nil ?_
    rintro _ ⟨nq, rfl⟩
    have hq2 := nq.ok
    go_wp2_with (fail)
    go_ret
    exact ⟨rfl, HE.out.trans hq2⟩
  · have HR2 : Hid (ltW ⟨k, o⟩ ⟨l, s⟩ = decide (p < q)) := by
      rw [Hid, HR.out, decide_eq_decide]; omega
    rw [HR2.out]
    have hne : ((p : Int) != (q : Int)) = true := by rw [bne_iff_ne]; omega
    clear HR HR2 hpq
    go_enter Tryz.func124, Tryz.ntmps124
    go_upto_region 1 with fail
    generalize hw1 : World.alloc _ _ = w1
    obtain ⟨he, o1, o2, -⟩ := alloc2 hw1
    obtain ⟨a0, a1⟩ := obj_cells2 o1
    obtain ⟨b0, b1⟩ := obj_cells2 o2
    have hr0 := Ext.refl w1
    have HE := Lib.hid he
    clear hw1 o1 o2 he
    refine wp_region_ext (by kernel_rfl) (by kernel_rfl) hr0 ?_
    repeat (first | go_big_quiet_step (((go_at_call 36; first | with_reducible exact Calls.later_same (HP.out _) | with_reducible exact Calls.later_same (HQ.out _)))) | quiet_step (((go_at_call 36; first | with_reducible exact Calls.later_same (HP.out _) | with_reducible exact Calls.later_same (HQ.out _)))))
    refine wpQuiet_nil ?_
    rintro _ ⟨nq, rfl⟩
    have hq2 := nq.ok
    go_upto_region 2 with fail
    have A0 := fun W (e : Ext nq.val W) => a0 W (hq2.trans e)
    have B0 := fun W (e : Ext nq.val W) => b0 W (hq2.trans e)
    clear a0 b0 a1 b1 hr0
    have HX := Lib.hid hq2
    clear hq2
    generalize nq.val = w5 at *
    have hr0 := Ext.refl w5
    refine wp_region_ext (by kernel_rfl) (by kernel_rfl) hr0 ?_
    repeat (first | go_big_quiet_step (((go_at_call 36; first | with_reducible exact Calls.later_same (HP.out _) | with_reducible exact Calls.later_same (HQ.out _)))) | quiet_step (((go_at_call 36; first | with_reducible exact Calls.later_same (HP.out _) | with_reducible exact Calls.later_same (HQ.out _)))))
    refine wpQuiet_nil ?_
    rintro _ ⟨nq, rfl⟩
    have hq3 := nq.ok
    go_wp2_with (fail)
    go_ret
    exact ⟨rfl, HE.out.trans (HX.out.trans hq3)⟩
end Go.Proofs.YtplbofhgmflnlaaGreat
end
section
/-
  Walks: the reference's Fraction.
-/
set_option linter.unusedVariables false
set_option linter.unusedSimpArgs false
namespace Go.Proofs.YtplbofhgmflnlaaGreat
open Go.RowKit
theorem outW_iff (m : Nat) (x : Wd) : outW m x = decide (2 ^ m ≤ x.mask) := by
  unfold outW
  have hp : 0 < 2 ^ m := Nat.pow_pos (by omega)
  by_cases h : 2 ^ m ≤ x.mask
  · have : 0 < x.mask / 2 ^ m := Nat.div_pos h hp
    rw [decide_eq_true h, bne_iff_ne]; omega
  · have : x.mask / 2 ^ m = 0 := Nat.div_eq_of_lt (by omega)
    rw [this, decide_eq_false h]; rfl
set_option maxRecDepth 100000 in
set_option maxHeartbeats 2000000 in
theorem rFraction_ok (F : Fr) (m : Nat) (w : World) (h : FrAt w F) (hm : F.n = (m : Int)) (h1 : 1 ≤ m) (hm12 : m ≤ 12) (hl : F.ws.length ≤ 12) (hb : ∀ i, i < F.ws.length → (wth F.ws i).mask < 65536) :
    Calls Tryz.prog 32 #[frV F] w (Ret (.bool (!F.ws.any (outW m))) w) := by
  obtain ⟨n, ws, wa, wc⟩ := F
  simp only at hm hl hb ⊢
  subst hm
  have H := Lib.hid h
  have HB := Lib.hid hb
  have hpow : (2 : Nat) ^ m ≤ 4096 := by
    have : (2 : Nat) ^ m ≤ 2 ^ 12 := Nat.pow_le_pow_right (by omega) hm12
    omega
  have h0 : (0 : Int) ≤ (m : Int) := by omega
  have hli : (ws.length : Int) ≤ 12 := by omega
  obtain ⟨G, hG⟩ : ∃ G : Nat → Bool, G = fun i => outW m (wth ws i) := ⟨_, rfl⟩
  have HG : Hid (∀ i, G i = decide (2 ^ m ≤ (wth ws i).mask)) := fun i => by rw [hG]; exact outW_iff m _
  have HA : Hid (ws.any (outW m) = (List.range ws.length).any G) := by
    have e : G = (outW m) ∘ (wth ws) := by rw [hG]; rfl
    have e2 : (List.range ws.length).map (wth ws) = ws := by
      apply List.ext_getElem
      · simp
      · intro k h1 h2
        simp only [List.getElem_map, List.getElem_range]
        exact wth_eq ws k h2
    rw [Hid, e, ← List.any_map, e2]
  rw [HA.out]
  obtain ⟨Q, hQ⟩ : ∃ Q : Nat, Q = 2 ^ m := ⟨_, rfl⟩
  have HQ := Lib.hid hQ
  rw [← hQ] at hpow
  have hQi : (2 : Int) ^ m = (Q : Int) := by rw [hQ]; norm_cast
  clear h hb hG hQ
  go_enter Tryz.func32, Tryz.ntmps32
  go_wp2_with (fail)
  generalize hw1 : World.alloc _ _ = w1
  obtain ⟨he, o1, -⟩ := alloc1 hw1
  obtain ⟨b0, b1⟩ := obj_cells2 o1
  have E1 := Ext.refl w1
  have HE := Lib.hid he
  obtain ⟨fb, hfb⟩ : ∃ fb, fb = w.heap.size := ⟨_, rfl⟩
  rw [← hfb] at b0 b1 ⊢
  clear hw1 o1 he hfb
  go_wp2_with (fail)
  go_loopw [3] (fun i wr => ∃ k : Nat, k ≤ ws.length ∧ i = .int .i64 k ∧ Ext w1 wr ∧ Hid (∀ j, j < k → G j = false)) (fun i _ => ws.length - (intOf i).toNat)
  case atStart => exact ⟨0, Nat.zero_le _, rfl, Ext.refl _, fun j hj => by omega⟩
  case round =>
    obtain ⟨k, hk, rfl, hr, hh⟩ := hrel
    have B0 := fun W (e : Ext wr W) => b0 W (hr.trans e)
    have B1 := fun W (e : Ext wr W) => b1 W (hr.trans e)
    have hr0 := Ext.refl wr
    by_cases hlt : k < ws.length
    · obtain ⟨sb, so, rfl, d0, d1⟩ := wd_at (H.out.ext (HE.out.trans hr)) k hlt
      have hmk := HB.out k hlt
      have HGk := Lib.hid (HG.out k)
      obtain ⟨z, hz⟩ : ∃ z, z = (wth ws k).mask := ⟨_, rfl⟩
      rw [← hz] at d0 hmk HGk
      rw [← HQ.out] at HGk
      clear hz d1
      by_cases hzq : Q ≤ z
      · have hzi : (Q : Int) ≤ (z : Int) := by omega
        have HN : Hid ((List.range ws.length).any G = true) := by
          rw [Hid, List.any_eq_true]
          exact ⟨k, List.mem_range.2 hlt, by rw [HGk.out, decide_eq_true hzq]⟩
        go_upto_region 6 with fail
        refine wp_region_ext (by kernel_rfl) (by kernel_rfl) hr0 ?_
        repeat (first | go_big_quiet_step (((fail))) | quiet_step (((fail))))
        refine wpQuiet_nil ?_
        rintro _ ⟨nq, rfl⟩
        have hq2 := nq.ok
        go_wp2_with (fail)
        go_ret
        exact ⟨by rw [HN.out]; rfl, HE.out.trans (hr.trans hq2)⟩
      · have hzi : ¬ (Q : Int) ≤ (z : Int) := by omega
        have HN : Hid (∀ j, j < k + 1 → G j = false) := fun j hj => by
          rcases Nat.lt_succ_iff_lt_or_eq.1 hj with h | h
          · exact hh.out j h
          · subst h; rw [HGk.out, decide_eq_false hzq]
        go_upto_region 6 with fail
        refine wp_region_ext (by kernel_rfl) (by kernel_rfl) hr0 ?_
        repeat (first | go_big_quiet_step (((fail))) | quiet_step (((fail))))
        refine wpQuiet_nil ?_
        rintro _ ⟨nq, rfl⟩
        have hq2 := nq.ok
        go_wp2_with (fail)
        go_roundw
        case rel => exact ⟨k + 1, by omega, by go_num, hr.trans hq2, HN⟩
        case measure => simp [intOf]; omega
    · obtain rfl : k = ws.length := by omega
      have HN : Hid ((List.range ws.length).any G = false) := by
        rw [Hid, List.any_eq_false]
        intro j hj
        rw [hh.out j (List.mem_range.1 hj)]; simp
      go_wp2_with (fail)
      go_ret
      exact ⟨by rw [HN.out]; rfl, HE.out.trans hr⟩
end Go.Proofs.YtplbofhgmflnlaaGreat
end
section
/-
  Walks: the reference's Fraction where it is out of bounds.
-/
set_option linter.unusedVariables false
set_option linter.unusedSimpArgs false
namespace Go.Proofs.YtplbofhgmflnlaaGreat
open Go.RowKit
set_option maxHeartbeats 2000000 in
theorem rFraction_no (F : Fr) (w : World) (hno : F.n < 1 ∨ 12 < F.n ∨ 12 < F.ws.length) : Calls Tryz.prog 32 #[frV F] w (Ret (.bool false) w) := by
  obtain ⟨n, ws, wa, wc⟩ := F
  simp only at hno
  by_cases h1 : n < 1
  · clear hno
    go_enter Tryz.func32, Tryz.ntmps32
    go_wp2_with (fail)
    generalize hw1 : World.alloc _ _ = w1
    obtain ⟨he, o1, -⟩ := alloc1 hw1
    obtain ⟨b0, b1⟩ := obj_cells2 o1
    have E1 := Ext.refl w1
    clear hw1 o1
    go_wp2_with (fail)
    go_ret
    exact ⟨rfl, he⟩
  · by_cases h2 : 12 < n
    · clear hno
      go_enter Tryz.func32, Tryz.ntmps32
      go_wp2_with (fail)
      generalize hw1 : World.alloc _ _ = w1
      obtain ⟨he, o1, -⟩ := alloc1 hw1
      obtain ⟨b0, b1⟩ := obj_cells2 o1
      have E1 := Ext.refl w1
      clear hw1 o1
      go_wp2_with (fail)
      go_ret
      exact ⟨rfl, he⟩
    · have h3i : 12 < (ws.length : Int) := by omega
      clear hno
      go_enter Tryz.func32, Tryz.ntmps32
      go_wp2_with (fail)
      generalize hw1 : World.alloc _ _ = w1
      obtain ⟨he, o1, -⟩ := alloc1 hw1
      obtain ⟨b0, b1⟩ := obj_cells2 o1
      have E1 := Ext.refl w1
      clear hw1 o1
      go_wp2_with (fail)
      go_ret
      exact ⟨rfl, he⟩
theorem rFraction_any (F : Fr) (w : World) (h : FrAt w F) (hb : FrB F) : Calls Tryz.prog 32 #[frV F] w (Ret (.bool (checkF F == 0)) w) := by
  by_cases hno : F.n < 1 ∨ 12 < F.n ∨ 12 < F.ws.length
  · have e : checkF F = 2 := by unfold checkF; rw [if_pos hno]
    rw [e]
    exact rFraction_no F w hno
  · have e : checkF F = if F.ws.any (outW F.n.toNat) then 2 else 0 := by unfold checkF; rw [if_neg hno]
    have := rFraction_ok F F.n.toNat w h (by omega) (by omega) (by omega) (by omega) hb.1
    rw [e]
    cases hq : F.ws.any (outW F.n.toNat)
    · rw [hq] at this; exact this
    · rw [hq] at this; exact this
end Go.Proofs.YtplbofhgmflnlaaGreat
end
