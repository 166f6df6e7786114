/-
  Copies of lists of any length; plans that are given; HallChanges' closure.
-/
import Derived.Test.YtjpgignbjkgjiaaR6
import Derived.Test.YtjpgignbjkgjiaaP18
set_option linter.unusedVariables false
set_option linter.unusedSimpArgs false
namespace Go.Proofs.Ytjpgignbjkgjiaa
open Go.RowKit
attribute [local go_sem ↓] Go.wp_at_zero Go.wp_at_succ
/-- 'append(v, x...)' at []int, as long as memory reaches. -/
theorem app_ints2 (w : World) (B : Nat) (ty : TypeId) (v : Value) (xs ys : List Int) (a : Option Addr) (c : Nat) (hv : OwnI w B v xs) (hx : Ints w a ys) (hn : (xs.length + ys.length) * 8 ≤ 140737488355328) (hB : B ≤ w.heap.size) :
    ∃ v' w', (Builtin.append_ #[22, 22] ty #[v, .slice a ys.length c]).run Try.prog w = .ok v' w' ∧ OwnI w' B v' (xs ++ ys) ∧ w.grownBy w' v.ownBlock := by
  obtain ⟨i0, hi, hz0, hz1, hz2⟩ := info_parts info3
  obtain ⟨v', w', h1, h2, h3⟩ := run_app w B 22 ty 3 i0 (.int .i64 0) 1 8 Try.underlying22 hi hz0 hz1 hz2 rfl (by omega) v xs.length (rowI xs) hv a ys.length c (rowI ys) (by rw [rowI_len]; omega) hx.src (rowI_one ys) (by unfold maxLen; omega) hn hB
  refine ⟨v', w', h1, ?_, h3⟩
  unfold OwnI
  rw [List.length_append]
  have e : rowI (xs ++ ys) = rowI xs ++ rowI ys := by simp [rowI]
  rw [e]
  exact h2
theorem ints_big (a : Option Addr) (n c : Nat) (xs : List Int) (w : World) (hx : Ints w a xs) (hxn : xs.length = n) (hn : xs.length * 8 ≤ 140737488351232) :
    Calls Try.prog 17 #[.slice a n c] w (RetI xs w) := by
  subst hxn
  have happ := app_ints2 (w.alloc (.cells #[] 3)) w.heap.size 22 _ [] xs a c (own_empty w 3 1) (hx.ext ((Ext.refl w).alloc _)) (by simp; omega) (by simp)
  have HA := Lib.hid happ
  clear hx hn happ
  go_enter Try.func17, Try.ntmps17
  go_wp2_with (at_builtin; refine wpList_app _ rfl _ _ 22 rfl _ HA.out ?_; rintro v' w' ⟨hv, hg⟩)
  obtain ⟨a', n', c', rfl⟩ := own_slice hv
  obtain ⟨-, hn', -⟩ := hv.ints
  go_ret
  refine ⟨a', c', by rw [hn']; rfl, grown_ext ((Ext.refl w).alloc _) hg (by simp [Value.ownBlock]), ?_⟩
  rw [hn'] at hv
  exact hv
theorem obj_cells10 {w : World} {b : Nat} {v0 v1 v2 v3 v4 v5 v6 v7 v8 v9 : Value} {T : TypeId} {fz : Nat × Nat} (h : w.heap[b]? = some (.cells #[v0, v1, v2, v3, v4, v5, v6, v7, v8, v9] T fz)) :
    (∀ W, Ext w W → W.cell? ⟨b, 0, none⟩ = some v0) ∧ (∀ W, Ext w W → W.cell? ⟨b, 1, none⟩ = some v1) ∧ (∀ W, Ext w W → W.cell? ⟨b, 2, none⟩ = some v2) ∧ (∀ W, Ext w W → W.cell? ⟨b, 3, none⟩ = some v3) ∧
    (∀ W, Ext w W → W.cell? ⟨b, 4, none⟩ = some v4) ∧ (∀ W, Ext w W → W.cell? ⟨b, 5, none⟩ = some v5) ∧ (∀ W, Ext w W → W.cell? ⟨b, 6, none⟩ = some v6) ∧ (∀ W, Ext w W → W.cell? ⟨b, 7, none⟩ = some v7) ∧
    (∀ W, Ext w W → W.cell? ⟨b, 8, none⟩ = some v8) ∧ (∀ W, Ext w W → W.cell? ⟨b, 9, none⟩ = some v9) :=
  let ⟨h0, h1, h2, h3, h4, h5, h6, h7, h8, h9, _⟩ := obj_cells h
  ⟨h0, h1, h2, h3, h4, h5, h6, h7, h8, h9⟩
/-- Plans that are given, each where it lies. -/
def Pls (w : World) (a : Option Addr) (P : List (List Int)) : Prop :=
  P = [] ∨ ∃ b o, a = some ⟨b, o, none⟩ ∧ ∀ i, i < P.length → ∃ pa pc, w.cell? ⟨b, o + i, none⟩ = some (.slice pa (lth P i).length pc) ∧ Ints w pa (lth P i)
theorem Pls.at {w : World} {a : Option Addr} {P : List (List Int)} (h : Pls w a P) (i : Nat) (hi : i < P.length) :
    ∃ b o pa pc, a = some ⟨b, o, none⟩ ∧ (∀ W, Ext w W → W.cell? ⟨b, o + i, none⟩ = some (.slice pa (lth P i).length pc)) ∧ Ints w pa (lth P i) := by
  rcases h with rfl | ⟨b, o, h1, h2⟩
  · simp at hi
  · obtain ⟨pa, pc, h3, h4⟩ := h2 i hi
    exact ⟨b, o, pa, pc, h1, fun W e => e.cell h3, h4⟩
set_option maxHeartbeats 2000000 in
theorem stays_any (lb ab : Nat) (n : Int) (l : List Camp) (la : Option Addr) (lc : Nat) (p q : List Int) (pa qa : Option Addr) (pc qc : Nat) (now : Int) (w : World) (hl : Camps w la l) (hp : Ints w pa p) (hq : Ints w qa q)
    (hpl : p.length = l.length) (hql : q.length = l.length) (hln : l.length ≤ 16) (h0 : 0 ≤ now) (h1 : now ≤ 1000) (hc : ∀ i, i < l.length → 0 ≤ (cth l i).pr ∧ (cth l i).pr ≤ 24)
    (s0 : ∀ W, Ext w W → W.cell? ⟨lb, 0, none⟩ = some (.slice la l.length lc)) (t0 : ∀ W, Ext w W → W.cell? ⟨ab, 0, none⟩ = some (.slice pa p.length pc)) (t1 : ∀ W, Ext w W → W.cell? ⟨ab, 1, none⟩ = some (.int .i64 now)) :
    Calls Try.prog 38 #[.slice qa q.length qc, .pointer (some ⟨lb, 0, none⟩), .pointer (some ⟨ab, 0, none⟩)] w (Ret (.bool (staysB l p now q)) w) := by
  have HC := Lib.hid hc
  rw [hpl] at t0
  rw [hql]
  clear hc
  go_enter Try.func38, Try.ntmps38
  go_wp2_with (fail)
  go_loopw [5] (fun i wr => ∃ k : Nat, k ≤ l.length ∧ i = .int .i64 k ∧ Ext w wr ∧ Hid (∀ j, j < k → movesQ l p now q j = false)) (fun i _ => l.length - (intOf i).toNat)
  case atStart => exact ⟨0, Nat.zero_le _, rfl, Ext.refl _, fun j hj => by omega⟩
  case round =>
    obtain ⟨k, hk, rfl, hr, hf⟩ := hrel
    by_cases hlt : k < l.length
    · obtain ⟨b1, o1, rfl, p0⟩ := hp.at k (by omega)
      obtain ⟨b2, o2, rfl, q0⟩ := hq.at k (by omega)
      obtain ⟨b3, o3, rfl, c0, c1, c2, c3, c4, c5, c6⟩ := hl.at k (by omega)
      have hck := HC.out k hlt
      obtain ⟨hc0, hc1⟩ := hck
      clear c0 c2 c3 c4 c5 c6
      have hM : movesQ l p now q k = if nth p k < now + (cth l k).pr then !(nth q k == nth p k) else decide (nth q k < now + (cth l k).pr) := rfl
      have HM := Lib.hid hM
      clear hM
      have hwrap : IntKind.i64.wrap (now + (cth l k).pr) = now + (cth l k).pr := IntWalk.i64_in _ (by omega)
      have HW := Lib.hid hwrap
      cases T1 : decide (nth p k < now + (cth l k).pr)
      · have T1' : ¬ nth p k < now + (cth l k).pr := by simpa using T1
        have HM1 : Hid (movesQ l p now q k = decide (nth q k < now + (cth l k).pr)) := by rw [Hid, HM.out, if_neg T1']
        clear T1'
        cases T2 : decide (nth q k < now + (cth l k).pr)
        · have T3 : Hid (∀ j, j < k + 1 → movesQ l p now q j = false) := all_lt_succ hf.out (by rw [HM1.out, T2])
          go_wp2_with (fail)
          iterate 2
            refine wp_region_ext (by kernel_rfl) (by kernel_rfl) (by with_reducible assumption) ?_
            repeat (first | go_big_quiet_step (fail) | quiet_step (fail))
            refine wpQuiet_nil ?_
            rintro _ ⟨nq, rfl⟩
            have hqq := nq.ok
            go_wp2_with (fail)
          go_roundw
          case rel => exact ⟨k + 1, by omega, by go_num, by with_reducible assumption, T3⟩
          case measure => simp [intOf]; omega
        · have T3 : Hid (staysB l p now q = false) := stays_no hlt (by rw [HM1.out, T2]) hf.out
          go_wp2_with (fail)
          iterate 2
            refine wp_region_ext (by kernel_rfl) (by kernel_rfl) (by with_reducible assumption) ?_
            repeat (first | go_big_quiet_step (fail) | quiet_step (fail))
            refine wpQuiet_nil ?_
            rintro _ ⟨nq, rfl⟩
            have hqq := nq.ok
            go_wp2_with (fail)
          go_ret
          exact ⟨by rw [T3.out]; rfl, by with_reducible assumption⟩
      · have T1' : nth p k < now + (cth l k).pr := by simpa using T1
        have HM1 : Hid (movesQ l p now q k = !(nth q k == nth p k)) := by rw [Hid, HM.out, if_pos T1']
        clear T1'
        cases T2 : (nth q k != nth p k)
        · have T3 : Hid (∀ j, j < k + 1 → movesQ l p now q j = false) := all_lt_succ hf.out (by rw [HM1.out]; exact T2)
          go_wp2_with (fail)
          iterate 2
            refine wp_region_ext (by kernel_rfl) (by kernel_rfl) (by with_reducible assumption) ?_
            repeat (first | go_big_quiet_step (fail) | quiet_step (fail))
            refine wpQuiet_nil ?_
            rintro _ ⟨nq, rfl⟩
            have hqq := nq.ok
            go_wp2_with (fail)
          go_roundw
          case rel => exact ⟨k + 1, by omega, by go_num, by with_reducible assumption, T3⟩
          case measure => simp [intOf]; omega
        · have T3 : Hid (staysB l p now q = false) := stays_no hlt (by rw [HM1.out]; exact T2) hf.out
          go_wp2_with (fail)
          iterate 2
            refine wp_region_ext (by kernel_rfl) (by kernel_rfl) (by with_reducible assumption) ?_
            repeat (first | go_big_quiet_step (fail) | quiet_step (fail))
            refine wpQuiet_nil ?_
            rintro _ ⟨nq, rfl⟩
            have hqq := nq.ok
            go_wp2_with (fail)
          go_ret
          exact ⟨by rw [T3.out]; rfl, by with_reducible assumption⟩
    · obtain rfl : k = l.length := by omega
      have H2 : Hid (staysB l p now q = true) := stays_yes hf.out
      go_wp2_with (fail)
      go_ret
      exact ⟨by rw [H2.out]; rfl, hr⟩
end Go.Proofs.Ytjpgignbjkgjiaa
