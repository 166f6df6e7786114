/-
  Walks: times, byBits.
-/
import Derived.Test.YtplbofhgmflnlaaGreatM30
set_option linter.unusedVariables false
set_option linter.unusedSimpArgs false
namespace Go.Proofs.YtplbofhgmflnlaaGreat
open Go.RowKit
/-- The product of two words. -/
def mulW (x y : Wd) : Wd := ⟨x.mask ^^^ y.mask, x.odd != y.odd⟩
theorem mulW_lt {x y : Wd} (hx : x.mask < 65536) (hy : y.mask < 65536) : (mulW x y).mask < 65536 := by
  have : x.mask ^^^ y.mask < 2 ^ 16 := Nat.xor_lt_two_pow (by omega) (by omega)
  exact this
set_option maxHeartbeats 1000000 in
theorem times_any (x y : Wd) (w : World) (hx : x.mask < 65536) (hy : y.mask < 65536) : Calls Tryz.prog 121 #[wdV x, wdV y] w (Ret (wdV (mulW x y)) w) := by
  obtain ⟨k, o⟩ := x
  obtain ⟨l, q⟩ := y
  obtain ⟨z, hz⟩ : ∃ z, z = k ^^^ l := ⟨_, rfl⟩
  have hxor : bits .xor .u16 (k : Int) (l : Int) = (z : Int) := by rw [hz]; exact bits_xor_u16_nat k l hx hy
  have HR : Hid (mulW ⟨k, o⟩ ⟨l, q⟩ = ⟨z, o != q⟩) := by rw [Hid, mulW, hz]
  rw [HR.out]
  clear hz HR
  go_enter Tryz.func121, Tryz.ntmps121
  go_wp2_with (fail)
  generalize hw1 : World.alloc _ _ = w1
  obtain ⟨he, o1, o2, o3, -⟩ := alloc3 hw1
  obtain ⟨c0, c1⟩ := obj_cells2 o3
  have E1 := Ext.refl w1
  obtain ⟨s, hs⟩ : ∃ s, s = !(o == q) := ⟨_, rfl⟩
  rw [← hs] at c1
  have hw : wdV ⟨z, o != q⟩ = .agg #[.int .u16 (z : Int), .bool s] := by rw [hs]; rfl
  rw [hw]
  refine bodyPost_ret (v := .agg #[.int .u16 (z : Int), .bool s]) (by simp [results, Tryz.results121, go_sem, c0 _ E1, c1 _ E1]) rfl ⟨rfl, he⟩
/-! ### byBits -/
theorem isnan_u16 (x : Int) (w : World) : Calls Tryz.prog 176 #[.int .u16 x] w (fun e w' => e = .returned (.bool false) ∧ w' = w) := by
  go_enter Tryz.func176, Tryz.ntmps176
  go_wp2
  go_ret
  simp
set_option maxHeartbeats 2000000 in
theorem compare_u16 (x y : Int) (w : World) : Calls Tryz.prog 151 #[.int .u16 x, .int .u16 y] w (fun e w' => e = .returned (.int .i64 (Lib.compareInt x y)) ∧ w' = w) := by
  have hn := fun z w => isnan_u16 z w
  go_enter Tryz.func151, Tryz.ntmps151
  go_wp2_with (first | (go_at_call 176; refine (hn _ _).mono ?_; rintro e w' ⟨rfl, hw⟩; rw [hw]))
  all_goals (go_ret; refine ⟨?_, rfl⟩; unfold Lib.compareInt; (repeat' split) <;> first | rfl | (exfalso; omega))
/-- The first of two numbers that is not 0. -/
def or2 (p q : Int) : Int := if p != 0 then p else q
set_option maxHeartbeats 1000000 in
theorem or_any (p q : Int) (b : Nat) (w : World) (c0 : ∀ W, Ext w W → W.cell? ⟨b, 0, none⟩ = some (.int .i64 p)) (c1 : ∀ W, Ext w W → W.cell? ⟨b, 1, none⟩ = some (.int .i64 q)) :
    Calls Tryz.prog 150 #[.slice (some ⟨b, 0, none⟩) 2 2] w (fun e w' => e = .returned (.int .i64 (or2 p q)) ∧ w' = w) := by
  have E := Ext.refl w
  cases T1 : (p != 0)
  · have hor : or2 p q = q := by unfold or2; rw [T1]; rfl
    cases T2 : (q != 0)
    · have hq0 : q = 0 := by simpa using T2
      rw [hor]
      clear hor
      go_enter Tryz.func150, Tryz.ntmps150
      go_wp2_with (fail)
      refine wp_loop_rounds 3 ?_
      rw [rounds_succ]
      go_wp2_with (fail)
      rw [rounds_succ]
      go_wp2_with (fail)
      rw [rounds_succ]
      go_wp2_with (fail)
      go_ret
      exact ⟨by rw [hq0]; rfl, rfl⟩
    · rw [hor]
      clear hor
      go_enter Tryz.func150, Tryz.ntmps150
      go_wp2_with (fail)
      refine wp_loop_rounds 3 ?_
      rw [rounds_succ]
      go_wp2_with (fail)
      rw [rounds_succ]
      go_wp2_with (fail)
      go_ret
      exact ⟨rfl, rfl⟩
  · have hor : or2 p q = p := by unfold or2; rw [T1]; rfl
    rw [hor]
    clear hor
    go_enter Tryz.func150, Tryz.ntmps150
    go_wp2_with (fail)
    refine wp_loop_rounds 3 ?_
    rw [rounds_succ]
    go_wp2_with (fail)
    go_ret
    exact ⟨rfl, rfl⟩
set_option maxRecDepth 100000 in
set_option maxHeartbeats 4000000 in
theorem by_law {ab bb k l p q : Nat} {c d z : Int} {wr : World} (ha0 : ∀ W, Ext wr W → W.cell? ⟨ab, 0, none⟩ = some (.int .u16 (k : Int))) (hb0 : ∀ W, Ext wr W → W.cell? ⟨bb, 0, none⟩ = some (.int .u16 (l : Int))) (HP : Hid (∀ W, Calls Tryz.prog 86 #[.int .u16 (k : Int)] W (fun e w' => e = .returned (.int .i64 (p : Int)) ∧ Gro W w'))) (HQ : Hid (∀ W, Calls Tryz.prog 86 #[.int .u16 (l : Int)] W (fun e w' => e = .returned (.int .i64 (q : Int)) ∧ Gro W w'))) (HC : Hid (∀ W, Calls Tryz.prog 78 #[.int .i64 (p : Int), .int .i64 (q : Int)] W (fun e w' => e = .returned (.int .i64 c) ∧ w' = W))) (HD : Hid (∀ W, Calls Tryz.prog 151 #[.int .u16 (k : Int), .int .u16 (l : Int)] W (fun e w' => e = .returned (.int .i64 d) ∧ w' = W))) (HZ : Hid (∀ W nb, W.heap[nb]? = some (.cells #[.int .i64 c, .int .i64 d] 3 (0, 0)) → Calls Tryz.prog 150 #[.slice (some ⟨nb, 0, none⟩) 2 2] W (fun e w' => e = .returned (.int .i64 z) ∧ w' = W))) {Q : Exit → Act → World → Prop} (aZ : Act) (hsz : aZ.tmps.size = 19) (o2 : aZ.tmps[2]?.getD undef = .pointer (some ⟨ab, 0, none⟩)) (o3 : aZ.tmps[3]?.getD undef = .pointer (some ⟨bb, 0, none⟩))
    (hend : ∀ (vs : Nat → Value) (w9 : World) (ls9 : Nat → Bool), (∀ j : Nat, j < 15 → ls9 j = true) → (Gro wr w9 ∧ (ls9 12 = true → ∃ nb, vs 12 = .slice (some ⟨nb, 0, none⟩) 2 2 ∧ w9.heap[nb]? = some (.cells #[.int .i64 c, .int .i64 d] 3 (0, 0)))) → (vs 0 = .pointer (some ⟨ab, 0, none⟩)) → (vs 1 = .int .u16 (k : Int)) → (vs 2 = .int .i64 (p : Int)) → (vs 3 = .pointer (some ⟨bb, 0, none⟩)) → (vs 4 = .int .u16 (l : Int)) → (vs 5 = .int .i64 (q : Int)) → (vs 6 = .int .i64 c) → (vs 7 = .pointer (some ⟨ab, 0, none⟩)) → (vs 8 = .int .u16 (k : Int)) → (vs 9 = .pointer (some ⟨bb, 0, none⟩)) → (vs 10 = .int .u16 (l : Int)) → (vs 11 = .int .i64 d) → (True) → (vs 13 = .int .i64 z) → (vs 14 = .int .i64 z) → Q .normal (((((((((((((((aZ.put (some 5) (vs 0)).put (some 6) (vs 1)).put (some 7) (vs 2)).put (some 8) (vs 3)).put (some 9) (vs 4)).put (some 10) (vs 5)).put (some 11) (vs 6)).put (some 12) (vs 7)).put (some 13) (vs 8)).put (some 14) (vs 9)).put (some 15) (vs 10)).put (some 16) (vs 11)).put (some 17) (vs 12)).put (some 18) (vs 13)).put (some 4) (vs 14)) w9) : (regOf Tryz.f123 1).wp Tryz.prog Q aZ wr := by
  conv => arg 2; whnf
  refine wp_region_said3 (fun i v wz => match i with
    | 0 => v = .pointer (some ⟨ab, 0, none⟩)
    | 1 => v = .int .u16 (k : Int)
    | 2 => v = .int .i64 (p : Int)
    | 3 => v = .pointer (some ⟨bb, 0, none⟩)
    | 4 => v = .int .u16 (l : Int)
    | 5 => v = .int .i64 (q : Int)
    | 6 => v = .int .i64 c
    | 7 => v = .pointer (some ⟨ab, 0, none⟩)
    | 8 => v = .int .u16 (k : Int)
    | 9 => v = .pointer (some ⟨bb, 0, none⟩)
    | 10 => v = .int .u16 (l : Int)
    | 11 => v = .int .i64 d
    | 12 => True
    | 13 => v = .int .i64 z
    | _ => v = .int .i64 z) (fun ls vs wz => Gro wr wz ∧ (ls 12 = true → ∃ nb, vs 12 = .slice (some ⟨nb, 0, none⟩) 2 2 ∧ wz.heap[nb]? = some (.cells #[.int .i64 c, .int .i64 d] 3 (0, 0)))) (by kernel_rfl) (by kernel_rfl) (by rw [hsz]; kernel_rfl) ?_ ?_ ?_
  · exact ⟨(Gro.refl _).drew, fun e => (by cases e)⟩
  · refine ⟨?_, ?_, ?_, ?_, ?_, ?_, ?_, ?_, ?_, ?_, ?_, ?_, ?_, ?_, ?_, trivial⟩
    · intro ls vs a w1 hi hJ hold hdep hdon hcl K hK
      have q2 : a.tmps[2]?.getD undef = .pointer (some ⟨ab, 0, none⟩) := (hold 2 (by kernel_rfl)).trans o2
      rw [if_pos (by rfl)]
      clear hold hdep hend hdon hcl o2 o3
      have HJ := Lib.hid hJ
      clear hJ
      go_simp
      exact hK _ _ (fun _ _ _ h => h) HJ.out rfl
    · intro ls vs a w1 hi hJ hold hdep hdon hcl K hK
      have q5 : a.tmps[5]?.getD undef = .pointer (some ⟨ab, 0, none⟩) := (hdep 0 5 (by kernel_rfl) (by kernel_rfl)).2.1.trans (hdep 0 5 (by kernel_rfl) (by kernel_rfl)).2.2
      rw [if_pos (by rfl)]
      clear hold hdep hend hdon hcl o2 o3
      have HJ := Lib.hid hJ
      clear hJ
      have hx := HJ.out.1.ext
      go_simp
      exact hK _ _ (fun _ _ _ h => h) HJ.out rfl
    · intro ls vs a w1 hi hJ hold hdep hdon hcl K hK
      have q6 : a.tmps[6]?.getD undef = .int .u16 (k : Int) := (hdep 1 6 (by kernel_rfl) (by kernel_rfl)).2.1.trans (hdep 1 6 (by kernel_rfl) (by kernel_rfl)).2.2
      have hn12 : ls 12 = false := by
        cases e : ls 12 with
        | false => rfl
        | true =>
          replace e := hcl 12 6 e (by kernel_rfl)
          replace e := hcl 6 2 e (by kernel_rfl)
          rw [show ls 2 = false from hi] at e
          cases e
      rw [if_pos (by rfl)]
      clear hold hdep hend hdon hcl o2 o3
      have HJ := Lib.hid hJ
      clear hJ
      obtain ⟨j1, j2⟩ := HJ.out
      go_simp
      go_at_call 86
      (with_reducible refine (HP.out _).mono ?_); rintro e w20 ⟨rfl, he2⟩
      exact hK _ _ (fun _ _ _ h => h) ⟨j1.trans he2, fun e => (by simp [hn12] at e)⟩ rfl
    · intro ls vs a w1 hi hJ hold hdep hdon hcl K hK
      have q3 : a.tmps[3]?.getD undef = .pointer (some ⟨bb, 0, none⟩) := (hold 3 (by kernel_rfl)).trans o3
      rw [if_pos (by rfl)]
      clear hold hdep hend hdon hcl o2 o3
      have HJ := Lib.hid hJ
      clear hJ
      go_simp
      exact hK _ _ (fun _ _ _ h => h) HJ.out rfl
    · intro ls vs a w1 hi hJ hold hdep hdon hcl K hK
      have q8 : a.tmps[8]?.getD undef = .pointer (some ⟨bb, 0, none⟩) := (hdep 3 8 (by kernel_rfl) (by kernel_rfl)).2.1.trans (hdep 3 8 (by kernel_rfl) (by kernel_rfl)).2.2
      rw [if_pos (by rfl)]
      clear hold hdep hend hdon hcl o2 o3
      have HJ := Lib.hid hJ
      clear hJ
      have hx := HJ.out.1.ext
      go_simp
      exact hK _ _ (fun _ _ _ h => h) HJ.out rfl
    · intro ls vs a w1 hi hJ hold hdep hdon hcl K hK
      have q9 : a.tmps[9]?.getD undef = .int .u16 (l : Int) := (hdep 4 9 (by kernel_rfl) (by kernel_rfl)).2.1.trans (hdep 4 9 (by kernel_rfl) (by kernel_rfl)).2.2
      have hn12 : ls 12 = false := by
        cases e : ls 12 with
        | false => rfl
        | true =>
          replace e := hcl 12 6 e (by kernel_rfl)
          replace e := hcl 6 5 e (by kernel_rfl)
          rw [show ls 5 = false from hi] at e
          cases e
      rw [if_pos (by rfl)]
      clear hold hdep hend hdon hcl o2 o3
      have HJ := Lib.hid hJ
      clear hJ
      obtain ⟨j1, j2⟩ := HJ.out
      go_simp
      go_at_call 86
      (with_reducible refine (HQ.out _).mono ?_); rintro e w20 ⟨rfl, he2⟩
      exact hK _ _ (fun _ _ _ h => h) ⟨j1.trans he2, fun e => (by simp [hn12] at e)⟩ rfl
    · intro ls vs a w1 hi hJ hold hdep hdon hcl K hK
      have q7 : a.tmps[7]?.getD undef = .int .i64 (p : Int) := (hdep 2 7 (by kernel_rfl) (by kernel_rfl)).2.1.trans (hdep 2 7 (by kernel_rfl) (by kernel_rfl)).2.2
      have q10 : a.tmps[10]?.getD undef = .int .i64 (q : Int) := (hdep 5 10 (by kernel_rfl) (by kernel_rfl)).2.1.trans (hdep 5 10 (by kernel_rfl) (by kernel_rfl)).2.2
      have hn12 : ls 12 = false := by
        cases e : ls 12 with
        | false => rfl
        | true =>
          replace e := hcl 12 6 e (by kernel_rfl)
          rw [show ls 6 = false from hi] at e
          cases e
      rw [if_pos (by rfl)]
      clear hold hdep hend hdon hcl o2 o3
      have HJ := Lib.hid hJ
      clear hJ
      obtain ⟨j1, j2⟩ := HJ.out
      go_simp
      go_at_call 78
      (with_reducible refine (HC.out _).mono ?_); rintro e w20 ⟨rfl, rfl⟩
      exact hK _ _ (fun _ _ _ h => h) ⟨j1, fun e => (by simp [hn12] at e)⟩ rfl
    · intro ls vs a w1 hi hJ hold hdep hdon hcl K hK
      have q2 : a.tmps[2]?.getD undef = .pointer (some ⟨ab, 0, none⟩) := (hold 2 (by kernel_rfl)).trans o2
      rw [if_pos (by rfl)]
      clear hold hdep hend hdon hcl o2 o3
      have HJ := Lib.hid hJ
      clear hJ
      go_simp
      exact hK _ _ (fun _ _ _ h => h) HJ.out rfl
    · intro ls vs a w1 hi hJ hold hdep hdon hcl K hK
      have q12 : a.tmps[12]?.getD undef = .pointer (some ⟨ab, 0, none⟩) := (hdep 7 12 (by kernel_rfl) (by kernel_rfl)).2.1.trans (hdep 7 12 (by kernel_rfl) (by kernel_rfl)).2.2
      rw [if_pos (by rfl)]
      clear hold hdep hend hdon hcl o2 o3
      have HJ := Lib.hid hJ
      clear hJ
      have hx := HJ.out.1.ext
      go_simp
      exact hK _ _ (fun _ _ _ h => h) HJ.out rfl
    · intro ls vs a w1 hi hJ hold hdep hdon hcl K hK
      have q3 : a.tmps[3]?.getD undef = .pointer (some ⟨bb, 0, none⟩) := (hold 3 (by kernel_rfl)).trans o3
      rw [if_pos (by rfl)]
      clear hold hdep hend hdon hcl o2 o3
      have HJ := Lib.hid hJ
      clear hJ
      go_simp
      exact hK _ _ (fun _ _ _ h => h) HJ.out rfl
    · intro ls vs a w1 hi hJ hold hdep hdon hcl K hK
      have q14 : a.tmps[14]?.getD undef = .pointer (some ⟨bb, 0, none⟩) := (hdep 9 14 (by kernel_rfl) (by kernel_rfl)).2.1.trans (hdep 9 14 (by kernel_rfl) (by kernel_rfl)).2.2
      rw [if_pos (by rfl)]
      clear hold hdep hend hdon hcl o2 o3
      have HJ := Lib.hid hJ
      clear hJ
      have hx := HJ.out.1.ext
      go_simp
      exact hK _ _ (fun _ _ _ h => h) HJ.out rfl
    · intro ls vs a w1 hi hJ hold hdep hdon hcl K hK
      have q13 : a.tmps[13]?.getD undef = .int .u16 (k : Int) := (hdep 8 13 (by kernel_rfl) (by kernel_rfl)).2.1.trans (hdep 8 13 (by kernel_rfl) (by kernel_rfl)).2.2
      have q15 : a.tmps[15]?.getD undef = .int .u16 (l : Int) := (hdep 10 15 (by kernel_rfl) (by kernel_rfl)).2.1.trans (hdep 10 15 (by kernel_rfl) (by kernel_rfl)).2.2
      have hn12 : ls 12 = false := by
        cases e : ls 12 with
        | false => rfl
        | true =>
          replace e := hcl 12 11 e (by kernel_rfl)
          rw [show ls 11 = false from hi] at e
          cases e
      rw [if_pos (by rfl)]
      clear hold hdep hend hdon hcl o2 o3
      have HJ := Lib.hid hJ
      clear hJ
      obtain ⟨j1, j2⟩ := HJ.out
      go_simp
      go_at_call 151
      (with_reducible refine (HD.out _).mono ?_); rintro e w20 ⟨rfl, rfl⟩
      exact hK _ _ (fun _ _ _ h => h) ⟨j1, fun e => (by simp [hn12] at e)⟩ rfl
    · intro ls vs a w1 hi hJ hold hdep hdon hcl K hK
      have q11 : a.tmps[11]?.getD undef = .int .i64 c := (hdep 6 11 (by kernel_rfl) (by kernel_rfl)).2.1.trans (hdep 6 11 (by kernel_rfl) (by kernel_rfl)).2.2
      have q16 : a.tmps[16]?.getD undef = .int .i64 d := (hdep 11 16 (by kernel_rfl) (by kernel_rfl)).2.1.trans (hdep 11 16 (by kernel_rfl) (by kernel_rfl)).2.2
      rw [if_pos (by rfl)]
      clear hold hdep hend hdon hcl o2 o3
      have HJ := Lib.hid hJ
      clear hJ
      obtain ⟨j1, j2⟩ := HJ.out
      go_simp
      exact hK _ _ (fun _ _ _ h => h) ⟨j1.alloc _, fun _ => ⟨_, rfl, heap_new _ _⟩⟩ trivial
    · intro ls vs a w1 hi hJ hold hdep hdon hcl K hK
      obtain ⟨hl12, q17, p17⟩ := hdep 12 17 (by kernel_rfl) (by kernel_rfl)
      have hl12 := hdon 12 (by kernel_rfl)
      rw [if_pos (by rfl)]
      clear hold hdep hend hdon hcl o2 o3
      have HJ := Lib.hid hJ
      clear hJ
      obtain ⟨j1, j2⟩ := HJ.out
      obtain ⟨nb, hv, hb⟩ := j2 hl12
      rw [hv] at q17
      go_simp
      go_at_call 150
      (with_reducible refine (HZ.out _ nb hb).mono ?_); rintro e w20 ⟨rfl, rfl⟩
      exact hK _ _ (fun _ _ _ h => h) ⟨j1, j2⟩ rfl
    · intro ls vs a w1 hi hJ hold hdep hdon hcl K hK
      have q18 : a.tmps[18]?.getD undef = .int .i64 z := (hdep 13 18 (by kernel_rfl) (by kernel_rfl)).2.1.trans (hdep 13 18 (by kernel_rfl) (by kernel_rfl)).2.2
      rw [if_pos (by rfl)]
      clear hold hdep hend hdon hcl o2 o3
      have HJ := Lib.hid hJ
      clear hJ
      go_simp
      exact hK _ _ (fun _ _ _ h => h) HJ.out rfl
  · intro vs w9 ls9 hl9 hJ9 hφ
    have e0 := hφ 0 (by kernel_rfl)
    have e1 := hφ 1 (by kernel_rfl)
    have e2 := hφ 2 (by kernel_rfl)
    have e3 := hφ 3 (by kernel_rfl)
    have e4 := hφ 4 (by kernel_rfl)
    have e5 := hφ 5 (by kernel_rfl)
    have e6 := hφ 6 (by kernel_rfl)
    have e7 := hφ 7 (by kernel_rfl)
    have e8 := hφ 8 (by kernel_rfl)
    have e9 := hφ 9 (by kernel_rfl)
    have e10 := hφ 10 (by kernel_rfl)
    have e11 := hφ 11 (by kernel_rfl)
    have e12 := hφ 12 (by kernel_rfl)
    have e13 := hφ 13 (by kernel_rfl)
    have e14 := hφ 14 (by kernel_rfl)
    have hq := hend vs w9 ls9 hl9 hJ9 e0 e1 e2 e3 e4 e5 e6 e7 e8 e9 e10 e11 e12 e13 e14
    simp only [Act.put] at hq
    simp only [putAll, Act.put]
    exact hq
/-- How words are ordered: by their ones, then by their numbers. -/
def byB (x y : Wd) : Int := or2 (Lib.compareInt (ones x.mask : Int) (ones y.mask : Int)) (Lib.compareInt (x.mask : Int) (y.mask : Int))
set_option maxHeartbeats 2000000 in
theorem byBits_gro (x y : Wd) (w : World) (hx : x.mask < 65536) (hy : y.mask < 65536) : Calls Tryz.prog 123 #[wdV x, wdV y] w (fun e w' => e = .returned (.int .i64 (byB x y)) ∧ Gro w w') := by
  obtain ⟨k, o⟩ := x
  obtain ⟨l, s⟩ := y
  obtain ⟨p, hp⟩ : ∃ p, p = ones k := ⟨_, rfl⟩
  obtain ⟨q, hq⟩ : ∃ q, q = ones l := ⟨_, rfl⟩
  obtain ⟨c, hc⟩ : ∃ c, c = Lib.compareInt (p : Int) (q : Int) := ⟨_, rfl⟩
  obtain ⟨d, hd⟩ : ∃ d, d = Lib.compareInt (k : Int) (l : Int) := ⟨_, rfl⟩
  obtain ⟨z, hz⟩ : ∃ z, z = or2 c d := ⟨_, rfl⟩
  have HP : Hid (∀ W, Calls Tryz.prog 86 #[.int .u16 (k : Int)] W (fun e w' => e = .returned (.int .i64 (p : Int)) ∧ Gro W w')) := fun W => by rw [hp]; exact ones_gro k W hx
  have HQ : Hid (∀ W, Calls Tryz.prog 86 #[.int .u16 (l : Int)] W (fun e w' => e = .returned (.int .i64 (q : Int)) ∧ Gro W w')) := fun W => by rw [hq]; exact ones_gro l W hy
  have HC : Hid (∀ W, Calls Tryz.prog 78 #[.int .i64 (p : Int), .int .i64 (q : Int)] W (fun e w' => e = .returned (.int .i64 c) ∧ w' = W)) := fun W => by rw [hc]; exact compare_int _ _ W
  have HD : Hid (∀ W, Calls Tryz.prog 151 #[.int .u16 (k : Int), .int .u16 (l : Int)] W (fun e w' => e = .returned (.int .i64 d) ∧ w' = W)) := fun W => by rw [hd]; exact compare_u16 _ _ W
  have HZ : Hid (∀ W nb, W.heap[nb]? = some (.cells #[.int .i64 c, .int .i64 d] 3 (0, 0)) → Calls Tryz.prog 150 #[.slice (some ⟨nb, 0, none⟩) 2 2] W (fun e w' => e = .returned (.int .i64 z) ∧ w' = W)) := fun W nb h => by
    obtain ⟨c0, c1⟩ := obj_cells2 h
    rw [hz]; exact or_any c d nb W c0 c1
  have HR : Hid (byB ⟨k, o⟩ ⟨l, s⟩ = z) := by rw [Hid, hz, hc, hd, hp, hq]; rfl
  rw [HR.out]
  clear hp hq hc hd hz HR hx hy
  go_enter Tryz.func123, Tryz.ntmps123
  go_upto_region 1 with fail
  have hg0 : Gro w ((w.alloc (.cells #[.int .u16 (k : Int), .bool o] 75)).alloc (.cells #[.int .u16 (l : Int), .bool s] 75)) := ((Gro.refl w).alloc _).alloc _
  generalize hw1 : World.alloc (World.alloc w _) _ = w1 at hg0 ⊢
  obtain ⟨he, o1, o2, -⟩ := alloc2 hw1
  have ha0 := (obj_cells2 o1).1
  have hb0 := (obj_cells2 o2).1
  have HG := Lib.hid hg0
  clear hw1 he o1 o2 hg0
  refine by_law ha0 hb0 HP HQ HC HD HZ _ (by rfl) rfl rfl ?_
  intro vs w9 ls9 hl9 hJ9 e0 e1 e2 e3 e4 e5 e6 e7 e8 e9 e10 e11 e12 e13 e14
  simp only [Act.put, List.setIfInBounds_toArray, List.set_cons_zero, List.set_cons_succ]
  rw [e0, e1, e2, e3, e4, e5, e6, e7, e8, e9, e10, e11, e13, e14]
  have hx9 : Gro w w9 := HG.out.trans hJ9.1
  clear hJ9 hl9 e0 e1 e2 e3 e4 e5 e6 e7 e8 e9 e10 e11 e12 e13 e14
  go_wp2_with (fail)
  go_ret
  exact ⟨rfl, hx9⟩
end Go.Proofs.YtplbofhgmflnlaaGreat
