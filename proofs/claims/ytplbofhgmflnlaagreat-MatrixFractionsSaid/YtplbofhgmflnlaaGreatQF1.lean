/-
  A region of MatrixFractions: a fraction with words of its own.
-/
import Derived.Test.YtplbofhgmflnlaaGreatQD
set_option linter.unusedVariables false
set_option linter.unusedSimpArgs false
namespace Go.Proofs.YtplbofhgmflnlaaGreat
open Go.RowKit
theorem app_wdO (w : World) (B : Nat) (ty : TypeId) (v : Value) (xs ys : List Wd) (a : Option Addr) (c : Nat) (hv : OwnW w B v xs) (hx : Wds w a ys) (hn : xs.length + ys.length ≤ 1000000) (hB : B ≤ w.heap.size) :
    ∃ v' w', (Builtin.append_ #[56, 56] ty #[v, .slice a ys.length c]).run Tryz.prog w = .ok v' w' ∧ OwnW w' B v' (xs ++ ys) ∧ w.grownBy w' v.ownBlock := by
  obtain ⟨i0, hi, hz0, hz1, hz2⟩ := info_parts info75
  exact app_row wdC_len wdC_one Tryz.underlying56 hi hz0 hz1 hz2 rfl (by omega) (by omega) w B ty v xs ys a c hv hx hn hB
set_option maxRecDepth 100000 in
set_option maxHeartbeats 4000000 in
theorem fr_law {fb lc : Nat} {fn : Int} {la : Option Addr} {ws : List Wd} {wr : World} (HC0 : Hid (∀ W, Ext wr W → W.cell? ⟨fb, 0, none⟩ = some (.int .i64 fn))) (HC1 : Hid (∀ W, Ext wr W → W.cell? ⟨fb, 1, none⟩ = some (.slice la ws.length lc))) (HI : Hid (Wds wr la ws ∧ ws.length ≤ 100000)) {Q : Exit → Act → World → Prop} (aZ : Act) (hsz : aZ.tmps.size = 218) (o2 : aZ.tmps[2]?.getD undef = .pointer (some ⟨fb, 0, none⟩))
    (hend : ∀ (vs : Nat → Value) (w9 : World) (ls9 : Nat → Bool), (∀ j : Nat, j < 9 → ls9 j = true) → (Ext wr w9 ∧ (ls9 2 = true → ls9 5 = false → ∃ g, vs 2 = .slice (some ⟨g, 0, none⟩) 0 0 ∧ wr.heap.size ≤ g ∧ w9.heap[g]? = some (.cells #[] 75 (0, 0))) ∧ (ls9 5 = true → ∃ a c, vs 5 = .slice a ws.length c ∧ OwnW w9 wr.heap.size (.slice a ws.length c) ws) ∧ (ls9 6 = true → ∃ a c, vs 5 = .slice a ws.length c ∧ vs 6 = .agg #[.int .i64 fn, .slice a ws.length c] ∧ ls9 5 = true) ∧ (ls9 7 = true → ls9 8 = false → ∃ b, vs 7 = .pointer (some ⟨b, 0, none⟩) ∧ wr.heap.size ≤ b ∧ w9.heap[b]? = some (.cells #[.int .i64 0, .slice none 0 0] 58 (0, 0))) ∧ (ls9 8 = true → ∃ b a c, vs 7 = .pointer (some ⟨b, 0, none⟩) ∧ vs 5 = .slice a ws.length c ∧ vs 6 = .agg #[.int .i64 fn, .slice a ws.length c] ∧ w9.heap[b]? = some (.cells #[.int .i64 fn, .slice a ws.length c] 58 (0, 0)) ∧ Wds w9 a ws)) → (vs 0 = .pointer (some ⟨fb, 0, none⟩)) → (vs 1 = .int .i64 fn) → (True) → (vs 3 = .pointer (some ⟨fb, 1, none⟩)) → (vs 4 = .slice la ws.length lc) → (True) → (True) → (True) → Q .normal ((((((((aZ.put (some 25) (vs 0)).put (some 26) (vs 1)).put (some 27) (vs 2)).put (some 28) (vs 3)).put (some 29) (vs 4)).put (some 30) (vs 5)).put (some 31) (vs 6)).put (some 5) (vs 7)) w9) : (regOf Tryz.f6 3).wp Tryz.prog Q aZ wr := by
  conv => arg 2; whnf
  refine wp_region_said3 (fun i v wz => match i with
    | 0 => v = .pointer (some ⟨fb, 0, none⟩)
    | 1 => v = .int .i64 fn
    | 2 => True
    | 3 => v = .pointer (some ⟨fb, 1, none⟩)
    | 4 => v = .slice la ws.length lc
    | 5 => True
    | 6 => True
    | 7 => True
    | _ => True) (fun ls vs wz => Ext wr wz ∧ (ls 2 = true → ls 5 = false → ∃ g, vs 2 = .slice (some ⟨g, 0, none⟩) 0 0 ∧ wr.heap.size ≤ g ∧ wz.heap[g]? = some (.cells #[] 75 (0, 0))) ∧ (ls 5 = true → ∃ a c, vs 5 = .slice a ws.length c ∧ OwnW wz wr.heap.size (.slice a ws.length c) ws) ∧ (ls 6 = true → ∃ a c, vs 5 = .slice a ws.length c ∧ vs 6 = .agg #[.int .i64 fn, .slice a ws.length c] ∧ ls 5 = true) ∧ (ls 7 = true → ls 8 = false → ∃ b, vs 7 = .pointer (some ⟨b, 0, none⟩) ∧ wr.heap.size ≤ b ∧ wz.heap[b]? = some (.cells #[.int .i64 0, .slice none 0 0] 58 (0, 0))) ∧ (ls 8 = true → ∃ b a c, vs 7 = .pointer (some ⟨b, 0, none⟩) ∧ vs 5 = .slice a ws.length c ∧ vs 6 = .agg #[.int .i64 fn, .slice a ws.length c] ∧ wz.heap[b]? = some (.cells #[.int .i64 fn, .slice a ws.length c] 58 (0, 0)) ∧ Wds wz a ws)) (by kernel_rfl) (by kernel_rfl) (by rw [hsz]; kernel_rfl) ?_ ?_ ?_
  · exact ⟨(Ext.refl _).drew, fun e => (by cases e), fun e => (by cases e), fun e => (by cases e), fun e => (by cases e), fun e => (by cases e)⟩
  · refine ⟨?_, ?_, ?_, ?_, ?_, ?_, ?_, ?_, ?_, trivial⟩
    · intro ls vs a w1 hi hJ hold hdep hdon hcl K hK
      have q2 : a.tmps[2]?.getD undef = .pointer (some ⟨fb, 0, none⟩) := (hold 2 (by kernel_rfl)).trans o2
      rw [if_pos (by rfl)]
      clear hold hdep hend hdon hcl o2
      have HJ := Lib.hid hJ
      clear hJ
      go_simp
      exact hK _ _ (fun _ _ _ h => h) HJ.out rfl
    · intro ls vs a w1 hi hJ hold hdep hdon hcl K hK
      have q25 : a.tmps[25]?.getD undef = .pointer (some ⟨fb, 0, none⟩) := (hdep 0 25 (by kernel_rfl) (by kernel_rfl)).2.1.trans (hdep 0 25 (by kernel_rfl) (by kernel_rfl)).2.2
      rw [if_pos (by rfl)]
      clear hold hdep hend hdon hcl o2
      have HJ := Lib.hid hJ
      clear hJ
      have c7 := HC0.out w1 HJ.out.1
      go_simp
      exact hK _ _ (fun _ _ _ h => h) HJ.out rfl
    · intro ls vs a w1 hi hJ hold hdep hdon hcl K hK
      have hn5 : ls 5 = false := by
        cases e : ls 5 with
        | false => rfl
        | true =>
          replace e := hcl 5 2 e (by kernel_rfl)
          rw [show ls 2 = false from hi] at e
          cases e
      have hn6 : ls 6 = false := by
        cases e : ls 6 with
        | false => rfl
        | true =>
          replace e := hcl 6 5 e (by kernel_rfl)
          replace e := hcl 5 2 e (by kernel_rfl)
          rw [show ls 2 = false from hi] at e
          cases e
      have hn8 : ls 8 = false := by
        cases e : ls 8 with
        | false => rfl
        | true =>
          replace e := hcl 8 2 e (by kernel_rfl)
          rw [show ls 2 = false from hi] at e
          cases e
      rw [if_pos (by rfl)]
      clear hold hdep hend hdon hcl o2
      have HJ := Lib.hid hJ
      clear hJ
      obtain ⟨j1, j2, j5, j6, j7, j8⟩ := HJ.out
      go_simp
      have hx := (Ext.refl w1).alloc (.cells #[] 75)
      refine hK _ _ (fun _ _ _ h => h) ⟨j1.trans hx, fun _ _ => ⟨_, rfl, j1.size, heap_new _ _⟩, fun e => (by simp [hn5] at e), fun e => (by simp [hn6] at e), fun e e2 => ?_, fun e => (by simp [hn8] at e)⟩ trivial
      obtain ⟨b, h1, h2, h3⟩ := j7 (by simpa using e) hn8
      exact ⟨b, by simpa using h1, h2, hx.block h3⟩
    · intro ls vs a w1 hi hJ hold hdep hdon hcl K hK
      have q2 : a.tmps[2]?.getD undef = .pointer (some ⟨fb, 0, none⟩) := (hold 2 (by kernel_rfl)).trans o2
      rw [if_pos (by rfl)]
      clear hold hdep hend hdon hcl o2
      have HJ := Lib.hid hJ
      clear hJ
      go_simp
      exact hK _ _ (fun _ _ _ h => h) HJ.out rfl
    · intro ls vs a w1 hi hJ hold hdep hdon hcl K hK
      have q28 : a.tmps[28]?.getD undef = .pointer (some ⟨fb, 1, none⟩) := (hdep 3 28 (by kernel_rfl) (by kernel_rfl)).2.1.trans (hdep 3 28 (by kernel_rfl) (by kernel_rfl)).2.2
      rw [if_pos (by rfl)]
      clear hold hdep hend hdon hcl o2
      have HJ := Lib.hid hJ
      clear hJ
      have c7 := HC1.out w1 HJ.out.1
      go_simp
      exact hK _ _ (fun _ _ _ h => h) HJ.out rfl
    · intro ls vs a w1 hi hJ hold hdep hdon hcl K hK
      obtain ⟨hl2, q27, p27⟩ := hdep 2 27 (by kernel_rfl) (by kernel_rfl)
      have q29 : a.tmps[29]?.getD undef = .slice la ws.length lc := (hdep 4 29 (by kernel_rfl) (by kernel_rfl)).2.1.trans (hdep 4 29 (by kernel_rfl) (by kernel_rfl)).2.2
      have hn6 : ls 6 = false := by
        cases e : ls 6 with
        | false => rfl
        | true =>
          replace e := hcl 6 5 e (by kernel_rfl)
          rw [show ls 5 = false from hi] at e
          cases e
      have hn8 : ls 8 = false := by
        cases e : ls 8 with
        | false => rfl
        | true =>
          replace e := hcl 8 5 e (by kernel_rfl)
          rw [show ls 5 = false from hi] at e
          cases e
      have hl2 := hdon 2 (by kernel_rfl)
      have hl4 := hdon 4 (by kernel_rfl)
      clear hold hdep hend hdon o2
      have HJ := Lib.hid hJ
      clear hJ
      obtain ⟨j1, j2, j5, j6, j7, j8⟩ := HJ.out
      obtain ⟨g, hv, hg1, hg2⟩ := j2 hl2 hi
      rw [hv] at q27
      have ho : OwnW w1 wr.heap.size (.slice (some ⟨g, 0, none⟩) 0 0) [] := ownsRow_empty hg2 hg1
      obtain ⟨v', w', r1', r2', r3'⟩ := app_wdO w1 wr.heap.size 56 (.slice (some ⟨g, 0, none⟩) 0 0) [] ws la lc ho (RowAt.ext wdC_len HI.out.1 j1) (by have := HI.out.2; simp; omega) j1.size
      rw [List.nil_append] at r2'
      refine step_app (by rfl) (.tmp 27) (.tmp 29) 56 (by rfl) _ _ (by simpa [Act.eval, Array.getD_eq_getD_getElem?] using q27) (by simpa [Act.eval, Array.getD_eq_getD_getElem?] using q29) (fun v3 w3 => v3 = v' ∧ w3 = w') ⟨_, _, r1', rfl, rfl⟩ ?_
      rintro v3 w3 ⟨rfl, rfl⟩
      obtain ⟨a', c', rfl⟩ := ownF_slice r2'
      refine hK _ _ (fun _ _ _ h => h) ⟨grown_ext (v := .slice (some ⟨g, 0, none⟩) 0 0) j1 r3' (fun k hk => by simp only [Value.ownBlock, Option.some.injEq] at hk; omega), fun _ e => (by simp at e), fun _ => ⟨a', c', rfl, r2'⟩, fun e => (by simp [hn6] at e), fun e e2 => ?_, fun e => (by simp [hn8] at e)⟩ trivial
      obtain ⟨b, h1, h2, h3⟩ := j7 (by simpa using e) hn8
      refine ⟨b, by simpa using h1, h2, ?_⟩
      rw [r3'.block b (lt_of_block h3) (fun e => by
        simp only [Value.ownBlock, Option.some.injEq] at e
        subst e
        rw [hg2] at h3
        simp at h3)]
      exact h3
    · intro ls vs a w1 hi hJ hold hdep hdon hcl K hK
      have q26 : a.tmps[26]?.getD undef = .int .i64 fn := (hdep 1 26 (by kernel_rfl) (by kernel_rfl)).2.1.trans (hdep 1 26 (by kernel_rfl) (by kernel_rfl)).2.2
      obtain ⟨hl5, q30, p30⟩ := hdep 5 30 (by kernel_rfl) (by kernel_rfl)
      have hn8 : ls 8 = false := by
        cases e : ls 8 with
        | false => rfl
        | true =>
          replace e := hcl 8 6 e (by kernel_rfl)
          rw [show ls 6 = false from hi] at e
          cases e
      have hl1 := hdon 1 (by kernel_rfl)
      have hl5 := hdon 5 (by kernel_rfl)
      rw [if_pos (by rfl)]
      clear hold hdep hend hdon hcl o2
      have HJ := Lib.hid hJ
      clear hJ
      obtain ⟨j1, j2, j5, j6, j7, j8⟩ := HJ.out
      obtain ⟨a5, c5, hv5, ho5⟩ := j5 hl5
      rw [hv5] at q30
      go_simp
      exact hK _ _ (fun _ _ _ h => h) ⟨j1, j2, j5, fun _ => ⟨a5, c5, hv5, rfl, hl5⟩, j7, fun e => (by simp [hn8] at e)⟩ trivial
    · intro ls vs a w1 hi hJ hold hdep hdon hcl K hK
      have hn8 : ls 8 = false := by
        cases e : ls 8 with
        | false => rfl
        | true =>
          replace e := hcl 8 7 e (by kernel_rfl)
          rw [show ls 7 = false from hi] at e
          cases e
      rw [if_pos (by rfl)]
      clear hold hdep hend hdon hcl o2
      have HJ := Lib.hid hJ
      clear hJ
      obtain ⟨j1, j2, j5, j6, j7, j8⟩ := HJ.out
      go_simp
      have hx := (Ext.refl w1).alloc (.cells #[.int .i64 0, .slice none 0 0] 58)
      refine hK _ _ (fun _ _ _ h => h) ⟨j1.trans hx, fun e e2 => ?_, fun e => ?_, j6, fun _ _ => ⟨_, rfl, j1.size, heap_new _ _⟩, fun e => (by simp [hn8] at e)⟩ trivial
      · obtain ⟨g, h1, h2, h3⟩ := j2 (by simpa using e) (by simpa using e2)
        exact ⟨g, by simpa using h1, h2, hx.block h3⟩
      · obtain ⟨a5, c5, h1, h2⟩ := j5 (by simpa using e)
        exact ⟨a5, c5, by simpa using h1, OwnF.ext h2 hx⟩
    · intro ls vs a w1 hi hJ hold hdep hdon hcl K hK
      obtain ⟨hl7, q5, p5⟩ := hdep 7 5 (by kernel_rfl) (by kernel_rfl)
      obtain ⟨hl6, q31, p31⟩ := hdep 6 31 (by kernel_rfl) (by kernel_rfl)
      have hl6 := hdon 6 (by kernel_rfl)
      have hl7 := hdon 7 (by kernel_rfl)
      rw [if_pos (by rfl)]
      clear hold hdep hend hdon hcl o2
      have HJ := Lib.hid hJ
      clear hJ
      obtain ⟨j1, j2, j5, j6, j7, j8⟩ := HJ.out
      obtain ⟨a5, c5, hv5, hv6, hl5⟩ := j6 hl6
      obtain ⟨a5', c5', hv5', ho5⟩ := j5 hl5
      rw [hv5] at hv5'
      simp only [Value.slice.injEq, true_and] at hv5'
      obtain ⟨rfl, rfl⟩ := hv5'
      obtain ⟨b, hv7, hb1, hb2⟩ := j7 hl7 hi
      rw [hv6] at q31
      rw [hv7] at q5
      obtain ⟨c7, c8⟩ := obj_cells2 hb2
      have fz := obj_free hb2
      have E1 := Ext.refl w1
      have c7' := c7 w1 E1
      have c8' := c8 w1 E1
      have f0 := fz w1 E1 0
      have f1 := fz w1 E1 1
      have hx8 : Ext wr ((w1.setCell ⟨b, 0, none⟩ (.int .i64 fn)).setCell ⟨b, 1, none⟩ (.slice a5 ws.length c5)) := (j1.set hb1 _).set hb1 _
      have hb8 : ((w1.setCell ⟨b, 0, none⟩ (.int .i64 fn)).setCell ⟨b, 1, none⟩ (.slice a5 ws.length c5)).heap[b]? = some (.cells #[.int .i64 fn, .slice a5 ws.length c5] 58 (0, 0)) := block_set (block_set hb2 0 (.int .i64 fn)) 1 (.slice a5 ws.length c5)
      have hne := own_type_ne ho5 hb2 (by decide)
      have ho8 : OwnW ((w1.setCell ⟨b, 0, none⟩ (.int .i64 fn)).setCell ⟨b, 1, none⟩ (.slice a5 ws.length c5)) wr.heap.size (.slice a5 ws.length c5) ws := own_of_block ho5 fun k hk => (((ExtX.refl b w1).set 0 (.int .i64 fn)).set 1 (.slice a5 ws.length c5)).block k (ho5.lt k hk).2 (fun e => hne (by rw [hk, e]))
      have hw8 := RowAt.own wdC_len ho8
      clear c7 c8 fz
      go_simp
      exact hK undef _ (fun _ _ _ h => h) ⟨hx8, fun _ e => (by simp [hl5] at e), fun _ => ⟨a5, c5, hv5, ho8⟩, fun _ => ⟨a5, c5, hv5, hv6, hl5⟩, fun _ e => (by simp at e), fun _ => ⟨b, a5, c5, hv7, hv5, hv6, hb8, hw8⟩⟩ trivial
  · intro vs w9 ls9 hl9 hJ9 hφ
    have e0 := hφ 0 (by kernel_rfl)
    have e1 := hφ 1 (by kernel_rfl)
    have e2 := hφ 2 (by kernel_rfl)
    have e3 := hφ 3 (by kernel_rfl)
    have e4 := hφ 4 (by kernel_rfl)
    have e5 := hφ 5 (by kernel_rfl)
    have e6 := hφ 6 (by kernel_rfl)
    have e7 := hφ 7 (by kernel_rfl)
    have hq := hend vs w9 ls9 hl9 hJ9 e0 e1 e2 e3 e4 e5 e6 e7
    simp only [Act.put] at hq
    simp only [putAll, Act.put]
    exact hq
end Go.Proofs.YtplbofhgmflnlaaGreat
