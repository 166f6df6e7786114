/-
  A region of the reference's Cheapest: one setting more at the end of a beginning.
-/
import Derived.Test.YtplbofhgmflnlaaGreatCH1
set_option linter.unusedVariables false
set_option linter.unusedSimpArgs false
namespace Go.Proofs.YtplbofhgmflnlaaGreat
open Go.RowKit
set_option maxRecDepth 100000 in
set_option maxHeartbeats 4000000 in
theorem ch_law {bq n lc sc : Nat} {la sa : Option Addr} {xs rs : List Int} {F G : Value} {z : Int} {wr : World} (HC0 : Hid (∀ W, Ext wr W → W.cell? ⟨bq, 0, none⟩ = some F)) (HC1 : Hid (∀ W, Ext wr W → W.cell? ⟨bq, 1, none⟩ = some G)) (HI : Hid (Ints wr la xs ∧ xs.length ≤ 100000)) (HCALL : Hid (∀ W, Ext wr W → ∀ a c, Ints W a (xs ++ [z]) → Calls Tryz.prog 68 #[.agg #[F, G], .slice sa n sc, .slice a (xs.length + 1) c] W (fun e w' => ∃ a' c', e = .returned (.slice a' rs.length c') ∧ Ext W w' ∧ Ints w' a' rs))) {Q : Exit → Act → World → Prop} (aZ : Act) (hsz : aZ.tmps.size = 66) (o1 : aZ.tmps[1]?.getD undef = .slice sa n sc) (o2 : aZ.tmps[2]?.getD undef = .slice la xs.length lc) (o3 : aZ.tmps[3]?.getD undef = .pointer (some ⟨bq, 0, none⟩)) (o9 : aZ.tmps[9]?.getD undef = .int .i64 z)
    (hend : ∀ (vs : Nat → Value) (w9 : World) (ls9 : Nat → Bool), (∀ j : Nat, j < 10 → ls9 j = true) → (Ext wr w9 ∧ (ls9 2 = true → ls9 4 = false → ls9 7 = false → ∃ g, vs 2 = .slice (some ⟨g, 0, none⟩) 0 0 ∧ wr.heap.size ≤ g ∧ w9.heap[g]? = some (.cells #[] 3 (0, 0))) ∧ (ls9 4 = true → ls9 7 = false → ∃ a c, vs 4 = .slice a xs.length c ∧ OwnI w9 wr.heap.size (.slice a xs.length c) xs) ∧ (ls9 6 = true → ls9 7 = false → ∃ g, vs 6 = .slice (some ⟨g, 0, none⟩) 1 1 ∧ w9.heap[g]? = some (.cells #[.int .i64 z] 3 (0, 0))) ∧ (ls9 7 = true → ∃ a c, vs 7 = .slice a (xs.length + 1) c ∧ Ints w9 a (xs ++ [z])) ∧ (ls9 8 = true → ∃ a c, vs 8 = .slice a rs.length c ∧ Ints w9 a rs) ∧ (ls9 9 = true → vs 9 = vs 8)) → (vs 0 = .agg #[F, G]) → (vs 1 = .slice sa n sc) → (True) → (vs 3 = .slice la xs.length lc) → (True) → (vs 5 = .int .i64 z) → (True) → (True) → (True) → (True) → Q .normal ((((((((((aZ.put (some 42) (vs 0)).put (some 43) (vs 1)).put (some 44) (vs 2)).put (some 45) (vs 3)).put (some 46) (vs 4)).put (some 47) (vs 5)).put (some 48) (vs 6)).put (some 49) (vs 7)).put (some 50) (vs 8)).put (some 12) (vs 9)) w9) : (regOf Tryz.f68 13).wp Tryz.prog Q aZ wr := by
  conv => arg 2; whnf
  refine wp_region_said3 (fun i v wz => match i with
    | 0 => v = .agg #[F, G]
    | 1 => v = .slice sa n sc
    | 2 => True
    | 3 => v = .slice la xs.length lc
    | 4 => True
    | 5 => v = .int .i64 z
    | 6 => True
    | 7 => True
    | 8 => True
    | _ => True) (fun ls vs wz => Ext wr wz ∧ (ls 2 = true → ls 4 = false → ls 7 = false → ∃ g, vs 2 = .slice (some ⟨g, 0, none⟩) 0 0 ∧ wr.heap.size ≤ g ∧ wz.heap[g]? = some (.cells #[] 3 (0, 0))) ∧ (ls 4 = true → ls 7 = false → ∃ a c, vs 4 = .slice a xs.length c ∧ OwnI wz wr.heap.size (.slice a xs.length c) xs) ∧ (ls 6 = true → ls 7 = false → ∃ g, vs 6 = .slice (some ⟨g, 0, none⟩) 1 1 ∧ wz.heap[g]? = some (.cells #[.int .i64 z] 3 (0, 0))) ∧ (ls 7 = true → ∃ a c, vs 7 = .slice a (xs.length + 1) c ∧ Ints wz a (xs ++ [z])) ∧ (ls 8 = true → ∃ a c, vs 8 = .slice a rs.length c ∧ Ints wz a rs) ∧ (ls 9 = true → vs 9 = vs 8)) (by kernel_rfl) (by kernel_rfl) (by rw [hsz]; kernel_rfl) ?_ ?_ ?_
  · exact ⟨(Ext.refl _).drew, fun e => (by cases e), fun e => (by cases e), fun e => (by cases e), fun e => (by cases e), fun e => (by cases e), fun e => (by cases e)⟩
  · refine ⟨?_, ?_, ?_, ?_, ?_, ?_, ?_, ?_, ?_, ?_, trivial⟩
    · intro ls vs a w1 hi hJ hold hdep hdon hcl K hK
      have q3 : a.tmps[3]?.getD undef = .pointer (some ⟨bq, 0, none⟩) := (hold 3 (by kernel_rfl)).trans o3
      rw [if_pos (by rfl)]
      clear hold hdep hend hdon hcl o1 o2 o3 o9
      have HJ := Lib.hid hJ
      clear hJ
      have c7 := HC0.out w1 HJ.out.1
      have c8 := HC1.out w1 HJ.out.1
      go_simp
      exact hK _ _ (fun _ _ _ h => h) HJ.out rfl
    · intro ls vs a w1 hi hJ hold hdep hdon hcl K hK
      have q1 : a.tmps[1]?.getD undef = .slice sa n sc := (hold 1 (by kernel_rfl)).trans o1
      rw [if_pos (by rfl)]
      clear hold hdep hend hdon hcl o1 o2 o3 o9
      have HJ := Lib.hid hJ
      clear hJ
      go_simp
      exact hK _ _ (fun _ _ _ h => h) HJ.out rfl
    · intro ls vs a w1 hi hJ hold hdep hdon hcl K hK
      have hn4 : ls 4 = false := by
        cases e : ls 4 with
        | false => rfl
        | true =>
          replace e := hcl 4 2 e (by kernel_rfl)
          rw [show ls 2 = false from hi] at e
          cases e
      have hn7 : ls 7 = false := by
        cases e : ls 7 with
        | false => rfl
        | true =>
          replace e := hcl 7 4 e (by kernel_rfl)
          replace e := hcl 4 2 e (by kernel_rfl)
          rw [show ls 2 = false from hi] at e
          cases e
      have hn8 : ls 8 = false := by
        cases e : ls 8 with
        | false => rfl
        | true =>
          replace e := hcl 8 7 e (by kernel_rfl)
          replace e := hcl 7 4 e (by kernel_rfl)
          replace e := hcl 4 2 e (by kernel_rfl)
          rw [show ls 2 = false from hi] at e
          cases e
      have hn9 : ls 9 = false := by
        cases e : ls 9 with
        | false => rfl
        | true =>
          replace e := hcl 9 2 e (by kernel_rfl)
          rw [show ls 2 = false from hi] at e
          cases e
      rw [if_pos (by rfl)]
      clear hold hdep hend hdon hcl o1 o2 o3 o9
      have HJ := Lib.hid hJ
      clear hJ
      obtain ⟨j1, j2, j4, j6, j7, j8, j9⟩ := HJ.out
      go_simp
      have hx := (Ext.refl w1).alloc (.cells #[] 3)
      refine hK _ _ (fun _ _ _ h => h) ⟨j1.trans hx, fun _ _ _ => ⟨_, rfl, j1.size, heap_new _ _⟩, fun e => (by simp [hn4] at e), fun e e2 => ?_, fun e => (by simp [hn7] at e), fun e => (by simp [hn8] at e), fun e => (by simp [hn9] at e)⟩ trivial
      obtain ⟨g, h1, h2⟩ := j6 (by simpa using e) hn7
      exact ⟨g, by simpa using h1, hx.block h2⟩
    · intro ls vs a w1 hi hJ hold hdep hdon hcl K hK
      have q2 : a.tmps[2]?.getD undef = .slice la xs.length lc := (hold 2 (by kernel_rfl)).trans o2
      rw [if_pos (by rfl)]
      clear hold hdep hend hdon hcl o1 o2 o3 o9
      have HJ := Lib.hid hJ
      clear hJ
      go_simp
      exact hK _ _ (fun _ _ _ h => h) HJ.out rfl
    · intro ls vs a w1 hi hJ hold hdep hdon hcl K hK
      obtain ⟨hl2, q44, p44⟩ := hdep 2 44 (by kernel_rfl) (by kernel_rfl)
      have q45 : a.tmps[45]?.getD undef = .slice la xs.length lc := (hdep 3 45 (by kernel_rfl) (by kernel_rfl)).2.1.trans (hdep 3 45 (by kernel_rfl) (by kernel_rfl)).2.2
      have hn7 : ls 7 = false := by
        cases e : ls 7 with
        | false => rfl
        | true =>
          replace e := hcl 7 4 e (by kernel_rfl)
          rw [show ls 4 = false from hi] at e
          cases e
      have hn8 : ls 8 = false := by
        cases e : ls 8 with
        | false => rfl
        | true =>
          replace e := hcl 8 7 e (by kernel_rfl)
          replace e := hcl 7 4 e (by kernel_rfl)
          rw [show ls 4 = false from hi] at e
          cases e
      have hn9 : ls 9 = false := by
        cases e : ls 9 with
        | false => rfl
        | true =>
          replace e := hcl 9 4 e (by kernel_rfl)
          rw [show ls 4 = false from hi] at e
          cases e
      have hl2 := hdon 2 (by kernel_rfl)
      have hl3 := hdon 3 (by kernel_rfl)
      clear hold hdep hend hdon o1 o2 o3 o9
      have HJ := Lib.hid hJ
      clear hJ
      obtain ⟨j1, j2, j4, j6, j7, j8, j9⟩ := HJ.out
      obtain ⟨g, hv, hg1, hg2⟩ := j2 hl2 hi hn7
      rw [hv] at q44
      obtain ⟨v', w', r1', -, r2', r3'⟩ := app_ints0 w1 g wr.heap.size 31 xs la lc hg2 hg1 (HI.out.1.ext j1) (by have := HI.out.2; omega)
      refine step_app (by rfl) (.tmp 44) (.tmp 45) 31 (by rfl) _ _ (by simpa [Act.eval, Array.getD_eq_getD_getElem?] using q44) (by simpa [Act.eval, Array.getD_eq_getD_getElem?] using q45) (fun v3 w3 => v3 = v' ∧ w3 = w') ⟨_, _, r1', rfl, rfl⟩ ?_
      rintro v3 w3 ⟨rfl, rfl⟩
      obtain ⟨a', n', c', rfl⟩ := own_slice r2'
      obtain ⟨hi1, rfl, -⟩ := r2'.ints
      refine hK _ _ (fun _ _ _ h => h) ⟨grown_ext (v := .slice (some ⟨g, 0, none⟩) 0 0) j1 r3' (fun k hk => by simp only [Value.ownBlock, Option.some.injEq] at hk; omega), fun _ e => (by simp at e), fun _ _ => ⟨a', c', rfl, r2'⟩, fun e e2 => ?_, fun e => (by simp [hn7] at e), fun e => (by simp [hn8] at e), fun e => (by simp [hn9] at e)⟩ trivial
      obtain ⟨g6, h1, h2⟩ := j6 (by simpa using e) hn7
      refine ⟨g6, by simpa using h1, ?_⟩
      rw [r3'.block g6 (lt_of_block h2) (fun e => by
        simp only [Value.ownBlock, Option.some.injEq] at e
        subst e
        rw [hg2] at h2
        simp at h2)]
      exact h2
    · intro ls vs a w1 hi hJ hold hdep hdon hcl K hK
      have q9 : a.tmps[9]?.getD undef = .int .i64 z := (hold 9 (by kernel_rfl)).trans o9
      rw [if_pos (by rfl)]
      clear hold hdep hend hdon hcl o1 o2 o3 o9
      have HJ := Lib.hid hJ
      clear hJ
      go_simp
      exact hK _ _ (fun _ _ _ h => h) HJ.out rfl
    · intro ls vs a w1 hi hJ hold hdep hdon hcl K hK
      have q47 : a.tmps[47]?.getD undef = .int .i64 z := (hdep 5 47 (by kernel_rfl) (by kernel_rfl)).2.1.trans (hdep 5 47 (by kernel_rfl) (by kernel_rfl)).2.2
      have hn7 : ls 7 = false := by
        cases e : ls 7 with
        | false => rfl
        | true =>
          replace e := hcl 7 6 e (by kernel_rfl)
          rw [show ls 6 = false from hi] at e
          cases e
      have hn8 : ls 8 = false := by
        cases e : ls 8 with
        | false => rfl
        | true =>
          replace e := hcl 8 7 e (by kernel_rfl)
          replace e := hcl 7 6 e (by kernel_rfl)
          rw [show ls 6 = false from hi] at e
          cases e
      have hn9 : ls 9 = false := by
        cases e : ls 9 with
        | false => rfl
        | true =>
          replace e := hcl 9 6 e (by kernel_rfl)
          rw [show ls 6 = false from hi] at e
          cases e
      have hl5 := hdon 5 (by kernel_rfl)
      rw [if_pos (by rfl)]
      clear hold hdep hend hdon hcl o1 o2 o3 o9
      have HJ := Lib.hid hJ
      clear hJ
      obtain ⟨j1, j2, j4, j6, j7, j8, j9⟩ := HJ.out
      go_simp
      have hx := (Ext.refl w1).alloc (.cells #[.int .i64 z] 3)
      refine hK _ _ (fun _ _ _ h => h) ⟨j1.trans hx, fun e e2 e3 => ?_, fun e e2 => ?_, fun _ _ => ⟨_, rfl, heap_new _ _⟩, fun e => (by simp [hn7] at e), fun e => (by simp [hn8] at e), fun e => (by simp [hn9] at e)⟩ trivial
      · obtain ⟨g, h1, h2, h3⟩ := j2 (by simpa using e) (by simpa using e2) hn7
        exact ⟨g, by simpa using h1, h2, hx.block h3⟩
      · obtain ⟨a4, c4, h1, h2⟩ := j4 (by simpa using e) hn7
        exact ⟨a4, c4, by simpa using h1, h2.ext hx⟩
    · intro ls vs a w1 hi hJ hold hdep hdon hcl K hK
      obtain ⟨hl4, q46, p46⟩ := hdep 4 46 (by kernel_rfl) (by kernel_rfl)
      obtain ⟨hl6, q48, p48⟩ := hdep 6 48 (by kernel_rfl) (by kernel_rfl)
      have hn8 : ls 8 = false := by
        cases e : ls 8 with
        | false => rfl
        | true =>
          replace e := hcl 8 7 e (by kernel_rfl)
          rw [show ls 7 = false from hi] at e
          cases e
      have hn9 : ls 9 = false := by
        cases e : ls 9 with
        | false => rfl
        | true =>
          replace e := hcl 9 7 e (by kernel_rfl)
          rw [show ls 7 = false from hi] at e
          cases e
      have hl4 := hdon 4 (by kernel_rfl)
      have hl6 := hdon 6 (by kernel_rfl)
      clear hold hdep hend hdon o1 o2 o3 o9
      have HJ := Lib.hid hJ
      clear hJ
      obtain ⟨j1, j2, j4, j6, j7, j8, j9⟩ := HJ.out
      obtain ⟨a4, c4, hv4, ho4⟩ := j4 hl4 hi
      obtain ⟨g6, hv6, hb6⟩ := j6 hl6 hi
      rw [hv4] at q46
      rw [hv6] at q48
      obtain ⟨v', w', r1', r2', r3', -⟩ := app_intsL w1 wr.heap.size 31 (.slice a4 xs.length c4) xs [z] (some ⟨g6, 0, none⟩) 1 ho4 (ints_one hb6) (by simp) (by have := HI.out.2; simp; omega) j1.size
      refine step_app (by rfl) (.tmp 46) (.tmp 48) 31 (by rfl) _ _ (by simpa [Act.eval, Array.getD_eq_getD_getElem?] using q46) (by simpa [Act.eval, Array.getD_eq_getD_getElem?] using q48) (fun v3 w3 => v3 = v' ∧ w3 = w') ⟨_, _, r1', rfl, rfl⟩ ?_
      rintro v3 w3 ⟨rfl, rfl⟩
      obtain ⟨a', n', c', rfl⟩ := own_slice r2'
      obtain ⟨hi1, hi2, -⟩ := r2'.ints
      exact hK _ _ (fun _ _ _ h => h) ⟨grown_ext j1 r3' (fun k hk => (ho4.lt k hk).1), fun _ _ e => (by simp at e), fun _ e => (by simp at e), fun _ e => (by simp at e), fun _ => ⟨a', c', by rw [hi2]; simp, hi1⟩, fun e => (by simp [hn8] at e), fun e => (by simp [hn9] at e)⟩ trivial
    · intro ls vs a w1 hi hJ hold hdep hdon hcl K hK
      have q42 : a.tmps[42]?.getD undef = .agg #[F, G] := (hdep 0 42 (by kernel_rfl) (by kernel_rfl)).2.1.trans (hdep 0 42 (by kernel_rfl) (by kernel_rfl)).2.2
      have q43 : a.tmps[43]?.getD undef = .slice sa n sc := (hdep 1 43 (by kernel_rfl) (by kernel_rfl)).2.1.trans (hdep 1 43 (by kernel_rfl) (by kernel_rfl)).2.2
      obtain ⟨hl7, q49, p49⟩ := hdep 7 49 (by kernel_rfl) (by kernel_rfl)
      have hn9 : ls 9 = false := by
        cases e : ls 9 with
        | false => rfl
        | true =>
          replace e := hcl 9 8 e (by kernel_rfl)
          rw [show ls 8 = false from hi] at e
          cases e
      have hl0 := hdon 0 (by kernel_rfl)
      have hl1 := hdon 1 (by kernel_rfl)
      have hl7 := hdon 7 (by kernel_rfl)
      rw [if_pos (by rfl)]
      clear hold hdep hend hdon hcl o1 o2 o3 o9
      have HJ := Lib.hid hJ
      clear hJ
      obtain ⟨j1, j2, j4, j6, j7, j8, j9⟩ := HJ.out
      obtain ⟨a7, c7, hv, hi7⟩ := j7 hl7
      rw [hv] at q49
      have hc := HCALL.out w1 j1 a7 c7 hi7
      go_simp
      go_at_call 68
      (with_reducible refine hc.mono ?_); rintro e w20 ⟨ra, rc, rfl, he2, hri⟩
      exact hK _ _ (fun _ _ _ h => h) ⟨j1.trans he2, fun _ _ e => (by simp [hl7] at e), fun _ e => (by simp [hl7] at e), fun _ e => (by simp [hl7] at e), fun _ => ⟨a7, c7, hv, hi7.ext he2⟩, fun _ => ⟨ra, rc, rfl, hri⟩, fun e => (by simp [hn9] at e)⟩ trivial
    · intro ls vs a w1 hi hJ hold hdep hdon hcl K hK
      obtain ⟨hl8, q50, p50⟩ := hdep 8 50 (by kernel_rfl) (by kernel_rfl)
      have hl8 := hdon 8 (by kernel_rfl)
      rw [if_pos (by rfl)]
      clear hold hdep hend hdon hcl o1 o2 o3 o9
      have HJ := Lib.hid hJ
      clear hJ
      obtain ⟨j1, j2, j4, j6, j7, j8, j9⟩ := HJ.out
      go_simp
      exact hK _ _ (fun _ _ _ h => h) ⟨j1, j2, j4, j6, j7, j8, fun _ => rfl⟩ trivial
  · intro vs w9 ls9 hl9 hJ9 hφ
    have e0 := hφ 0 (by kernel_rfl)
    have e1 := hφ 1 (by kernel_rfl)
    have e2 := hφ 2 (by kernel_rfl)
    have e3 := hφ 3 (by kernel_rfl)
    have e4 := hφ 4 (by kernel_rfl)
    have e5 := hφ 5 (by kernel_rfl)
    have e6 := hφ 6 (by kernel_rfl)
    have e7 := hφ 7 (by kernel_rfl)
    have e8 := hφ 8 (by kernel_rfl)
    have e9 := hφ 9 (by kernel_rfl)
    have hq := hend vs w9 ls9 hl9 hJ9 e0 e1 e2 e3 e4 e5 e6 e7 e8 e9
    simp only [Act.put] at hq
    simp only [putAll, Act.put]
    exact hq
end Go.Proofs.YtplbofhgmflnlaaGreat
