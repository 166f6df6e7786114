/-
  A region of MatrixSettings: whether the levels are allowed, asked of own copies.
-/
import Derived.Test.YtplbofhgmflnlaaGreatMF6
set_option linter.unusedVariables false
set_option linter.unusedSimpArgs false
namespace Go.Proofs.YtplbofhgmflnlaaGreat
open Go.RowKit
set_option maxRecDepth 100000 in
set_option maxHeartbeats 4000000 in
theorem al_law {bq lc : Nat} {la : Option Addr} {xs : List Int} {F G r1 r2 : Value} {wr : World} (HC0 : Hid (∀ W, Ext wr W → W.cell? ⟨bq, 0, none⟩ = some F)) (HC1 : Hid (∀ W, Ext wr W → W.cell? ⟨bq, 1, none⟩ = some G)) (HI : Hid (Ints wr la xs ∧ xs.length ≤ 1000000)) (HCALL : Hid (∀ W, Ext wr W → ∀ a c, Ints W a xs → Calls Tryz.prog 23 #[.agg #[F, G], .slice a xs.length c] W (Ret (.tuple #[r1, r2]) W))) {Q : Exit → Act → World → Prop} (aZ : Act) (hsz : aZ.tmps.size = 151) (o1 : aZ.tmps[1]?.getD undef = .slice la xs.length lc) (o5 : aZ.tmps[5]?.getD undef = .pointer (some ⟨bq, 0, none⟩))
    (hend : ∀ (vs : Nat → Value) (w9 : World) (ls9 : Nat → Bool), (∀ j : Nat, j < 10 → ls9 j = true) → (Ext wr w9 ∧ (ls9 1 = true → ls9 3 = false → ∃ g, vs 1 = .slice (some ⟨g, 0, none⟩) 0 0 ∧ wr.heap.size ≤ g ∧ w9.heap[g]? = some (.cells #[] 3 (0, 0))) ∧ (ls9 3 = true → ∃ a c, vs 3 = .slice a xs.length c ∧ Ints w9 a xs)) → (vs 0 = .agg #[F, G]) → (True) → (vs 2 = .slice la xs.length lc) → (True) → (vs 4 = .tuple #[r1, r2]) → (vs 5 = .tuple #[r1, r2]) → (vs 6 = r1) → (vs 7 = r2) → (vs 8 = r1) → (vs 9 = r2) → Q .normal ((((((((((aZ.put (some 32) (vs 0)).put (some 33) (vs 1)).put (some 34) (vs 2)).put (some 35) (vs 3)).put (some 36) (vs 4)).put (some 31) (vs 5)).put (some 37) (vs 6)).put (some 38) (vs 7)).put (some 8) (vs 8)).put (some 9) (vs 9)) w9) : (regOf Tryz.f8 5).wp Tryz.prog Q aZ wr := by
  conv => arg 2; whnf
  refine wp_region_said3 (fun i v wz => match i with
    | 0 => v = .agg #[F, G]
    | 1 => True
    | 2 => v = .slice la xs.length lc
    | 3 => True
    | 4 => v = .tuple #[r1, r2]
    | 5 => v = .tuple #[r1, r2]
    | 6 => v = r1
    | 7 => v = r2
    | 8 => v = r1
    | _ => v = r2) (fun ls vs wz => Ext wr wz ∧ (ls 1 = true → ls 3 = false → ∃ g, vs 1 = .slice (some ⟨g, 0, none⟩) 0 0 ∧ wr.heap.size ≤ g ∧ wz.heap[g]? = some (.cells #[] 3 (0, 0))) ∧ (ls 3 = true → ∃ a c, vs 3 = .slice a xs.length c ∧ Ints wz a xs)) (by kernel_rfl) (by kernel_rfl) (by rw [hsz]; kernel_rfl) ?_ ?_ ?_
  · exact ⟨(Ext.refl _).drew, fun e => (by cases e), fun e => (by cases e)⟩
  · refine ⟨?_, ?_, ?_, ?_, ?_, ?_, ?_, ?_, ?_, ?_, trivial⟩
    · intro ls vs a w1 hi hJ hold hdep hdon hcl K hK
      have q5 : a.tmps[5]?.getD undef = .pointer (some ⟨bq, 0, none⟩) := (hold 5 (by kernel_rfl)).trans o5
      rw [if_pos (by rfl)]
      clear hold hdep hend hdon hcl o1 o5
      have HJ := Lib.hid hJ
      clear hJ
      have c7 := HC0.out w1 HJ.out.1
      have c8 := HC1.out w1 HJ.out.1
      go_simp
      exact hK _ _ (fun _ _ _ h => h) HJ.out rfl
    · intro ls vs a w1 hi hJ hold hdep hdon hcl K hK
      have hn3 : ls 3 = false := by
        cases e : ls 3 with
        | false => rfl
        | true =>
          replace e := hcl 3 1 e (by kernel_rfl)
          rw [show ls 1 = false from hi] at e
          cases e
      rw [if_pos (by rfl)]
      clear hold hdep hend hdon hcl o1 o5
      have HJ := Lib.hid hJ
      clear hJ
      obtain ⟨j1, j2, j3⟩ := HJ.out
      go_simp
      exact hK _ _ (fun _ _ _ h => h) ⟨j1.alloc _, fun _ _ => ⟨_, rfl, j1.size, heap_new _ _⟩, fun e => (by simp [hn3] at e)⟩ trivial
    · intro ls vs a w1 hi hJ hold hdep hdon hcl K hK
      have q1 : a.tmps[1]?.getD undef = .slice la xs.length lc := (hold 1 (by kernel_rfl)).trans o1
      rw [if_pos (by rfl)]
      clear hold hdep hend hdon hcl o1 o5
      have HJ := Lib.hid hJ
      clear hJ
      go_simp
      exact hK _ _ (fun _ _ _ h => h) HJ.out rfl
    · intro ls vs a w1 hi hJ hold hdep hdon hcl K hK
      obtain ⟨hl1, q33, p33⟩ := hdep 1 33 (by kernel_rfl) (by kernel_rfl)
      have q34 : a.tmps[34]?.getD undef = .slice la xs.length lc := (hdep 2 34 (by kernel_rfl) (by kernel_rfl)).2.1.trans (hdep 2 34 (by kernel_rfl) (by kernel_rfl)).2.2
      have hl1 := hdon 1 (by kernel_rfl)
      have hl2 := hdon 2 (by kernel_rfl)
      clear hold hdep hend hdon o1 o5
      have HJ := Lib.hid hJ
      clear hJ
      obtain ⟨j1, j2, j3⟩ := HJ.out
      have hn3 : ls 3 = false := hi
      obtain ⟨g, hv, hg1, hg2⟩ := j2 hl1 hn3
      rw [hv] at q33
      obtain ⟨v', w', r1', -, r2', r3'⟩ := app_ints0 w1 g wr.heap.size 31 xs la lc hg2 hg1 (HI.out.1.ext j1) HI.out.2
      refine step_app (by rfl) (.tmp 33) (.tmp 34) 31 (by rfl) _ _ (by simpa [Act.eval, Array.getD_eq_getD_getElem?] using q33) (by simpa [Act.eval, Array.getD_eq_getD_getElem?] using q34) (fun v3 w3 => v3 = v' ∧ w3 = w') ⟨_, _, r1', rfl, rfl⟩ ?_
      rintro v3 w3 ⟨rfl, rfl⟩
      obtain ⟨a', n', c', rfl⟩ := own_slice r2'
      obtain ⟨hi1, hi2, -⟩ := r2'.ints
      exact hK _ _ (fun _ _ _ h => h) ⟨grown_ext (v := .slice (some ⟨g, 0, none⟩) 0 0) j1 r3' (fun k hk => by simp only [Value.ownBlock, Option.some.injEq] at hk; omega), fun _ e => (by simp at e), fun _ => ⟨a', c', by rw [hi2]; simp, hi1⟩⟩ trivial
    · intro ls vs a w1 hi hJ hold hdep hdon hcl K hK
      have q32 : a.tmps[32]?.getD undef = .agg #[F, G] := (hdep 0 32 (by kernel_rfl) (by kernel_rfl)).2.1.trans (hdep 0 32 (by kernel_rfl) (by kernel_rfl)).2.2
      obtain ⟨hl3, q35, p35⟩ := hdep 3 35 (by kernel_rfl) (by kernel_rfl)
      have hl0 := hdon 0 (by kernel_rfl)
      have hl3 := hdon 3 (by kernel_rfl)
      rw [if_pos (by rfl)]
      clear hold hdep hend hdon hcl o1 o5
      have HJ := Lib.hid hJ
      clear hJ
      obtain ⟨j1, j2, j3⟩ := HJ.out
      obtain ⟨a3, c3, hv, hi3⟩ := j3 hl3
      rw [hv] at q35
      have hc := HCALL.out w1 j1 a3 c3 hi3
      go_simp
      go_at_call 23
      (with_reducible refine hc.mono ?_); rintro e w20 ⟨rfl, he2⟩
      exact hK _ _ (fun _ _ _ h => h) ⟨j1.trans he2, fun _ e => (by simp [hl3] at e), fun _ => ⟨a3, c3, hv, hi3.ext he2⟩⟩ rfl
    · intro ls vs a w1 hi hJ hold hdep hdon hcl K hK
      have q36 : a.tmps[36]?.getD undef = .tuple #[r1, r2] := (hdep 4 36 (by kernel_rfl) (by kernel_rfl)).2.1.trans (hdep 4 36 (by kernel_rfl) (by kernel_rfl)).2.2
      rw [if_pos (by rfl)]
      clear hold hdep hend hdon hcl o1 o5
      have HJ := Lib.hid hJ
      clear hJ
      go_simp
      exact hK _ _ (fun _ _ _ h => h) HJ.out rfl
    · intro ls vs a w1 hi hJ hold hdep hdon hcl K hK
      have q31 : a.tmps[31]?.getD undef = .tuple #[r1, r2] := (hdep 5 31 (by kernel_rfl) (by kernel_rfl)).2.1.trans (hdep 5 31 (by kernel_rfl) (by kernel_rfl)).2.2
      rw [if_pos (by rfl)]
      clear hold hdep hend hdon hcl o1 o5
      have HJ := Lib.hid hJ
      clear hJ
      go_simp
      exact hK _ _ (fun _ _ _ h => h) HJ.out rfl
    · intro ls vs a w1 hi hJ hold hdep hdon hcl K hK
      have q31 : a.tmps[31]?.getD undef = .tuple #[r1, r2] := (hdep 5 31 (by kernel_rfl) (by kernel_rfl)).2.1.trans (hdep 5 31 (by kernel_rfl) (by kernel_rfl)).2.2
      rw [if_pos (by rfl)]
      clear hold hdep hend hdon hcl o1 o5
      have HJ := Lib.hid hJ
      clear hJ
      go_simp
      exact hK _ _ (fun _ _ _ h => h) HJ.out rfl
    · intro ls vs a w1 hi hJ hold hdep hdon hcl K hK
      have q37 : a.tmps[37]?.getD undef = r1 := (hdep 6 37 (by kernel_rfl) (by kernel_rfl)).2.1.trans (hdep 6 37 (by kernel_rfl) (by kernel_rfl)).2.2
      rw [if_pos (by rfl)]
      clear hold hdep hend hdon hcl o1 o5
      have HJ := Lib.hid hJ
      clear hJ
      go_simp
      exact hK _ _ (fun _ _ _ h => h) HJ.out rfl
    · intro ls vs a w1 hi hJ hold hdep hdon hcl K hK
      have q38 : a.tmps[38]?.getD undef = r2 := (hdep 7 38 (by kernel_rfl) (by kernel_rfl)).2.1.trans (hdep 7 38 (by kernel_rfl) (by kernel_rfl)).2.2
      rw [if_pos (by rfl)]
      clear hold hdep hend hdon hcl o1 o5
      have HJ := Lib.hid hJ
      clear hJ
      go_simp
      exact hK _ _ (fun _ _ _ h => h) HJ.out rfl
  · intro vs w9 ls9 hl9 hJ9 hφ
    have e0 := hφ 0 (by kernel_rfl)
    have e1 := hφ 1 (by kernel_rfl)
    have e2 := hφ 2 (by kernel_rfl)
    have e3 := hφ 3 (by kernel_rfl)
    have e4 := hφ 4 (by kernel_rfl)
    have e5 := hφ 5 (by kernel_rfl)
    have e6 := hφ 6 (by kernel_rfl)
    have e7 := hφ 7 (by kernel_rfl)
    have e8 := hφ 8 (by kernel_rfl)
    have e9 := hφ 9 (by kernel_rfl)
    have hq := hend vs w9 ls9 hl9 hJ9 e0 e1 e2 e3 e4 e5 e6 e7 e8 e9
    simp only [Act.put] at hq
    simp only [putAll, Act.put]
    exact hq
end Go.Proofs.YtplbofhgmflnlaaGreat
