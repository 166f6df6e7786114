/-
  Order: the drawn region of its first pass (printed by genm17.py).
-/
import Derived.Test.YtplbofhgmflnlaaGreatM16
set_option linter.unusedVariables false
set_option linter.unusedSimpArgs false
namespace Go.Proofs.YtplbofhgmflnlaaGreat
open Go.RowKit
set_option maxRecDepth 100000 in
set_option maxHeartbeats 4000000 in
theorem or_law {b8 ab gb : Nat} {b : Int} {l0 l1 l2 l3 l4 l5 l6 l7 l8 : Int} {V : Value} {wr : World} {S : World → Value → Prop} {R : World → Prop} (HCB : Hid (∀ W, Ext wr W → W.cell? ⟨ab, 1, none⟩ = some (.int .i64 b))) (HCG : Hid (∀ W, Ext wr W → W.rangeAt gb 0 [.int .i64 l0, .int .i64 l1, .int .i64 l2, .int .i64 l3, .int .i64 l4, .int .i64 l5, .int .i64 l6, .int .i64 l7, .int .i64 l8])) (HLK : Hid (∀ W, Ext wr W → (Instr.lookup 188 (.map (some b8)) (.int .i64 b) false).run Tryz.prog W = .ok V W)) (HAPP : Hid (∀ W, Ext wr W → ∀ g, W.heap[g]? = some (.cells #[.int .i64 l0, .int .i64 l1, .int .i64 l2, .int .i64 l3, .int .i64 l4, .int .i64 l5, .int .i64 l6, .int .i64 l7, .int .i64 l8] 191 (0, 0)) → ∃ v' w', (Builtin.append_ #[193, 193] 193 #[V, .slice (some ⟨g, 0, none⟩) 1 1]).run Tryz.prog W = .ok v' w' ∧ S w' v')) (HST : Hid (∀ W v', S W v' → (Instr.mapUpdate 188 (.map (some b8)) (.int .i64 b) v').run Tryz.prog W = .ok () (mapW 188 W b8 (.int .i64 b) v') ∧ R (mapW 188 W b8 (.int .i64 b) v'))) (HSB : Hid (∀ W v', S W v' → W.cell? ⟨ab, 1, none⟩ = some (.int .i64 b))) {Q : Exit → Act → World → Prop} (aZ : Act) (hsz : aZ.tmps.size = 110) (o8 : aZ.tmps[8]?.getD undef = .map (some b8)) (o11 : aZ.tmps[11]?.getD undef = .pointer (some ⟨ab, 0, none⟩)) (o12 : aZ.tmps[12]?.getD undef = .pointer (some ⟨gb, 0, none⟩))
    (hend : ∀ (vs : Nat → Value) (w9 : World) (ls9 : Nat → Bool), (∀ j : Nat, j < 11 → ls9 j = true) → ((ls9 9 = false → Ext wr w9) ∧ (ls9 8 = true → ls9 9 = false → ∃ gn, vs 8 = .slice (some ⟨gn, 0, none⟩) 1 1 ∧ w9.heap[gn]? = some (.cells #[.int .i64 l0, .int .i64 l1, .int .i64 l2, .int .i64 l3, .int .i64 l4, .int .i64 l5, .int .i64 l6, .int .i64 l7, .int .i64 l8] 191 (0, 0))) ∧ (ls9 9 = true → ls9 10 = false → S w9 (vs 9)) ∧ (ls9 10 = true → R w9)) → (vs 0 = .map (some b8)) → (vs 1 = .pointer (some ⟨ab, 1, none⟩)) → (vs 2 = .int .i64 b) → (vs 3 = .map (some b8)) → (vs 4 = .pointer (some ⟨ab, 1, none⟩)) → (vs 5 = .int .i64 b) → (vs 6 = V) → (vs 7 = .agg #[.int .i64 l0, .int .i64 l1, .int .i64 l2, .int .i64 l3, .int .i64 l4, .int .i64 l5, .int .i64 l6, .int .i64 l7, .int .i64 l8]) → (True) → (True) → Q .normal ((((((((((aZ.put (some 47) (vs 0)).put (some 48) (vs 1)).put (some 49) (vs 2)).put (some 50) (vs 3)).put (some 51) (vs 4)).put (some 52) (vs 5)).put (some 53) (vs 6)).put (some 54) (vs 7)).put (some 55) (vs 8)).put (some 56) (vs 9)) w9) : (regOf Tryz.f93 11).wp Tryz.prog Q aZ wr := by
  conv => arg 2; whnf
  refine wp_region_said3 (fun i v wz => match i with
    | 0 => v = .map (some b8)
    | 1 => v = .pointer (some ⟨ab, 1, none⟩)
    | 2 => v = .int .i64 b
    | 3 => v = .map (some b8)
    | 4 => v = .pointer (some ⟨ab, 1, none⟩)
    | 5 => v = .int .i64 b
    | 6 => v = V
    | 7 => v = .agg #[.int .i64 l0, .int .i64 l1, .int .i64 l2, .int .i64 l3, .int .i64 l4, .int .i64 l5, .int .i64 l6, .int .i64 l7, .int .i64 l8]
    | 8 => True
    | 9 => True
    | _ => True) (fun ls vs wz => (ls 9 = false → Ext wr wz) ∧ (ls 8 = true → ls 9 = false → ∃ gn, vs 8 = .slice (some ⟨gn, 0, none⟩) 1 1 ∧ wz.heap[gn]? = some (.cells #[.int .i64 l0, .int .i64 l1, .int .i64 l2, .int .i64 l3, .int .i64 l4, .int .i64 l5, .int .i64 l6, .int .i64 l7, .int .i64 l8] 191 (0, 0))) ∧ (ls 9 = true → ls 10 = false → S wz (vs 9)) ∧ (ls 10 = true → R wz)) (by kernel_rfl) (by kernel_rfl) (by rw [hsz]; kernel_rfl) ?_ ?_ ?_
  · exact ⟨fun _ => (Ext.refl _).drew, fun e => (by cases e), fun e => (by cases e), fun e => (by cases e)⟩
  · refine ⟨?_, ?_, ?_, ?_, ?_, ?_, ?_, ?_, ?_, ?_, ?_, trivial⟩
    · intro ls vs a w1 hi hJ hold hdep hdon hcl K hK
      have q8 : a.tmps[8]?.getD undef = .map (some b8) := (hold 8 (by kernel_rfl)).trans o8
      rw [if_pos (by rfl)]
      clear hold hdep hend hdon hcl o8 o11 o12
      have HJ := Lib.hid hJ
      clear hJ
      go_simp
      exact hK _ _ (fun _ _ _ h => h) HJ.out rfl
    · intro ls vs a w1 hi hJ hold hdep hdon hcl K hK
      have q11 : a.tmps[11]?.getD undef = .pointer (some ⟨ab, 0, none⟩) := (hold 11 (by kernel_rfl)).trans o11
      rw [if_pos (by rfl)]
      clear hold hdep hend hdon hcl o8 o11 o12
      have HJ := Lib.hid hJ
      clear hJ
      go_simp
      exact hK _ _ (fun _ _ _ h => h) HJ.out rfl
    · intro ls vs a w1 hi hJ hold hdep hdon hcl K hK
      have q48 : a.tmps[48]?.getD undef = .pointer (some ⟨ab, 1, none⟩) := (hdep 1 48 (by kernel_rfl) (by kernel_rfl)).2.1.trans (hdep 1 48 (by kernel_rfl) (by kernel_rfl)).2.2
      have hn10 : ls 10 = false := by
        cases e : ls 10 with
        | false => rfl
        | true =>
          replace e := hcl 10 2 e (by kernel_rfl)
          rw [show ls 2 = false from hi] at e
          cases e
      rw [if_pos (by rfl)]
      clear hold hdep hend hdon hcl o8 o11 o12
      have HJ := Lib.hid hJ
      clear hJ
      have c7 : w1.cell? ⟨ab, 1, none⟩ = some (.int .i64 b) := by
        cases e : ls 9 with
        | false => exact HCB.out w1 (HJ.out.1 e)
        | true => exact HSB.out w1 _ (HJ.out.2.2.1 e hn10)
      go_simp
      exact hK _ _ (fun _ _ _ h => h) HJ.out rfl
    · intro ls vs a w1 hi hJ hold hdep hdon hcl K hK
      have q8 : a.tmps[8]?.getD undef = .map (some b8) := (hold 8 (by kernel_rfl)).trans o8
      rw [if_pos (by rfl)]
      clear hold hdep hend hdon hcl o8 o11 o12
      have HJ := Lib.hid hJ
      clear hJ
      go_simp
      exact hK _ _ (fun _ _ _ h => h) HJ.out rfl
    · intro ls vs a w1 hi hJ hold hdep hdon hcl K hK
      have q11 : a.tmps[11]?.getD undef = .pointer (some ⟨ab, 0, none⟩) := (hold 11 (by kernel_rfl)).trans o11
      rw [if_pos (by rfl)]
      clear hold hdep hend hdon hcl o8 o11 o12
      have HJ := Lib.hid hJ
      clear hJ
      go_simp
      exact hK _ _ (fun _ _ _ h => h) HJ.out rfl
    · intro ls vs a w1 hi hJ hold hdep hdon hcl K hK
      have q51 : a.tmps[51]?.getD undef = .pointer (some ⟨ab, 1, none⟩) := (hdep 4 51 (by kernel_rfl) (by kernel_rfl)).2.1.trans (hdep 4 51 (by kernel_rfl) (by kernel_rfl)).2.2
      have hn9 : ls 9 = false := by
        cases e : ls 9 with
        | false => rfl
        | true =>
          replace e := hcl 9 6 e (by kernel_rfl)
          replace e := hcl 6 5 e (by kernel_rfl)
          rw [show ls 5 = false from hi] at e
          cases e
      have hn10 : ls 10 = false := by
        cases e : ls 10 with
        | false => rfl
        | true =>
          replace e := hcl 10 5 e (by kernel_rfl)
          rw [show ls 5 = false from hi] at e
          cases e
      rw [if_pos (by rfl)]
      clear hold hdep hend hdon hcl o8 o11 o12
      have HJ := Lib.hid hJ
      clear hJ
      have c7 := HCB.out w1 (HJ.out.1 hn9)
      go_simp
      exact hK _ _ (fun _ _ _ h => h) HJ.out rfl
    · intro ls vs a w1 hi hJ hold hdep hdon hcl K hK
      have q50 : a.tmps[50]?.getD undef = .map (some b8) := (hdep 3 50 (by kernel_rfl) (by kernel_rfl)).2.1.trans (hdep 3 50 (by kernel_rfl) (by kernel_rfl)).2.2
      have q52 : a.tmps[52]?.getD undef = .int .i64 b := (hdep 5 52 (by kernel_rfl) (by kernel_rfl)).2.1.trans (hdep 5 52 (by kernel_rfl) (by kernel_rfl)).2.2
      have hn9 : ls 9 = false := by
        cases e : ls 9 with
        | false => rfl
        | true =>
          replace e := hcl 9 6 e (by kernel_rfl)
          rw [show ls 6 = false from hi] at e
          cases e
      have hn10 : ls 10 = false := by
        cases e : ls 10 with
        | false => rfl
        | true =>
          replace e := hcl 10 6 e (by kernel_rfl)
          rw [show ls 6 = false from hi] at e
          cases e
      rw [if_pos (by rfl)]
      clear hold hdep hend hdon hcl o8 o11 o12
      have HJ := Lib.hid hJ
      clear hJ
      have c7 := HLK.out w1 (HJ.out.1 hn9)
      go_simp
      exact hK _ _ (fun _ _ _ h => h) HJ.out rfl
    · intro ls vs a w1 hi hJ hold hdep hdon hcl K hK
      have q12 : a.tmps[12]?.getD undef = .pointer (some ⟨gb, 0, none⟩) := (hold 12 (by kernel_rfl)).trans o12
      have hn9 : ls 9 = false := by
        cases e : ls 9 with
        | false => rfl
        | true =>
          replace e := hcl 9 8 e (by kernel_rfl)
          replace e := hcl 8 7 e (by kernel_rfl)
          rw [show ls 7 = false from hi] at e
          cases e
      have hn10 : ls 10 = false := by
        cases e : ls 10 with
        | false => rfl
        | true =>
          replace e := hcl 10 7 e (by kernel_rfl)
          rw [show ls 7 = false from hi] at e
          cases e
      clear hold hdep hend hdon o8 o11 o12
      have HJ := Lib.hid hJ
      clear hJ
      have hx := HJ.out.1 hn9
      rw [if_pos (by rfl)]
      refine wp_load_mid 191 (.tmp 12) (by rfl) gb 0 (by simpa [Act.eval, Array.getD_eq_getD_getElem?] using q12) [.int .i64 l0, .int .i64 l1, .int .i64 l2, .int .i64 l3, .int .i64 l4, .int .i64 l5, .int .i64 l6, .int .i64 l7, .int .i64 l8] _ (HCG.out w1 hx) Tryz.underlying191 rfl (size191 _ rfl) ?_
      exact hK _ _ (fun _ _ _ h => h) HJ.out rfl
    · intro ls vs a w1 hi hJ hold hdep hdon hcl K hK
      have q54 : a.tmps[54]?.getD undef = .agg #[.int .i64 l0, .int .i64 l1, .int .i64 l2, .int .i64 l3, .int .i64 l4, .int .i64 l5, .int .i64 l6, .int .i64 l7, .int .i64 l8] := (hdep 7 54 (by kernel_rfl) (by kernel_rfl)).2.1.trans (hdep 7 54 (by kernel_rfl) (by kernel_rfl)).2.2
      have hn9 : ls 9 = false := by
        cases e : ls 9 with
        | false => rfl
        | true =>
          replace e := hcl 9 8 e (by kernel_rfl)
          rw [show ls 8 = false from hi] at e
          cases e
      have hn10 : ls 10 = false := by
        cases e : ls 10 with
        | false => rfl
        | true =>
          replace e := hcl 10 8 e (by kernel_rfl)
          rw [show ls 8 = false from hi] at e
          cases e
      rw [if_pos (by rfl)]
      clear hold hdep hend hdon hcl o8 o11 o12
      have HJ := Lib.hid hJ
      clear hJ
      obtain ⟨j1, j2, j3, j4⟩ := HJ.out
      go_simp
      have hx := (Ext.refl w1).alloc (.cells #[.int .i64 l0, .int .i64 l1, .int .i64 l2, .int .i64 l3, .int .i64 l4, .int .i64 l5, .int .i64 l6, .int .i64 l7, .int .i64 l8] 191)
      exact hK _ _ (fun _ _ _ h => h) ⟨fun _ => (j1 hn9).trans hx, fun _ _ => ⟨_, rfl, heap_new _ _⟩, fun e => (by simp [hn9] at e), fun e => (by simp [hn10] at e)⟩ trivial
    · intro ls vs a w1 hi hJ hold hdep hdon hcl K hK
      have q53 : a.tmps[53]?.getD undef = V := (hdep 6 53 (by kernel_rfl) (by kernel_rfl)).2.1.trans (hdep 6 53 (by kernel_rfl) (by kernel_rfl)).2.2
      obtain ⟨hl8, q55, p55⟩ := hdep 8 55 (by kernel_rfl) (by kernel_rfl)
      have hl8 := hdon 8 (by kernel_rfl)
      clear hold hdep hend hdon o8 o11 o12
      have HJ := Lib.hid hJ
      clear hJ
      obtain ⟨j1, j2, j3, j4⟩ := HJ.out
      have hn9 : ls 9 = false := hi
      have hn10 : ls 10 = false := by
        cases e : ls 10 with
        | false => rfl
        | true =>
          have e := hcl 10 9 e (by kernel_rfl)
          rw [hn9] at e; cases e
      obtain ⟨gn, hv, hb⟩ := j2 hl8 hn9
      rw [hv] at q55
      obtain ⟨v', w', r1', r2'⟩ := HAPP.out w1 (j1 hn9) gn hb
      refine step_app (by rfl) (.tmp 53) (.tmp 55) 193 (by rfl) _ _ (by simpa [Act.eval, Array.getD_eq_getD_getElem?] using q53) (by simpa [Act.eval, Array.getD_eq_getD_getElem?] using q55) (fun v3 w3 => v3 = v' ∧ w3 = w') ⟨_, _, r1', rfl, rfl⟩ ?_
      rintro v3 w3 ⟨rfl, rfl⟩
      exact hK _ _ (fun _ _ _ h => h) ⟨fun e => (by simp at e), fun _ e => (by simp at e), fun _ _ => r2', fun e => (by simp [hn10] at e)⟩ trivial
    · intro ls vs a w1 hi hJ hold hdep hdon hcl K hK
      have q47 : a.tmps[47]?.getD undef = .map (some b8) := (hdep 0 47 (by kernel_rfl) (by kernel_rfl)).2.1.trans (hdep 0 47 (by kernel_rfl) (by kernel_rfl)).2.2
      have q49 : a.tmps[49]?.getD undef = .int .i64 b := (hdep 2 49 (by kernel_rfl) (by kernel_rfl)).2.1.trans (hdep 2 49 (by kernel_rfl) (by kernel_rfl)).2.2
      obtain ⟨hl9, q56, p56⟩ := hdep 9 56 (by kernel_rfl) (by kernel_rfl)
      have hl9 := hdon 9 (by kernel_rfl)
      rw [if_pos (by rfl)]
      clear hold hdep hend hdon hcl o8 o11 o12
      have HJ := Lib.hid hJ
      clear hJ
      obtain ⟨j1, j2, j3, j4⟩ := HJ.out
      have hs := j3 hl9 hi
      obtain ⟨hr, hR⟩ := HST.out w1 _ hs
      go_simp
      exact hK undef _ (fun _ _ _ h => h) ⟨fun e => (by simp [hl9] at e), fun _ e => (by simp [hl9] at e), fun _ e => (by simp at e), fun _ => hR⟩ trivial
  · intro vs w9 ls9 hl9 hJ9 hφ
    have e0 := hφ 0 (by kernel_rfl)
    have e1 := hφ 1 (by kernel_rfl)
    have e2 := hφ 2 (by kernel_rfl)
    have e3 := hφ 3 (by kernel_rfl)
    have e4 := hφ 4 (by kernel_rfl)
    have e5 := hφ 5 (by kernel_rfl)
    have e6 := hφ 6 (by kernel_rfl)
    have e7 := hφ 7 (by kernel_rfl)
    have e8 := hφ 8 (by kernel_rfl)
    have e9 := hφ 9 (by kernel_rfl)
    have hq := hend vs w9 ls9 hl9 hJ9 e0 e1 e2 e3 e4 e5 e6 e7 e8 e9
    simp only [Act.put] at hq
    simp only [putAll, Act.put]
    exact hq
end Go.Proofs.YtplbofhgmflnlaaGreat
