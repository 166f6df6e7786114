/-
  A region of the reference's Relation: a product with one word more.
-/
import Derived.Test.YtplbofhgmflnlaaGreatML6
set_option linter.unusedVariables false
set_option linter.unusedSimpArgs false
namespace Go.Proofs.YtplbofhgmflnlaaGreat
open Go.RowKit
set_option maxRecDepth 100000 in
set_option maxHeartbeats 4000000 in
theorem rl_law {tb fb sb so n c k xm ym z : Nat} {xo yo : Bool} {wr : World} {R : World → Prop} (hk0 : (0 : Int) ≤ (k : Int)) (hkn : (k : Int) < (n : Int)) (hxor : bits .xor .u16 (xm : Int) (ym : Int) = (z : Int)) (HX0 : Hid (∀ W, Ext wr W → W.cell? ⟨tb, 0, none⟩ = some (.int .u16 (xm : Int)))) (HX1 : Hid (∀ W, Ext wr W → W.cell? ⟨tb, 1, none⟩ = some (.bool xo))) (HF1 : Hid (∀ W, Ext wr W → W.cell? ⟨fb, 1, none⟩ = some (.slice (some ⟨sb, so, none⟩) n c))) (HY0 : Hid (∀ W, Ext wr W → W.cell? ⟨sb, so + k * 2, none⟩ = some (.int .u16 (ym : Int)))) (HY1 : Hid (∀ W, Ext wr W → W.cell? ⟨sb, so + k * 2 + 1, none⟩ = some (.bool yo))) (HFZ : Hid (∀ W, Ext wr W → ∀ i, W.frozen? ⟨tb, i, none⟩ = false)) (HST : Hid (∀ W, Ext wr W → R ((W.setCell ⟨tb, 0, none⟩ (.int .u16 (z : Int))).setCell ⟨tb, 1, none⟩ (.bool (!(xo == yo)))))) {Q : Exit → Act → World → Prop} (aZ : Act) (hsz : aZ.tmps.size = 65) (o1 : aZ.tmps[1]?.getD undef = .pointer (some ⟨fb, 0, none⟩)) (o6 : aZ.tmps[6]?.getD undef = .pointer (some ⟨tb, 0, none⟩)) (o7 : aZ.tmps[7]?.getD undef = .int .i64 (k : Int))
    (hend : ∀ (vs : Nat → Value) (w9 : World) (ls9 : Nat → Bool), (∀ j : Nat, j < 20 → ls9 j = true) → ((ls9 19 = false → Ext wr w9) ∧ (ls9 19 = true → R w9)) → (vs 0 = .pointer (some ⟨tb, 0, none⟩)) → (vs 1 = .int .u16 (xm : Int)) → (vs 2 = .pointer (some ⟨fb, 1, none⟩)) → (vs 3 = .slice (some ⟨sb, so, none⟩) n c) → (vs 4 = .int .i64 (k : Int)) → (vs 5 = .pointer (some ⟨sb, so + k * 2, none⟩)) → (vs 6 = .pointer (some ⟨sb, so + k * 2, none⟩)) → (vs 7 = .int .u16 (ym : Int)) → (vs 8 = .int .u16 (z : Int)) → (vs 9 = .pointer (some ⟨tb, 1, none⟩)) → (vs 10 = .bool xo) → (vs 11 = .pointer (some ⟨fb, 1, none⟩)) → (vs 12 = .slice (some ⟨sb, so, none⟩) n c) → (vs 13 = .int .i64 (k : Int)) → (vs 14 = .pointer (some ⟨sb, so + k * 2, none⟩)) → (vs 15 = .pointer (some ⟨sb, so + k * 2 + 1, none⟩)) → (vs 16 = .bool yo) → (vs 17 = .bool (!(xo == yo))) → (vs 18 = .agg #[.int .u16 (z : Int), .bool (!(xo == yo))]) → Q .normal (((((((((((((((((((aZ.put (some 32) (vs 0)).put (some 33) (vs 1)).put (some 34) (vs 2)).put (some 35) (vs 3)).put (some 36) (vs 4)).put (some 37) (vs 5)).put (some 38) (vs 6)).put (some 39) (vs 7)).put (some 40) (vs 8)).put (some 41) (vs 9)).put (some 42) (vs 10)).put (some 43) (vs 11)).put (some 44) (vs 12)).put (some 45) (vs 13)).put (some 46) (vs 14)).put (some 47) (vs 15)).put (some 48) (vs 16)).put (some 49) (vs 17)).put (some 50) (vs 18)) w9) : (regOf Tryz.f35 10).wp Tryz.prog Q aZ wr := by
  conv => arg 2; whnf
  refine wp_region_said3 (fun i v wz => match i with
    | 0 => v = .pointer (some ⟨tb, 0, none⟩)
    | 1 => v = .int .u16 (xm : Int)
    | 2 => v = .pointer (some ⟨fb, 1, none⟩)
    | 3 => v = .slice (some ⟨sb, so, none⟩) n c
    | 4 => v = .int .i64 (k : Int)
    | 5 => v = .pointer (some ⟨sb, so + k * 2, none⟩)
    | 6 => v = .pointer (some ⟨sb, so + k * 2, none⟩)
    | 7 => v = .int .u16 (ym : Int)
    | 8 => v = .int .u16 (z : Int)
    | 9 => v = .pointer (some ⟨tb, 1, none⟩)
    | 10 => v = .bool xo
    | 11 => v = .pointer (some ⟨fb, 1, none⟩)
    | 12 => v = .slice (some ⟨sb, so, none⟩) n c
    | 13 => v = .int .i64 (k : Int)
    | 14 => v = .pointer (some ⟨sb, so + k * 2, none⟩)
    | 15 => v = .pointer (some ⟨sb, so + k * 2 + 1, none⟩)
    | 16 => v = .bool yo
    | 17 => v = .bool (!(xo == yo))
    | 18 => v = .agg #[.int .u16 (z : Int), .bool (!(xo == yo))]
    | _ => True) (fun ls vs wz => (ls 19 = false → Ext wr wz) ∧ (ls 19 = true → R wz)) (by kernel_rfl) (by kernel_rfl) (by rw [hsz]; kernel_rfl) ?_ ?_ ?_
  · exact ⟨fun _ => (Ext.refl _).drew, fun e => (by cases e)⟩
  · refine ⟨?_, ?_, ?_, ?_, ?_, ?_, ?_, ?_, ?_, ?_, ?_, ?_, ?_, ?_, ?_, ?_, ?_, ?_, ?_, ?_, trivial⟩
    · intro ls vs a w1 hi hJ hold hdep hdon hcl K hK
      have q6 : a.tmps[6]?.getD undef = .pointer (some ⟨tb, 0, none⟩) := (hold 6 (by kernel_rfl)).trans o6
      rw [if_pos (by rfl)]
      clear hold hdep hend hdon hcl o1 o6 o7
      have HJ := Lib.hid hJ
      clear hJ
      go_simp
      exact hK _ _ (fun _ _ _ h => h) HJ.out rfl
    · intro ls vs a w1 hi hJ hold hdep hdon hcl K hK
      have q32 : a.tmps[32]?.getD undef = .pointer (some ⟨tb, 0, none⟩) := (hdep 0 32 (by kernel_rfl) (by kernel_rfl)).2.1.trans (hdep 0 32 (by kernel_rfl) (by kernel_rfl)).2.2
      have hn19 : ls 19 = false := by
        cases e : ls 19 with
        | false => rfl
        | true =>
          replace e := hcl 19 1 e (by kernel_rfl)
          rw [show ls 1 = false from hi] at e
          cases e
      rw [if_pos (by rfl)]
      clear hold hdep hend hdon hcl o1 o6 o7
      have HJ := Lib.hid hJ
      clear hJ
      have c7 := HX0.out w1 (HJ.out.1 hn19)
      go_simp
      exact hK _ _ (fun _ _ _ h => h) HJ.out rfl
    · intro ls vs a w1 hi hJ hold hdep hdon hcl K hK
      have q1 : a.tmps[1]?.getD undef = .pointer (some ⟨fb, 0, none⟩) := (hold 1 (by kernel_rfl)).trans o1
      rw [if_pos (by rfl)]
      clear hold hdep hend hdon hcl o1 o6 o7
      have HJ := Lib.hid hJ
      clear hJ
      go_simp
      exact hK _ _ (fun _ _ _ h => h) HJ.out rfl
    · intro ls vs a w1 hi hJ hold hdep hdon hcl K hK
      have q34 : a.tmps[34]?.getD undef = .pointer (some ⟨fb, 1, none⟩) := (hdep 2 34 (by kernel_rfl) (by kernel_rfl)).2.1.trans (hdep 2 34 (by kernel_rfl) (by kernel_rfl)).2.2
      have hn19 : ls 19 = false := by
        cases e : ls 19 with
        | false => rfl
        | true =>
          replace e := hcl 19 3 e (by kernel_rfl)
          rw [show ls 3 = false from hi] at e
          cases e
      rw [if_pos (by rfl)]
      clear hold hdep hend hdon hcl o1 o6 o7
      have HJ := Lib.hid hJ
      clear hJ
      have c7 := HF1.out w1 (HJ.out.1 hn19)
      go_simp
      exact hK _ _ (fun _ _ _ h => h) HJ.out rfl
    · intro ls vs a w1 hi hJ hold hdep hdon hcl K hK
      have q7 : a.tmps[7]?.getD undef = .int .i64 (k : Int) := (hold 7 (by kernel_rfl)).trans o7
      rw [if_pos (by rfl)]
      clear hold hdep hend hdon hcl o1 o6 o7
      have HJ := Lib.hid hJ
      clear hJ
      go_simp
      exact hK _ _ (fun _ _ _ h => h) HJ.out rfl
    · intro ls vs a w1 hi hJ hold hdep hdon hcl K hK
      have q35 : a.tmps[35]?.getD undef = .slice (some ⟨sb, so, none⟩) n c := (hdep 3 35 (by kernel_rfl) (by kernel_rfl)).2.1.trans (hdep 3 35 (by kernel_rfl) (by kernel_rfl)).2.2
      have q36 : a.tmps[36]?.getD undef = .int .i64 (k : Int) := (hdep 4 36 (by kernel_rfl) (by kernel_rfl)).2.1.trans (hdep 4 36 (by kernel_rfl) (by kernel_rfl)).2.2
      rw [if_pos (by rfl)]
      clear hold hdep hend hdon hcl o1 o6 o7
      have HJ := Lib.hid hJ
      clear hJ
      go_simp
      exact hK _ _ (fun _ _ _ h => h) HJ.out rfl
    · intro ls vs a w1 hi hJ hold hdep hdon hcl K hK
      have q37 : a.tmps[37]?.getD undef = .pointer (some ⟨sb, so + k * 2, none⟩) := (hdep 5 37 (by kernel_rfl) (by kernel_rfl)).2.1.trans (hdep 5 37 (by kernel_rfl) (by kernel_rfl)).2.2
      rw [if_pos (by rfl)]
      clear hold hdep hend hdon hcl o1 o6 o7
      have HJ := Lib.hid hJ
      clear hJ
      go_simp
      exact hK _ _ (fun _ _ _ h => h) HJ.out rfl
    · intro ls vs a w1 hi hJ hold hdep hdon hcl K hK
      have q38 : a.tmps[38]?.getD undef = .pointer (some ⟨sb, so + k * 2, none⟩) := (hdep 6 38 (by kernel_rfl) (by kernel_rfl)).2.1.trans (hdep 6 38 (by kernel_rfl) (by kernel_rfl)).2.2
      have hn19 : ls 19 = false := by
        cases e : ls 19 with
        | false => rfl
        | true =>
          replace e := hcl 19 7 e (by kernel_rfl)
          rw [show ls 7 = false from hi] at e
          cases e
      rw [if_pos (by rfl)]
      clear hold hdep hend hdon hcl o1 o6 o7
      have HJ := Lib.hid hJ
      clear hJ
      have c7 := HY0.out w1 (HJ.out.1 hn19)
      go_simp
      exact hK _ _ (fun _ _ _ h => h) HJ.out rfl
    · intro ls vs a w1 hi hJ hold hdep hdon hcl K hK
      have q33 : a.tmps[33]?.getD undef = .int .u16 (xm : Int) := (hdep 1 33 (by kernel_rfl) (by kernel_rfl)).2.1.trans (hdep 1 33 (by kernel_rfl) (by kernel_rfl)).2.2
      have q39 : a.tmps[39]?.getD undef = .int .u16 (ym : Int) := (hdep 7 39 (by kernel_rfl) (by kernel_rfl)).2.1.trans (hdep 7 39 (by kernel_rfl) (by kernel_rfl)).2.2
      rw [if_pos (by rfl)]
      clear hold hdep hend hdon hcl o1 o6 o7
      have HJ := Lib.hid hJ
      clear hJ
      go_simp
      exact hK _ _ (fun _ _ _ h => h) HJ.out rfl
    · intro ls vs a w1 hi hJ hold hdep hdon hcl K hK
      have q6 : a.tmps[6]?.getD undef = .pointer (some ⟨tb, 0, none⟩) := (hold 6 (by kernel_rfl)).trans o6
      rw [if_pos (by rfl)]
      clear hold hdep hend hdon hcl o1 o6 o7
      have HJ := Lib.hid hJ
      clear hJ
      go_simp
      exact hK _ _ (fun _ _ _ h => h) HJ.out rfl
    · intro ls vs a w1 hi hJ hold hdep hdon hcl K hK
      have q41 : a.tmps[41]?.getD undef = .pointer (some ⟨tb, 1, none⟩) := (hdep 9 41 (by kernel_rfl) (by kernel_rfl)).2.1.trans (hdep 9 41 (by kernel_rfl) (by kernel_rfl)).2.2
      have hn19 : ls 19 = false := by
        cases e : ls 19 with
        | false => rfl
        | true =>
          replace e := hcl 19 10 e (by kernel_rfl)
          rw [show ls 10 = false from hi] at e
          cases e
      rw [if_pos (by rfl)]
      clear hold hdep hend hdon hcl o1 o6 o7
      have HJ := Lib.hid hJ
      clear hJ
      have c7 := HX1.out w1 (HJ.out.1 hn19)
      go_simp
      exact hK _ _ (fun _ _ _ h => h) HJ.out rfl
    · intro ls vs a w1 hi hJ hold hdep hdon hcl K hK
      have q1 : a.tmps[1]?.getD undef = .pointer (some ⟨fb, 0, none⟩) := (hold 1 (by kernel_rfl)).trans o1
      rw [if_pos (by rfl)]
      clear hold hdep hend hdon hcl o1 o6 o7
      have HJ := Lib.hid hJ
      clear hJ
      go_simp
      exact hK _ _ (fun _ _ _ h => h) HJ.out rfl
    · intro ls vs a w1 hi hJ hold hdep hdon hcl K hK
      have q43 : a.tmps[43]?.getD undef = .pointer (some ⟨fb, 1, none⟩) := (hdep 11 43 (by kernel_rfl) (by kernel_rfl)).2.1.trans (hdep 11 43 (by kernel_rfl) (by kernel_rfl)).2.2
      have hn19 : ls 19 = false := by
        cases e : ls 19 with
        | false => rfl
        | true =>
          replace e := hcl 19 12 e (by kernel_rfl)
          rw [show ls 12 = false from hi] at e
          cases e
      rw [if_pos (by rfl)]
      clear hold hdep hend hdon hcl o1 o6 o7
      have HJ := Lib.hid hJ
      clear hJ
      have c7 := HF1.out w1 (HJ.out.1 hn19)
      go_simp
      exact hK _ _ (fun _ _ _ h => h) HJ.out rfl
    · intro ls vs a w1 hi hJ hold hdep hdon hcl K hK
      have q7 : a.tmps[7]?.getD undef = .int .i64 (k : Int) := (hold 7 (by kernel_rfl)).trans o7
      rw [if_pos (by rfl)]
      clear hold hdep hend hdon hcl o1 o6 o7
      have HJ := Lib.hid hJ
      clear hJ
      go_simp
      exact hK _ _ (fun _ _ _ h => h) HJ.out rfl
    · intro ls vs a w1 hi hJ hold hdep hdon hcl K hK
      have q44 : a.tmps[44]?.getD undef = .slice (some ⟨sb, so, none⟩) n c := (hdep 12 44 (by kernel_rfl) (by kernel_rfl)).2.1.trans (hdep 12 44 (by kernel_rfl) (by kernel_rfl)).2.2
      have q45 : a.tmps[45]?.getD undef = .int .i64 (k : Int) := (hdep 13 45 (by kernel_rfl) (by kernel_rfl)).2.1.trans (hdep 13 45 (by kernel_rfl) (by kernel_rfl)).2.2
      rw [if_pos (by rfl)]
      clear hold hdep hend hdon hcl o1 o6 o7
      have HJ := Lib.hid hJ
      clear hJ
      go_simp
      exact hK _ _ (fun _ _ _ h => h) HJ.out rfl
    · intro ls vs a w1 hi hJ hold hdep hdon hcl K hK
      have q46 : a.tmps[46]?.getD undef = .pointer (some ⟨sb, so + k * 2, none⟩) := (hdep 14 46 (by kernel_rfl) (by kernel_rfl)).2.1.trans (hdep 14 46 (by kernel_rfl) (by kernel_rfl)).2.2
      rw [if_pos (by rfl)]
      clear hold hdep hend hdon hcl o1 o6 o7
      have HJ := Lib.hid hJ
      clear hJ
      go_simp
      exact hK _ _ (fun _ _ _ h => h) HJ.out rfl
    · intro ls vs a w1 hi hJ hold hdep hdon hcl K hK
      have q47 : a.tmps[47]?.getD undef = .pointer (some ⟨sb, so + k * 2 + 1, none⟩) := (hdep 15 47 (by kernel_rfl) (by kernel_rfl)).2.1.trans (hdep 15 47 (by kernel_rfl) (by kernel_rfl)).2.2
      have hn19 : ls 19 = false := by
        cases e : ls 19 with
        | false => rfl
        | true =>
          replace e := hcl 19 16 e (by kernel_rfl)
          rw [show ls 16 = false from hi] at e
          cases e
      rw [if_pos (by rfl)]
      clear hold hdep hend hdon hcl o1 o6 o7
      have HJ := Lib.hid hJ
      clear hJ
      have c7 := HY1.out w1 (HJ.out.1 hn19)
      go_simp
      exact hK _ _ (fun _ _ _ h => h) HJ.out rfl
    · intro ls vs a w1 hi hJ hold hdep hdon hcl K hK
      have q42 : a.tmps[42]?.getD undef = .bool xo := (hdep 10 42 (by kernel_rfl) (by kernel_rfl)).2.1.trans (hdep 10 42 (by kernel_rfl) (by kernel_rfl)).2.2
      have q48 : a.tmps[48]?.getD undef = .bool yo := (hdep 16 48 (by kernel_rfl) (by kernel_rfl)).2.1.trans (hdep 16 48 (by kernel_rfl) (by kernel_rfl)).2.2
      rw [if_pos (by rfl)]
      clear hold hdep hend hdon hcl o1 o6 o7
      have HJ := Lib.hid hJ
      clear hJ
      go_simp
      exact hK _ _ (fun _ _ _ h => h) HJ.out rfl
    · intro ls vs a w1 hi hJ hold hdep hdon hcl K hK
      have q40 : a.tmps[40]?.getD undef = .int .u16 (z : Int) := (hdep 8 40 (by kernel_rfl) (by kernel_rfl)).2.1.trans (hdep 8 40 (by kernel_rfl) (by kernel_rfl)).2.2
      have q49 : a.tmps[49]?.getD undef = .bool (!(xo == yo)) := (hdep 17 49 (by kernel_rfl) (by kernel_rfl)).2.1.trans (hdep 17 49 (by kernel_rfl) (by kernel_rfl)).2.2
      rw [if_pos (by rfl)]
      clear hold hdep hend hdon hcl o1 o6 o7
      have HJ := Lib.hid hJ
      clear hJ
      go_simp
      exact hK _ _ (fun _ _ _ h => h) HJ.out rfl
    · intro ls vs a w1 hi hJ hold hdep hdon hcl K hK
      have q6 : a.tmps[6]?.getD undef = .pointer (some ⟨tb, 0, none⟩) := (hold 6 (by kernel_rfl)).trans o6
      have q50 : a.tmps[50]?.getD undef = .agg #[.int .u16 (z : Int), .bool (!(xo == yo))] := (hdep 18 50 (by kernel_rfl) (by kernel_rfl)).2.1.trans (hdep 18 50 (by kernel_rfl) (by kernel_rfl)).2.2
      have hl18 := hdon 18 (by kernel_rfl)
      rw [if_pos (by rfl)]
      clear hold hdep hend hdon hcl o1 o6 o7
      have HJ := Lib.hid hJ
      clear hJ
      have hx := HJ.out.1 hi
      have hs := HST.out w1 hx
      have c7 := HX0.out w1 hx
      have c8 := HX1.out w1 hx
      have f0 := HFZ.out w1 hx 0
      have f1 := HFZ.out w1 hx 1
      go_simp
      exact hK undef _ (fun _ _ _ h => h) ⟨fun e => (by simp at e), fun _ => hs⟩ trivial
  · intro vs w9 ls9 hl9 hJ9 hφ
    have e0 := hφ 0 (by kernel_rfl)
    have e1 := hφ 1 (by kernel_rfl)
    have e2 := hφ 2 (by kernel_rfl)
    have e3 := hφ 3 (by kernel_rfl)
    have e4 := hφ 4 (by kernel_rfl)
    have e5 := hφ 5 (by kernel_rfl)
    have e6 := hφ 6 (by kernel_rfl)
    have e7 := hφ 7 (by kernel_rfl)
    have e8 := hφ 8 (by kernel_rfl)
    have e9 := hφ 9 (by kernel_rfl)
    have e10 := hφ 10 (by kernel_rfl)
    have e11 := hφ 11 (by kernel_rfl)
    have e12 := hφ 12 (by kernel_rfl)
    have e13 := hφ 13 (by kernel_rfl)
    have e14 := hφ 14 (by kernel_rfl)
    have e15 := hφ 15 (by kernel_rfl)
    have e16 := hφ 16 (by kernel_rfl)
    have e17 := hφ 17 (by kernel_rfl)
    have e18 := hφ 18 (by kernel_rfl)
    have hq := hend vs w9 ls9 hl9 hJ9 e0 e1 e2 e3 e4 e5 e6 e7 e8 e9 e10 e11 e12 e13 e14 e15 e16 e17 e18
    simp only [Act.put] at hq
    simp only [putAll, Act.put]
    exact hq
end Go.Proofs.YtplbofhgmflnlaaGreat
