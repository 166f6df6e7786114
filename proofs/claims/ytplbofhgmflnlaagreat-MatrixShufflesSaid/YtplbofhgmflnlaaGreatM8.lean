/-
  Walks: newTable (printed by genm8.py).
-/
import Derived.Test.YtplbofhgmflnlaaGreatM7
set_option linter.unusedVariables false
set_option linter.unusedSimpArgs false
namespace Go.Proofs.YtplbofhgmflnlaaGreat
open Go.RowKit
set_option maxRecDepth 100000 in
set_option maxHeartbeats 4000000 in
theorem nt_law {g m q tc pb ab bb : Nat} {c : Int} {ua : Option Addr} {un uc : Nat} {P0 P1 A0 A1 B0 B1 : Value} {wr : World} {S : World → Value → Prop} {R : World → Prop} (hq0 : (0 : Int) ≤ (q : Int)) (hq1 : (q : Int) < (m : Int)) (p0 : ∀ W, Ext wr W → W.cell? ⟨pb, 0, none⟩ = some P0) (p1 : ∀ W, Ext wr W → W.cell? ⟨pb, 1, none⟩ = some P1) (a0 : ∀ W, Ext wr W → W.cell? ⟨ab, 0, none⟩ = some A0) (a1 : ∀ W, Ext wr W → W.cell? ⟨ab, 1, none⟩ = some A1) (c0 : ∀ W, Ext wr W → W.cell? ⟨bb, 0, none⟩ = some B0) (c1 : ∀ W, Ext wr W → W.cell? ⟨bb, 1, none⟩ = some B1) (HTI : Hid (∀ W, Ext wr W → W.cell? ⟨g, q, none⟩ = some (.slice ua un uc))) (HCALL : Hid (∀ W, Ext wr W → Calls Tryz.prog 75 #[.agg #[P0, P1], .agg #[A0, A1], .agg #[B0, B1]] W (Ret (.int .i64 c) W))) (HAPP : Hid (∀ W, Ext wr W → ∀ gb, W.heap[gb]? = some (.cells #[.int .i64 c] 3 (0, 0)) → ∃ v' w', (Builtin.append_ #[31, 31] 31 #[.slice ua un uc, .slice (some ⟨gb, 0, none⟩) 1 1]).run Tryz.prog W = .ok v' w' ∧ S w' v')) (HS : Hid (∀ W v, S W v → (∃ a n c', v = .slice a n c') ∧ (∃ u0, W.cell? ⟨g, q, none⟩ = some u0) ∧ W.frozen? ⟨g, q, none⟩ = false ∧ R (W.setCell ⟨g, q, none⟩ v))) {Q : Exit → Act → World → Prop} (aZ : Act) (hsz : aZ.tmps.size = 42) (o2 : aZ.tmps[2]?.getD undef = .pointer (some ⟨pb, 0, none⟩)) (o5 : aZ.tmps[5]?.getD undef = .slice (some ⟨g, 0, none⟩) m tc) (o6 : aZ.tmps[6]?.getD undef = .int .i64 (q : Int)) (o7 : aZ.tmps[7]?.getD undef = .pointer (some ⟨ab, 0, none⟩)) (o9 : aZ.tmps[9]?.getD undef = .pointer (some ⟨bb, 0, none⟩))
    (hend : ∀ (vs : Nat → Value) (w9 : World) (ls9 : Nat → Bool), (∀ j : Nat, j < 14 → ls9 j = true) → ((ls9 11 = false → Ext wr w9) ∧ (ls9 10 = true → ls9 11 = false → ∃ gb, vs 10 = .slice (some ⟨gb, 0, none⟩) 1 1 ∧ w9.heap[gb]? = some (.cells #[.int .i64 c] 3 (0, 0))) ∧ (ls9 11 = true → ls9 13 = false → S w9 (vs 11)) ∧ (ls9 13 = true → R w9)) → (vs 0 = .slice (some ⟨g, 0, none⟩) m tc) → (vs 1 = .int .i64 (q : Int)) → (vs 2 = .slice (some ⟨g, 0, none⟩) m tc) → (vs 3 = .int .i64 (q : Int)) → (vs 4 = .pointer (some ⟨g, q, none⟩)) → (vs 5 = .slice ua un uc) → (vs 6 = .agg #[P0, P1]) → (vs 7 = .agg #[A0, A1]) → (vs 8 = .agg #[B0, B1]) → (vs 9 = .int .i64 c) → (True) → (True) → (vs 12 = .pointer (some ⟨g, q, none⟩)) → Q .normal (((((((((((((aZ.put (some 26) (vs 0)).put (some 27) (vs 1)).put (some 28) (vs 2)).put (some 29) (vs 3)).put (some 30) (vs 4)).put (some 31) (vs 5)).put (some 32) (vs 6)).put (some 33) (vs 7)).put (some 34) (vs 8)).put (some 35) (vs 9)).put (some 36) (vs 10)).put (some 37) (vs 11)).put (some 38) (vs 12)) w9) : (regOf Tryz.f70 8).wp Tryz.prog Q aZ wr := by
  conv => arg 2; whnf
  refine wp_region_said3 (fun i v wz => match i with
    | 0 => v = .slice (some ⟨g, 0, none⟩) m tc
    | 1 => v = .int .i64 (q : Int)
    | 2 => v = .slice (some ⟨g, 0, none⟩) m tc
    | 3 => v = .int .i64 (q : Int)
    | 4 => v = .pointer (some ⟨g, q, none⟩)
    | 5 => v = .slice ua un uc
    | 6 => v = .agg #[P0, P1]
    | 7 => v = .agg #[A0, A1]
    | 8 => v = .agg #[B0, B1]
    | 9 => v = .int .i64 c
    | 10 => True
    | 11 => True
    | 12 => v = .pointer (some ⟨g, q, none⟩)
    | _ => True) (fun ls vs wz => (ls 11 = false → Ext wr wz) ∧ (ls 10 = true → ls 11 = false → ∃ gb, vs 10 = .slice (some ⟨gb, 0, none⟩) 1 1 ∧ wz.heap[gb]? = some (.cells #[.int .i64 c] 3 (0, 0))) ∧ (ls 11 = true → ls 13 = false → S wz (vs 11)) ∧ (ls 13 = true → R wz)) (by kernel_rfl) (by kernel_rfl) (by rw [hsz]; kernel_rfl) ?_ ?_ ?_
  · exact ⟨fun _ => (Ext.refl _).drew, fun e => (by cases e), fun e => (by cases e), fun e => (by cases e)⟩
  · refine ⟨?_, ?_, ?_, ?_, ?_, ?_, ?_, ?_, ?_, ?_, ?_, ?_, ?_, ?_, trivial⟩
    · intro ls vs a w1 hi hJ hold hdep hdon hcl K hK
      have q5 : a.tmps[5]?.getD undef = .slice (some ⟨g, 0, none⟩) m tc := (hold 5 (by kernel_rfl)).trans o5
      rw [if_pos (by rfl)]
      clear hold hdep hend hdon hcl o2 o5 o6 o7 o9
      have HJ := Lib.hid hJ
      clear hJ
      go_simp
      exact hK _ _ (fun _ _ _ h => h) HJ.out rfl
    · intro ls vs a w1 hi hJ hold hdep hdon hcl K hK
      have q6 : a.tmps[6]?.getD undef = .int .i64 (q : Int) := (hold 6 (by kernel_rfl)).trans o6
      rw [if_pos (by rfl)]
      clear hold hdep hend hdon hcl o2 o5 o6 o7 o9
      have HJ := Lib.hid hJ
      clear hJ
      go_simp
      exact hK _ _ (fun _ _ _ h => h) HJ.out rfl
    · intro ls vs a w1 hi hJ hold hdep hdon hcl K hK
      have q5 : a.tmps[5]?.getD undef = .slice (some ⟨g, 0, none⟩) m tc := (hold 5 (by kernel_rfl)).trans o5
      rw [if_pos (by rfl)]
      clear hold hdep hend hdon hcl o2 o5 o6 o7 o9
      have HJ := Lib.hid hJ
      clear hJ
      go_simp
      exact hK _ _ (fun _ _ _ h => h) HJ.out rfl
    · intro ls vs a w1 hi hJ hold hdep hdon hcl K hK
      have q6 : a.tmps[6]?.getD undef = .int .i64 (q : Int) := (hold 6 (by kernel_rfl)).trans o6
      rw [if_pos (by rfl)]
      clear hold hdep hend hdon hcl o2 o5 o6 o7 o9
      have HJ := Lib.hid hJ
      clear hJ
      go_simp
      exact hK _ _ (fun _ _ _ h => h) HJ.out rfl
    · intro ls vs a w1 hi hJ hold hdep hdon hcl K hK
      have q28 : a.tmps[28]?.getD undef = .slice (some ⟨g, 0, none⟩) m tc := (hdep 2 28 (by kernel_rfl) (by kernel_rfl)).2.1.trans (hdep 2 28 (by kernel_rfl) (by kernel_rfl)).2.2
      have q29 : a.tmps[29]?.getD undef = .int .i64 (q : Int) := (hdep 3 29 (by kernel_rfl) (by kernel_rfl)).2.1.trans (hdep 3 29 (by kernel_rfl) (by kernel_rfl)).2.2
      rw [if_pos (by rfl)]
      clear hold hdep hend hdon hcl o2 o5 o6 o7 o9
      have HJ := Lib.hid hJ
      clear hJ
      go_simp
      exact hK _ _ (fun _ _ _ h => h) HJ.out rfl
    · intro ls vs a w1 hi hJ hold hdep hdon hcl K hK
      have q30 : a.tmps[30]?.getD undef = .pointer (some ⟨g, q, none⟩) := (hdep 4 30 (by kernel_rfl) (by kernel_rfl)).2.1.trans (hdep 4 30 (by kernel_rfl) (by kernel_rfl)).2.2
      have hn11 : ls 11 = false := by
        cases e : ls 11 with
        | false => rfl
        | true =>
          replace e := hcl 11 5 e (by kernel_rfl)
          rw [show ls 5 = false from hi] at e
          cases e
      have hn13 : ls 13 = false := by
        cases e : ls 13 with
        | false => rfl
        | true =>
          replace e := hcl 13 5 e (by kernel_rfl)
          rw [show ls 5 = false from hi] at e
          cases e
      rw [if_pos (by rfl)]
      clear hold hdep hend hdon hcl o2 o5 o6 o7 o9
      have HJ := Lib.hid hJ
      clear hJ
      have c7 := HTI.out w1 (HJ.out.1 hn11)
      go_simp
      exact hK _ _ (fun _ _ _ h => h) HJ.out rfl
    · intro ls vs a w1 hi hJ hold hdep hdon hcl K hK
      have q2 : a.tmps[2]?.getD undef = .pointer (some ⟨pb, 0, none⟩) := (hold 2 (by kernel_rfl)).trans o2
      have hn11 : ls 11 = false := by
        cases e : ls 11 with
        | false => rfl
        | true =>
          replace e := hcl 11 9 e (by kernel_rfl)
          replace e := hcl 9 6 e (by kernel_rfl)
          rw [show ls 6 = false from hi] at e
          cases e
      have hn13 : ls 13 = false := by
        cases e : ls 13 with
        | false => rfl
        | true =>
          replace e := hcl 13 6 e (by kernel_rfl)
          rw [show ls 6 = false from hi] at e
          cases e
      rw [if_pos (by rfl)]
      clear hold hdep hend hdon hcl o2 o5 o6 o7 o9
      have HJ := Lib.hid hJ
      clear hJ
      have hx := HJ.out.1 hn11
      go_simp
      exact hK _ _ (fun _ _ _ h => h) HJ.out rfl
    · intro ls vs a w1 hi hJ hold hdep hdon hcl K hK
      have q7 : a.tmps[7]?.getD undef = .pointer (some ⟨ab, 0, none⟩) := (hold 7 (by kernel_rfl)).trans o7
      have hn11 : ls 11 = false := by
        cases e : ls 11 with
        | false => rfl
        | true =>
          replace e := hcl 11 9 e (by kernel_rfl)
          replace e := hcl 9 7 e (by kernel_rfl)
          rw [show ls 7 = false from hi] at e
          cases e
      have hn13 : ls 13 = false := by
        cases e : ls 13 with
        | false => rfl
        | true =>
          replace e := hcl 13 7 e (by kernel_rfl)
          rw [show ls 7 = false from hi] at e
          cases e
      rw [if_pos (by rfl)]
      clear hold hdep hend hdon hcl o2 o5 o6 o7 o9
      have HJ := Lib.hid hJ
      clear hJ
      have hx := HJ.out.1 hn11
      go_simp
      exact hK _ _ (fun _ _ _ h => h) HJ.out rfl
    · intro ls vs a w1 hi hJ hold hdep hdon hcl K hK
      have q9 : a.tmps[9]?.getD undef = .pointer (some ⟨bb, 0, none⟩) := (hold 9 (by kernel_rfl)).trans o9
      have hn11 : ls 11 = false := by
        cases e : ls 11 with
        | false => rfl
        | true =>
          replace e := hcl 11 9 e (by kernel_rfl)
          replace e := hcl 9 8 e (by kernel_rfl)
          rw [show ls 8 = false from hi] at e
          cases e
      have hn13 : ls 13 = false := by
        cases e : ls 13 with
        | false => rfl
        | true =>
          replace e := hcl 13 8 e (by kernel_rfl)
          rw [show ls 8 = false from hi] at e
          cases e
      rw [if_pos (by rfl)]
      clear hold hdep hend hdon hcl o2 o5 o6 o7 o9
      have HJ := Lib.hid hJ
      clear hJ
      have hx := HJ.out.1 hn11
      go_simp
      exact hK _ _ (fun _ _ _ h => h) HJ.out rfl
    · intro ls vs a w1 hi hJ hold hdep hdon hcl K hK
      have q32 : a.tmps[32]?.getD undef = .agg #[P0, P1] := (hdep 6 32 (by kernel_rfl) (by kernel_rfl)).2.1.trans (hdep 6 32 (by kernel_rfl) (by kernel_rfl)).2.2
      have q33 : a.tmps[33]?.getD undef = .agg #[A0, A1] := (hdep 7 33 (by kernel_rfl) (by kernel_rfl)).2.1.trans (hdep 7 33 (by kernel_rfl) (by kernel_rfl)).2.2
      have q34 : a.tmps[34]?.getD undef = .agg #[B0, B1] := (hdep 8 34 (by kernel_rfl) (by kernel_rfl)).2.1.trans (hdep 8 34 (by kernel_rfl) (by kernel_rfl)).2.2
      have hn11 : ls 11 = false := by
        cases e : ls 11 with
        | false => rfl
        | true =>
          replace e := hcl 11 9 e (by kernel_rfl)
          rw [show ls 9 = false from hi] at e
          cases e
      have hn13 : ls 13 = false := by
        cases e : ls 13 with
        | false => rfl
        | true =>
          replace e := hcl 13 9 e (by kernel_rfl)
          rw [show ls 9 = false from hi] at e
          cases e
      rw [if_pos (by rfl)]
      clear hold hdep hend hdon hcl o2 o5 o6 o7 o9
      have HJ := Lib.hid hJ
      clear hJ
      obtain ⟨j1, j2, j3, j4⟩ := HJ.out
      go_simp
      go_at_call 75
      (with_reducible refine (HCALL.out _ (j1 hn11)).mono ?_); rintro e w20 ⟨rfl, he2⟩
      refine hK _ _ (fun _ _ _ h => h) ⟨fun _ => (j1 hn11).trans he2, fun e e2 => ?_, fun e => (by simp [hn11] at e), fun e => (by simp [hn13] at e)⟩ rfl
      obtain ⟨gb, h1, h2⟩ := j2 (by simpa using e) hn11
      exact ⟨gb, by simpa using h1, he2.block h2⟩
    · intro ls vs a w1 hi hJ hold hdep hdon hcl K hK
      have q35 : a.tmps[35]?.getD undef = .int .i64 c := (hdep 9 35 (by kernel_rfl) (by kernel_rfl)).2.1.trans (hdep 9 35 (by kernel_rfl) (by kernel_rfl)).2.2
      have hn11 : ls 11 = false := by
        cases e : ls 11 with
        | false => rfl
        | true =>
          replace e := hcl 11 10 e (by kernel_rfl)
          rw [show ls 10 = false from hi] at e
          cases e
      have hn13 : ls 13 = false := by
        cases e : ls 13 with
        | false => rfl
        | true =>
          replace e := hcl 13 10 e (by kernel_rfl)
          rw [show ls 10 = false from hi] at e
          cases e
      rw [if_pos (by rfl)]
      clear hold hdep hend hdon hcl o2 o5 o6 o7 o9
      have HJ := Lib.hid hJ
      clear hJ
      obtain ⟨j1, j2, j3, j4⟩ := HJ.out
      go_simp
      have hx := (Ext.refl w1).alloc (.cells #[.int .i64 c] 3)
      exact hK _ _ (fun _ _ _ h => h) ⟨fun _ => (j1 hn11).trans hx, fun _ _ => ⟨_, rfl, heap_new _ _⟩, fun e => (by simp [hn11] at e), fun e => (by simp [hn13] at e)⟩ trivial
    · intro ls vs a w1 hi hJ hold hdep hdon hcl K hK
      have q31 : a.tmps[31]?.getD undef = .slice ua un uc := (hdep 5 31 (by kernel_rfl) (by kernel_rfl)).2.1.trans (hdep 5 31 (by kernel_rfl) (by kernel_rfl)).2.2
      obtain ⟨hl10, q36, p36⟩ := hdep 10 36 (by kernel_rfl) (by kernel_rfl)
      have hl10 := hdon 10 (by kernel_rfl)
      clear hold hdep hend hdon o2 o5 o6 o7 o9
      have HJ := Lib.hid hJ
      clear hJ
      obtain ⟨j1, j2, j3, j4⟩ := HJ.out
      have hn11 : ls 11 = false := hi
      have hn13 : ls 13 = false := by
        cases e : ls 13 with
        | false => rfl
        | true =>
          have e := hcl 13 11 e (by kernel_rfl)
          rw [hn11] at e; cases e
      obtain ⟨gb, hv, hb⟩ := j2 hl10 hn11
      rw [hv] at q36
      obtain ⟨v', w', r1', r2'⟩ := HAPP.out w1 (j1 hn11) gb hb
      refine step_app (by rfl) (.tmp 31) (.tmp 36) 31 (by rfl) _ _ (by simpa [Act.eval, Array.getD_eq_getD_getElem?] using q31) (by simpa [Act.eval, Array.getD_eq_getD_getElem?] using q36) (fun v3 w3 => v3 = v' ∧ w3 = w') ⟨_, _, r1', rfl, rfl⟩ ?_
      rintro v3 w3 ⟨rfl, rfl⟩
      exact hK _ _ (fun _ _ _ h => h) ⟨fun e => (by simp at e), fun _ e => (by simp at e), fun _ _ => r2', fun e => (by simp [hn13] at e)⟩ trivial
    · intro ls vs a w1 hi hJ hold hdep hdon hcl K hK
      have q26 : a.tmps[26]?.getD undef = .slice (some ⟨g, 0, none⟩) m tc := (hdep 0 26 (by kernel_rfl) (by kernel_rfl)).2.1.trans (hdep 0 26 (by kernel_rfl) (by kernel_rfl)).2.2
      have q27 : a.tmps[27]?.getD undef = .int .i64 (q : Int) := (hdep 1 27 (by kernel_rfl) (by kernel_rfl)).2.1.trans (hdep 1 27 (by kernel_rfl) (by kernel_rfl)).2.2
      rw [if_pos (by rfl)]
      clear hold hdep hend hdon hcl o2 o5 o6 o7 o9
      have HJ := Lib.hid hJ
      clear hJ
      go_simp
      exact hK _ _ (fun _ _ _ h => h) HJ.out rfl
    · intro ls vs a w1 hi hJ hold hdep hdon hcl K hK
      obtain ⟨hl11, q37, p37⟩ := hdep 11 37 (by kernel_rfl) (by kernel_rfl)
      have q38 : a.tmps[38]?.getD undef = .pointer (some ⟨g, q, none⟩) := (hdep 12 38 (by kernel_rfl) (by kernel_rfl)).2.1.trans (hdep 12 38 (by kernel_rfl) (by kernel_rfl)).2.2
      have hl11 := hdon 11 (by kernel_rfl)
      rw [if_pos (by rfl)]
      clear hold hdep hend hdon hcl o2 o5 o6 o7 o9
      have HJ := Lib.hid hJ
      clear hJ
      obtain ⟨j1, j2, j3, j4⟩ := HJ.out
      have hs := j3 hl11 hi
      obtain ⟨⟨a, n, c', hv⟩, ⟨u0, hu0⟩, hf, hr⟩ := HS.out w1 _ hs
      rw [hv] at q37 hr
      go_simp
      exact hK undef _ (fun _ _ _ h => h) ⟨fun e => (by simp [hl11] at e), fun _ e => (by simp [hl11] at e), fun _ e => (by simp at e), fun _ => hr⟩ trivial
  · intro vs w9 ls9 hl9 hJ9 hφ
    have e0 := hφ 0 (by kernel_rfl)
    have e1 := hφ 1 (by kernel_rfl)
    have e2 := hφ 2 (by kernel_rfl)
    have e3 := hφ 3 (by kernel_rfl)
    have e4 := hφ 4 (by kernel_rfl)
    have e5 := hφ 5 (by kernel_rfl)
    have e6 := hφ 6 (by kernel_rfl)
    have e7 := hφ 7 (by kernel_rfl)
    have e8 := hφ 8 (by kernel_rfl)
    have e9 := hφ 9 (by kernel_rfl)
    have e10 := hφ 10 (by kernel_rfl)
    have e11 := hφ 11 (by kernel_rfl)
    have e12 := hφ 12 (by kernel_rfl)
    have hq := hend vs w9 ls9 hl9 hJ9 e0 e1 e2 e3 e4 e5 e6 e7 e8 e9 e10 e11 e12
    simp only [Act.put] at hq
    simp only [putAll, Act.put]
    exact hq

/-! ### rows of slices that are written -/
theorem rowV_map (vs : List (Sl Int)) : rowF vecC vs = vs.map fun s => Value.slice s.a s.xs.length s.c := by
  unfold rowF
  induction vs with
  | nil => rfl
  | cons x xs ih => rw [List.flatMap_cons, ih]; rfl
abbrev rwV (v : Value) (vs : List (Sl Int)) : Rw := ⟨31, 1, v, vs.length, rowF vecC vs⟩
abbrev slV (s : Sl Int) : Value := .slice s.a s.xs.length s.c
abbrev rwS (s : Sl Int) : Rw := rwI (slV s) s.xs
/-- A row of slices, and the rows under them. -/
def tabL (v : Value) (vs : List (Sl Int)) : List Rw := rwV v vs :: vs.map rwS
def slN : Sl Int := ⟨none, [], 0⟩
theorem tabL_at (v : Value) (vs : List (Sl Int)) (i : Nat) (hi : i < vs.length) : (tabL v vs)[i + 1]? = some (rwS (vth vs i)) := by
  unfold tabL; rw [List.getElem?_cons_succ, List.getElem?_map, List.getElem?_eq_getElem hi, vth_eq _ _ hi]; rfl
theorem tabL_zero (v : Value) (vs : List (Sl Int)) : (tabL v vs)[0]? = some (rwV v vs) := rfl
theorem ownV_set {w : World} {B g n c i : Nat} {vs : List (Sl Int)} (hn : vs.length = n) (h : OwnV w B (.slice (some ⟨g, 0, none⟩) n c) vs) (s : Sl Int) : OwnV (w.setCell ⟨g, i, none⟩ (slV s)) B (.slice (some ⟨g, 0, none⟩) n c) (vs.set i s) := by
  subst hn
  have h' : w.ownsRow B 31 1 (.slice (some ⟨g, 0, none⟩) vs.length c) vs.length (rowF vecC vs) := h
  have := (h'.stored i (slV s)).1
  show World.ownsRow _ B 31 1 _ (vs.set i s).length (rowF vecC (vs.set i s))
  rw [List.length_set, rowV_map, List.map_set, ← rowV_map]
  exact this
theorem ownV_cell {w : World} {B g n c : Nat} {vs : List (Sl Int)} (hn : vs.length = n) (h : OwnV w B (.slice (some ⟨g, 0, none⟩) n c) vs) (i : Nat) (hi : i < n) : w.cell? ⟨g, i, none⟩ = some (slV (vth vs i)) := by
  subst hn
  have h' : w.ownsRow B 31 1 (.slice (some ⟨g, 0, none⟩) vs.length c) vs.length (rowF vecC vs) := h
  rw [h'.cellAt i (by omega), rowV_map, List.getElem?_map, List.getElem?_eq_getElem hi, vth_eq _ _ hi]; rfl
theorem ownV_free {w : World} {B g n c : Nat} {vs : List (Sl Int)} (hn : vs.length = n) (h : OwnV w B (.slice (some ⟨g, 0, none⟩) n c) vs) (i : Nat) : w.frozen? ⟨g, i, none⟩ = false := by
  subst hn
  have h' : w.ownsRow B 31 1 (.slice (some ⟨g, 0, none⟩) vs.length c) vs.length (rowF vecC vs) := h
  exact h'.frozenAt i
theorem RowsAt.tab_own {w : World} {B : Nat} {v : Value} {vs : List (Sl Int)} (h : RowsAt w B (tabL v vs)) : OwnV w B v vs := h.get (tabL_zero v vs)
theorem RowsAt.tab_row {w : World} {B : Nat} {v : Value} {vs : List (Sl Int)} (h : RowsAt w B (tabL v vs)) (i : Nat) (hi : i < vs.length) : OwnI w B (slV (vth vs i)) (vth vs i).xs := h.get (tabL_at v vs i hi)
/-- One row under the table has changed; then its slice is stored. -/
theorem RowsAt.tab_store {w : World} {B g n c i : Nat} {vs : List (Sl Int)} {s : Sl Int} (hn : vs.length = n) (hi : i < n) (h : RowsAt w B ((tabL (.slice (some ⟨g, 0, none⟩) n c) vs).set (i + 1) (rwS s))) :
    RowsAt (w.setCell ⟨g, i, none⟩ (slV s)) B (tabL (.slice (some ⟨g, 0, none⟩) n c) (vs.set i s)) := by
  have h0 : ((tabL (.slice (some ⟨g, 0, none⟩) n c) vs).set (i + 1) (rwS s))[0]? = some (rwV (.slice (some ⟨g, 0, none⟩) n c) vs) := by
    unfold tabL; rw [List.set_cons_succ]; rfl
  have hown : OwnV w B (.slice (some ⟨g, 0, none⟩) n c) vs := h.get h0
  have := h.written (r' := rwV (.slice (some ⟨g, 0, none⟩) n c) (vs.set i s)) h0 ((ExtX.refl g w).set i (slV s)) rfl rfl (ownV_set hn hown s)
  unfold tabL at this ⊢
  rw [List.set_cons_succ, List.set_cons_zero, ← List.map_set] at this
  exact this
def madeV (W : World) (n : Nat) : World := W.alloc (.cells (madeCells #[.slice none 0 0] n) 31)
theorem run_madeV (t : TypeId) (ht : Tryz.prog.underlying t = some (.slice 31)) (n : Nat) (hn : n ≤ 1000000) (W : World) : (Instr.makeSlice t (.int .i64 (n : Int)) (.int .i64 (n : Int))).run Tryz.prog W = .ok (.slice (some ⟨W.heap.size, 0, none⟩) n n) (madeV W n) := by
  obtain ⟨i0, hi, hz0, hz1, hz2⟩ := info_parts info31
  have := run_make (P := Tryz.prog) W t 31 i0 (.slice none 0 0) ht hi hz0 .i64 .i64 n n
  rw [hz1, hz2] at this
  have h := this (by omega) (by omega) (by omega) (by omega)
  rw [Int.toNat_natCast, Nat.mul_one] at h
  exact h
theorem vth_rep (n i : Nat) : vth (List.replicate n slN) i = slN := by
  unfold vth
  rw [List.getD_eq_getElem?_getD, List.getElem?_replicate]
  split <;> rfl
theorem madeV_facts {W w1 : World} {n : Nat} (hn : n ≤ 1000000) (h : madeV W n = w1) : Ext W w1 ∧ RowsAt w1 W.heap.size (tabL (.slice (some ⟨W.heap.size, 0, none⟩) n n) (List.replicate n slN)) ∧ w1.heap.size = W.heap.size + 1 := by
  subst h
  refine ⟨(Ext.refl W).alloc _, ⟨fun r hr => ?_, ?_⟩, heap_size _ _⟩
  · rcases List.mem_cons.1 hr with rfl | hr
    · show World.ownsRow _ _ 31 1 _ (List.replicate n slN).length _
      rw [List.length_replicate]
      refine ⟨by rw [rowF_len vecC_len, List.length_replicate], .inr ⟨W.heap.size, n, madeCells #[.slice none 0 0] n, rfl, Nat.le_refl _, heap_new _ _, Nat.le_refl _, by unfold maxLen; omega, ?_, ?_⟩⟩
      · rw [← Array.length_toList, toList_madeCells_one]; simp
      · show _ = rowF vecC (List.replicate n slN)
        rw [toList_madeCells_one, rowV_map, List.map_replicate]
        rw [List.take_of_length_le (by simp)]; rfl
    · obtain ⟨s, hs, rfl⟩ := List.mem_map.1 hr
      rw [List.mem_replicate] at hs
      rw [hs.2]
      exact World.ownsRow_nil _ _ _ _
  · unfold tabL
    rw [List.pairwise_cons]
    have hnil : ∀ x ∈ (List.replicate n slN).map rwS, x.v.ownBlock = none := fun x hx => by
      obtain ⟨s, hs, rfl⟩ := List.mem_map.1 hx
      rw [List.mem_replicate] at hs
      rw [hs.2]; rfl
    refine ⟨fun x hx k _ e => (by rw [hnil x hx] at e; cases e), ?_⟩
    rw [List.pairwise_iff_getElem]
    intro i j hi hj _ k hk
    rw [hnil _ (List.getElem_mem hi)] at hk; cases hk
theorem own_type_ne {w : World} {B e sz n b T : Nat} {v : Value} {xs : List Value} {cs : Array Value} {fz : Nat × Nat} (h : w.ownsRow B e sz v n xs) (hb : w.heap[b]? = some (.cells cs T fz)) (hne : e ≠ T) : v.ownBlock ≠ some b := by
  intro hk
  rcases h.2 with ⟨hv, -⟩ | ⟨g, cap, cur, hv, -, hh, -⟩
  · rw [hv] at hk; cases hk
  · rw [hv] at hk
    simp only [Value.ownBlock, Option.some.injEq] at hk
    subst hk
    rw [hh] at hb
    simp only [Option.some.injEq, Obj.cells.injEq] at hb
    exact hne hb.2.1
/-! ### newTable -/
def crow (fs : List Fac) (ss : List Se) (p k : Nat) : List Int := (List.range k).map fun q => costS fs (eth ss p).lv.xs (eth ss q).lv.xs
theorem crow_succ (fs : List Fac) (ss : List Se) (p k : Nat) : crow fs ss p (k + 1) = crow fs ss p k ++ [costS fs (eth ss p).lv.xs (eth ss k).lv.xs] := by
  unfold crow; rw [List.range_succ]; simp
theorem crow_len (fs : List Fac) (ss : List Se) (p k : Nat) : (crow fs ss p k).length = k := by simp [crow]
def TabS (fs : List Fac) (ss : List Se) (i k : Nat) (vs : List (Sl Int)) : Prop := vs.length = ss.length ∧ ∀ p, p < ss.length → (vth vs p).xs = crow fs ss p (if p < i then ss.length else if p = i then k else 0)
theorem vth_set (vs : List (Sl Int)) (i p : Nat) (s : Sl Int) (hp : p < vs.length) : vth (vs.set i s) p = if p = i then s else vth vs p := by
  rw [vth_eq _ _ (by simpa using hp), vth_eq _ _ hp, List.getElem_set]
  by_cases h : i = p
  · rw [if_pos h, if_pos h.symm]
  · rw [if_neg h, if_neg (fun e => h e.symm)]
def RetTab (fs : List Fac) (ss : List Se) (w : World) (e : Ending) (w' : World) : Prop :=
  ∃ g c vs, e = .returned (.slice (some ⟨g, 0, none⟩) ss.length c) ∧ Ext w w' ∧ RowsAt w' w.heap.size (tabL (.slice (some ⟨g, 0, none⟩) ss.length c) vs) ∧ vs.length = ss.length ∧ ∀ p, p < ss.length → (vth vs p).xs = crow fs ss p ss.length
set_option maxRecDepth 100000 in
set_option maxHeartbeats 4000000 in
theorem newTable_any (P : Pw) (a : Option Addr) (ss : List Se) (sc : Nat) (w : World) (h : PlanAt w P) (hf : P.fs.length ≤ 8) (hc : ∀ i, i < P.fs.length → 0 ≤ (fth P.fs i).cost ∧ (fth P.fs i).cost ≤ 1000) (hs : SetsAt w a ss) (hn : ss.length ≤ 2000)
    (hl : ∀ i, i < ss.length → (eth ss i).lv.xs.length = P.fs.length) : Calls Tryz.prog 70 #[planV P, .slice a ss.length sc] w (RetTab P.fs ss w) := by
  have hcall := fun W (e : Ext w W) p q (hp : p < ss.length) (hq : q < ss.length) => cost_any P (eth ss p) (eth ss q) W (h.ext e) hf hc ((hs.ext e).lv p hp) ((hs.ext e).lv q hq) (hl p hp) (hl q hq)
  obtain ⟨fs, fa, fc, fo, ga, gc⟩ := P
  simp only at hcall hf hl ⊢
  have HCALL := Lib.hid hcall; have HS := Lib.hid hs
  have hmk := run_madeV 128 Tryz.underlying128 ss.length (by omega)
  clear hcall h hc hs hl
  go_enter Tryz.func70, Tryz.ntmps70
  go_wp2_with (fail)
  generalize hw1 : World.alloc _ _ = w1
  obtain ⟨he, o1, hs1⟩ := alloc1 hw1
  obtain ⟨b0, b1⟩ := obj_cells2 o1
  clear hw1 o1
  have HE := Lib.hid he
  generalize hw2 : madeV _ _ = w2
  obtain ⟨he2, hrows, hsz⟩ := madeV_facts (by omega) hw2
  obtain ⟨g, hg⟩ : ∃ g, g = w.heap.size + 1 := ⟨_, rfl⟩
  rw [hs1, ← hg] at hrows hsz
  rw [← hg]
  have HE2 := Lib.hid he2; have HR2 := Lib.hid hrows
  have HG : Hid (w.heap.size ≤ g ∧ w1.heap.size ≤ g ∧ g < w2.heap.size) := ⟨by omega, by omega, by omega⟩
  clear he hw2 he2 hrows hsz hg hmk hs1
  go_loopw [15] (fun i wr => ∃ (k : Nat) (vs : List (Sl Int)), k ≤ ss.length ∧ i = .int .i64 k ∧ Ext w1 wr ∧ Hid (RowsAt wr g (tabL (.slice (some ⟨g, 0, none⟩) ss.length ss.length) vs) ∧ TabS fs ss k 0 vs)) (fun i _ => ss.length - (intOf i).toNat)
  case atStart =>
    refine ⟨0, _, Nat.zero_le _, rfl, HE2.out, HR2.out, by simp, fun p hp => ?_⟩
    rw [vth_rep]
    have : (if p < 0 then ss.length else if p = 0 then 0 else 0) = 0 := by simp
    rw [this]; rfl
  case round =>
    obtain ⟨i, vs0, hi, rfl, hr, hrw⟩ := hrel
    obtain ⟨wo, rfl⟩ : ∃ wo : World, wo = wr := ⟨_, rfl⟩
    by_cases hlt : i < ss.length
    · obtain ⟨sb, so, rfl, d0, d1⟩ := set_at (HS.out.ext (HE.out.trans hr)).row i hlt
      have Er := Ext.refl wo
      obtain ⟨A0, hA0⟩ : ∃ A0, A0 = Value.slice (eth ss i).lv.a (eth ss i).lv.xs.length (eth ss i).lv.c := ⟨_, rfl⟩
      obtain ⟨A1, hA1⟩ : ∃ A1, A1 = Value.int .i64 (eth ss i).blk := ⟨_, rfl⟩
      have HA : Hid (setV (eth ss i) = .agg #[A0, A1]) := by rw [hA0, hA1]; rfl
      go_upto_region 5 with fail
      generalize hw3 : World.alloc wo _ = w3
      obtain ⟨he3, o3, hs3⟩ := alloc1 hw3
      obtain ⟨ab, hab⟩ : ∃ ab, ab = wo.heap.size := ⟨_, rfl⟩
      rw [← hab] at o3 ⊢
      rw [← hA0, ← hA1] at o3
      have HAB := Lib.hid o3
      have hr3 := hr.trans he3
      have HRW3 : Hid (RowsAt w3 g (tabL (.slice (some ⟨g, 0, none⟩) ss.length ss.length) vs0) ∧ TabS fs ss i 0 vs0) := ⟨hrw.out.1.ext he3, hrw.out.2⟩
      clear hw3 o3 d0 d1 Er he3 hs3 hab hrw hA0 hA1
      go_upto_region 6 with fail
      go_loopw [22] (fun v wr => ∃ (k : Nat) (vs : List (Sl Int)), k ≤ ss.length ∧ v = .int .i64 k ∧ Ext w1 wr ∧ Hid (wr.heap[ab]? = some (.cells #[A0, A1] 49 (0, 0))) ∧ Hid (RowsAt wr g (tabL (.slice (some ⟨g, 0, none⟩) ss.length ss.length) vs) ∧ TabS fs ss i k vs)) (fun v _ => ss.length - (intOf v).toNat)
      case atStart => exact ⟨0, _, Nat.zero_le _, rfl, hr3, HAB.out, HRW3.out.1, HRW3.out.2⟩
      case round =>
        obtain ⟨k, vs, hk, rfl, hrq, hab, hrw⟩ := hrel
        clear HRW3 HAB hr3
        by_cases hlt2 : k < ss.length
        · obtain ⟨z0', z1'⟩ := obj_cells2 hab.out
          obtain ⟨sb', so', hbo, d0, d1⟩ := set_at (HS.out.ext (HE.out.trans hrq)).row k hlt2
          simp only [Option.some.injEq, Addr.mk.injEq, and_true] at hbo
          obtain ⟨rfl, rfl⟩ := hbo
          have Er := Ext.refl wr
          obtain ⟨B0, hB0⟩ : ∃ B0, B0 = Value.slice (eth ss k).lv.a (eth ss k).lv.xs.length (eth ss k).lv.c := ⟨_, rfl⟩
          obtain ⟨B1, hB1⟩ : ∃ B1, B1 = Value.int .i64 (eth ss k).blk := ⟨_, rfl⟩
          have HBV : Hid (setV (eth ss k) = .agg #[B0, B1]) := by rw [hB0, hB1]; rfl
          have hik : (i : Int) < (ss.length : Int) := by omega
          have hi0 : (0 : Int) ≤ (i : Int) := by omega
          go_upto_region 8 with fail
          generalize hw5 : World.alloc wr _ = w5
          obtain ⟨he5, o5, hs5⟩ := alloc1 hw5
          obtain ⟨bb, hbb⟩ : ∃ bb, bb = wr.heap.size := ⟨_, rfl⟩
          rw [← hbb] at o5 ⊢
          obtain ⟨c0, c1⟩ := obj_cells2 o5
          rw [← hB0] at c0; rw [← hB1] at c1
          have hr5 := hrq.trans he5
          have HRW5 : Hid (RowsAt w5 g (tabL (.slice (some ⟨g, 0, none⟩) ss.length ss.length) vs) ∧ TabS fs ss i k vs) := ⟨hrw.out.1.ext he5, hrw.out.2⟩
          have HAB5 := Lib.hid (he5.block hab.out)
          clear hw5 o5 d0 d1 Er hs5 hbb hrw
          obtain ⟨x, hx⟩ : ∃ x, x = vth vs i := ⟨_, rfl⟩
          have hxs : x.xs = crow fs ss i k := by
            have := HRW5.out.2.2 i hlt
            rw [if_neg (by omega), if_pos rfl] at this
            rw [hx]; exact this
          have HRI : Hid (OwnI w5 g (slV x) x.xs) := by rw [hx]; exact HRW5.out.1.tab_row i (by rw [HRW5.out.2.1]; exact hlt)
          have HOV : Hid (OwnV w5 g (.slice (some ⟨g, 0, none⟩) ss.length ss.length) vs) := HRW5.out.1.tab_own
          have hq0 := hi0
          have hq1 := hik
          have p0 := fun W (e : Ext w5 W) => b0 W (hr5.trans e)
          have p1 := fun W (e : Ext w5 W) => b1 W (hr5.trans e)
          have a0 := fun W (e : Ext w5 W) => z0' W (he5.trans e)
          have a1 := fun W (e : Ext w5 W) => z1' W (he5.trans e)
          obtain ⟨C, hC⟩ : ∃ C, C = costS fs (eth ss i).lv.xs (eth ss k).lv.xs := ⟨_, rfl⟩
          have HTI : Hid (∀ W, Ext w5 W → W.cell? ⟨g, i, none⟩ = some (.slice x.a x.xs.length x.c)) := fun W e => by
            rw [hx]; exact ownV_cell HRW5.out.2.1 (HOV.out.ext e) i hlt
          have HCL : Hid (∀ W, Ext w5 W → Calls Tryz.prog 75 #[.agg #[.slice fa fs.length fc, .slice ga fo.length gc], .agg #[A0, A1], .agg #[B0, B1]] W (Ret (.int .i64 C) W)) := fun W e => by
            have := HCALL.out W (HE.out.trans (hr5.trans e)) i k hlt hlt2
            rw [HA.out, HBV.out, ← hC] at this; exact this
          obtain ⟨S, hS⟩ : ∃ S : World → Value → Prop, S = fun W v => Ext w1 W ∧ W.heap[ab]? = some (.cells #[A0, A1] 49 (0, 0)) ∧ ∃ a' c', v = .slice a' (k + 1) c' ∧ RowsAt W g ((tabL (.slice (some ⟨g, 0, none⟩) ss.length ss.length) vs).set (i + 1) (rwI v (crow fs ss i (k + 1)))) := ⟨_, rfl⟩
          obtain ⟨R, hR⟩ : ∃ R : World → Prop, R = fun W => Ext w1 W ∧ W.heap[ab]? = some (.cells #[A0, A1] 49 (0, 0)) ∧ ∃ vs', RowsAt W g (tabL (.slice (some ⟨g, 0, none⟩) ss.length ss.length) vs') ∧ TabS fs ss i (k + 1) vs' := ⟨_, rfl⟩
          have HAPP : Hid (∀ W, Ext w5 W → ∀ gb, W.heap[gb]? = some (.cells #[.int .i64 C] 3 (0, 0)) → ∃ v' w', (Builtin.append_ #[31, 31] 31 #[.slice x.a x.xs.length x.c, .slice (some ⟨gb, 0, none⟩) 1 1]).run Tryz.prog W = .ok v' w' ∧ S w' v') := fun W e gb hgb => by
            obtain ⟨v', w', r1, r2, r3, r4⟩ := app_intsL W g 31 (slV x) x.xs [C] (some ⟨gb, 0, none⟩) 1 (HRI.out.ext e) (ints_one hgb) (by simp) (by rw [hxs, crow_len]; simp; omega) (by have := ((HOV.out.ext e).lt g rfl).2; omega)
            refine ⟨v', w', r1, ?_⟩
            rw [hS]
            obtain ⟨a', n', c', rfl⟩ := own_slice r2
            obtain ⟨-, hn', -⟩ := r2.ints
            rw [List.length_append, hxs, crow_len] at hn'
            rw [hxs, hC, ← crow_succ] at r2
            refine ⟨grown_ext (hr5.trans e) r3 (fun k hk => by have := (HRI.out.lt k hk).1; have := HG.out.2.1; omega), by
              rw [r3.block ab (lt_of_block (e.block HAB5.out)) (fun e2 => own_type_ne (HRI.out.ext e) (e.block HAB5.out) (by decide) (by first | exact e2 | exact e2.symm))]
              exact e.block HAB5.out, a', c', by rw [hn']; rfl, (HRW5.out.1.ext e).appended (tabL_at _ vs i (by rw [HRW5.out.2.1]; exact hlt)) (by rw [← hx]; exact r3) r2 (by rw [← hx]; exact r4)⟩
          have HSR : Hid (∀ W v, S W v → (∃ a n c', v = .slice a n c') ∧ (∃ u0, W.cell? ⟨g, i, none⟩ = some u0) ∧ W.frozen? ⟨g, i, none⟩ = false ∧ R (W.setCell ⟨g, i, none⟩ v)) := fun W v h => by
            rw [hS] at h
            obtain ⟨h1, hab1, a', c', rfl, h3⟩ := h
            have h0 : ((tabL (.slice (some ⟨g, 0, none⟩) ss.length ss.length) vs).set (i + 1) (rwI (.slice a' (k + 1) c') (crow fs ss i (k + 1))))[0]? = some (rwV (.slice (some ⟨g, 0, none⟩) ss.length ss.length) vs) := by
              unfold tabL; rw [List.set_cons_succ]; rfl
            have hov : OwnV W g (.slice (some ⟨g, 0, none⟩) ss.length ss.length) vs := h3.get h0
            refine ⟨⟨_, _, _, rfl⟩, ⟨_, ownV_cell HRW5.out.2.1 hov i hlt⟩, ownV_free HRW5.out.2.1 hov i, ?_⟩
            rw [hR]
            have hst := RowsAt.tab_store (s := ⟨a', crow fs ss i (k + 1), c'⟩) HRW5.out.2.1 hlt (by show RowsAt W g ((tabL _ vs).set (i + 1) (rwI (.slice a' (crow fs ss i (k + 1)).length c') (crow fs ss i (k + 1)))); rw [crow_len]; exact h3)
            have he1 : slV ⟨a', crow fs ss i (k + 1), c'⟩ = .slice a' (k + 1) c' := by show Value.slice a' (crow fs ss i (k + 1)).length c' = _; rw [crow_len]
            rw [he1] at hst
            refine ⟨h1.set (by have := HG.out.2.1; exact this) _, by
              rw [heap_set_ne _ (fun e2 => own_type_ne hov hab1 (by decide) (by rw [e2]; rfl))]
              exact hab1, _, hst, by rw [List.length_set]; exact HRW5.out.2.1, fun p hp => ?_⟩
            rw [vth_set _ _ _ _ (by rw [HRW5.out.2.1]; exact hp)]
            by_cases hpi : p = i
            · subst hpi; rw [if_pos rfl, if_neg (by omega), if_pos rfl]
            · rw [if_neg hpi, HRW5.out.2.2 p hp, if_neg hpi, if_neg hpi]
          have HRR := Lib.hid hR
          have HIL := Lib.hid hik
          clear hS hR HRW5 HRI HOV HA HBV hx hxs hB0 hB1 hC z0' z1'
          refine nt_law hq0 hq1 p0 p1 a0 a1 c0 c1 HTI HCL HAPP HSR _ (by rfl) rfl rfl rfl rfl rfl ?_
          intro vs w9 ls9 hl9 hJ9 e0 e1 e2 e3 e4 e5 e6 e7 e8 e9 e10 e11 e12
          simp only [Act.put, List.setIfInBounds_toArray, List.set_cons_zero, List.set_cons_succ]
          rw [e0, e1, e2, e3, e4, e5, e6, e7, e8, e9, e12]
          obtain ⟨-, -, -, j4⟩ := hJ9
          have hfin := j4 (hl9 13 (by omega))
          rw [HRR.out] at hfin
          obtain ⟨hx1, hx2, vs', hx3, hx4⟩ := hfin
          have HX2 := Lib.hid hx2; have HX3 := Lib.hid hx3; have HX4 := Lib.hid hx4
          clear hx2 hx3 hx4 j4 HRR HAPP HSR HCL HTI a0 a1 c0 c1 p0 p1
          go_wp2_with (fail)
          go_roundw
          case rel => exact ⟨k + 1, vs', by omega, by go_num, hx1, HX2.out, HX3.out, HX4.out⟩
          case measure => simp [intOf]; omega
        · obtain rfl : k = ss.length := by omega
          have HT : Hid (TabS fs ss (i + 1) 0 vs) := by
            refine ⟨hrw.out.2.1, fun p hp => ?_⟩
            rw [hrw.out.2.2 p hp]
            by_cases h1 : p < i
            · rw [if_pos h1, if_pos (by omega)]
            · rw [if_neg h1]
              by_cases h2 : p = i
              · rw [if_pos h2, if_pos (by omega)]
              · rw [if_neg h2, if_neg (by omega)]; split <;> rfl
          have hrr := hrq
          have HRX := Lib.hid hrw.out.1
          clear hrw
          go_wp2_with (fail)
          go_roundw
          case rel => exact ⟨i + 1, vs, by omega, by go_num, hrr, HRX.out, HT.out⟩
          case measure => simp [intOf]; omega
    · obtain rfl : i = ss.length := by omega
      go_wp2_with (fail)
      go_ret
      refine ⟨g, ss.length, vs0, rfl, HE.out.trans hr, hrw.out.1.down (by have := HG.out; omega), hrw.out.2.1, fun p hp => ?_⟩
      have := hrw.out.2.2 p hp
      rw [if_pos hp] at this; exact this
end Go.Proofs.YtplbofhgmflnlaaGreat
