/-
  Walks: draws.below, shuffle at []int, numbers, Shuffle, the reference's Shuffle (printed by genm3.py).
-/
import Derived.Test.YtplbofhgmflnlaaGreatM2
set_option linter.unusedVariables false
set_option linter.unusedSimpArgs false
namespace Go.Proofs.YtplbofhgmflnlaaGreat
open Go.RowKit
/-- The next state of the draws. -/
def lcg (s : Int) : Int := IntKind.u64.wrap (IntKind.u64.wrap (s * 6364136223846793005) + 1442695040888963407)
/-- The number that a state draws. -/
def drw (s m : Int) : Int := wrap64 (IntKind.u64.wrap (s / 4294967296 * IntKind.u64.wrap m) / 4294967296)
theorem lcg_bd (s : Int) : 0 ≤ lcg s ∧ lcg s < 18446744073709551616 := by
  unfold lcg; rw [IntKind.wrap_u64]; omega
theorem drw_bd (s m : Int) (h0 : 0 ≤ s) (h1 : s < 18446744073709551616) (hm : 1 ≤ m) (hm1 : m ≤ 1000000) : 0 ≤ drw s m ∧ drw s m < m := by
  unfold drw
  have e1 : IntKind.u64.wrap m = m := by rw [IntKind.wrap_u64]; omega
  rw [e1]
  obtain ⟨q, hq⟩ : ∃ q, q = s / 4294967296 := ⟨_, rfl⟩
  have hq0 : 0 ≤ q := by omega
  have hq1 : q ≤ 4294967295 := by omega
  rw [← hq]
  have h2 : 0 ≤ q * m := Int.mul_nonneg hq0 (by omega)
  have h3 : q * m ≤ 4294967295 * m := Int.mul_le_mul_of_nonneg_right hq1 (by omega)
  have e2 : IntKind.u64.wrap (q * m) = q * m := by rw [IntKind.wrap_u64]; omega
  rw [e2]
  have hd : 0 ≤ q * m / 4294967296 ∧ q * m / 4294967296 ≤ 1000000 := by omega
  have e3 : wrap64 (q * m / 4294967296) = q * m / 4294967296 := IntWalk.wrap64_in _ (by omega)
  rw [e3]; omega
section
variable {α : Type} [Inhabited α]
def swp (l : List α) (i j : Nat) : List α := (l.set i (l.getD j default)).set j (l.getD i default)
theorem swp_len (l : List α) (i j : Nat) : (swp l i j).length = l.length := by simp [swp]
/-- What is left to be swapped from the places below k on. -/
def shufK : Nat → Int → List α → List α
  | 0, _, l => l
  | 1, _, l => l
  | k + 2, s, l => shufK (k + 1) (lcg s) (swp l (k + 1) (drw (lcg s) ((k + 2 : Nat) : Int)).toNat)
theorem shufK_step (x : Nat) (hx : 1 ≤ x) (s : Int) (l : List α) : shufK (x + 1) s l = shufK x (lcg s) (swp l x (drw (lcg s) ((x : Int) + 1)).toNat) := by
  match x, hx with
  | k + 1, _ => simp only [shufK]; rfl
def shufL (s : Int) (l : List α) : List α := shufK l.length s l
end
theorem swp_int (l : List Int) (i j : Nat) : swp l i j = (l.set i (nth l j)).set j (nth l i) := rfl
set_option maxHeartbeats 400000 in
theorem below_any (B : Nat) (s m : Int) (w : World) (hc : w.cell? ⟨B, 0, none⟩ = some (.int .u64 s)) (hf : w.frozen? ⟨B, 0, none⟩ = false) :
    Calls Tryz.prog 114 #[.pointer (some ⟨B, 0, none⟩), .int .i64 m] w (fun e w' => e = .returned (.int .i64 (drw (lcg s) m)) ∧ w' = w.setCell ⟨B, 0, none⟩ (.int .u64 (lcg s))) := by
  go_enter Tryz.func114, Tryz.ntmps114
  go_wp2_with (fail)
  go_ret
  exact ⟨rfl, rfl⟩
set_option maxRecDepth 100000 in
set_option maxHeartbeats 4000000 in
theorem sw_law {g n c x y : Nat} {vi vj : Int} {wr : World} {S R : World → Prop} (hi0 : (0 : Int) ≤ (x : Int)) (hi1 : (x : Int) < (n : Int)) (hj0 : (0 : Int) ≤ (y : Int)) (hj1 : (y : Int) < (n : Int)) (HCI : Hid (∀ W, Ext wr W → W.cell? ⟨g, x, none⟩ = some (.int .i64 vi))) (HCJ : Hid (∀ W, Ext wr W → W.cell? ⟨g, y, none⟩ = some (.int .i64 vj))) (HF : Hid (∀ W, Ext wr W → W.frozen? ⟨g, x, none⟩ = false)) (HS : Hid (∀ W, Ext wr W → S (W.setCell ⟨g, x, none⟩ (.int .i64 vj)))) (HCJ2 : Hid (∀ W, S W → W.cell? ⟨g, y, none⟩ = some (.int .i64 vj))) (HF2 : Hid (∀ W, S W → W.frozen? ⟨g, y, none⟩ = false)) (HR : Hid (∀ W, S W → R (W.setCell ⟨g, y, none⟩ (.int .i64 vi)))) {Q : Exit → Act → World → Prop} (aZ : Act) (hsz : aZ.tmps.size = 32) (o1 : aZ.tmps[1]?.getD undef = .slice (some ⟨g, 0, none⟩) n c) (o5 : aZ.tmps[5]?.getD undef = .int .i64 (x : Int)) (o6 : aZ.tmps[6]?.getD undef = .int .i64 (y : Int))
    (hend : ∀ (vs : Nat → Value) (w9 : World) (ls9 : Nat → Bool), (∀ j : Nat, j < 16 → ls9 j = true) → ((ls9 15 = true → ls9 13 = true) ∧ (ls9 13 = true → ls9 7 = true ∧ ls9 11 = true) ∧ (ls9 13 = false → Ext wr w9) ∧ (ls9 13 = true → ls9 15 = false → S w9) ∧ (ls9 15 = true → R w9)) → (vs 0 = .slice (some ⟨g, 0, none⟩) n c) → (vs 1 = .int .i64 (x : Int)) → (vs 2 = .slice (some ⟨g, 0, none⟩) n c) → (vs 3 = .int .i64 (y : Int)) → (vs 4 = .slice (some ⟨g, 0, none⟩) n c) → (vs 5 = .int .i64 (y : Int)) → (vs 6 = .pointer (some ⟨g, y, none⟩)) → (vs 7 = .int .i64 vj) → (vs 8 = .slice (some ⟨g, 0, none⟩) n c) → (vs 9 = .int .i64 (x : Int)) → (vs 10 = .pointer (some ⟨g, x, none⟩)) → (vs 11 = .int .i64 vi) → (vs 12 = .pointer (some ⟨g, x, none⟩)) → (vs 14 = .pointer (some ⟨g, y, none⟩)) → Q .normal ((((((((((((((aZ.put (some 18) (vs 0)).put (some 19) (vs 1)).put (some 20) (vs 2)).put (some 21) (vs 3)).put (some 22) (vs 4)).put (some 23) (vs 5)).put (some 24) (vs 6)).put (some 25) (vs 7)).put (some 26) (vs 8)).put (some 27) (vs 9)).put (some 28) (vs 10)).put (some 29) (vs 11)).put (some 30) (vs 12)).put (some 31) (vs 14)) w9) : (regOf Tryz.f80 5).wp Tryz.prog Q aZ wr := by
  conv => arg 2; whnf
  refine wp_region_said3 (fun i v wz => match i with
    | 0 => v = .slice (some ⟨g, 0, none⟩) n c
    | 1 => v = .int .i64 (x : Int)
    | 2 => v = .slice (some ⟨g, 0, none⟩) n c
    | 3 => v = .int .i64 (y : Int)
    | 4 => v = .slice (some ⟨g, 0, none⟩) n c
    | 5 => v = .int .i64 (y : Int)
    | 6 => v = .pointer (some ⟨g, y, none⟩)
    | 7 => v = .int .i64 vj
    | 8 => v = .slice (some ⟨g, 0, none⟩) n c
    | 9 => v = .int .i64 (x : Int)
    | 10 => v = .pointer (some ⟨g, x, none⟩)
    | 11 => v = .int .i64 vi
    | 12 => v = .pointer (some ⟨g, x, none⟩)
    | 13 => True
    | 14 => v = .pointer (some ⟨g, y, none⟩)
    | _ => True) (fun ls vs wz => (ls 15 = true → ls 13 = true) ∧ (ls 13 = true → ls 7 = true ∧ ls 11 = true) ∧ (ls 13 = false → Ext wr wz) ∧ (ls 13 = true → ls 15 = false → S wz) ∧ (ls 15 = true → R wz)) (by kernel_rfl) (by kernel_rfl) (by rw [hsz]; kernel_rfl) ?_ ?_ ?_
  · exact ⟨fun e => (by cases e), fun e => (by cases e), fun _ => (Ext.refl _).drew, fun e => (by cases e), fun e => (by cases e)⟩
  · refine ⟨?_, ?_, ?_, ?_, ?_, ?_, ?_, ?_, ?_, ?_, ?_, ?_, ?_, ?_, ?_, ?_, trivial⟩
    · intro ls vs a w1 hi hJ hold hdep hdon hcl K hK
      have q1 : a.tmps[1]?.getD undef = .slice (some ⟨g, 0, none⟩) n c := (hold 1 (by kernel_rfl)).trans o1
      rw [if_pos (by rfl)]
      clear hold hdep hend hdon hcl o1 o5 o6
      have HJ := Lib.hid hJ
      clear hJ
      go_simp
      exact hK _ _ (fun _ _ _ h => h) HJ.out rfl
    · intro ls vs a w1 hi hJ hold hdep hdon hcl K hK
      have q5 : a.tmps[5]?.getD undef = .int .i64 (x : Int) := (hold 5 (by kernel_rfl)).trans o5
      rw [if_pos (by rfl)]
      clear hold hdep hend hdon hcl o1 o5 o6
      have HJ := Lib.hid hJ
      clear hJ
      go_simp
      exact hK _ _ (fun _ _ _ h => h) HJ.out rfl
    · intro ls vs a w1 hi hJ hold hdep hdon hcl K hK
      have q1 : a.tmps[1]?.getD undef = .slice (some ⟨g, 0, none⟩) n c := (hold 1 (by kernel_rfl)).trans o1
      rw [if_pos (by rfl)]
      clear hold hdep hend hdon hcl o1 o5 o6
      have HJ := Lib.hid hJ
      clear hJ
      go_simp
      exact hK _ _ (fun _ _ _ h => h) HJ.out rfl
    · intro ls vs a w1 hi hJ hold hdep hdon hcl K hK
      have q6 : a.tmps[6]?.getD undef = .int .i64 (y : Int) := (hold 6 (by kernel_rfl)).trans o6
      rw [if_pos (by rfl)]
      clear hold hdep hend hdon hcl o1 o5 o6
      have HJ := Lib.hid hJ
      clear hJ
      go_simp
      exact hK _ _ (fun _ _ _ h => h) HJ.out rfl
    · intro ls vs a w1 hi hJ hold hdep hdon hcl K hK
      have q1 : a.tmps[1]?.getD undef = .slice (some ⟨g, 0, none⟩) n c := (hold 1 (by kernel_rfl)).trans o1
      rw [if_pos (by rfl)]
      clear hold hdep hend hdon hcl o1 o5 o6
      have HJ := Lib.hid hJ
      clear hJ
      go_simp
      exact hK _ _ (fun _ _ _ h => h) HJ.out rfl
    · intro ls vs a w1 hi hJ hold hdep hdon hcl K hK
      have q6 : a.tmps[6]?.getD undef = .int .i64 (y : Int) := (hold 6 (by kernel_rfl)).trans o6
      rw [if_pos (by rfl)]
      clear hold hdep hend hdon hcl o1 o5 o6
      have HJ := Lib.hid hJ
      clear hJ
      go_simp
      exact hK _ _ (fun _ _ _ h => h) HJ.out rfl
    · intro ls vs a w1 hi hJ hold hdep hdon hcl K hK
      have q22 : a.tmps[22]?.getD undef = .slice (some ⟨g, 0, none⟩) n c := (hdep 4 22 (by kernel_rfl) (by kernel_rfl)).2.1.trans (hdep 4 22 (by kernel_rfl) (by kernel_rfl)).2.2
      have q23 : a.tmps[23]?.getD undef = .int .i64 (y : Int) := (hdep 5 23 (by kernel_rfl) (by kernel_rfl)).2.1.trans (hdep 5 23 (by kernel_rfl) (by kernel_rfl)).2.2
      rw [if_pos (by rfl)]
      clear hold hdep hend hdon hcl o1 o5 o6
      have HJ := Lib.hid hJ
      clear hJ
      go_simp
      exact hK _ _ (fun _ _ _ h => h) HJ.out rfl
    · intro ls vs a w1 hi hJ hold hdep hdon hcl K hK
      have q24 : a.tmps[24]?.getD undef = .pointer (some ⟨g, y, none⟩) := (hdep 6 24 (by kernel_rfl) (by kernel_rfl)).2.1.trans (hdep 6 24 (by kernel_rfl) (by kernel_rfl)).2.2
      rw [if_pos (by rfl)]
      clear hold hdep hend hdon hcl o1 o5 o6
      have HJ := Lib.hid hJ
      clear hJ
      obtain ⟨j1, j2, j3, j4, j5⟩ := HJ.out
      have hik : ls 7 = false := hi
      have h13 : ls 13 = false := by
        cases e : ls 13 with
        | false => rfl
        | true => have := j2 e; rw [hik] at this; simp at this
      have c7 := HCJ.out w1 (j3 h13)
      go_simp
      exact hK _ _ (fun _ _ _ h => h) ⟨fun e => by have := j1 (by simpa using e); simp [this], fun e => by have := j2 (by simpa using e); simp [this], fun e => j3 (by simpa using e), fun e e2 => j4 (by simpa using e) (by simpa using e2), fun e => j5 (by simpa using e)⟩ rfl
    · intro ls vs a w1 hi hJ hold hdep hdon hcl K hK
      have q1 : a.tmps[1]?.getD undef = .slice (some ⟨g, 0, none⟩) n c := (hold 1 (by kernel_rfl)).trans o1
      rw [if_pos (by rfl)]
      clear hold hdep hend hdon hcl o1 o5 o6
      have HJ := Lib.hid hJ
      clear hJ
      go_simp
      exact hK _ _ (fun _ _ _ h => h) HJ.out rfl
    · intro ls vs a w1 hi hJ hold hdep hdon hcl K hK
      have q5 : a.tmps[5]?.getD undef = .int .i64 (x : Int) := (hold 5 (by kernel_rfl)).trans o5
      rw [if_pos (by rfl)]
      clear hold hdep hend hdon hcl o1 o5 o6
      have HJ := Lib.hid hJ
      clear hJ
      go_simp
      exact hK _ _ (fun _ _ _ h => h) HJ.out rfl
    · intro ls vs a w1 hi hJ hold hdep hdon hcl K hK
      have q26 : a.tmps[26]?.getD undef = .slice (some ⟨g, 0, none⟩) n c := (hdep 8 26 (by kernel_rfl) (by kernel_rfl)).2.1.trans (hdep 8 26 (by kernel_rfl) (by kernel_rfl)).2.2
      have q27 : a.tmps[27]?.getD undef = .int .i64 (x : Int) := (hdep 9 27 (by kernel_rfl) (by kernel_rfl)).2.1.trans (hdep 9 27 (by kernel_rfl) (by kernel_rfl)).2.2
      rw [if_pos (by rfl)]
      clear hold hdep hend hdon hcl o1 o5 o6
      have HJ := Lib.hid hJ
      clear hJ
      go_simp
      exact hK _ _ (fun _ _ _ h => h) HJ.out rfl
    · intro ls vs a w1 hi hJ hold hdep hdon hcl K hK
      have q28 : a.tmps[28]?.getD undef = .pointer (some ⟨g, x, none⟩) := (hdep 10 28 (by kernel_rfl) (by kernel_rfl)).2.1.trans (hdep 10 28 (by kernel_rfl) (by kernel_rfl)).2.2
      rw [if_pos (by rfl)]
      clear hold hdep hend hdon hcl o1 o5 o6
      have HJ := Lib.hid hJ
      clear hJ
      obtain ⟨j1, j2, j3, j4, j5⟩ := HJ.out
      have hik : ls 11 = false := hi
      have h13 : ls 13 = false := by
        cases e : ls 13 with
        | false => rfl
        | true => have := j2 e; rw [hik] at this; simp at this
      have c7 := HCI.out w1 (j3 h13)
      go_simp
      exact hK _ _ (fun _ _ _ h => h) ⟨fun e => by have := j1 (by simpa using e); simp [this], fun e => by have := j2 (by simpa using e); simp [this], fun e => j3 (by simpa using e), fun e e2 => j4 (by simpa using e) (by simpa using e2), fun e => j5 (by simpa using e)⟩ rfl
    · intro ls vs a w1 hi hJ hold hdep hdon hcl K hK
      have q18 : a.tmps[18]?.getD undef = .slice (some ⟨g, 0, none⟩) n c := (hdep 0 18 (by kernel_rfl) (by kernel_rfl)).2.1.trans (hdep 0 18 (by kernel_rfl) (by kernel_rfl)).2.2
      have q19 : a.tmps[19]?.getD undef = .int .i64 (x : Int) := (hdep 1 19 (by kernel_rfl) (by kernel_rfl)).2.1.trans (hdep 1 19 (by kernel_rfl) (by kernel_rfl)).2.2
      rw [if_pos (by rfl)]
      clear hold hdep hend hdon hcl o1 o5 o6
      have HJ := Lib.hid hJ
      clear hJ
      go_simp
      exact hK _ _ (fun _ _ _ h => h) HJ.out rfl
    · intro ls vs a w1 hi hJ hold hdep hdon hcl K hK
      have q25 : a.tmps[25]?.getD undef = .int .i64 vj := (hdep 7 25 (by kernel_rfl) (by kernel_rfl)).2.1.trans (hdep 7 25 (by kernel_rfl) (by kernel_rfl)).2.2
      have q30 : a.tmps[30]?.getD undef = .pointer (some ⟨g, x, none⟩) := (hdep 12 30 (by kernel_rfl) (by kernel_rfl)).2.1.trans (hdep 12 30 (by kernel_rfl) (by kernel_rfl)).2.2
      have hl7 := hdon 7 (by kernel_rfl)
      have hl11 := hdon 11 (by kernel_rfl)
      rw [if_pos (by rfl)]
      clear hold hdep hend hdon hcl o1 o5 o6
      have HJ := Lib.hid hJ
      clear hJ
      obtain ⟨j1, j2, j3, j4, j5⟩ := HJ.out
      have hik : ls 13 = false := hi
      have h15 : ls 15 = false := by
        cases e : ls 15 with
        | false => rfl
        | true => have := j1 e; rw [hik] at this; cases this
      have hx := j3 hik
      have c1 := HCI.out w1 hx
      have f1 := HF.out w1 hx
      have s1 := HS.out w1 hx
      have hl7' : ls 7 = true := hl7
      have hl11' : ls 11 = true := hl11
      go_simp
      exact hK undef _ (fun _ _ _ h => h) ⟨fun _ => by simp, fun _ => by simp [hl7', hl11'], fun e => by simp at e, fun _ _ => s1, fun e => by simp [h15] at e⟩ trivial
    · intro ls vs a w1 hi hJ hold hdep hdon hcl K hK
      have q20 : a.tmps[20]?.getD undef = .slice (some ⟨g, 0, none⟩) n c := (hdep 2 20 (by kernel_rfl) (by kernel_rfl)).2.1.trans (hdep 2 20 (by kernel_rfl) (by kernel_rfl)).2.2
      have q21 : a.tmps[21]?.getD undef = .int .i64 (y : Int) := (hdep 3 21 (by kernel_rfl) (by kernel_rfl)).2.1.trans (hdep 3 21 (by kernel_rfl) (by kernel_rfl)).2.2
      rw [if_pos (by rfl)]
      clear hold hdep hend hdon hcl o1 o5 o6
      have HJ := Lib.hid hJ
      clear hJ
      go_simp
      exact hK _ _ (fun _ _ _ h => h) HJ.out rfl
    · intro ls vs a w1 hi hJ hold hdep hdon hcl K hK
      have q29 : a.tmps[29]?.getD undef = .int .i64 vi := (hdep 11 29 (by kernel_rfl) (by kernel_rfl)).2.1.trans (hdep 11 29 (by kernel_rfl) (by kernel_rfl)).2.2
      have q31 : a.tmps[31]?.getD undef = .pointer (some ⟨g, y, none⟩) := (hdep 14 31 (by kernel_rfl) (by kernel_rfl)).2.1.trans (hdep 14 31 (by kernel_rfl) (by kernel_rfl)).2.2
      have hl13 := hdon 13 (by kernel_rfl)
      rw [if_pos (by rfl)]
      clear hold hdep hend hdon hcl o1 o5 o6
      have HJ := Lib.hid hJ
      clear hJ
      obtain ⟨j1, j2, j3, j4, j5⟩ := HJ.out
      have hik : ls 15 = false := hi
      have hl13' : ls 13 = true := hl13
      have hs := j4 hl13' hik
      have c1 := HCJ2.out w1 hs
      have f1 := HF2.out w1 hs
      have r1 := HR.out w1 hs
      go_simp
      exact hK undef _ (fun _ _ _ h => h) ⟨fun _ => by simp [hl13'], fun e => by have := j2 hl13'; simp [this], fun e => by simp [hl13'] at e, fun _ e => by simp at e, fun _ => r1⟩ trivial
  · intro vs w9 ls9 hl9 hJ9 hφ
    have e0 := hφ 0 (by kernel_rfl)
    have e1 := hφ 1 (by kernel_rfl)
    have e2 := hφ 2 (by kernel_rfl)
    have e3 := hφ 3 (by kernel_rfl)
    have e4 := hφ 4 (by kernel_rfl)
    have e5 := hφ 5 (by kernel_rfl)
    have e6 := hφ 6 (by kernel_rfl)
    have e7 := hφ 7 (by kernel_rfl)
    have e8 := hφ 8 (by kernel_rfl)
    have e9 := hφ 9 (by kernel_rfl)
    have e10 := hφ 10 (by kernel_rfl)
    have e11 := hφ 11 (by kernel_rfl)
    have e12 := hφ 12 (by kernel_rfl)
    have e14 := hφ 14 (by kernel_rfl)
    have hq := hend vs w9 ls9 hl9 hJ9 e0 e1 e2 e3 e4 e5 e6 e7 e8 e9 e10 e11 e12 e14
    simp only [Act.put] at hq
    simp only [putAll, Act.put]
    exact hq

theorem ownI_ne {w : World} {B g n c D o : Nat} {xs : List Int} (hn : xs.length = n) (h : OwnI w B (.slice (some ⟨g, 0, none⟩) n c) xs) (hne : g ≠ D) (v : Value) : OwnI (w.setCell ⟨D, o, none⟩ v) B (.slice (some ⟨g, 0, none⟩) n c) xs := by
  subst hn
  exact own_of_block h fun k hk => by
    simp only [Value.ownBlock, Option.some.injEq] at hk
    subst hk
    exact heap_set_ne v hne
set_option maxRecDepth 100000 in
set_option maxHeartbeats 2000000 in
theorem shuffle_int (B g n c : Nat) (s : Int) (xs : List Int) (w : World) (hn : xs.length = n) (hm : n ≤ 1000000) (hx : OwnI w B (.slice (some ⟨g, 0, none⟩) n c) xs) (hg : g < w.heap.size) :
    Calls Tryz.prog 80 #[.int .u64 s, .slice (some ⟨g, 0, none⟩) n c] w (fun e w' => e = .returned (.tuple #[]) ∧ ExtX g w w' ∧ OwnI w' B (.slice (some ⟨g, 0, none⟩) n c) (shufK n s xs)) := by
  have HX := Lib.hid hx; have HN := Lib.hid hn
  clear hx hn
  go_enter Tryz.func80, Tryz.ntmps80
  go_wp2_with (fail)
  generalize hw1 : World.alloc _ _ = w1
  obtain ⟨he, o1, -⟩ := alloc1 hw1
  have HO := Lib.hid (HX.out.ext he)
  have HW : Hid (ExtX g w w1) := he.x
  have HG := Lib.hid hg
  obtain ⟨D, hD⟩ : ∃ D, D = w.heap.size := ⟨_, rfl⟩
  have HD := Lib.hid hD
  rw [← hD] at o1 ⊢
  have hgD : g ≠ D := by omega
  have HO1 := Lib.hid o1
  clear hw1 o1 he hD hg
  have HGD := Lib.hid hgD
  clear hgD
  go_loopw [5, 6] (fun i _ wr => ∃ (k : Nat) (t : Int) (ys : List Int), k ≤ n ∧ i = .int .i64 ((k : Int) - 1) ∧ Hid (ys.length = n ∧ shufK k t ys = shufK n s xs ∧ ExtX g w wr ∧ OwnI wr B (.slice (some ⟨g, 0, none⟩) n c) ys ∧ wr.heap[D]? = some (.cells #[.int .u64 t] 173 (0, 0)))) (fun i _ _ => (intOf i).toNat)
  case atStart => exact ⟨n, s, xs, Nat.le_refl _, rfl, HN.out, rfl, HW.out, HO.out, HO1.out⟩
  case round =>
    obtain ⟨k, t, ys, hk, rfl, hh⟩ := hrel
    by_cases hlt : 2 ≤ k
    · obtain ⟨x, rfl⟩ : ∃ x, k = x + 1 := ⟨k - 1, by omega⟩
      have d0 := obj_cells1 hh.out.2.2.2.2
      have df := obj_free hh.out.2.2.2.2
      have hbl : Calls Tryz.prog 114 #[.pointer (some ⟨D, 0, none⟩), .int .i64 ((x : Int) + 1)] wr (fun e w' => e = .returned (.int .i64 (drw (lcg t) ((x : Int) + 1))) ∧ w' = wr.setCell ⟨D, 0, none⟩ (.int .u64 (lcg t))) := below_any D t _ wr (d0 wr (Ext.refl _)) (df wr (Ext.refl _) 0)
      have HBL := Lib.hid hbl
      have hb := drw_bd (lcg t) ((x : Int) + 1) (lcg_bd t).1 (lcg_bd t).2 (by omega) (by omega)
      obtain ⟨y, hy⟩ : ∃ y : Nat, y = (drw (lcg t) ((x : Int) + 1)).toNat := ⟨_, rfl⟩
      have hye : drw (lcg t) ((x : Int) + 1) = (y : Int) := by omega
      have hyn : y < n := by omega
      rw [hye] at HBL
      have HY := Lib.hid hy
      clear hbl d0 df hb hy hye
      have ez : (((x + 1 : Nat) : Int) - 1) = (x : Int) := by omega
      rw [ez]
      clear ez
      go_wp2_with (go_at_call 114; (with_reducible refine HBL.out.mono ?_); rintro e w3 ⟨rfl, rfl⟩)
      clear HBL
      generalize hw4 : World.setCell wr _ _ = w4
      have hb4 : Hid (ExtX g w w4 ∧ OwnI w4 B (.slice (some ⟨g, 0, none⟩) n c) ys ∧ w4.heap[D]? = some (.cells #[.int .u64 (lcg t)] 173 (0, 0)) ∧ g ≠ D) := by
        subst hw4
        refine ⟨?_, ownI_ne hh.out.1 hh.out.2.2.2.1 HGD.out _, block_set hh.out.2.2.2.2 0 _, HGD.out⟩
        have h1 := hh.out.2.2.1
        refine ⟨h1.os, h1.tape, h1.output, by simpa [World.setCell] using h1.size, fun b hb hne => ?_⟩
        rw [heap_set_ne _ (by have := HD.out; omega)]
        exact h1.block b hb hne
      have HLY := Lib.hid hh.out.1
      have HSH := Lib.hid hh.out.2.1
      clear hw4 hh
      have hi0 : (0 : Int) ≤ (x : Int) := by omega
      have hi1 : (x : Int) < (n : Int) := by omega
      have hj0 : (0 : Int) ≤ (y : Int) := by omega
      have hj1 : (y : Int) < (n : Int) := by omega
      have HCI : Hid (∀ W, Ext w4 W → W.cell? ⟨g, x, none⟩ = some (.int .i64 (nth ys x))) := fun W e => ownI_cell HLY.out (hb4.out.2.1.ext e) x (by omega)
      have HCJ : Hid (∀ W, Ext w4 W → W.cell? ⟨g, y, none⟩ = some (.int .i64 (nth ys y))) := fun W e => ownI_cell HLY.out (hb4.out.2.1.ext e) y hyn
      have HF : Hid (∀ W, Ext w4 W → W.frozen? ⟨g, x, none⟩ = false) := fun W e => ownI_free HLY.out (hb4.out.2.1.ext e) _
      obtain ⟨S, hS⟩ : ∃ S : World → Prop, S = fun W => ExtX g w W ∧ OwnI W B (.slice (some ⟨g, 0, none⟩) n c) (ys.set x (nth ys y)) ∧ W.heap[D]? = some (.cells #[.int .u64 (lcg t)] 173 (0, 0)) := ⟨_, rfl⟩
      obtain ⟨R, hR⟩ : ∃ R : World → Prop, R = fun W => ExtX g w W ∧ OwnI W B (.slice (some ⟨g, 0, none⟩) n c) (swp ys x y) ∧ W.heap[D]? = some (.cells #[.int .u64 (lcg t)] 173 (0, 0)) := ⟨_, rfl⟩
      have HS : Hid (∀ W, Ext w4 W → S (W.setCell ⟨g, x, none⟩ (.int .i64 (nth ys y)))) := fun W e => by
        rw [hS]
        exact ⟨(hb4.out.1.trans e.x).set _ _, ownI_set2 HLY.out (hb4.out.2.1.ext e) _, by rw [heap_set_ne _ (Ne.symm hb4.out.2.2.2)]; exact e.block hb4.out.2.2.1⟩
      have HCJ2 : Hid (∀ W, S W → W.cell? ⟨g, y, none⟩ = some (.int .i64 (nth ys y))) := fun W h => by
        rw [hS] at h
        rw [ownI_cell (by rw [List.length_set]; exact HLY.out) h.2.1 y hyn, nth_set _ _ _ _ (by rw [HLY.out]; exact hyn)]
        split
        · rfl
        · rfl
      have HF2 : Hid (∀ W, S W → W.frozen? ⟨g, y, none⟩ = false) := fun W h => by
        rw [hS] at h
        exact ownI_free (by rw [List.length_set]; exact HLY.out) h.2.1 y
      have HR : Hid (∀ W, S W → R (W.setCell ⟨g, y, none⟩ (.int .i64 (nth ys x)))) := fun W h => by
        rw [hS] at h
        rw [hR, swp_int]
        exact ⟨h.1.set _ _, ownI_set2 (by rw [List.length_set]; exact HLY.out) h.2.1 _, by rw [heap_set_ne _ (Ne.symm hb4.out.2.2.2)]; exact h.2.2⟩
      have HRR := Lib.hid hR
      clear hS hR hb4
      go_upto_region 5 with fail
      refine sw_law hi0 hi1 hj0 hj1 HCI HCJ HF HS HCJ2 HF2 HR _ (by rfl) rfl rfl rfl ?_
      intro vs w9 ls9 hl9 hJ9 e0 e1 e2 e3 e4 e5 e6 e7 e8 e9 e10 e11 e12 e14
      simp only [Act.put, List.setIfInBounds_toArray, List.set_cons_zero, List.set_cons_succ]
      rw [e0, e1, e2, e3, e4, e5, e6, e7, e8, e9, e10, e11, e12, e14]
      obtain ⟨-, -, -, -, hj5⟩ := hJ9
      have hfin := hj5 (hl9 15 (by omega))
      rw [HRR.out] at hfin
      have HFIN := Lib.hid hfin
      have HK : Hid ((swp ys x y).length = n ∧ shufK x (lcg t) (swp ys x y) = shufK n s xs) := by
        refine ⟨by rw [swp_len]; exact HLY.out, ?_⟩
        have := HSH.out
        rw [shufK_step x (by omega)] at this
        rw [← this, HY.out]
      clear hj5 hfin HRR HCI HCJ HF HS HCJ2 HF2 HR HSH HY
      go_wp2_with (fail)
      go_roundw
      case rel => exact ⟨x, lcg t, swp ys x y, by omega, by go_num, HK.out.1, HK.out.2, HFIN.out.1, HFIN.out.2.1, HFIN.out.2.2⟩
      case measure => simp [intOf]; omega
    · have hlt' : k ≤ 1 := by omega
      have HK : Hid (shufK k t ys = ys) := by
        match k, hlt' with
        | 0, _ => rfl
        | 1, _ => rfl
      go_wp2_with (fail)
      go_end0
      refine ⟨rfl, hh.out.2.2.1, ?_⟩
      rw [← hh.out.2.1, HK.out]
      exact hh.out.2.2.2.1
end Go.Proofs.YtplbofhgmflnlaaGreat
