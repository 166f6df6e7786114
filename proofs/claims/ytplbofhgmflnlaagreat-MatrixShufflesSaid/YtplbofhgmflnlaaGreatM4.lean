/-
  Walks: numbers, Shuffle, the reference's Shuffle (printed by genm4.py).
-/
import Derived.Test.YtplbofhgmflnlaaGreatM3
set_option linter.unusedVariables false
set_option linter.unusedSimpArgs false
namespace Go.Proofs.YtplbofhgmflnlaaGreat
open Go.RowKit
/-- The numbers below n. -/
def rngI (n : Nat) : List Int := fl n fun i => (i : Int)
theorem rngI_len (n : Nat) : (rngI n).length = n := fl_len _ _
theorem shufK_len {α : Type} [Inhabited α] : ∀ (k : Nat) (s : Int) (l : List α), (shufK k s l).length = l.length
  | 0, _, _ => rfl
  | 1, _, _ => rfl
  | k + 2, s, l => by simp only [shufK]; rw [shufK_len (k + 1), swp_len]
theorem shufL_rng (s : Int) (n : Nat) : shufL s (rngI n) = shufK n s (rngI n) := by unfold shufL; rw [rngI_len]
/-- The post of a call that returns a new row, which lies in a block. -/
def RetRow (xs : List Int) (w : World) (e : Ending) (w' : World) : Prop := ∃ g c, e = .returned (.slice (some ⟨g, 0, none⟩) xs.length c) ∧ Ext w w' ∧ OwnI w' w.heap.size (.slice (some ⟨g, 0, none⟩) xs.length c) xs
set_option maxHeartbeats 1000000 in
theorem numbers_any (n : Nat) (w : World) (hn : n ≤ 1000000) : Calls Tryz.prog 74 #[.int .i64 n] w (RetRow (rngI n) w) := by
  have hmk := run_madeI n hn
  go_enter Tryz.func74, Tryz.ntmps74
  go_wp2_with (fail)
  generalize hw : madeI _ _ = w1
  obtain ⟨he, hown, -⟩ := madeI_facts hn hw
  have HE := Lib.hid he
  have HOW := Lib.hid hown
  obtain ⟨g, hg⟩ : ∃ g, g = w.heap.size := ⟨_, rfl⟩
  rw [← hg] at HOW ⊢
  have HG := Lib.hid hg
  clear hmk hw he hown hg
  go_loopw [9] (fun i wr => ∃ k : Nat, k ≤ n ∧ i = .int .i64 k ∧ Hid (ExtX g w wr) ∧ OwnI wr g (.slice (some ⟨g, 0, none⟩) n n) (fl n fun i => if i < k then (i : Int) else 0)) (fun i _ => n - (intOf i).toNat)
  case atStart => exact ⟨0, Nat.zero_le _, rfl, HE.out.x, by simpa using HOW.out⟩
  case round =>
    obtain ⟨k, hk, rfl, hr, hown⟩ := hrel
    by_cases hlt : k < n
    · have hcell := ownI_cell (fl_len _ _) hown k hlt
      have hfr := ownI_free (fl_len _ _) hown k
      have hown2 := ownI_set (j := k) hown (k : Int)
      have e1 : (fun i => if i = k then (k : Int) else if i < k then (i : Int) else 0) = fun i => if i < k + 1 then (i : Int) else 0 := by
        funext i
        by_cases h : i = k
        · subst h; simp
        · by_cases h2 : i < k
          · rw [if_neg h, if_pos h2, if_pos (by omega)]
          · rw [if_neg h, if_neg h2, if_neg (by omega)]
      rw [e1] at hown2
      have HO2 := Lib.hid hown2
      have HR2 : Hid (ExtX g w (wr.setCell ⟨g, k, none⟩ (.int .i64 k))) := hr.out.set _ _
      clear hown hown2 e1 hr
      go_wp2_with (fail)
      go_roundw
      case rel => exact ⟨k + 1, by omega, by go_num, HR2.out, HO2.out⟩
      case measure => simp [intOf]; omega
    · obtain rfl : k = n := by omega
      have e1 : (fl k fun i => if i < k then (i : Int) else 0) = rngI k := fl_congr _ _ _ fun i hi => if_pos hi
      rw [e1] at hown
      have HO2 := Lib.hid hown
      clear hown e1
      go_wp2_with (fail)
      go_ret
      refine ⟨g, k, by rw [rngI_len]; rfl, hr.out.ext (by have := HG.out; omega), ?_⟩
      rw [rngI_len, ← HG.out]; exact HO2.out
theorem own_lt {w : World} {B g n c : Nat} {xs : List Int} (h : OwnI w B (.slice (some ⟨g, 0, none⟩) n c) xs) : B ≤ g ∧ g < w.heap.size := h.lt g rfl
set_option maxHeartbeats 1000000 in
theorem Shuffle_bad (s n : Int) (w : World) (h : n < 0 ∨ 2000 < n) : Calls Tryz.prog 21 #[.int .u64 s, .int .i64 n] w (Ret (.tuple #[.slice none 0 0, .int .i64 3]) w) := by
  by_cases T1 : n < 0
  · go_enter Tryz.func21, Tryz.ntmps21
    go_wp2_with (fail)
    go_ret2
    exact ⟨rfl, Ext.refl w⟩
  · have h2 : 2000 < n := by omega
    clear h
    go_enter Tryz.func21, Tryz.ntmps21
    go_wp2_with (fail)
    go_ret2
    exact ⟨rfl, Ext.refl w⟩
/-- The post of Shuffle. -/
def RetSh (s : Int) (n : Nat) (w : World) (e : Ending) (w' : World) : Prop := ∃ g c, e = .returned (.tuple #[.slice (some ⟨g, 0, none⟩) n c, .int .i64 0]) ∧ Ext w w' ∧ OwnI w' w.heap.size (.slice (some ⟨g, 0, none⟩) n c) (shufL s (rngI n))
set_option maxHeartbeats 1000000 in
theorem Shuffle_ok (s : Int) (n : Nat) (w : World) (hn : n ≤ 2000) : Calls Tryz.prog 21 #[.int .u64 s, .int .i64 n] w (RetSh s n w) := by
  have HN := Lib.hid (numbers_any n w (by omega))
  have h0 : ¬ ((n : Int) < 0) := by omega
  have h1 : ¬ (2000 < (n : Int)) := by omega
  go_enter Tryz.func21, Tryz.ntmps21
  go_wp2_with (go_at_call 74; (with_reducible refine HN.out.mono ?_); rintro e w1 ⟨g, c, rfl, he, ho⟩)
  rw [rngI_len] at ho ⊢
  have HS := Lib.hid (shuffle_int w.heap.size g n c s (rngI n) w1 (rngI_len n) (by omega) ho (own_lt ho).2)
  have HB := Lib.hid (own_lt ho).1
  clear ho HN
  go_wp2_with (go_at_call 80; (with_reducible refine HS.out.mono ?_); rintro e w2 ⟨rfl, he2, ho2⟩)
  go_ret2
  refine ⟨g, c, rfl, ?_, ?_⟩
  · refine ⟨he2.os.trans he.os, he2.tape.trans he.tape, he2.output.trans he.output, Nat.le_trans he.size he2.size, fun k hk => ?_⟩
    rw [he2.block k (by have := he.size; omega) (by have := HB.out; omega)]
    exact Below.block he k hk
  · rw [shufL_rng]; exact ho2
set_option maxRecDepth 100000 in
set_option maxHeartbeats 4000000 in
theorem sw_law26 {g n c x y : Nat} {vi vj : Int} {wr : World} {S R : World → Prop} (hi0 : (0 : Int) ≤ (x : Int)) (hi1 : (x : Int) < (n : Int)) (hj0 : (0 : Int) ≤ (y : Int)) (hj1 : (y : Int) < (n : Int)) (HCI : Hid (∀ W, Ext wr W → W.cell? ⟨g, x, none⟩ = some (.int .i64 vi))) (HCJ : Hid (∀ W, Ext wr W → W.cell? ⟨g, y, none⟩ = some (.int .i64 vj))) (HF : Hid (∀ W, Ext wr W → W.frozen? ⟨g, x, none⟩ = false)) (HS : Hid (∀ W, Ext wr W → S (W.setCell ⟨g, x, none⟩ (.int .i64 vj)))) (HCJ2 : Hid (∀ W, S W → W.cell? ⟨g, y, none⟩ = some (.int .i64 vj))) (HF2 : Hid (∀ W, S W → W.frozen? ⟨g, y, none⟩ = false)) (HR : Hid (∀ W, S W → R (W.setCell ⟨g, y, none⟩ (.int .i64 vi)))) {Q : Exit → Act → World → Prop} (aZ : Act) (hsz : aZ.tmps.size = 51) (o5 : aZ.tmps[5]?.getD undef = .slice (some ⟨g, 0, none⟩) n c) (o7 : aZ.tmps[7]?.getD undef = .int .i64 (x : Int)) (o8 : aZ.tmps[8]?.getD undef = .int .i64 (y : Int))
    (hend : ∀ (vs : Nat → Value) (w9 : World) (ls9 : Nat → Bool), (∀ j : Nat, j < 16 → ls9 j = true) → ((ls9 15 = true → ls9 13 = true) ∧ (ls9 13 = true → ls9 7 = true ∧ ls9 11 = true) ∧ (ls9 13 = false → Ext wr w9) ∧ (ls9 13 = true → ls9 15 = false → S w9) ∧ (ls9 15 = true → R w9)) → (vs 0 = .slice (some ⟨g, 0, none⟩) n c) → (vs 1 = .int .i64 (x : Int)) → (vs 2 = .slice (some ⟨g, 0, none⟩) n c) → (vs 3 = .int .i64 (y : Int)) → (vs 4 = .slice (some ⟨g, 0, none⟩) n c) → (vs 5 = .int .i64 (y : Int)) → (vs 6 = .pointer (some ⟨g, y, none⟩)) → (vs 7 = .int .i64 vj) → (vs 8 = .slice (some ⟨g, 0, none⟩) n c) → (vs 9 = .int .i64 (x : Int)) → (vs 10 = .pointer (some ⟨g, x, none⟩)) → (vs 11 = .int .i64 vi) → (vs 12 = .pointer (some ⟨g, x, none⟩)) → (vs 14 = .pointer (some ⟨g, y, none⟩)) → Q .normal ((((((((((((((aZ.put (some 36) (vs 0)).put (some 37) (vs 1)).put (some 38) (vs 2)).put (some 39) (vs 3)).put (some 40) (vs 4)).put (some 41) (vs 5)).put (some 42) (vs 6)).put (some 43) (vs 7)).put (some 44) (vs 8)).put (some 45) (vs 9)).put (some 46) (vs 10)).put (some 47) (vs 11)).put (some 48) (vs 12)).put (some 49) (vs 14)) w9) : (regOf Tryz.f26 11).wp Tryz.prog Q aZ wr := by
  conv => arg 2; whnf
  refine wp_region_said3 (fun i v wz => match i with
    | 0 => v = .slice (some ⟨g, 0, none⟩) n c
    | 1 => v = .int .i64 (x : Int)
    | 2 => v = .slice (some ⟨g, 0, none⟩) n c
    | 3 => v = .int .i64 (y : Int)
    | 4 => v = .slice (some ⟨g, 0, none⟩) n c
    | 5 => v = .int .i64 (y : Int)
    | 6 => v = .pointer (some ⟨g, y, none⟩)
    | 7 => v = .int .i64 vj
    | 8 => v = .slice (some ⟨g, 0, none⟩) n c
    | 9 => v = .int .i64 (x : Int)
    | 10 => v = .pointer (some ⟨g, x, none⟩)
    | 11 => v = .int .i64 vi
    | 12 => v = .pointer (some ⟨g, x, none⟩)
    | 13 => True
    | 14 => v = .pointer (some ⟨g, y, none⟩)
    | _ => True) (fun ls vs wz => (ls 15 = true → ls 13 = true) ∧ (ls 13 = true → ls 7 = true ∧ ls 11 = true) ∧ (ls 13 = false → Ext wr wz) ∧ (ls 13 = true → ls 15 = false → S wz) ∧ (ls 15 = true → R wz)) (by kernel_rfl) (by kernel_rfl) (by rw [hsz]; kernel_rfl) ?_ ?_ ?_
  · exact ⟨fun e => (by cases e), fun e => (by cases e), fun _ => (Ext.refl _).drew, fun e => (by cases e), fun e => (by cases e)⟩
  · refine ⟨?_, ?_, ?_, ?_, ?_, ?_, ?_, ?_, ?_, ?_, ?_, ?_, ?_, ?_, ?_, ?_, trivial⟩
    · intro ls vs a w1 hi hJ hold hdep hdon hcl K hK
      have q5 : a.tmps[5]?.getD undef = .slice (some ⟨g, 0, none⟩) n c := (hold 5 (by kernel_rfl)).trans o5
      rw [if_pos (by rfl)]
      clear hold hdep hend hdon hcl o5 o7 o8
      have HJ := Lib.hid hJ
      clear hJ
      go_simp
      exact hK _ _ (fun _ _ _ h => h) HJ.out rfl
    · intro ls vs a w1 hi hJ hold hdep hdon hcl K hK
      have q7 : a.tmps[7]?.getD undef = .int .i64 (x : Int) := (hold 7 (by kernel_rfl)).trans o7
      rw [if_pos (by rfl)]
      clear hold hdep hend hdon hcl o5 o7 o8
      have HJ := Lib.hid hJ
      clear hJ
      go_simp
      exact hK _ _ (fun _ _ _ h => h) HJ.out rfl
    · intro ls vs a w1 hi hJ hold hdep hdon hcl K hK
      have q5 : a.tmps[5]?.getD undef = .slice (some ⟨g, 0, none⟩) n c := (hold 5 (by kernel_rfl)).trans o5
      rw [if_pos (by rfl)]
      clear hold hdep hend hdon hcl o5 o7 o8
      have HJ := Lib.hid hJ
      clear hJ
      go_simp
      exact hK _ _ (fun _ _ _ h => h) HJ.out rfl
    · intro ls vs a w1 hi hJ hold hdep hdon hcl K hK
      have q8 : a.tmps[8]?.getD undef = .int .i64 (y : Int) := (hold 8 (by kernel_rfl)).trans o8
      rw [if_pos (by rfl)]
      clear hold hdep hend hdon hcl o5 o7 o8
      have HJ := Lib.hid hJ
      clear hJ
      go_simp
      exact hK _ _ (fun _ _ _ h => h) HJ.out rfl
    · intro ls vs a w1 hi hJ hold hdep hdon hcl K hK
      have q5 : a.tmps[5]?.getD undef = .slice (some ⟨g, 0, none⟩) n c := (hold 5 (by kernel_rfl)).trans o5
      rw [if_pos (by rfl)]
      clear hold hdep hend hdon hcl o5 o7 o8
      have HJ := Lib.hid hJ
      clear hJ
      go_simp
      exact hK _ _ (fun _ _ _ h => h) HJ.out rfl
    · intro ls vs a w1 hi hJ hold hdep hdon hcl K hK
      have q8 : a.tmps[8]?.getD undef = .int .i64 (y : Int) := (hold 8 (by kernel_rfl)).trans o8
      rw [if_pos (by rfl)]
      clear hold hdep hend hdon hcl o5 o7 o8
      have HJ := Lib.hid hJ
      clear hJ
      go_simp
      exact hK _ _ (fun _ _ _ h => h) HJ.out rfl
    · intro ls vs a w1 hi hJ hold hdep hdon hcl K hK
      have q40 : a.tmps[40]?.getD undef = .slice (some ⟨g, 0, none⟩) n c := (hdep 4 40 (by kernel_rfl) (by kernel_rfl)).2.1.trans (hdep 4 40 (by kernel_rfl) (by kernel_rfl)).2.2
      have q41 : a.tmps[41]?.getD undef = .int .i64 (y : Int) := (hdep 5 41 (by kernel_rfl) (by kernel_rfl)).2.1.trans (hdep 5 41 (by kernel_rfl) (by kernel_rfl)).2.2
      rw [if_pos (by rfl)]
      clear hold hdep hend hdon hcl o5 o7 o8
      have HJ := Lib.hid hJ
      clear hJ
      go_simp
      exact hK _ _ (fun _ _ _ h => h) HJ.out rfl
    · intro ls vs a w1 hi hJ hold hdep hdon hcl K hK
      have q42 : a.tmps[42]?.getD undef = .pointer (some ⟨g, y, none⟩) := (hdep 6 42 (by kernel_rfl) (by kernel_rfl)).2.1.trans (hdep 6 42 (by kernel_rfl) (by kernel_rfl)).2.2
      rw [if_pos (by rfl)]
      clear hold hdep hend hdon hcl o5 o7 o8
      have HJ := Lib.hid hJ
      clear hJ
      obtain ⟨j1, j2, j3, j4, j5⟩ := HJ.out
      have hik : ls 7 = false := hi
      have h13 : ls 13 = false := by
        cases e : ls 13 with
        | false => rfl
        | true => have := j2 e; rw [hik] at this; simp at this
      have c7 := HCJ.out w1 (j3 h13)
      go_simp
      exact hK _ _ (fun _ _ _ h => h) ⟨fun e => by have := j1 (by simpa using e); simp [this], fun e => by have := j2 (by simpa using e); simp [this], fun e => j3 (by simpa using e), fun e e2 => j4 (by simpa using e) (by simpa using e2), fun e => j5 (by simpa using e)⟩ rfl
    · intro ls vs a w1 hi hJ hold hdep hdon hcl K hK
      have q5 : a.tmps[5]?.getD undef = .slice (some ⟨g, 0, none⟩) n c := (hold 5 (by kernel_rfl)).trans o5
      rw [if_pos (by rfl)]
      clear hold hdep hend hdon hcl o5 o7 o8
      have HJ := Lib.hid hJ
      clear hJ
      go_simp
      exact hK _ _ (fun _ _ _ h => h) HJ.out rfl
    · intro ls vs a w1 hi hJ hold hdep hdon hcl K hK
      have q7 : a.tmps[7]?.getD undef = .int .i64 (x : Int) := (hold 7 (by kernel_rfl)).trans o7
      rw [if_pos (by rfl)]
      clear hold hdep hend hdon hcl o5 o7 o8
      have HJ := Lib.hid hJ
      clear hJ
      go_simp
      exact hK _ _ (fun _ _ _ h => h) HJ.out rfl
    · intro ls vs a w1 hi hJ hold hdep hdon hcl K hK
      have q44 : a.tmps[44]?.getD undef = .slice (some ⟨g, 0, none⟩) n c := (hdep 8 44 (by kernel_rfl) (by kernel_rfl)).2.1.trans (hdep 8 44 (by kernel_rfl) (by kernel_rfl)).2.2
      have q45 : a.tmps[45]?.getD undef = .int .i64 (x : Int) := (hdep 9 45 (by kernel_rfl) (by kernel_rfl)).2.1.trans (hdep 9 45 (by kernel_rfl) (by kernel_rfl)).2.2
      rw [if_pos (by rfl)]
      clear hold hdep hend hdon hcl o5 o7 o8
      have HJ := Lib.hid hJ
      clear hJ
      go_simp
      exact hK _ _ (fun _ _ _ h => h) HJ.out rfl
    · intro ls vs a w1 hi hJ hold hdep hdon hcl K hK
      have q46 : a.tmps[46]?.getD undef = .pointer (some ⟨g, x, none⟩) := (hdep 10 46 (by kernel_rfl) (by kernel_rfl)).2.1.trans (hdep 10 46 (by kernel_rfl) (by kernel_rfl)).2.2
      rw [if_pos (by rfl)]
      clear hold hdep hend hdon hcl o5 o7 o8
      have HJ := Lib.hid hJ
      clear hJ
      obtain ⟨j1, j2, j3, j4, j5⟩ := HJ.out
      have hik : ls 11 = false := hi
      have h13 : ls 13 = false := by
        cases e : ls 13 with
        | false => rfl
        | true => have := j2 e; rw [hik] at this; simp at this
      have c7 := HCI.out w1 (j3 h13)
      go_simp
      exact hK _ _ (fun _ _ _ h => h) ⟨fun e => by have := j1 (by simpa using e); simp [this], fun e => by have := j2 (by simpa using e); simp [this], fun e => j3 (by simpa using e), fun e e2 => j4 (by simpa using e) (by simpa using e2), fun e => j5 (by simpa using e)⟩ rfl
    · intro ls vs a w1 hi hJ hold hdep hdon hcl K hK
      have q36 : a.tmps[36]?.getD undef = .slice (some ⟨g, 0, none⟩) n c := (hdep 0 36 (by kernel_rfl) (by kernel_rfl)).2.1.trans (hdep 0 36 (by kernel_rfl) (by kernel_rfl)).2.2
      have q37 : a.tmps[37]?.getD undef = .int .i64 (x : Int) := (hdep 1 37 (by kernel_rfl) (by kernel_rfl)).2.1.trans (hdep 1 37 (by kernel_rfl) (by kernel_rfl)).2.2
      rw [if_pos (by rfl)]
      clear hold hdep hend hdon hcl o5 o7 o8
      have HJ := Lib.hid hJ
      clear hJ
      go_simp
      exact hK _ _ (fun _ _ _ h => h) HJ.out rfl
    · intro ls vs a w1 hi hJ hold hdep hdon hcl K hK
      have q43 : a.tmps[43]?.getD undef = .int .i64 vj := (hdep 7 43 (by kernel_rfl) (by kernel_rfl)).2.1.trans (hdep 7 43 (by kernel_rfl) (by kernel_rfl)).2.2
      have q48 : a.tmps[48]?.getD undef = .pointer (some ⟨g, x, none⟩) := (hdep 12 48 (by kernel_rfl) (by kernel_rfl)).2.1.trans (hdep 12 48 (by kernel_rfl) (by kernel_rfl)).2.2
      have hl7 := hdon 7 (by kernel_rfl)
      have hl11 := hdon 11 (by kernel_rfl)
      rw [if_pos (by rfl)]
      clear hold hdep hend hdon hcl o5 o7 o8
      have HJ := Lib.hid hJ
      clear hJ
      obtain ⟨j1, j2, j3, j4, j5⟩ := HJ.out
      have hik : ls 13 = false := hi
      have h15 : ls 15 = false := by
        cases e : ls 15 with
        | false => rfl
        | true => have := j1 e; rw [hik] at this; cases this
      have hx := j3 hik
      have c1 := HCI.out w1 hx
      have f1 := HF.out w1 hx
      have s1 := HS.out w1 hx
      have hl7' : ls 7 = true := hl7
      have hl11' : ls 11 = true := hl11
      go_simp
      exact hK undef _ (fun _ _ _ h => h) ⟨fun _ => by simp, fun _ => by simp [hl7', hl11'], fun e => by simp at e, fun _ _ => s1, fun e => by simp [h15] at e⟩ trivial
    · intro ls vs a w1 hi hJ hold hdep hdon hcl K hK
      have q38 : a.tmps[38]?.getD undef = .slice (some ⟨g, 0, none⟩) n c := (hdep 2 38 (by kernel_rfl) (by kernel_rfl)).2.1.trans (hdep 2 38 (by kernel_rfl) (by kernel_rfl)).2.2
      have q39 : a.tmps[39]?.getD undef = .int .i64 (y : Int) := (hdep 3 39 (by kernel_rfl) (by kernel_rfl)).2.1.trans (hdep 3 39 (by kernel_rfl) (by kernel_rfl)).2.2
      rw [if_pos (by rfl)]
      clear hold hdep hend hdon hcl o5 o7 o8
      have HJ := Lib.hid hJ
      clear hJ
      go_simp
      exact hK _ _ (fun _ _ _ h => h) HJ.out rfl
    · intro ls vs a w1 hi hJ hold hdep hdon hcl K hK
      have q47 : a.tmps[47]?.getD undef = .int .i64 vi := (hdep 11 47 (by kernel_rfl) (by kernel_rfl)).2.1.trans (hdep 11 47 (by kernel_rfl) (by kernel_rfl)).2.2
      have q49 : a.tmps[49]?.getD undef = .pointer (some ⟨g, y, none⟩) := (hdep 14 49 (by kernel_rfl) (by kernel_rfl)).2.1.trans (hdep 14 49 (by kernel_rfl) (by kernel_rfl)).2.2
      have hl13 := hdon 13 (by kernel_rfl)
      rw [if_pos (by rfl)]
      clear hold hdep hend hdon hcl o5 o7 o8
      have HJ := Lib.hid hJ
      clear hJ
      obtain ⟨j1, j2, j3, j4, j5⟩ := HJ.out
      have hik : ls 15 = false := hi
      have hl13' : ls 13 = true := hl13
      have hs := j4 hl13' hik
      have c1 := HCJ2.out w1 hs
      have f1 := HF2.out w1 hs
      have r1 := HR.out w1 hs
      go_simp
      exact hK undef _ (fun _ _ _ h => h) ⟨fun _ => by simp [hl13'], fun e => by have := j2 hl13'; simp [this], fun e => by simp [hl13'] at e, fun _ e => by simp at e, fun _ => r1⟩ trivial
  · intro vs w9 ls9 hl9 hJ9 hφ
    have e0 := hφ 0 (by kernel_rfl)
    have e1 := hφ 1 (by kernel_rfl)
    have e2 := hφ 2 (by kernel_rfl)
    have e3 := hφ 3 (by kernel_rfl)
    have e4 := hφ 4 (by kernel_rfl)
    have e5 := hφ 5 (by kernel_rfl)
    have e6 := hφ 6 (by kernel_rfl)
    have e7 := hφ 7 (by kernel_rfl)
    have e8 := hφ 8 (by kernel_rfl)
    have e9 := hφ 9 (by kernel_rfl)
    have e10 := hφ 10 (by kernel_rfl)
    have e11 := hφ 11 (by kernel_rfl)
    have e12 := hφ 12 (by kernel_rfl)
    have e14 := hφ 14 (by kernel_rfl)
    have hq := hend vs w9 ls9 hl9 hJ9 e0 e1 e2 e3 e4 e5 e6 e7 e8 e9 e10 e11 e12 e14
    simp only [Act.put] at hq
    simp only [putAll, Act.put]
    exact hq

theorem rngI_take (n k : Nat) (hk : k < n) : rngI (k + 1) = rngI k ++ [(k : Int)] := by
  unfold rngI fl; rw [List.range_succ]; simp
set_option maxRecDepth 100000 in
set_option maxHeartbeats 2000000 in
theorem refShuffle_any (s : Int) (n : Nat) (w : World) (hn : n ≤ 2000) : Calls Tryz.prog 26 #[.int .u64 s, .int .i64 n] w (RetI (shufL s (rngI n)) w) := by
  go_enter Tryz.func26, Tryz.ntmps26
  go_wp2_with (fail)
  go_loopw [5, 6] (fun v t wr => ∃ d : Nat, d ≤ n ∧ t = .int .i64 d ∧ Ext w wr ∧ OwnI wr w.heap.size v (rngI d)) (fun _ t _ => n - (intOf t).toNat)
  case atStart => exact ⟨0, Nat.zero_le _, by simp, (Ext.refl w).alloc _, own_lit0 w⟩
  case round =>
    obtain ⟨d, hd, rfl, hr, hown⟩ := hrel
    by_cases hlt : d < n
    · have happ := app_ints (wr.alloc (.cells #[.int .i64 (d : Nat)] 3)) w.heap.size 31 _ _ [(d : Int)] (some ⟨wr.heap.size, 0, none⟩) 1 (hown.ext ((Ext.refl wr).alloc _)) (ints_one (heap_new _ _))
        (by rw [rngI_len]; simp; omega) (by have := hr.size; rw [heap_size]; omega)
      have HA := Lib.hid happ
      have hblk := Lib.hid (own_block hown)
      have HT := Lib.hid (rngI_take n d hlt)
      clear hown happ
      go_wp2_with (at_builtin; refine wpList_app _ rfl _ _ 31 rfl _ HA.out ?_; rintro v' w' ⟨hv, hg⟩; have HG := Lib.hid (grown_ext (hr.alloc _) hg hblk.out); clear HA hg)
      go_roundw
      case rel => exact ⟨d + 1, by omega, by go_num, HG.out, by rw [HT.out]; exact hv⟩
      case measure => simp [intOf]; omega
    · obtain rfl : d = n := by omega
      obtain ⟨a', n', c', rfl⟩ := own_slice hown
      obtain ⟨-, hn', -⟩ := hown.ints
      rw [rngI_len] at hn'
      subst hn'
      have HR := Lib.hid hr
      have HO := Lib.hid hown
      clear hr hown hlt
      go_wp2_with (fail)
      go_loopw [0, 7, 8] (fun sd i _ wr => ∃ (k : Nat) (t : Int) (ys : List Int), k ≤ n' ∧ sd = .int .u64 t ∧ i = .int .i64 ((k : Int) - 1) ∧ Hid (ys.length = n' ∧ shufK k t ys = shufK n' s (rngI n') ∧ Ext w wr ∧ OwnI wr w.heap.size (.slice a' n' c') ys)) (fun _ i _ _ => (intOf i).toNat)
      case atStart => exact ⟨n', s, rngI n', Nat.le_refl _, rfl, rfl, rngI_len _, rfl, HR.out, HO.out⟩
      case round =>
        obtain ⟨k, t, ys, hk, rfl, rfl, hh⟩ := hrel
        by_cases hlt : 2 ≤ k
        · obtain ⟨x, rfl⟩ : ∃ x, k = x + 1 := ⟨k - 1, by omega⟩
          obtain ⟨g, rfl⟩ : ∃ g, a' = some ⟨g, 0, none⟩ := by
            rcases hh.out.2.2.2.2 with ⟨_, h2⟩ | ⟨g, cap, cur, hv, -⟩
            · have := hh.out.1; omega
            · simp only [Value.slice.injEq] at hv
              exact ⟨g, hv.1⟩
          have hb := drw_bd (lcg t) ((x : Int) + 1) (lcg_bd t).1 (lcg_bd t).2 (by omega) (by omega)
          obtain ⟨y, hy⟩ : ∃ y : Nat, y = (drw (lcg t) ((x : Int) + 1)).toNat := ⟨_, rfl⟩
          have hye : drw (lcg t) ((x : Int) + 1) = (y : Int) := by omega
          have hyn : y < n' := by omega
          have HYE : Hid (wrap64 (IntKind.u64.wrap (lcg t / 4294967296 * ((x : Int) + 1)) / 4294967296) = (y : Int)) := by
            have e1 : IntKind.u64.wrap ((x : Int) + 1) = (x : Int) + 1 := by rw [IntKind.wrap_u64]; omega
            have := hye; unfold drw at this; rw [e1] at this; exact this
          have HY := Lib.hid hy
          have HLC : Hid (IntKind.u64.wrap (IntKind.u64.wrap (t * 6364136223846793005) + 1442695040888963407) = lcg t) := rfl
          clear hb hy hye
          have ez : (((x + 1 : Nat) : Int) - 1) = (x : Int) := by omega
          rw [ez]
          clear ez
          have HLY := Lib.hid hh.out.1
          have HSH := Lib.hid hh.out.2.1
          have HE4 := Lib.hid hh.out.2.2.1
          have HO4 := Lib.hid hh.out.2.2.2
          have HB4 := Lib.hid (own_lt hh.out.2.2.2).1
          clear hh
          have hi0 : (0 : Int) ≤ (x : Int) := by omega
          have hi1 : (x : Int) < (n' : Int) := by omega
          have hj0 : (0 : Int) ≤ (y : Int) := by omega
          have hj1 : (y : Int) < (n' : Int) := by omega
          have HCI : Hid (∀ W, Ext wr W → W.cell? ⟨g, x, none⟩ = some (.int .i64 (nth ys x))) := fun W e => ownI_cell HLY.out (HO4.out.ext e) x (by omega)
          have HCJ : Hid (∀ W, Ext wr W → W.cell? ⟨g, y, none⟩ = some (.int .i64 (nth ys y))) := fun W e => ownI_cell HLY.out (HO4.out.ext e) y hyn
          have HF : Hid (∀ W, Ext wr W → W.frozen? ⟨g, x, none⟩ = false) := fun W e => ownI_free HLY.out (HO4.out.ext e) _
          obtain ⟨S, hS⟩ : ∃ S : World → Prop, S = fun W => Ext w W ∧ OwnI W w.heap.size (.slice (some ⟨g, 0, none⟩) n' c') (ys.set x (nth ys y)) := ⟨_, rfl⟩
          obtain ⟨R, hR⟩ : ∃ R : World → Prop, R = fun W => Ext w W ∧ OwnI W w.heap.size (.slice (some ⟨g, 0, none⟩) n' c') (swp ys x y) := ⟨_, rfl⟩
          have HS : Hid (∀ W, Ext wr W → S (W.setCell ⟨g, x, none⟩ (.int .i64 (nth ys y)))) := fun W e => by
            rw [hS]
            exact ⟨(HE4.out.trans e).set HB4.out _, ownI_set2 HLY.out (HO4.out.ext e) _⟩
          have HCJ2 : Hid (∀ W, S W → W.cell? ⟨g, y, none⟩ = some (.int .i64 (nth ys y))) := fun W h => by
            rw [hS] at h
            rw [ownI_cell (by rw [List.length_set]; exact HLY.out) h.2 y hyn, nth_set _ _ _ _ (by rw [HLY.out]; exact hyn)]
            split
            · rfl
            · rfl
          have HF2 : Hid (∀ W, S W → W.frozen? ⟨g, y, none⟩ = false) := fun W h => by
            rw [hS] at h
            exact ownI_free (by rw [List.length_set]; exact HLY.out) h.2 y
          have HR : Hid (∀ W, S W → R (W.setCell ⟨g, y, none⟩ (.int .i64 (nth ys x)))) := fun W h => by
            rw [hS] at h
            rw [hR, swp_int]
            exact ⟨h.1.set HB4.out _, ownI_set2 (by rw [List.length_set]; exact HLY.out) h.2 _⟩
          have HRR := Lib.hid hR
          clear hS hR
          go_upto_region 11 with fail
          rw [HLC.out, HYE.out]
          refine sw_law26 hi0 hi1 hj0 hj1 HCI HCJ HF HS HCJ2 HF2 HR _ (by rfl) rfl rfl rfl ?_
          intro vs w9 ls9 hl9 hJ9 e0 e1 e2 e3 e4 e5 e6 e7 e8 e9 e10 e11 e12 e14
          simp only [Act.put, List.setIfInBounds_toArray, List.set_cons_zero, List.set_cons_succ]
          rw [e0, e1, e2, e3, e4, e5, e6, e7, e8, e9, e10, e11, e12, e14]
          obtain ⟨-, -, -, -, hj5⟩ := hJ9
          have hfin := hj5 (hl9 15 (by omega))
          rw [HRR.out] at hfin
          have HFIN := Lib.hid hfin
          have HK : Hid ((swp ys x y).length = n' ∧ shufK x (lcg t) (swp ys x y) = shufK n' s (rngI n')) := by
            refine ⟨by rw [swp_len]; exact HLY.out, ?_⟩
            have := HSH.out
            rw [shufK_step x (by omega)] at this
            rw [← this, HY.out]
          clear hj5 hfin HRR HCI HCJ HF HS HCJ2 HF2 HR HSH HY HYE HLC
          go_wp2_with (fail)
          go_roundw
          case rel => exact ⟨x, lcg t, swp ys x y, by omega, rfl, by go_num, HK.out.1, HK.out.2, HFIN.out.1, HFIN.out.2⟩
          case measure => simp [intOf]; omega
        · have hlt' : k ≤ 1 := by omega
          have HK : Hid (shufK k t ys = ys) := by
            match k, hlt' with
            | 0, _ => rfl
            | 1, _ => rfl
          go_wp2_with (fail)
          go_ret
          refine ⟨a', c', ?_, hh.out.2.2.1, ?_⟩
          · rw [shufL_rng, shufK_len, rngI_len]; rfl
          · rw [shufL_rng, shufK_len, rngI_len, ← hh.out.2.1, HK.out]
            exact hh.out.2.2.2
end Go.Proofs.YtplbofhgmflnlaaGreat
