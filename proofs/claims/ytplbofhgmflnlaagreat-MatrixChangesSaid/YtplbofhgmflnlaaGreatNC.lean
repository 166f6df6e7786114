/-
  Walk: the law MatrixNoneCheaper.
-/
import Derived.Test.YtplbofhgmflnlaaGreatCG
import Derived.Test.YtplbofhgmflnlaaGreatWP
import Derived.Test.YtplbofhgmflnlaaGreatKD3
set_option linter.unusedVariables false
set_option linter.unusedSimpArgs false
namespace Go.Proofs.YtplbofhgmflnlaaGreat
open Go.RowKit
/-! ### Plain -/
theorem costTo_sym (fs : List Fac) (a b : List Int) : ∀ k, costTo fs a b k = costTo fs b a k
  | 0 => rfl
  | k + 1 => by
    unfold costTo
    rw [costTo_sym fs a b k, bne_comm]
theorem costM_sym (fs : List Fac) (ss : List Se) (p q : Nat) : costM fs ss p q = costM fs ss q p := costTo_sym _ _ _ _
theorem costM_bd {fs : List Fac} (ss : List Se) (hf : fs.length ≤ 8) (h : ∀ i, i < fs.length → 0 ≤ (fth fs i).cost ∧ (fth fs i).cost ≤ 1000) (p q : Nat) : 0 ≤ costM fs ss p q ∧ costM fs ss p q ≤ 8000 := by
  have := costTo_bd (eth ss p).lv.xs (eth ss q).lv.xs h fs.length (Nat.le_refl _)
  unfold costM costS
  omega
theorem natI_nat (l : List Nat) : (natI l).map Int.toNat = l := by
  unfold natI
  rw [List.map_map]
  exact (List.map_congr_left (g := id) fun a _ => by simp).trans (List.map_id _)
theorem rngI_nat (n : Nat) : rngI n = natI (List.range n) := rfl
theorem perm_nat {xs : List Int} {n : Nat} (h : xs.Perm (rngI n)) : (xs.map Int.toNat).Perm (List.range n) := by
  have := h.map Int.toNat
  rwa [rngI_nat, natI_nat] at this
structure NcOk (fs : List Fac) (ss : List Se) (n : Nat) : Prop where
  perm : (cheapW (costM fs ss) n).Perm (rngI n)
  cost : chgV fs ss (cheapW (costM fs ss) n) = (cheapF (costM fs ss) n).2
  le : ∀ xs : List Int, xs.Perm (rngI n) → (cheapF (costM fs ss) n).2 ≤ chgV fs ss xs
  least : ∀ es : List Ed, es.Perm (edTo (costM fs ss) n) → es.Pairwise (fun x y => x.c ≤ y.c) → (kruF es).2 ≤ (cheapF (costM fs ss) n).2
theorem nc_ok {fs : List Fac} {ss : List Se} {n : Nat} (hf : fs.length ≤ 8) (h : ∀ i, i < fs.length → 0 ≤ (fth fs i).cost ∧ (fth fs i).cost ≤ 1000) (hn : 1 ≤ n) : NcOk fs ss n := by
  have hT := fun p q (_ : p < n) (_ : q < n) => costM_bd ss hf h p q
  obtain ⟨h1, h2⟩ := cheap_ok (C := 8000) (by omega) hT hn
  have e : cheapW (costM fs ss) n = natI (cheapN (costM fs ss) n) := rfl
  refine ⟨?_, ?_, fun xs hx => ?_, fun es hp hs => ?_⟩
  · rw [e, rngI_nat]; exact h1.map _
  · unfold chgV; rw [e, natI_nat, h2]
  · exact cheap_le (C := 8000) (by omega) hT hn (perm_nat hx)
  · rw [← h2]
    exact kru_path (M := 8000) hp hs hn hT (costM_sym fs ss) h1
theorem cheapW_len {fs : List Fac} {ss : List Se} {n : Nat} (h : NcOk fs ss n) : (cheapW (costM fs ss) n).length = n := by
  rw [h.perm.length_eq, rngI_len]
theorem swap_perm (xs : List Int) (x y : Nat) (hx : x < xs.length) (hy : y < xs.length) : ((xs.set x (nth xs y)).set y (nth xs x)).Perm xs := by
  have := swp_perm xs x y hx hy
  rwa [swp_int] at this
/-! ### Rows of uint64 -/
def u64C (x : Int) : List Value := [.int .u64 x]
theorem u64C_len (x : Int) : (u64C x).length = 1 := rfl
theorem seed_at {w : World} {a : Option Addr} {xs : List Int} (h : RowAt 1 u64C w a xs) (i : Nat) (hi : i < xs.length) : ∃ b o, a = some ⟨b, o, none⟩ ∧ ∀ W, Ext w W → W.cell? ⟨b, o + i, none⟩ = some (.int .u64 (xs.getD i 0)) := by
  obtain ⟨b, o, h1, h2⟩ := RowAt.at u64C_len h i hi
  refine ⟨b, o, h1, fun W e => ?_⟩
  have := h2 0 (by omega) W e
  simpa [u64C, hi] using this
/-! ### The swap -/
set_option maxRecDepth 100000 in
set_option maxHeartbeats 4000000 in
theorem nc_law {g n c x y : Nat} {vi vj : Int} {wr : World} {S R : World → Prop} (hi0 : (0 : Int) ≤ (x : Int)) (hi1 : (x : Int) < (n : Int)) (hj0 : (0 : Int) ≤ (y : Int)) (hj1 : (y : Int) < (n : Int)) (hyx : (y : Int) - 1 = (x : Int)) (hwx : IntKind.i64.wrap (x : Int) = (x : Int)) (HCI : Hid (∀ W, Ext wr W → W.cell? ⟨g, x, none⟩ = some (.int .i64 vi))) (HCJ : Hid (∀ W, Ext wr W → W.cell? ⟨g, y, none⟩ = some (.int .i64 vj))) (HF : Hid (∀ W, Ext wr W → W.frozen? ⟨g, x, none⟩ = false)) (HS : Hid (∀ W, Ext wr W → S (W.setCell ⟨g, x, none⟩ (.int .i64 vj)))) (HCJ2 : Hid (∀ W, S W → W.cell? ⟨g, y, none⟩ = some (.int .i64 vj))) (HF2 : Hid (∀ W, S W → W.frozen? ⟨g, y, none⟩ = false)) (HR : Hid (∀ W, S W → R (W.setCell ⟨g, y, none⟩ (.int .i64 vi)))) {Q : Exit → Act → World → Prop} (aZ : Act) (hsz : aZ.tmps.size = 152) (o18 : aZ.tmps[18]?.getD undef = .int .i64 (y : Int)) (o19 : aZ.tmps[19]?.getD undef = .slice (some ⟨g, 0, none⟩) n c)
    (hend : ∀ (vs : Nat → Value) (w9 : World) (ls9 : Nat → Bool), (∀ j : Nat, j < 18 → ls9 j = true) → ((ls9 17 = true → ls9 15 = true) ∧ (ls9 15 = true → ls9 8 = true ∧ ls9 13 = true) ∧ (ls9 15 = false → Ext wr w9) ∧ (ls9 15 = true → ls9 17 = false → S w9) ∧ (ls9 17 = true → R w9)) → (vs 0 = .slice (some ⟨g, 0, none⟩) n c) → (vs 1 = .int .i64 (y : Int)) → (vs 2 = .int .i64 (x : Int)) → (vs 3 = .slice (some ⟨g, 0, none⟩) n c) → (vs 4 = .int .i64 (y : Int)) → (vs 5 = .slice (some ⟨g, 0, none⟩) n c) → (vs 6 = .int .i64 (y : Int)) → (vs 7 = .pointer (some ⟨g, y, none⟩)) → (vs 8 = .int .i64 vj) → (vs 9 = .slice (some ⟨g, 0, none⟩) n c) → (vs 10 = .int .i64 (y : Int)) → (vs 11 = .int .i64 (x : Int)) → (vs 12 = .pointer (some ⟨g, x, none⟩)) → (vs 13 = .int .i64 vi) → (vs 14 = .pointer (some ⟨g, x, none⟩)) → (vs 16 = .pointer (some ⟨g, y, none⟩)) → Q .normal ((((((((((((((((aZ.put (some 121) (vs 0)).put (some 122) (vs 1)).put (some 123) (vs 2)).put (some 124) (vs 3)).put (some 125) (vs 4)).put (some 126) (vs 5)).put (some 127) (vs 6)).put (some 128) (vs 7)).put (some 129) (vs 8)).put (some 130) (vs 9)).put (some 131) (vs 10)).put (some 132) (vs 11)).put (some 133) (vs 12)).put (some 134) (vs 13)).put (some 135) (vs 14)).put (some 136) (vs 16)) w9) : (regOf Tryz.f3 21).wp Tryz.prog Q aZ wr := by
  conv => arg 2; whnf
  refine wp_region_said3 (fun i v wz => match i with
    | 0 => v = .slice (some ⟨g, 0, none⟩) n c
    | 1 => v = .int .i64 (y : Int)
    | 2 => v = .int .i64 (x : Int)
    | 3 => v = .slice (some ⟨g, 0, none⟩) n c
    | 4 => v = .int .i64 (y : Int)
    | 5 => v = .slice (some ⟨g, 0, none⟩) n c
    | 6 => v = .int .i64 (y : Int)
    | 7 => v = .pointer (some ⟨g, y, none⟩)
    | 8 => v = .int .i64 vj
    | 9 => v = .slice (some ⟨g, 0, none⟩) n c
    | 10 => v = .int .i64 (y : Int)
    | 11 => v = .int .i64 (x : Int)
    | 12 => v = .pointer (some ⟨g, x, none⟩)
    | 13 => v = .int .i64 vi
    | 14 => v = .pointer (some ⟨g, x, none⟩)
    | 15 => True
    | 16 => v = .pointer (some ⟨g, y, none⟩)
    | _ => True) (fun ls vs wz => (ls 17 = true → ls 15 = true) ∧ (ls 15 = true → ls 8 = true ∧ ls 13 = true) ∧ (ls 15 = false → Ext wr wz) ∧ (ls 15 = true → ls 17 = false → S wz) ∧ (ls 17 = true → R wz)) (by kernel_rfl) (by kernel_rfl) (by rw [hsz]; kernel_rfl) ?_ ?_ ?_
  · exact ⟨fun e => (by cases e), fun e => (by cases e), fun _ => (Ext.refl _).drew, fun e => (by cases e), fun e => (by cases e)⟩
  · refine ⟨?_, ?_, ?_, ?_, ?_, ?_, ?_, ?_, ?_, ?_, ?_, ?_, ?_, ?_, ?_, ?_, ?_, ?_, trivial⟩
    · intro ls vs a w1 hi hJ hold hdep hdon hcl K hK
      have q19 : a.tmps[19]?.getD undef = .slice (some ⟨g, 0, none⟩) n c := (hold 19 (by kernel_rfl)).trans o19
      rw [if_pos (by rfl)]
      clear hold hdep hend hdon hcl o18 o19
      have HJ := Lib.hid hJ
      clear hJ
      go_simp
      exact hK _ _ (fun _ _ _ h => h) HJ.out rfl
    · intro ls vs a w1 hi hJ hold hdep hdon hcl K hK
      have q18 : a.tmps[18]?.getD undef = .int .i64 (y : Int) := (hold 18 (by kernel_rfl)).trans o18
      rw [if_pos (by rfl)]
      clear hold hdep hend hdon hcl o18 o19
      have HJ := Lib.hid hJ
      clear hJ
      go_simp
      exact hK _ _ (fun _ _ _ h => h) HJ.out rfl
    · intro ls vs a w1 hi hJ hold hdep hdon hcl K hK
      have q122 : a.tmps[122]?.getD undef = .int .i64 (y : Int) := (hdep 1 122 (by kernel_rfl) (by kernel_rfl)).2.1.trans (hdep 1 122 (by kernel_rfl) (by kernel_rfl)).2.2
      rw [if_pos (by rfl)]
      clear hold hdep hend hdon hcl o18 o19
      have HJ := Lib.hid hJ
      clear hJ
      go_simp
      exact hK _ _ (fun _ _ _ h => h) HJ.out rfl
    · intro ls vs a w1 hi hJ hold hdep hdon hcl K hK
      have q19 : a.tmps[19]?.getD undef = .slice (some ⟨g, 0, none⟩) n c := (hold 19 (by kernel_rfl)).trans o19
      rw [if_pos (by rfl)]
      clear hold hdep hend hdon hcl o18 o19
      have HJ := Lib.hid hJ
      clear hJ
      go_simp
      exact hK _ _ (fun _ _ _ h => h) HJ.out rfl
    · intro ls vs a w1 hi hJ hold hdep hdon hcl K hK
      have q18 : a.tmps[18]?.getD undef = .int .i64 (y : Int) := (hold 18 (by kernel_rfl)).trans o18
      rw [if_pos (by rfl)]
      clear hold hdep hend hdon hcl o18 o19
      have HJ := Lib.hid hJ
      clear hJ
      go_simp
      exact hK _ _ (fun _ _ _ h => h) HJ.out rfl
    · intro ls vs a w1 hi hJ hold hdep hdon hcl K hK
      have q19 : a.tmps[19]?.getD undef = .slice (some ⟨g, 0, none⟩) n c := (hold 19 (by kernel_rfl)).trans o19
      rw [if_pos (by rfl)]
      clear hold hdep hend hdon hcl o18 o19
      have HJ := Lib.hid hJ
      clear hJ
      go_simp
      exact hK _ _ (fun _ _ _ h => h) HJ.out rfl
    · intro ls vs a w1 hi hJ hold hdep hdon hcl K hK
      have q18 : a.tmps[18]?.getD undef = .int .i64 (y : Int) := (hold 18 (by kernel_rfl)).trans o18
      rw [if_pos (by rfl)]
      clear hold hdep hend hdon hcl o18 o19
      have HJ := Lib.hid hJ
      clear hJ
      go_simp
      exact hK _ _ (fun _ _ _ h => h) HJ.out rfl
    · intro ls vs a w1 hi hJ hold hdep hdon hcl K hK
      have q126 : a.tmps[126]?.getD undef = .slice (some ⟨g, 0, none⟩) n c := (hdep 5 126 (by kernel_rfl) (by kernel_rfl)).2.1.trans (hdep 5 126 (by kernel_rfl) (by kernel_rfl)).2.2
      have q127 : a.tmps[127]?.getD undef = .int .i64 (y : Int) := (hdep 6 127 (by kernel_rfl) (by kernel_rfl)).2.1.trans (hdep 6 127 (by kernel_rfl) (by kernel_rfl)).2.2
      rw [if_pos (by rfl)]
      clear hold hdep hend hdon hcl o18 o19
      have HJ := Lib.hid hJ
      clear hJ
      go_simp
      exact hK _ _ (fun _ _ _ h => h) HJ.out rfl
    · intro ls vs a w1 hi hJ hold hdep hdon hcl K hK
      have q128 : a.tmps[128]?.getD undef = .pointer (some ⟨g, y, none⟩) := (hdep 7 128 (by kernel_rfl) (by kernel_rfl)).2.1.trans (hdep 7 128 (by kernel_rfl) (by kernel_rfl)).2.2
      rw [if_pos (by rfl)]
      clear hold hdep hend hdon hcl o18 o19
      have HJ := Lib.hid hJ
      clear hJ
      obtain ⟨j1, j2, j3, j4, j5⟩ := HJ.out
      have hik : ls 8 = false := hi
      have h15 : ls 15 = false := by
        cases e : ls 15 with
        | false => rfl
        | true => have := j2 e; rw [hik] at this; simp at this
      have c7 := HCJ.out w1 (j3 h15)
      go_simp
      exact hK _ _ (fun _ _ _ h => h) ⟨fun e => by have := j1 (by simpa using e); simp [this], fun e => by have := j2 (by simpa using e); simp [this], fun e => j3 (by simpa using e), fun e e2 => j4 (by simpa using e) (by simpa using e2), fun e => j5 (by simpa using e)⟩ rfl
    · intro ls vs a w1 hi hJ hold hdep hdon hcl K hK
      have q19 : a.tmps[19]?.getD undef = .slice (some ⟨g, 0, none⟩) n c := (hold 19 (by kernel_rfl)).trans o19
      rw [if_pos (by rfl)]
      clear hold hdep hend hdon hcl o18 o19
      have HJ := Lib.hid hJ
      clear hJ
      go_simp
      exact hK _ _ (fun _ _ _ h => h) HJ.out rfl
    · intro ls vs a w1 hi hJ hold hdep hdon hcl K hK
      have q18 : a.tmps[18]?.getD undef = .int .i64 (y : Int) := (hold 18 (by kernel_rfl)).trans o18
      rw [if_pos (by rfl)]
      clear hold hdep hend hdon hcl o18 o19
      have HJ := Lib.hid hJ
      clear hJ
      go_simp
      exact hK _ _ (fun _ _ _ h => h) HJ.out rfl
    · intro ls vs a w1 hi hJ hold hdep hdon hcl K hK
      have q131 : a.tmps[131]?.getD undef = .int .i64 (y : Int) := (hdep 10 131 (by kernel_rfl) (by kernel_rfl)).2.1.trans (hdep 10 131 (by kernel_rfl) (by kernel_rfl)).2.2
      rw [if_pos (by rfl)]
      clear hold hdep hend hdon hcl o18 o19
      have HJ := Lib.hid hJ
      clear hJ
      go_simp
      exact hK _ _ (fun _ _ _ h => h) HJ.out rfl
    · intro ls vs a w1 hi hJ hold hdep hdon hcl K hK
      have q130 : a.tmps[130]?.getD undef = .slice (some ⟨g, 0, none⟩) n c := (hdep 9 130 (by kernel_rfl) (by kernel_rfl)).2.1.trans (hdep 9 130 (by kernel_rfl) (by kernel_rfl)).2.2
      have q132 : a.tmps[132]?.getD undef = .int .i64 (x : Int) := (hdep 11 132 (by kernel_rfl) (by kernel_rfl)).2.1.trans (hdep 11 132 (by kernel_rfl) (by kernel_rfl)).2.2
      rw [if_pos (by rfl)]
      clear hold hdep hend hdon hcl o18 o19
      have HJ := Lib.hid hJ
      clear hJ
      go_simp
      exact hK _ _ (fun _ _ _ h => h) HJ.out rfl
    · intro ls vs a w1 hi hJ hold hdep hdon hcl K hK
      have q133 : a.tmps[133]?.getD undef = .pointer (some ⟨g, x, none⟩) := (hdep 12 133 (by kernel_rfl) (by kernel_rfl)).2.1.trans (hdep 12 133 (by kernel_rfl) (by kernel_rfl)).2.2
      rw [if_pos (by rfl)]
      clear hold hdep hend hdon hcl o18 o19
      have HJ := Lib.hid hJ
      clear hJ
      obtain ⟨j1, j2, j3, j4, j5⟩ := HJ.out
      have hik : ls 13 = false := hi
      have h15 : ls 15 = false := by
        cases e : ls 15 with
        | false => rfl
        | true => have := j2 e; rw [hik] at this; simp at this
      have c7 := HCI.out w1 (j3 h15)
      go_simp
      exact hK _ _ (fun _ _ _ h => h) ⟨fun e => by have := j1 (by simpa using e); simp [this], fun e => by have := j2 (by simpa using e); simp [this], fun e => j3 (by simpa using e), fun e e2 => j4 (by simpa using e) (by simpa using e2), fun e => j5 (by simpa using e)⟩ rfl
    · intro ls vs a w1 hi hJ hold hdep hdon hcl K hK
      have q121 : a.tmps[121]?.getD undef = .slice (some ⟨g, 0, none⟩) n c := (hdep 0 121 (by kernel_rfl) (by kernel_rfl)).2.1.trans (hdep 0 121 (by kernel_rfl) (by kernel_rfl)).2.2
      have q123 : a.tmps[123]?.getD undef = .int .i64 (x : Int) := (hdep 2 123 (by kernel_rfl) (by kernel_rfl)).2.1.trans (hdep 2 123 (by kernel_rfl) (by kernel_rfl)).2.2
      rw [if_pos (by rfl)]
      clear hold hdep hend hdon hcl o18 o19
      have HJ := Lib.hid hJ
      clear hJ
      go_simp
      exact hK _ _ (fun _ _ _ h => h) HJ.out rfl
    · intro ls vs a w1 hi hJ hold hdep hdon hcl K hK
      have q129 : a.tmps[129]?.getD undef = .int .i64 vj := (hdep 8 129 (by kernel_rfl) (by kernel_rfl)).2.1.trans (hdep 8 129 (by kernel_rfl) (by kernel_rfl)).2.2
      have q135 : a.tmps[135]?.getD undef = .pointer (some ⟨g, x, none⟩) := (hdep 14 135 (by kernel_rfl) (by kernel_rfl)).2.1.trans (hdep 14 135 (by kernel_rfl) (by kernel_rfl)).2.2
      have hl8 := hdon 8 (by kernel_rfl)
      have hl13 := hdon 13 (by kernel_rfl)
      rw [if_pos (by rfl)]
      clear hold hdep hend hdon hcl o18 o19
      have HJ := Lib.hid hJ
      clear hJ
      obtain ⟨j1, j2, j3, j4, j5⟩ := HJ.out
      have hik : ls 15 = false := hi
      have h17 : ls 17 = false := by
        cases e : ls 17 with
        | false => rfl
        | true => have := j1 e; rw [hik] at this; cases this
      have hx := j3 hik
      have c1 := HCI.out w1 hx
      have f1 := HF.out w1 hx
      have s1 := HS.out w1 hx
      have hl8' : ls 8 = true := hl8
      have hl15' : ls 13 = true := hl13
      go_simp
      exact hK undef _ (fun _ _ _ h => h) ⟨fun _ => by simp, fun _ => by simp [hl8', hl15'], fun e => by simp at e, fun _ _ => s1, fun e => by simp [h17] at e⟩ trivial
    · intro ls vs a w1 hi hJ hold hdep hdon hcl K hK
      have q124 : a.tmps[124]?.getD undef = .slice (some ⟨g, 0, none⟩) n c := (hdep 3 124 (by kernel_rfl) (by kernel_rfl)).2.1.trans (hdep 3 124 (by kernel_rfl) (by kernel_rfl)).2.2
      have q125 : a.tmps[125]?.getD undef = .int .i64 (y : Int) := (hdep 4 125 (by kernel_rfl) (by kernel_rfl)).2.1.trans (hdep 4 125 (by kernel_rfl) (by kernel_rfl)).2.2
      rw [if_pos (by rfl)]
      clear hold hdep hend hdon hcl o18 o19
      have HJ := Lib.hid hJ
      clear hJ
      go_simp
      exact hK _ _ (fun _ _ _ h => h) HJ.out rfl
    · intro ls vs a w1 hi hJ hold hdep hdon hcl K hK
      have q134 : a.tmps[134]?.getD undef = .int .i64 vi := (hdep 13 134 (by kernel_rfl) (by kernel_rfl)).2.1.trans (hdep 13 134 (by kernel_rfl) (by kernel_rfl)).2.2
      have q136 : a.tmps[136]?.getD undef = .pointer (some ⟨g, y, none⟩) := (hdep 16 136 (by kernel_rfl) (by kernel_rfl)).2.1.trans (hdep 16 136 (by kernel_rfl) (by kernel_rfl)).2.2
      have hl15 := hdon 15 (by kernel_rfl)
      rw [if_pos (by rfl)]
      clear hold hdep hend hdon hcl o18 o19
      have HJ := Lib.hid hJ
      clear hJ
      obtain ⟨j1, j2, j3, j4, j5⟩ := HJ.out
      have hik : ls 17 = false := hi
      have hl15' : ls 15 = true := hl15
      have hs := j4 hl15' hik
      have c1 := HCJ2.out w1 hs
      have f1 := HF2.out w1 hs
      have r1 := HR.out w1 hs
      go_simp
      exact hK undef _ (fun _ _ _ h => h) ⟨fun _ => by simp [hl15'], fun e => by have := j2 hl15'; simp [this], fun e => by simp [hl15'] at e, fun _ e => by simp at e, fun _ => r1⟩ trivial
  · intro vs w9 ls9 hl9 hJ9 hφ
    have e0 := hφ 0 (by kernel_rfl)
    have e1 := hφ 1 (by kernel_rfl)
    have e2 := hφ 2 (by kernel_rfl)
    have e3 := hφ 3 (by kernel_rfl)
    have e4 := hφ 4 (by kernel_rfl)
    have e5 := hφ 5 (by kernel_rfl)
    have e6 := hφ 6 (by kernel_rfl)
    have e7 := hφ 7 (by kernel_rfl)
    have e8 := hφ 8 (by kernel_rfl)
    have e9 := hφ 9 (by kernel_rfl)
    have e10 := hφ 10 (by kernel_rfl)
    have e11 := hφ 11 (by kernel_rfl)
    have e12 := hφ 12 (by kernel_rfl)
    have e13 := hφ 13 (by kernel_rfl)
    have e14 := hφ 14 (by kernel_rfl)
    have e16 := hφ 16 (by kernel_rfl)
    have hq := hend vs w9 ls9 hl9 hJ9 e0 e1 e2 e3 e4 e5 e6 e7 e8 e9 e10 e11 e12 e13 e14 e16
    simp only [Act.put] at hq
    simp only [putAll, Act.put]
    exact hq

/-! ### The walk -/
set_option maxRecDepth 100000 in
set_option maxHeartbeats 4000000 in
theorem nc_wide (P : Pw) (a : Option Addr) (ss : List Se) (sc : Nat) (A : Option Addr) (m Ac : Nat) (w : World) (hp : PlanAt w P) (hgl : ∀ i, i < P.fo.length → (gth P.fo i).xs.length ≤ 9223372036854775807) (hs : SetsAt w a ss) (hl : ∀ i, i < ss.length → (eth ss i).lv.xs.length ≤ 9223372036854775807)
    (h : wideP P.fs P.fo = true ∨ wideS ss = true ∨ 9 < ss.length ∨ 20 < m) :
    Calls Tryz.prog 3 #[planV P, .slice a ss.length sc, .slice A m Ac] w (Ret (.bool true) w) := by
  have hwp := fun W (e : Ext w W) => wideP_any P.fs P.fo P.fa P.ga P.fc P.gc W (hp.ext e).fo hgl
  have hws := fun W (e : Ext w W) => wideS_any ss a sc W (hs.ext e).row hl
  obtain ⟨x, hx⟩ : ∃ x, x = wideP P.fs P.fo := ⟨_, rfl⟩
  obtain ⟨y, hy⟩ : ∃ y, y = wideS ss := ⟨_, rfl⟩
  obtain ⟨fs, fa, fc, fo, ga, gc⟩ := P
  simp only at hwp hx h
  rw [← hx] at hwp h
  rw [← hy] at hws h
  have HWP := Lib.hid hwp; have HWS := Lib.hid hws
  obtain ⟨n, hn⟩ : ∃ n, n = ss.length := ⟨_, rfl⟩
  rw [← hn] at h HWS ⊢
  clear hwp hws hp hs hgl hl hx hy hn
  have hd : x = true ∨ (x = false ∧ (y = true ∨ (y = false ∧ (9 < (n : Int) ∨ (¬ 9 < (n : Int) ∧ 20 < (m : Int)))))) := by
    cases x <;> cases y <;> simp at h ⊢ <;> omega
  clear h
  rcases hd with rfl | ⟨rfl, rfl | ⟨rfl, h1 | ⟨h1, h2⟩⟩⟩ <;> (
  go_enter Tryz.func3, Tryz.ntmps3
  go_wp2_with (fail)
  generalize hw1 : World.alloc _ _ = w1
  obtain ⟨he, o1, -⟩ := alloc1 hw1
  obtain ⟨b0, b1⟩ := obj_cells2 o1
  have E1 := Ext.refl w1
  have HE := Lib.hid he
  clear hw1 o1 he
  go_wp2_with (first
    | (go_at_call 15; (with_reducible refine (HWP.out _ HE.out).mono ?_); rintro e w2 ⟨rfl, he2⟩; have HE2 : Hid (Ext w w2) := HE.out.trans he2)
    | (go_at_call 16; (with_reducible refine (HWS.out _ HE2.out).mono ?_); rintro e w3 ⟨rfl, he3⟩; have HE3 : Hid (Ext w w3) := HE2.out.trans he3)
    | (go_at_call 17; (with_reducible refine (known_any _).mono ?_); rintro e w4 ⟨rfl, he4⟩))
  go_ret
  first | exact ⟨rfl, HE3.out.trans he4⟩ | exact ⟨rfl, HE2.out.trans he4⟩)
set_option maxRecDepth 100000 in
set_option maxHeartbeats 4000000 in
theorem nc_err (P : Pw) (a : Option Addr) (ss : List Se) (sc : Nat) (A : Option Addr) (m Ac : Nat) (w : World) (hp : PlanAt w P) (hb : PlanB P) (hs : SetsAt w a ss) (hl : ∀ i, i < ss.length → (eth ss i).lv.xs.length ≤ 9223372036854775807)
    (h1 : wideP P.fs P.fo = false) (h2 : wideS ss = false) (h3 : ss.length ≤ 9) (h4 : m ≤ 20) (h0 : checkE P ss ≠ 0) :
    Calls Tryz.prog 3 #[planV P, .slice a ss.length sc, .slice A m Ac] w (Ret (.bool true) w) := by
  have hwp := fun W (e : Ext w W) => wideP_any P.fs P.fo P.fa P.ga P.fc P.gc W (hp.ext e).fo (fun i hi => by have := hb.pl i hi; omega)
  have hws := fun W (e : Ext w W) => wideS_any ss a sc W (hs.ext e).row hl
  have hch := fun W (e : Ext w W) => cheapest_no P a ss sc W (hp.ext e) hb (hs.ext e) (by omega) hl _ rfl h0
  obtain ⟨q, hq⟩ : ∃ q, q = checkE P ss := ⟨_, rfl⟩
  rw [← hq] at hch h0
  obtain ⟨fs, fa, fc, fo, ga, gc⟩ := P
  simp only at hwp h1
  rw [h1] at hwp
  rw [h2] at hws
  have HWP := Lib.hid hwp; have HWS := Lib.hid hws; have HCH := Lib.hid hch
  obtain ⟨n, hn⟩ : ∃ n, n = ss.length := ⟨_, rfl⟩
  rw [← hn] at h3 HWS HCH ⊢
  clear hwp hws hch hp hs hb hl hq hn h1 h2
  have h5 : ¬ 9 < (n : Int) := by omega
  have h6 : ¬ 20 < (m : Int) := by omega
  have hq0 : (q != 0) = true := by simpa using h0
  clear h3 h4 h0
  go_enter Tryz.func3, Tryz.ntmps3
  go_wp2_with (fail)
  generalize hw1 : World.alloc _ _ = w1
  obtain ⟨he, o1, -⟩ := alloc1 hw1
  obtain ⟨b0, b1⟩ := obj_cells2 o1
  have E1 := Ext.refl w1
  have HE := Lib.hid he
  clear hw1 o1 he
  go_wp2_with (first
    | (go_at_call 15; (with_reducible refine (HWP.out _ HE.out).mono ?_); rintro e w2 ⟨rfl, he2⟩; have HE2 : Hid (Ext w w2) := HE.out.trans he2)
    | (go_at_call 16; (with_reducible refine (HWS.out _ HE2.out).mono ?_); rintro e w3 ⟨rfl, he3⟩; have HE3 : Hid (Ext w w3) := HE2.out.trans he3; have he13 : Ext w1 w3 := he2.trans he3)
    | (go_at_call 18; (with_reducible refine (HCH.out _ HE3.out).mono ?_); rintro e w4 ⟨rfl, he4⟩; have HE4 : Hid (Ext w w4) := HE3.out.trans he4)
    | (go_at_call 17; (with_reducible refine (known_any _).mono ?_); rintro e w5 ⟨rfl, he5⟩))
  go_ret
  exact ⟨rfl, HE4.out.trans he5⟩
set_option maxRecDepth 100000 in
set_option maxHeartbeats 8000000 in
theorem nc_main (P : Pw) (a : Option Addr) (ss : List Se) (sc : Nat) (A : Option Addr) (As : List Int) (Ac : Nat) (w : World) (hp : PlanAt w P) (hb : PlanB P) (hs : SetsAt w a ss) (hsc : ss.length ≤ sc) (hl : ∀ i, i < ss.length → (eth ss i).lv.xs.length ≤ 9223372036854775807)
    (h1 : wideP P.fs P.fo = false) (h2 : wideS ss = false) (h3 : ss.length ≤ 9) (h4 : As.length ≤ 20) (h0 : checkE P ss = 0) (hA : RowAt 1 u64C w A As) (L : List Int) (C : Int)
    (hch : ∀ W, Ext w W → Calls Tryz.prog 18 #[planV P, .slice a ss.length sc] W (fun e w' => ∃ a c, e = .returned (.tuple #[.slice a ss.length c, .int .i64 C, .int .i64 0]) ∧ Ext W w' ∧ Ints w' a L ∧ ss.length ≤ c))
    (hL : L.Perm (rngI ss.length)) (hLC : chgV P.fs ss L = C) (hle : ∀ xs : List Int, xs.Perm (rngI ss.length) → C ≤ chgV P.fs ss xs)
    (hle2 : ∀ es : List Ed, es.Perm (edTo (costM P.fs ss) ss.length) → es.Pairwise (fun x y => x.c ≤ y.c) → (kruF es).2 ≤ C) :
    Calls Tryz.prog 3 #[planV P, .slice a ss.length sc, .slice A As.length Ac] w (Ret (.bool true) w) := by
  have hwp := fun W (e : Ext w W) => wideP_any P.fs P.fo P.fa P.ga P.fc P.gc W (hp.ext e).fo (fun i hi => by have := hb.pl i hi; omega)
  have hws := fun W (e : Ext w W) => wideS_any ss a sc W (hs.ext e).row hl
  have HCG : Hid (∀ W a2 c (xs : List Int), Ext w W → Ints W a2 xs → xs.Perm (rngI ss.length) → ss.length ≤ c → Calls Tryz.prog 19 #[planV P, .slice a ss.length sc, .slice a2 ss.length c] W (fun e w' => ∃ z, e = .returned (.tuple #[.int .i64 z, .int .i64 0]) ∧ Ext W w' ∧ z = chgV P.fs ss xs ∧ C ≤ z)) := fun W a2 c xs e hi hx hc => by
    have hxl : xs.length = ss.length := by rw [hx.length_eq, rngI_len]
    have := Changes_ok P a ss sc a2 xs c W (hp.ext e) hb (hs.ext e) (by omega) hl h0 hi (by omega) (by omega)
    rw [hxl, if_pos hx] at this
    refine this.mono ?_
    rintro e w' ⟨rfl, he⟩
    exact ⟨_, rfl, he, rfl, hle _ hx⟩
  have HLE : Hid (∀ W, Ext w W → Calls Tryz.prog 20 #[planV P, .slice a ss.length sc] W (fun e w' => ∃ z, e = .returned (.tuple #[.int .i64 z, .int .i64 0]) ∧ Ext W w' ∧ z ≤ C)) := fun W e =>
    (least_ok sortEd sortEdN P a ss sc W (hp.ext e) hb (hs.ext e) (by omega) hsc hl h0).mono (by
      rintro e w' ⟨es, h1, h2, rfl, he⟩
      exact ⟨_, rfl, he, hle2 es h1 h2⟩)
  have HSH : Hid (∀ W s, Calls Tryz.prog 21 #[.int .u64 s, .int .i64 ss.length] W (fun e w' => ∃ g c xs, e = .returned (.tuple #[.slice (some ⟨g, 0, none⟩) ss.length c, .int .i64 0]) ∧ Ext W w' ∧ Ints w' (some ⟨g, 0, none⟩) xs ∧ xs.Perm (rngI ss.length) ∧ ss.length ≤ c)) := fun W s =>
    (Shuffle_ok s ss.length W (by omega)).mono (by
      rintro e w' ⟨g, c, rfl, he, ho⟩
      exact ⟨g, c, _, rfl, he, ho.ints.1, shufL_perm _ _ (by rw [rngI_len]; omega), ho.ints.2.2⟩)
  have HSW : Hid (∀ x y : Nat, x < ss.length → y < ss.length → ((L.set x (nth L y)).set y (nth L x)).Perm (rngI ss.length)) := fun x y hx hy => by
    have hl := hL.length_eq
    rw [rngI_len] at hl
    exact (swap_perm L x y (by omega) (by omega)).trans hL
  have HLN : Hid (L.length = ss.length) := by rw [Hid, hL.length_eq, rngI_len]
  have HCH := Lib.hid hch; have HL := Lib.hid hL; have HLC := Lib.hid hLC
  obtain ⟨fs, fa, fc, fo, ga, gc⟩ := P
  simp only at hwp h1
  rw [h1] at hwp
  rw [h2] at hws
  have HWP := Lib.hid hwp; have HWS := Lib.hid hws
  have HA := Lib.hid hA
  obtain ⟨n, hn⟩ : ∃ n, n = ss.length := ⟨_, rfl⟩
  obtain ⟨m, hm⟩ : ∃ m, m = As.length := ⟨_, rfl⟩
  have HM := Lib.hid hm
  rw [← hn] at h3 HWS HCH HCG HLE HSH HSW HLN HL ⊢
  rw [← hm] at h4 ⊢
  clear hwp hws hch hp hs hb hl hn hm h1 h2 hL hLC hle hle2 hA hsc h0
  have h5 : ¬ 9 < (n : Int) := by omega
  have h6 : ¬ 20 < (m : Int) := by omega
  go_enter Tryz.func3, Tryz.ntmps3
  go_wp2_with (fail)
  generalize hw1 : World.alloc _ _ = w1
  obtain ⟨he, o1, -⟩ := alloc1 hw1
  obtain ⟨b0, b1⟩ := obj_cells2 o1
  have E1 := Ext.refl w1
  have HE := Lib.hid he
  clear hw1 o1 he
  go_wp2_with (first
    | (go_at_call 15; (with_reducible refine (HWP.out _ HE.out).mono ?_); rintro e w2 ⟨rfl, he2⟩; have HE2 : Hid (Ext w w2) := HE.out.trans he2)
    | (go_at_call 16; (with_reducible refine (HWS.out _ HE2.out).mono ?_); rintro e w3 ⟨rfl, he3⟩; have HE3 : Hid (Ext w w3) := HE2.out.trans he3; have he13 : Ext w1 w3 := he2.trans he3)
    | (go_at_call 18; (with_reducible refine (HCH.out _ HE3.out).mono ?_); rintro e w4 ⟨oa, oc, rfl, he4, hi4, hc4⟩; have HE4 : Hid (Ext w w4) := HE3.out.trans he4; have he14 : Ext w1 w4 := he13.trans he4; have HI4 := Lib.hid hi4; have HC4 := Lib.hid hc4; clear hi4 hc4)
    | (go_at_call 19; (with_reducible refine (HCG.out _ _ _ _ HE4.out HI4.out HL.out HC4.out).mono ?_); rintro e w5 ⟨z, rfl, he5, hz, -⟩; obtain rfl : C = z := (hz.trans HLC.out).symm; clear hz; have HE5 : Hid (Ext w w5) := HE4.out.trans he5; have he15 : Ext w1 w5 := he14.trans he5)
    | (go_at_call 20; go_loud ((with_reducible refine (HLE.out _ HE5.out).mono ?_); rintro e w6 ⟨l, rfl, he6, hl6⟩; have hl6' : ¬ C < l := Int.not_lt.2 hl6; have HE6 : Hid (Ext w w6) := HE5.out.trans he6; have he16 : Ext w1 w6 := he15.trans he6)))
  have HE16 := Lib.hid he16
  have HE6' := Lib.hid HE6.out
  have HI6 : Hid (Ints w6 oa L) := (HI4.out.ext he5).ext he6
  have h5' : (n : Int) ≤ 9 := by omega
  clear HWP HWS HCH HLE HI4 HE HE2 HE3 HE4 HE5 HE6 he2 he3 he4 he5 he6 he13 he14 he15 he16 hl6 hl6'
  go_loopw [13, 14, 15, 16, 17] (fun i _ _ _ _ wr => ∃ k : Nat, k ≤ m ∧ i = .int .i64 k ∧ Hid (Ext w6 wr)) (fun i _ _ _ _ _ => m - (intOf i).toNat)
  case atStart => exact ⟨0, Nat.zero_le _, rfl, Ext.refl _⟩
  case round =>
    obtain ⟨k, hk, rfl, HR⟩ := hrel
    by_cases hlt : k < m
    · obtain ⟨ab, ao, rfl, c0⟩ := seed_at (HA.out.ext u64C_len (HE6'.out.trans HR.out)) k (by rw [← HM.out]; exact hlt)
      have p0 := fun W (e : Ext wr W) => b0 W ((HE16.out.trans HR.out).trans e)
      have p1 := fun W (e : Ext wr W) => b1 W ((HE16.out.trans HR.out).trans e)
      have HRW : Hid (Ext w wr) := HE6'.out.trans HR.out
      have Er := Ext.refl wr
      generalize As.getD k 0 = sd at *
      go_wp2_with (first
        | (go_at_call 21; (with_reducible refine (HSH.out _ _).mono ?_); rintro e w7 ⟨g, c, xs, rfl, he7, hi7, hx7, hc7⟩; have HI7 := Lib.hid hi7; have HX7 := Lib.hid hx7; have HC7 := Lib.hid hc7; clear hi7 hx7 hc7)
        | (go_at_call 19; (with_reducible refine (HCG.out _ _ _ _ (HRW.out.trans he7) HI7.out HX7.out HC7.out).mono ?_); rintro e w8 ⟨z, rfl, he8, -, hz8⟩; have hz8' : ¬ z < C := Int.not_lt.2 hz8; have he17 : Ext wr w8 := he7.trans he8))
      go_roundw
      case rel => exact ⟨k + 1, by omega, by go_num, HR.out.trans he17⟩
      case measure => simp [intOf]; omega
    · obtain rfl : k = m := by omega
      obtain ⟨wo, rfl⟩ : ∃ wo : World, wo = wr := ⟨_, rfl⟩
      have HRW : Hid (Ext w wo) := HE6'.out.trans HR.out
      have HE1R : Hid (Ext w1 wo) := HE16.out.trans HR.out
      have HIR : Hid (Ints wo oa L) := HI6.out.ext HR.out
      clear HA HM HSH HE6' HE16 HI6 HR hlt hk
      go_wp2_with (fail)
      go_loopw [18, 19, 20, 21] (fun i _ _ _ wr => ∃ k : Nat, 1 ≤ k ∧ (k ≤ n ∨ k = 1) ∧ i = .int .i64 k ∧ Hid (Ext wo wr)) (fun i _ _ _ _ => n - (intOf i).toNat)
      case atStart => exact ⟨1, Nat.le_refl _, .inr rfl, rfl, Ext.refl _⟩
      case round =>
        obtain ⟨k, hk1, hk, rfl, HR⟩ := hrel
        by_cases hlt : k < n
        · obtain ⟨x, rfl⟩ : ∃ x, k = x + 1 := ⟨k - 1, by omega⟩
          obtain ⟨ob, oo, rfl, -⟩ := HIR.out.at x (by rw [HLN.out]; omega)
          have HIW : Hid (Ints wr (some ⟨ob, oo, none⟩) L) := HIR.out.ext HR.out
          have HAP := Lib.hid (app_ints (wr.alloc (.cells #[] 3)) wr.heap.size 31 (.slice (some ⟨wr.heap.size, 0, none⟩) 0 0) [] L (some ⟨ob, oo, none⟩) oc (own_lit0 wr) (HIW.out.ext ((Ext.refl wr).alloc _)) (by rw [HLN.out]; simp; omega) (by rw [heap_size]; omega))
          rw [HLN.out, List.nil_append] at HAP
          go_upto_region 21 with (at_builtin; refine wpList_app _ rfl _ _ 31 rfl _ HAP.out ?_; rintro v' w7 ⟨hv, hg⟩; have HG : Hid (Ext wr w7) := grown_ext ((Ext.refl wr).alloc _) hg (fun k hk => by simp only [Value.ownBlock, Option.some.injEq] at hk; omega); have HV := Lib.hid hv; clear HAP hg hv)
          obtain ⟨a', n', c', rfl⟩ := own_slice HV.out
          obtain ⟨-, hn', hnc⟩ := HV.out.ints
          rw [HLN.out] at hn'
          subst hn'
          obtain ⟨g, rfl⟩ := own_addr HV.out (by intro h; have := HLN.out; rw [h] at this; simp at this; omega)
          have HN7 := Lib.hid HLN.out
          have hxn : x < n' := by omega
          have HB := Lib.hid (own_lt HV.out).1
          have hi0 : (0 : Int) ≤ (x : Int) := by omega
          have hi1 : (x : Int) < (n' : Int) := by omega
          have hj0 : (0 : Int) ≤ ((x + 1 : Nat) : Int) := by omega
          have hj1 : ((x + 1 : Nat) : Int) < (n' : Int) := by omega
          have hyx : ((x + 1 : Nat) : Int) - 1 = (x : Int) := by omega
          have hwx : IntKind.i64.wrap (x : Int) = (x : Int) := by rw [IntKind.wrap_i64]; omega
          have HCI : Hid (∀ W, Ext w7 W → W.cell? ⟨g, x, none⟩ = some (.int .i64 (nth L x))) := fun W e => ownI_cell HN7.out (HV.out.ext e) x hxn
          have HCJ : Hid (∀ W, Ext w7 W → W.cell? ⟨g, x + 1, none⟩ = some (.int .i64 (nth L (x + 1)))) := fun W e => ownI_cell HN7.out (HV.out.ext e) (x + 1) hlt
          have HF : Hid (∀ W, Ext w7 W → W.frozen? ⟨g, x, none⟩ = false) := fun W e => ownI_free HN7.out (HV.out.ext e) _
          obtain ⟨S, hS⟩ : ∃ S : World → Prop, S = fun W => Ext wr W ∧ OwnI W wr.heap.size (.slice (some ⟨g, 0, none⟩) n' c') (L.set x (nth L (x + 1))) := ⟨_, rfl⟩
          obtain ⟨R, hR⟩ : ∃ R : World → Prop, R = fun W => Ext wr W ∧ OwnI W wr.heap.size (.slice (some ⟨g, 0, none⟩) n' c') ((L.set x (nth L (x + 1))).set (x + 1) (nth L x)) := ⟨_, rfl⟩
          have HS : Hid (∀ W, Ext w7 W → S (W.setCell ⟨g, x, none⟩ (.int .i64 (nth L (x + 1))))) := fun W e => by
            rw [hS]
            exact ⟨(HG.out.trans e).set HB.out _, ownI_set2 HN7.out (HV.out.ext e) _⟩
          have HCJ2 : Hid (∀ W, S W → W.cell? ⟨g, x + 1, none⟩ = some (.int .i64 (nth L (x + 1)))) := fun W h => by
            rw [hS] at h
            rw [ownI_cell (by rw [List.length_set]; exact HN7.out) h.2 (x + 1) hlt, nth_set _ _ _ _ (by rw [HN7.out]; exact hlt), if_neg (by omega)]
          have HF2 : Hid (∀ W, S W → W.frozen? ⟨g, x + 1, none⟩ = false) := fun W h => by
            rw [hS] at h
            exact ownI_free (by rw [List.length_set]; exact HN7.out) h.2 _
          have HRS : Hid (∀ W, S W → R (W.setCell ⟨g, x + 1, none⟩ (.int .i64 (nth L x)))) := fun W h => by
            rw [hS] at h
            rw [hR]
            exact ⟨h.1.set HB.out _, ownI_set2 (by rw [List.length_set]; exact HN7.out) h.2 _⟩
          have HRR := Lib.hid hR
          clear hS hR
          refine nc_law hi0 hi1 hj0 hj1 hyx hwx HCI HCJ HF HS HCJ2 HF2 HRS _ (by rfl) rfl rfl ?_
          intro vs w9 ls9 hl9 hJ9 e0 e1 e2 e3 e4 e5 e6 e7 e8 e9 e10 e11 e12 e13 e14 e16
          simp only [Act.put, List.setIfInBounds_toArray, List.set_cons_zero, List.set_cons_succ]
          rw [e0, e1, e2, e3, e4, e5, e6, e7, e8, e9, e10, e11, e12, e13, e14, e16]
          obtain ⟨-, -, -, -, hj5⟩ := hJ9
          have hfin := hj5 (hl9 17 (by omega))
          rw [HRR.out] at hfin
          have HFIN := Lib.hid hfin
          have HI9 : Hid (Ints w9 (some ⟨g, 0, none⟩) ((L.set x (nth L (x + 1))).set (x + 1) (nth L x)) ∧ n' ≤ c') := ⟨hfin.2.ints.1, hnc⟩
          have HEW : Hid (Ext w1 w9) := (HE1R.out.trans HR.out).trans hfin.1
          have q0 := fun W (e : Ext w9 W) => b0 W (HEW.out.trans e)
          have q1 := fun W (e : Ext w9 W) => b1 W (HEW.out.trans e)
          have E9 := Ext.refl w9
          have HSP := Lib.hid (HSW.out x (x + 1) hxn hlt)
          have HEW0 : Hid (Ext w w9) := (HRW.out.trans HR.out).trans hfin.1
          clear hj5 hfin HRR HCI HCJ HF HS HCJ2 HF2 HRS
          go_wp2_with (go_at_call 19; (with_reducible refine (HCG.out _ _ _ _ HEW0.out HI9.out.1 HSP.out HI9.out.2).mono ?_); rintro e w8 ⟨z, rfl, he8, -, hz8⟩; have hz8' : ¬ z < C := Int.not_lt.2 hz8)
          go_roundw
          case rel => exact ⟨x + 1 + 1, by omega, .inl hlt, by go_num, (HR.out.trans HFIN.out.1).trans he8⟩
          case measure => simp [intOf]; omega
        · go_wp2_with (go_at_call 17; (with_reducible refine (known_any _).mono ?_); rintro e w8 ⟨rfl, he8⟩)
          go_ret
          exact ⟨rfl, (HRW.out.trans HR.out).trans he8⟩
theorem planB_of {P : Pw} (h : wideP P.fs P.fo = false) : PlanB P := by
  obtain ⟨h1, h2, h3, h4, h5⟩ := wideP_no h
  exact ⟨by omega, by omega, fun i hi => by have := h5 i hi; omega⟩
theorem none_any (P : Pw) (a : Option Addr) (ss : List Se) (sc : Nat) (A : Option Addr) (As : List Int) (Ac : Nat) (w : World) (hp : PlanAt w P) (hgl : ∀ i, i < P.fo.length → (gth P.fo i).xs.length ≤ 9223372036854775807) (hs : SetsAt w a ss) (hsc : ss.length ≤ sc) (hl : ∀ i, i < ss.length → (eth ss i).lv.xs.length ≤ 9223372036854775807) (hA : RowAt 1 u64C w A As) :
    Calls Tryz.prog 3 #[planV P, .slice a ss.length sc, .slice A As.length Ac] w (Ret (.bool true) w) := by
  by_cases hw : wideP P.fs P.fo = true ∨ wideS ss = true ∨ 9 < ss.length ∨ 20 < As.length
  · exact nc_wide P a ss sc A As.length Ac w hp hgl hs hl hw
  · have h1 : wideP P.fs P.fo = false := by
      cases h : wideP P.fs P.fo
      · rfl
      · exact absurd (.inl h) hw
    have h2 : wideS ss = false := by
      cases h : wideS ss
      · rfl
      · exact absurd (.inr (.inl h)) hw
    have h3 : ss.length ≤ 9 := by
      rcases Nat.lt_or_ge 9 ss.length with h | h
      · exact absurd (.inr (.inr (.inl h))) hw
      · exact h
    have h4 : As.length ≤ 20 := by
      rcases Nat.lt_or_ge 20 As.length with h | h
      · exact absurd (.inr (.inr (.inr h))) hw
      · exact h
    have hb := planB_of h1
    by_cases h0 : checkE P ss = 0
    · obtain ⟨c1, c2, c3⟩ := checkE_ok h0
      by_cases hn : ss = []
      · subst hn
        refine nc_main P a [] sc A As Ac w hp hb hs hsc hl h1 h2 h3 h4 h0 hA [] 0 (fun W e => ?_) (.refl _) rfl (fun xs hx => ?_) (fun es he _ => ?_)
        · refine (cheapest_none P a sc W (hp.ext e) hb (hs.ext e) h0).mono ?_
          rintro e w' ⟨rfl, he⟩
          exact ⟨none, 0, rfl, he, .inl rfl, Nat.le_refl _⟩
        · have : xs = [] := hx.eq_nil
          rw [this]; exact Int.le_refl _
        · have : es = [] := he.eq_nil
          rw [this]; exact Int.le_refl _
      · have hn1 : 1 ≤ ss.length := by
          have := List.length_pos_iff.2 hn
          omega
        have hok := nc_ok (ss := ss) (planOk c1).1 (fun i hi => (anyFac_off (planOk c1).2.2.1 i hi).2.2) hn1
        have hlen := cheapW_len hok
        refine nc_main P a ss sc A As Ac w hp hb hs hsc hl h1 h2 h3 h4 h0 hA _ _ (fun W e => ?_) hok.perm hok.cost hok.le hok.least
        refine (cheapest_ok P a ss sc W (hp.ext e) hb (hs.ext e) hn1 h3 hl h0).mono ?_
        rintro e w' ⟨oa, oc, rfl, he, ho⟩
        rw [hlen] at ho ⊢
        exact ⟨oa, oc, rfl, he, ho.ints.1, ho.ints.2.2⟩
    · exact nc_err P a ss sc A As.length Ac w hp hb hs hl h1 h2 h3 h4 h0
end Go.Proofs.YtplbofhgmflnlaaGreat
