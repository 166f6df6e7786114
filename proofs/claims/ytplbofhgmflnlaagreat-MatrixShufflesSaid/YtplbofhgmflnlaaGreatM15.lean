/-
  Walks: shuffle at []group (printed by genm15.py).
-/
import Derived.Test.YtplbofhgmflnlaaGreatM14
set_option linter.unusedVariables false
set_option linter.unusedSimpArgs false
namespace Go.Proofs.YtplbofhgmflnlaaGreat
open Go.RowKit
set_option maxRecDepth 100000 in
set_option maxHeartbeats 4000000 in
theorem sw_lawG {g n c x y : Nat} {CI CJ : List Value} {wr : World} {S R : World → Prop} (hi0 : (0 : Int) ≤ (x : Int)) (hi1 : (x : Int) < (n : Int)) (hj0 : (0 : Int) ≤ (y : Int)) (hj1 : (y : Int) < (n : Int)) (HLI : Hid (CI.length = 9 ∧ ∀ u ∈ CI, u.oneCell' = true)) (HLJ : Hid (CJ.length = 9 ∧ ∀ u ∈ CJ, u.oneCell' = true)) (HCI : Hid (∀ W, Ext wr W → W.rangeAt g (x * 9) CI)) (HCJ : Hid (∀ W, Ext wr W → W.rangeAt g (y * 9) CJ)) (HF : Hid (∀ W, Ext wr W → W.there g (x * 9) 9)) (HS : Hid (∀ W, Ext wr W → S (W.setCells g (x * 9) CJ))) (HF2 : Hid (∀ W, S W → W.there g (y * 9) 9)) (HR : Hid (∀ W, S W → R (W.setCells g (y * 9) CI))) {Q : Exit → Act → World → Prop} (aZ : Act) (hsz : aZ.tmps.size = 32) (o1 : aZ.tmps[1]?.getD undef = .slice (some ⟨g, 0, none⟩) n c) (o5 : aZ.tmps[5]?.getD undef = .int .i64 (x : Int)) (o6 : aZ.tmps[6]?.getD undef = .int .i64 (y : Int))
    (hend : ∀ (vs : Nat → Value) (w9 : World) (ls9 : Nat → Bool), (∀ j : Nat, j < 16 → ls9 j = true) → ((ls9 15 = true → ls9 13 = true) ∧ (ls9 13 = true → ls9 7 = true ∧ ls9 11 = true) ∧ (ls9 13 = false → Ext wr w9) ∧ (ls9 13 = true → ls9 15 = false → S w9) ∧ (ls9 15 = true → R w9)) → (vs 0 = .slice (some ⟨g, 0, none⟩) n c) → (vs 1 = .int .i64 (x : Int)) → (vs 2 = .slice (some ⟨g, 0, none⟩) n c) → (vs 3 = .int .i64 (y : Int)) → (vs 4 = .slice (some ⟨g, 0, none⟩) n c) → (vs 5 = .int .i64 (y : Int)) → (vs 6 = .pointer (some ⟨g, y * 9, none⟩)) → (vs 7 = .agg CJ.toArray) → (vs 8 = .slice (some ⟨g, 0, none⟩) n c) → (vs 9 = .int .i64 (x : Int)) → (vs 10 = .pointer (some ⟨g, x * 9, none⟩)) → (vs 11 = .agg CI.toArray) → (vs 12 = .pointer (some ⟨g, x * 9, none⟩)) → (vs 14 = .pointer (some ⟨g, y * 9, none⟩)) → Q .normal ((((((((((((((aZ.put (some 18) (vs 0)).put (some 19) (vs 1)).put (some 20) (vs 2)).put (some 21) (vs 3)).put (some 22) (vs 4)).put (some 23) (vs 5)).put (some 24) (vs 6)).put (some 25) (vs 7)).put (some 26) (vs 8)).put (some 27) (vs 9)).put (some 28) (vs 10)).put (some 29) (vs 11)).put (some 30) (vs 12)).put (some 31) (vs 14)) w9) : (regOf Tryz.f127 5).wp Tryz.prog Q aZ wr := by
  conv => arg 2; whnf
  refine wp_region_said3 (fun i v wz => match i with
    | 0 => v = .slice (some ⟨g, 0, none⟩) n c
    | 1 => v = .int .i64 (x : Int)
    | 2 => v = .slice (some ⟨g, 0, none⟩) n c
    | 3 => v = .int .i64 (y : Int)
    | 4 => v = .slice (some ⟨g, 0, none⟩) n c
    | 5 => v = .int .i64 (y : Int)
    | 6 => v = .pointer (some ⟨g, y * 9, none⟩)
    | 7 => v = .agg CJ.toArray
    | 8 => v = .slice (some ⟨g, 0, none⟩) n c
    | 9 => v = .int .i64 (x : Int)
    | 10 => v = .pointer (some ⟨g, x * 9, none⟩)
    | 11 => v = .agg CI.toArray
    | 12 => v = .pointer (some ⟨g, x * 9, none⟩)
    | 13 => True
    | 14 => v = .pointer (some ⟨g, y * 9, none⟩)
    | _ => True) (fun ls vs wz => (ls 15 = true → ls 13 = true) ∧ (ls 13 = true → ls 7 = true ∧ ls 11 = true) ∧ (ls 13 = false → Ext wr wz) ∧ (ls 13 = true → ls 15 = false → S wz) ∧ (ls 15 = true → R wz)) (by kernel_rfl) (by kernel_rfl) (by rw [hsz]; kernel_rfl) ?_ ?_ ?_
  · exact ⟨fun e => (by cases e), fun e => (by cases e), fun _ => (Ext.refl _).drew, fun e => (by cases e), fun e => (by cases e)⟩
  · refine ⟨?_, ?_, ?_, ?_, ?_, ?_, ?_, ?_, ?_, ?_, ?_, ?_, ?_, ?_, ?_, ?_, trivial⟩
    · intro ls vs a w1 hi hJ hold hdep hdon hcl K hK
      have q1 : a.tmps[1]?.getD undef = .slice (some ⟨g, 0, none⟩) n c := (hold 1 (by kernel_rfl)).trans o1
      rw [if_pos (by rfl)]
      clear hold hdep hend hdon hcl o1 o5 o6
      have HJ := Lib.hid hJ
      clear hJ
      go_simp
      exact hK _ _ (fun _ _ _ h => h) HJ.out rfl
    · intro ls vs a w1 hi hJ hold hdep hdon hcl K hK
      have q5 : a.tmps[5]?.getD undef = .int .i64 (x : Int) := (hold 5 (by kernel_rfl)).trans o5
      rw [if_pos (by rfl)]
      clear hold hdep hend hdon hcl o1 o5 o6
      have HJ := Lib.hid hJ
      clear hJ
      go_simp
      exact hK _ _ (fun _ _ _ h => h) HJ.out rfl
    · intro ls vs a w1 hi hJ hold hdep hdon hcl K hK
      have q1 : a.tmps[1]?.getD undef = .slice (some ⟨g, 0, none⟩) n c := (hold 1 (by kernel_rfl)).trans o1
      rw [if_pos (by rfl)]
      clear hold hdep hend hdon hcl o1 o5 o6
      have HJ := Lib.hid hJ
      clear hJ
      go_simp
      exact hK _ _ (fun _ _ _ h => h) HJ.out rfl
    · intro ls vs a w1 hi hJ hold hdep hdon hcl K hK
      have q6 : a.tmps[6]?.getD undef = .int .i64 (y : Int) := (hold 6 (by kernel_rfl)).trans o6
      rw [if_pos (by rfl)]
      clear hold hdep hend hdon hcl o1 o5 o6
      have HJ := Lib.hid hJ
      clear hJ
      go_simp
      exact hK _ _ (fun _ _ _ h => h) HJ.out rfl
    · intro ls vs a w1 hi hJ hold hdep hdon hcl K hK
      have q1 : a.tmps[1]?.getD undef = .slice (some ⟨g, 0, none⟩) n c := (hold 1 (by kernel_rfl)).trans o1
      rw [if_pos (by rfl)]
      clear hold hdep hend hdon hcl o1 o5 o6
      have HJ := Lib.hid hJ
      clear hJ
      go_simp
      exact hK _ _ (fun _ _ _ h => h) HJ.out rfl
    · intro ls vs a w1 hi hJ hold hdep hdon hcl K hK
      have q6 : a.tmps[6]?.getD undef = .int .i64 (y : Int) := (hold 6 (by kernel_rfl)).trans o6
      rw [if_pos (by rfl)]
      clear hold hdep hend hdon hcl o1 o5 o6
      have HJ := Lib.hid hJ
      clear hJ
      go_simp
      exact hK _ _ (fun _ _ _ h => h) HJ.out rfl
    · intro ls vs a w1 hi hJ hold hdep hdon hcl K hK
      have q22 : a.tmps[22]?.getD undef = .slice (some ⟨g, 0, none⟩) n c := (hdep 4 22 (by kernel_rfl) (by kernel_rfl)).2.1.trans (hdep 4 22 (by kernel_rfl) (by kernel_rfl)).2.2
      have q23 : a.tmps[23]?.getD undef = .int .i64 (y : Int) := (hdep 5 23 (by kernel_rfl) (by kernel_rfl)).2.1.trans (hdep 5 23 (by kernel_rfl) (by kernel_rfl)).2.2
      rw [if_pos (by rfl)]
      clear hold hdep hend hdon hcl o1 o5 o6
      have HJ := Lib.hid hJ
      clear hJ
      go_simp
      exact hK _ _ (fun _ _ _ h => h) HJ.out rfl
    · intro ls vs a w1 hi hJ hold hdep hdon hcl K hK
      have q24 : a.tmps[24]?.getD undef = .pointer (some ⟨g, y * 9, none⟩) := (hdep 6 24 (by kernel_rfl) (by kernel_rfl)).2.1.trans (hdep 6 24 (by kernel_rfl) (by kernel_rfl)).2.2
      clear hold hdep hend hdon o1 o5 o6
      have HJ := Lib.hid hJ
      clear hJ
      obtain ⟨j1, j2, j3, j4, j5⟩ := HJ.out
      have hik : ls 7 = false := hi
      have h13 : ls 13 = false := by
        cases e : ls 13 with
        | false => rfl
        | true => have := j2 e; rw [hik] at this; simp at this
      rw [if_pos (by rfl)]
      refine wp_load_mid 191 (.tmp 24) (by rfl) g (y * 9) (by simpa [Act.eval, Array.getD_eq_getD_getElem?] using q24) CJ _ (HCJ.out w1 (j3 h13)) Tryz.underlying191 rfl (size191 _ HLJ.out.1) ?_
      exact hK _ _ (fun _ _ _ h => h) ⟨fun e => by have := j1 (by simpa using e); simp [this], fun e => by have := j2 (by simpa using e); simp [this], fun e => j3 (by simpa using e), fun e e2 => j4 (by simpa using e) (by simpa using e2), fun e => j5 (by simpa using e)⟩ rfl
    · intro ls vs a w1 hi hJ hold hdep hdon hcl K hK
      have q1 : a.tmps[1]?.getD undef = .slice (some ⟨g, 0, none⟩) n c := (hold 1 (by kernel_rfl)).trans o1
      rw [if_pos (by rfl)]
      clear hold hdep hend hdon hcl o1 o5 o6
      have HJ := Lib.hid hJ
      clear hJ
      go_simp
      exact hK _ _ (fun _ _ _ h => h) HJ.out rfl
    · intro ls vs a w1 hi hJ hold hdep hdon hcl K hK
      have q5 : a.tmps[5]?.getD undef = .int .i64 (x : Int) := (hold 5 (by kernel_rfl)).trans o5
      rw [if_pos (by rfl)]
      clear hold hdep hend hdon hcl o1 o5 o6
      have HJ := Lib.hid hJ
      clear hJ
      go_simp
      exact hK _ _ (fun _ _ _ h => h) HJ.out rfl
    · intro ls vs a w1 hi hJ hold hdep hdon hcl K hK
      have q26 : a.tmps[26]?.getD undef = .slice (some ⟨g, 0, none⟩) n c := (hdep 8 26 (by kernel_rfl) (by kernel_rfl)).2.1.trans (hdep 8 26 (by kernel_rfl) (by kernel_rfl)).2.2
      have q27 : a.tmps[27]?.getD undef = .int .i64 (x : Int) := (hdep 9 27 (by kernel_rfl) (by kernel_rfl)).2.1.trans (hdep 9 27 (by kernel_rfl) (by kernel_rfl)).2.2
      rw [if_pos (by rfl)]
      clear hold hdep hend hdon hcl o1 o5 o6
      have HJ := Lib.hid hJ
      clear hJ
      go_simp
      exact hK _ _ (fun _ _ _ h => h) HJ.out rfl
    · intro ls vs a w1 hi hJ hold hdep hdon hcl K hK
      have q28 : a.tmps[28]?.getD undef = .pointer (some ⟨g, x * 9, none⟩) := (hdep 10 28 (by kernel_rfl) (by kernel_rfl)).2.1.trans (hdep 10 28 (by kernel_rfl) (by kernel_rfl)).2.2
      clear hold hdep hend hdon o1 o5 o6
      have HJ := Lib.hid hJ
      clear hJ
      obtain ⟨j1, j2, j3, j4, j5⟩ := HJ.out
      have hik : ls 11 = false := hi
      have h13 : ls 13 = false := by
        cases e : ls 13 with
        | false => rfl
        | true => have := j2 e; rw [hik] at this; simp at this
      rw [if_pos (by rfl)]
      refine wp_load_mid 191 (.tmp 28) (by rfl) g (x * 9) (by simpa [Act.eval, Array.getD_eq_getD_getElem?] using q28) CI _ (HCI.out w1 (j3 h13)) Tryz.underlying191 rfl (size191 _ HLI.out.1) ?_
      exact hK _ _ (fun _ _ _ h => h) ⟨fun e => by have := j1 (by simpa using e); simp [this], fun e => by have := j2 (by simpa using e); simp [this], fun e => j3 (by simpa using e), fun e e2 => j4 (by simpa using e) (by simpa using e2), fun e => j5 (by simpa using e)⟩ rfl
    · intro ls vs a w1 hi hJ hold hdep hdon hcl K hK
      have q18 : a.tmps[18]?.getD undef = .slice (some ⟨g, 0, none⟩) n c := (hdep 0 18 (by kernel_rfl) (by kernel_rfl)).2.1.trans (hdep 0 18 (by kernel_rfl) (by kernel_rfl)).2.2
      have q19 : a.tmps[19]?.getD undef = .int .i64 (x : Int) := (hdep 1 19 (by kernel_rfl) (by kernel_rfl)).2.1.trans (hdep 1 19 (by kernel_rfl) (by kernel_rfl)).2.2
      rw [if_pos (by rfl)]
      clear hold hdep hend hdon hcl o1 o5 o6
      have HJ := Lib.hid hJ
      clear hJ
      go_simp
      exact hK _ _ (fun _ _ _ h => h) HJ.out rfl
    · intro ls vs a w1 hi hJ hold hdep hdon hcl K hK
      have q25 : a.tmps[25]?.getD undef = .agg CJ.toArray := (hdep 7 25 (by kernel_rfl) (by kernel_rfl)).2.1.trans (hdep 7 25 (by kernel_rfl) (by kernel_rfl)).2.2
      have q30 : a.tmps[30]?.getD undef = .pointer (some ⟨g, x * 9, none⟩) := (hdep 12 30 (by kernel_rfl) (by kernel_rfl)).2.1.trans (hdep 12 30 (by kernel_rfl) (by kernel_rfl)).2.2
      have hl7 := hdon 7 (by kernel_rfl)
      have hl11 := hdon 11 (by kernel_rfl)
      clear hold hdep hend hdon o1 o5 o6
      have HJ := Lib.hid hJ
      clear hJ
      obtain ⟨j1, j2, j3, j4, j5⟩ := HJ.out
      have hik : ls 13 = false := hi
      have h15 : ls 15 = false := by
        cases e : ls 15 with
        | false => rfl
        | true => have := j1 e; rw [hik] at this; cases this
      have hx := j3 hik
      have s1 := HS.out w1 hx
      have hl7' : ls 7 = true := hl7
      have hl11' : ls 11 = true := hl11
      rw [if_pos (by rfl)]
      refine wp_store_mid 191 (.tmp 30) (.tmp 25) (by rfl) g (x * 9) CJ.toArray (by simpa [Act.eval, Array.getD_eq_getD_getElem?] using q30) (by simpa [Act.eval, Array.getD_eq_getD_getElem?] using q25) (by rw [List.size_toArray, HLJ.out.1]; exact HF.out w1 hx) (by rw [List.size_toArray]; exact size191 _ HLJ.out.1) (all_oneCell_toArray HLJ.out.2) ?_
      exact hK undef _ (fun _ _ _ h => h) ⟨fun _ => by simp, fun _ => by simp [hl7', hl11'], fun e => by simp at e, fun _ _ => s1, fun e => by simp [h15] at e⟩ trivial
    · intro ls vs a w1 hi hJ hold hdep hdon hcl K hK
      have q20 : a.tmps[20]?.getD undef = .slice (some ⟨g, 0, none⟩) n c := (hdep 2 20 (by kernel_rfl) (by kernel_rfl)).2.1.trans (hdep 2 20 (by kernel_rfl) (by kernel_rfl)).2.2
      have q21 : a.tmps[21]?.getD undef = .int .i64 (y : Int) := (hdep 3 21 (by kernel_rfl) (by kernel_rfl)).2.1.trans (hdep 3 21 (by kernel_rfl) (by kernel_rfl)).2.2
      rw [if_pos (by rfl)]
      clear hold hdep hend hdon hcl o1 o5 o6
      have HJ := Lib.hid hJ
      clear hJ
      go_simp
      exact hK _ _ (fun _ _ _ h => h) HJ.out rfl
    · intro ls vs a w1 hi hJ hold hdep hdon hcl K hK
      have q29 : a.tmps[29]?.getD undef = .agg CI.toArray := (hdep 11 29 (by kernel_rfl) (by kernel_rfl)).2.1.trans (hdep 11 29 (by kernel_rfl) (by kernel_rfl)).2.2
      have q31 : a.tmps[31]?.getD undef = .pointer (some ⟨g, y * 9, none⟩) := (hdep 14 31 (by kernel_rfl) (by kernel_rfl)).2.1.trans (hdep 14 31 (by kernel_rfl) (by kernel_rfl)).2.2
      have hl13 := hdon 13 (by kernel_rfl)
      clear hold hdep hend hdon o1 o5 o6
      have HJ := Lib.hid hJ
      clear hJ
      obtain ⟨j1, j2, j3, j4, j5⟩ := HJ.out
      have hik : ls 15 = false := hi
      have hl13' : ls 13 = true := hl13
      have hs := j4 hl13' hik
      have r1 := HR.out w1 hs
      rw [if_pos (by rfl)]
      refine wp_store_mid 191 (.tmp 31) (.tmp 29) (by rfl) g (y * 9) CI.toArray (by simpa [Act.eval, Array.getD_eq_getD_getElem?] using q31) (by simpa [Act.eval, Array.getD_eq_getD_getElem?] using q29) (by rw [List.size_toArray, HLI.out.1]; exact HF2.out w1 hs) (by rw [List.size_toArray]; exact size191 _ HLI.out.1) (all_oneCell_toArray HLI.out.2) ?_
      exact hK undef _ (fun _ _ _ h => h) ⟨fun _ => by simp [hl13'], fun e => by have := j2 hl13'; simp [this], fun e => by simp [hl13'] at e, fun _ e => by simp at e, fun _ => r1⟩ trivial
  · intro vs w9 ls9 hl9 hJ9 hφ
    have e0 := hφ 0 (by kernel_rfl)
    have e1 := hφ 1 (by kernel_rfl)
    have e2 := hφ 2 (by kernel_rfl)
    have e3 := hφ 3 (by kernel_rfl)
    have e4 := hφ 4 (by kernel_rfl)
    have e5 := hφ 5 (by kernel_rfl)
    have e6 := hφ 6 (by kernel_rfl)
    have e7 := hφ 7 (by kernel_rfl)
    have e8 := hφ 8 (by kernel_rfl)
    have e9 := hφ 9 (by kernel_rfl)
    have e10 := hφ 10 (by kernel_rfl)
    have e11 := hφ 11 (by kernel_rfl)
    have e12 := hφ 12 (by kernel_rfl)
    have e14 := hφ 14 (by kernel_rfl)
    have hq := hend vs w9 ls9 hl9 hJ9 e0 e1 e2 e3 e4 e5 e6 e7 e8 e9 e10 e11 e12 e14
    simp only [Act.put] at hq
    simp only [putAll, Act.put]
    exact hq
def kth (xs : List (List Int)) (i : Nat) : List Int := xs.getD i []
theorem kth_eq (xs : List (List Int)) (i : Nat) (h : i < xs.length) : kth xs i = xs[i] := by simp [kth, h]
theorem swp_kth (l : List (List Int)) (i j : Nat) : swp l i j = (l.set i (kth l j)).set j (kth l i) := rfl
theorem ownG_ne {w : World} {B g n c D o : Nat} {xs : List (List Int)} (hn : xs.length = n) (h : OwnG w B (.slice (some ⟨g, 0, none⟩) n c) xs) (hne : g ≠ D) (v : Value) : OwnG (w.setCell ⟨D, o, none⟩ v) B (.slice (some ⟨g, 0, none⟩) n c) xs := by
  subst hn
  exact own_of_block h fun k hk => by
    simp only [Value.ownBlock, Option.some.injEq] at hk
    subst hk
    exact heap_set_ne v hne
set_option maxRecDepth 100000 in
set_option maxHeartbeats 2000000 in
theorem shuffle_gr (B g n c : Nat) (s : Int) (xs : List (List Int)) (w : World) (hn : xs.length = n) (hm : n ≤ 1000000) (hx : OwnG w B (.slice (some ⟨g, 0, none⟩) n c) xs) (hg : g < w.heap.size) :
    Calls Tryz.prog 127 #[.int .u64 s, .slice (some ⟨g, 0, none⟩) n c] w (fun e w' => e = .returned (.tuple #[]) ∧ ExtX g w w' ∧ OwnG w' B (.slice (some ⟨g, 0, none⟩) n c) (shufK n s xs)) := by
  have HX := Lib.hid hx; have HN := Lib.hid hn
  clear hx hn
  go_enter Tryz.func127, Tryz.ntmps127
  go_wp2_with (fail)
  generalize hw1 : World.alloc _ _ = w1
  obtain ⟨he, o1, -⟩ := alloc1 hw1
  have HO := Lib.hid (HX.out.ext he)
  have HW : Hid (ExtX g w w1) := he.x
  have HG := Lib.hid hg
  obtain ⟨D, hD⟩ : ∃ D, D = w.heap.size := ⟨_, rfl⟩
  have HD := Lib.hid hD
  rw [← hD] at o1 ⊢
  have hgD : g ≠ D := by omega
  have HO1 := Lib.hid o1
  clear hw1 o1 he hD hg
  have HGD := Lib.hid hgD
  clear hgD
  go_loopw [5, 6] (fun i _ wr => ∃ (k : Nat) (t : Int) (ys : List (List Int)), k ≤ n ∧ i = .int .i64 ((k : Int) - 1) ∧ Hid (ys.length = n ∧ shufK k t ys = shufK n s xs ∧ ExtX g w wr ∧ OwnG wr B (.slice (some ⟨g, 0, none⟩) n c) ys ∧ wr.heap[D]? = some (.cells #[.int .u64 t] 173 (0, 0)))) (fun i _ _ => (intOf i).toNat)
  case atStart => exact ⟨n, s, xs, Nat.le_refl _, rfl, HN.out, rfl, HW.out, HO.out, HO1.out⟩
  case round =>
    obtain ⟨k, t, ys, hk, rfl, hh⟩ := hrel
    by_cases hlt : 2 ≤ k
    · obtain ⟨x, rfl⟩ : ∃ x, k = x + 1 := ⟨k - 1, by omega⟩
      have d0 := obj_cells1 hh.out.2.2.2.2
      have df := obj_free hh.out.2.2.2.2
      have hbl : Calls Tryz.prog 114 #[.pointer (some ⟨D, 0, none⟩), .int .i64 ((x : Int) + 1)] wr (fun e w' => e = .returned (.int .i64 (drw (lcg t) ((x : Int) + 1))) ∧ w' = wr.setCell ⟨D, 0, none⟩ (.int .u64 (lcg t))) := below_any D t _ wr (d0 wr (Ext.refl _)) (df wr (Ext.refl _) 0)
      have HBL := Lib.hid hbl
      have hb := drw_bd (lcg t) ((x : Int) + 1) (lcg_bd t).1 (lcg_bd t).2 (by omega) (by omega)
      obtain ⟨y, hy⟩ : ∃ y : Nat, y = (drw (lcg t) ((x : Int) + 1)).toNat := ⟨_, rfl⟩
      have hye : drw (lcg t) ((x : Int) + 1) = (y : Int) := by omega
      have hyn : y < n := by omega
      rw [hye] at HBL
      have HY := Lib.hid hy
      clear hbl d0 df hb hy hye
      have ez : (((x + 1 : Nat) : Int) - 1) = (x : Int) := by omega
      rw [ez]
      clear ez
      go_wp2_with (go_at_call 114; (with_reducible refine HBL.out.mono ?_); rintro e w3 ⟨rfl, rfl⟩)
      clear HBL
      generalize hw4 : World.setCell wr _ _ = w4
      have hb4 : Hid (ExtX g w w4 ∧ OwnG w4 B (.slice (some ⟨g, 0, none⟩) n c) ys ∧ w4.heap[D]? = some (.cells #[.int .u64 (lcg t)] 173 (0, 0)) ∧ g ≠ D) := by
        subst hw4
        refine ⟨?_, ownG_ne hh.out.1 hh.out.2.2.2.1 HGD.out _, block_set hh.out.2.2.2.2 0 _, HGD.out⟩
        have h1 := hh.out.2.2.1
        refine ⟨h1.os, h1.tape, h1.output, by simpa [World.setCell] using h1.size, fun b hb hne => ?_⟩
        rw [heap_set_ne _ (by have := HD.out; omega)]
        exact h1.block b hb hne
      have HLY := Lib.hid hh.out.1
      have HSH := Lib.hid hh.out.2.1
      clear hw4 hh
      have hi0 : (0 : Int) ≤ (x : Int) := by omega
      have hi1 : (x : Int) < (n : Int) := by omega
      have hj0 : (0 : Int) ≤ (y : Int) := by omega
      have hj1 : (y : Int) < (n : Int) := by omega
      obtain ⟨CI, hCI⟩ : ∃ CI, CI = grC (kth ys x) := ⟨_, rfl⟩
      obtain ⟨CJ, hCJ⟩ : ∃ CJ, CJ = grC (kth ys y) := ⟨_, rfl⟩
      have HLI : Hid (CI.length = 9 ∧ ∀ u ∈ CI, u.oneCell' = true) := by rw [hCI]; exact ⟨grC_len _, grC_one _⟩
      have HLJ : Hid (CJ.length = 9 ∧ ∀ u ∈ CJ, u.oneCell' = true) := by rw [hCJ]; exact ⟨grC_len _, grC_one _⟩
      have HCI : Hid (∀ W, Ext w4 W → W.rangeAt g (x * 9) CI) := fun W e => by rw [hCI, kth_eq ys x (by rw [HLY.out]; omega)]; exact (hb4.out.2.1.ext e).range grC_len x (by rw [HLY.out]; omega)
      have HCJ : Hid (∀ W, Ext w4 W → W.rangeAt g (y * 9) CJ) := fun W e => by rw [hCJ, kth_eq ys y (by rw [HLY.out]; exact hyn)]; exact (hb4.out.2.1.ext e).range grC_len y (by rw [HLY.out]; exact hyn)
      have HF : Hid (∀ W, Ext w4 W → W.there g (x * 9) 9) := fun W e => (hb4.out.2.1.ext e).there grC_len x (by rw [HLY.out]; omega)
      obtain ⟨S, hS⟩ : ∃ S : World → Prop, S = fun W => ExtX g w W ∧ OwnG W B (.slice (some ⟨g, 0, none⟩) n c) (ys.set x (kth ys y)) ∧ W.heap[D]? = some (.cells #[.int .u64 (lcg t)] 173 (0, 0)) := ⟨_, rfl⟩
      obtain ⟨R, hR⟩ : ∃ R : World → Prop, R = fun W => ExtX g w W ∧ OwnG W B (.slice (some ⟨g, 0, none⟩) n c) (swp ys x y) ∧ W.heap[D]? = some (.cells #[.int .u64 (lcg t)] 173 (0, 0)) := ⟨_, rfl⟩
      have HS : Hid (∀ W, Ext w4 W → S (W.setCells g (x * 9) CJ)) := fun W e => by
        rw [hS]
        refine ⟨extX_setCells _ _ (hb4.out.1.trans e.x) rfl, ?_, by rw [heap_setCells_ne (Ne.symm hb4.out.2.2.2)]; exact e.block hb4.out.2.2.1⟩
        rw [hCJ]
        exact (hb4.out.2.1.ext e).setRow grC_len x (by rw [HLY.out]; omega) _
      have HF2 : Hid (∀ W, S W → W.there g (y * 9) 9) := fun W h => by
        rw [hS] at h
        exact h.2.1.there grC_len y (by rw [List.length_set, HLY.out]; exact hyn)
      have HR : Hid (∀ W, S W → R (W.setCells g (y * 9) CI)) := fun W h => by
        rw [hS] at h
        rw [hR, swp_kth]
        refine ⟨extX_setCells _ _ h.1 rfl, ?_, by rw [heap_setCells_ne (Ne.symm hb4.out.2.2.2)]; exact h.2.2⟩
        rw [hCI]
        exact h.2.1.setRow grC_len y (by rw [List.length_set, HLY.out]; exact hyn) _
      have HRR := Lib.hid hR
      clear hS hR hb4 hCI hCJ
      go_upto_region 5 with fail
      refine sw_lawG hi0 hi1 hj0 hj1 HLI HLJ HCI HCJ HF HS HF2 HR _ (by rfl) rfl rfl rfl ?_
      intro vs w9 ls9 hl9 hJ9 e0 e1 e2 e3 e4 e5 e6 e7 e8 e9 e10 e11 e12 e14
      simp only [Act.put, List.setIfInBounds_toArray, List.set_cons_zero, List.set_cons_succ]
      rw [e0, e1, e2, e3, e4, e5, e6, e7, e8, e9, e10, e11, e12, e14]
      obtain ⟨-, -, -, -, hj5⟩ := hJ9
      have hfin := hj5 (hl9 15 (by omega))
      rw [HRR.out] at hfin
      have HFIN := Lib.hid hfin
      have HK : Hid ((swp ys x y).length = n ∧ shufK x (lcg t) (swp ys x y) = shufK n s xs) := by
        refine ⟨by rw [swp_len]; exact HLY.out, ?_⟩
        have := HSH.out
        rw [shufK_step x (by omega)] at this
        rw [← this, HY.out]
      clear hj5 hfin HRR HCI HCJ HF HS HF2 HR HSH HY HLI HLJ
      go_wp2_with (fail)
      go_roundw
      case rel => exact ⟨x, lcg t, swp ys x y, by omega, by go_num, HK.out.1, HK.out.2, HFIN.out.1, HFIN.out.2.1, HFIN.out.2.2⟩
      case measure => simp [intOf]; omega
    · have hlt' : k ≤ 1 := by omega
      have HK : Hid (shufK k t ys = ys) := by
        match k, hlt' with
        | 0, _ => rfl
        | 1, _ => rfl
      go_wp2_with (fail)
      go_end0
      refine ⟨rfl, hh.out.2.2.1, ?_⟩
      rw [← hh.out.2.1, HK.out]
      exact hh.out.2.2.2.1
end Go.Proofs.YtplbofhgmflnlaaGreat
