/-
  Walks of the reference: List.
-/
import Derived.Test.YtlahejakcgoheaaRY
set_option linter.unusedVariables false
set_option linter.unusedSimpArgs false
namespace Go.Proofs.Ytlahejakcgoheaa
open Go.RowKit
def D54 (l7 l11 l15 l16 l18 l19 l20 l21 : Bool) : Bool := (!l18 || l16) && ((!l19 || (l7 && (l11 && (l15 && l18)))) && ((!l20 || l19) && (!l21 || l20)))
theorem d54_7 : ∀ l7 l11 l15 l16 l18 l19 l20 l21, D54 l7 l11 l15 l16 l18 l19 l20 l21 = true → l7 = false → l21 = false := by decide
theorem d54_11 : ∀ l7 l11 l15 l16 l18 l19 l20 l21, D54 l7 l11 l15 l16 l18 l19 l20 l21 = true → l11 = false → l21 = false := by decide
theorem d54_15 : ∀ l7 l11 l15 l16 l18 l19 l20 l21, D54 l7 l11 l15 l16 l18 l19 l20 l21 = true → l15 = false → l21 = false := by decide
theorem d54_18 : ∀ l7 l11 l15 l16 l18 l19 l20 l21, D54 l7 l11 l15 l16 l18 l19 l20 l21 = true → l18 = false → l21 = false := by decide
theorem d54_20 : ∀ l7 l11 l15 l16 l18 l19 l20 l21, D54 l7 l11 l15 l16 l18 l19 l20 l21 = true → l20 = false → l21 = false := by decide
theorem d54_s7 : ∀ l7 l11 l15 l16 l18 l19 l20 l21, D54 l7 l11 l15 l16 l18 l19 l20 l21 = true → D54 true l11 l15 l16 l18 l19 l20 l21 = true := by decide
theorem d54_s11 : ∀ l7 l11 l15 l16 l18 l19 l20 l21, D54 l7 l11 l15 l16 l18 l19 l20 l21 = true → D54 l7 true l15 l16 l18 l19 l20 l21 = true := by decide
theorem d54_s15 : ∀ l7 l11 l15 l16 l18 l19 l20 l21, D54 l7 l11 l15 l16 l18 l19 l20 l21 = true → D54 l7 l11 true l16 l18 l19 l20 l21 = true := by decide
theorem d54_s16 : ∀ l7 l11 l15 l16 l18 l19 l20 l21, D54 l7 l11 l15 l16 l18 l19 l20 l21 = true → D54 l7 l11 l15 true l18 l19 l20 l21 = true := by decide
theorem d54_s18 : ∀ l7 l11 l15 l16 l18 l19 l20 l21, D54 l7 l11 l15 l16 l18 l19 l20 l21 = true → l16 = true → D54 l7 l11 l15 l16 true l19 l20 l21 = true := by decide
theorem d54_s19 : ∀ l7 l11 l15 l16 l18 l19 l20 l21, D54 l7 l11 l15 l16 l18 l19 l20 l21 = true → l7 = true → l11 = true → l15 = true → l18 = true → D54 l7 l11 l15 l16 l18 true l20 l21 = true := by decide
theorem d54_s20 : ∀ l7 l11 l15 l16 l18 l19 l20 l21, D54 l7 l11 l15 l16 l18 l19 l20 l21 = true → l19 = true → D54 l7 l11 l15 l16 l18 l19 true l21 = true := by decide
theorem d54_s21 : ∀ l7 l11 l15 l16 l18 l19 l20 l21, D54 l7 l11 l15 l16 l18 l19 l20 l21 = true → l20 = true → D54 l7 l11 l15 l16 l18 l19 l20 true = true := by decide
set_option maxRecDepth 100000 in
set_option maxHeartbeats 4000000 in
theorem l54_9 {xs : List En} {x : En} {u : Value} {kd : ByteArray} {da un : Int} {g : Bool} {B vb b o m lc k n c : Nat} {al : Option Addr} {wb wr : World} (hr : Ext wb wr) (hB : B = wb.heap.size) (hk30 : k ≤ 40) (hm0 : 0 < m) (hxl : xs.length ≤ 40) (HX : Hid (encs x = [.int .i64 ((k : Int) + 1), .int .i64 m, .int .i64 da, .int .i64 un, .string kd, .bool g])) (HOW : Hid (OwnE wr B u xs)) (HG : Hid (∀ W, Ext wr W → Calls Try.prog 83 #[.agg #[.bool false, .slice al n c], .slice (some ⟨b, o, none⟩) m lc] W (Ret (.bool g) W))) (h0 : ∀ W, Ext wb W → W.cell? ⟨vb, 0, none⟩ = some (.bool false)) (h1 : ∀ W, Ext wb W → W.cell? ⟨vb, 1, none⟩ = some (.slice al n c)) (y5 : ∀ W, Ext wr W → W.cell? ⟨b, o + 5, none⟩ = some (.int .i64 da)) (y6 : ∀ W, Ext wr W → W.cell? ⟨b, o + 6, none⟩ = some (.int .i64 un)) (y2 : ∀ W, Ext wr W → W.cell? ⟨b, o + 2, none⟩ = some (.string kd)) {Q : Exit → Act → World → Prop} (aZ : Act) (hsz : aZ.tmps.size = 54) (o3 : aZ.tmps[3]?.getD undef = .pointer (some ⟨vb, 0, none⟩)) (o9 : aZ.tmps[9]?.getD undef = u) (o10 : aZ.tmps[10]?.getD undef = .int .i64 ((k : Int) + 1)) (o11 : aZ.tmps[11]?.getD undef = .slice (some ⟨b, o, none⟩) m lc)
    (hend : ∀ (vs : Nat → Value) (w9 : World) (ls9 : Nat → Bool), (∀ j : Nat, j < 23 → ls9 j = true) → (Ext wb w9 ∧ (ls9 21 = false → Ext wr w9) ∧ (ls9 21 = false → OwnE w9 B u xs) ∧ (ls9 21 = true → OwnE w9 B (vs 21) (xs ++ [x])) ∧ (ls9 22 = true → ls9 21 = true ∧ vs 22 = vs 21) ∧ (ls9 20 = true → ls9 21 = false → ∃ g, vs 20 = .slice (some ⟨g, 0, none⟩) 1 1 ∧ w9.heap[g]? = some (.cells (encs x).toArray 94 (0, 0))) ∧ D54 (ls9 7) (ls9 11) (ls9 15) (ls9 16) (ls9 18) (ls9 19) (ls9 20) (ls9 21) = true) → (vs 0 = u) → (vs 1 = .int .i64 ((k : Int) + 1)) → (vs 2 = .slice (some ⟨b, o, none⟩) m lc) → (vs 3 = .int .i64 m) → (vs 4 = .slice (some ⟨b, o, none⟩) m lc) → (vs 5 = .pointer (some ⟨b, o, none⟩)) → (vs 6 = .pointer (some ⟨b, o + 5, none⟩)) → (vs 7 = .int .i64 da) → (vs 8 = .slice (some ⟨b, o, none⟩) m lc) → (vs 9 = .pointer (some ⟨b, o, none⟩)) → (vs 10 = .pointer (some ⟨b, o + 6, none⟩)) → (vs 11 = .int .i64 un) → (vs 12 = .slice (some ⟨b, o, none⟩) m lc) → (vs 13 = .pointer (some ⟨b, o, none⟩)) → (vs 14 = .pointer (some ⟨b, o + 2, none⟩)) → (vs 15 = .string kd) → (vs 16 = .agg #[.bool false, .slice al n c]) → (vs 17 = .slice (some ⟨b, o, none⟩) m lc) → (vs 18 = .bool g) → (vs 19 = .agg #[.int .i64 ((k : Int) + 1), .int .i64 m, .int .i64 da, .int .i64 un, .string kd, .bool g]) → (True) → (True) → (True) → Q .normal (((((((((((((((((((((((aZ.put (some 31) (vs 0)).put (some 32) (vs 1)).put (some 33) (vs 2)).put (some 34) (vs 3)).put (some 35) (vs 4)).put (some 36) (vs 5)).put (some 37) (vs 6)).put (some 38) (vs 7)).put (some 39) (vs 8)).put (some 40) (vs 9)).put (some 41) (vs 10)).put (some 42) (vs 11)).put (some 43) (vs 12)).put (some 44) (vs 13)).put (some 45) (vs 14)).put (some 46) (vs 15)).put (some 47) (vs 16)).put (some 48) (vs 17)).put (some 49) (vs 18)).put (some 50) (vs 19)).put (some 51) (vs 20)).put (some 52) (vs 21)).put (some 9) (vs 22)) w9) : (regOf Try.f54 9).wp Try.prog Q aZ wr := by
  conv => arg 2; whnf
  refine wp_region_said3 (fun i v wz => match i with
    | 0 => v = u
    | 1 => v = .int .i64 ((k : Int) + 1)
    | 2 => v = .slice (some ⟨b, o, none⟩) m lc
    | 3 => v = .int .i64 m
    | 4 => v = .slice (some ⟨b, o, none⟩) m lc
    | 5 => v = .pointer (some ⟨b, o, none⟩)
    | 6 => v = .pointer (some ⟨b, o + 5, none⟩)
    | 7 => v = .int .i64 da
    | 8 => v = .slice (some ⟨b, o, none⟩) m lc
    | 9 => v = .pointer (some ⟨b, o, none⟩)
    | 10 => v = .pointer (some ⟨b, o + 6, none⟩)
    | 11 => v = .int .i64 un
    | 12 => v = .slice (some ⟨b, o, none⟩) m lc
    | 13 => v = .pointer (some ⟨b, o, none⟩)
    | 14 => v = .pointer (some ⟨b, o + 2, none⟩)
    | 15 => v = .string kd
    | 16 => v = .agg #[.bool false, .slice al n c]
    | 17 => v = .slice (some ⟨b, o, none⟩) m lc
    | 18 => v = .bool g
    | 19 => v = .agg #[.int .i64 ((k : Int) + 1), .int .i64 m, .int .i64 da, .int .i64 un, .string kd, .bool g]
    | 20 => True
    | 21 => True
    | _ => True) (fun ls vs wz => Ext wb wz ∧ (ls 21 = false → Ext wr wz) ∧ (ls 21 = false → OwnE wz B u xs) ∧ (ls 21 = true → OwnE wz B (vs 21) (xs ++ [x])) ∧ (ls 22 = true → ls 21 = true ∧ vs 22 = vs 21) ∧ (ls 20 = true → ls 21 = false → ∃ g, vs 20 = .slice (some ⟨g, 0, none⟩) 1 1 ∧ wz.heap[g]? = some (.cells (encs x).toArray 94 (0, 0))) ∧ D54 (ls 7) (ls 11) (ls 15) (ls 16) (ls 18) (ls 19) (ls 20) (ls 21) = true) (by kernel_rfl) (by kernel_rfl) (by rw [hsz]; kernel_rfl) ?_ ?_ ?_
  · exact ⟨hr.drew, fun _ => (Ext.refl _).drew, fun _ => HOW.out.ext (Ext.refl _).drew, fun e => (by cases e), fun e => (by cases e), fun e => (by cases e), rfl⟩
  · refine ⟨?_, ?_, ?_, ?_, ?_, ?_, ?_, ?_, ?_, ?_, ?_, ?_, ?_, ?_, ?_, ?_, ?_, ?_, ?_, ?_, ?_, ?_, ?_, trivial⟩
    · intro ls vs a w1 hi hJ hold hdep K hK
      have q9 : a.tmps[9]?.getD undef = u := (hold 9 (by kernel_rfl)).trans o9
      rw [if_pos (by rfl)]
      clear hold hdep hend o3 o9 o10 o11
      have HJ := Lib.hid hJ
      clear hJ
      go_simp
      exact hK _ _ (fun _ _ _ h => h) HJ.out rfl
    · intro ls vs a w1 hi hJ hold hdep K hK
      have q10 : a.tmps[10]?.getD undef = .int .i64 ((k : Int) + 1) := (hold 10 (by kernel_rfl)).trans o10
      rw [if_pos (by rfl)]
      clear hold hdep hend o3 o9 o10 o11
      have HJ := Lib.hid hJ
      clear hJ
      go_simp
      exact hK _ _ (fun _ _ _ h => h) HJ.out rfl
    · intro ls vs a w1 hi hJ hold hdep K hK
      have q11 : a.tmps[11]?.getD undef = .slice (some ⟨b, o, none⟩) m lc := (hold 11 (by kernel_rfl)).trans o11
      rw [if_pos (by rfl)]
      clear hold hdep hend o3 o9 o10 o11
      have HJ := Lib.hid hJ
      clear hJ
      go_simp
      exact hK _ _ (fun _ _ _ h => h) HJ.out rfl
    · intro ls vs a w1 hi hJ hold hdep K hK
      have q33 : a.tmps[33]?.getD undef = .slice (some ⟨b, o, none⟩) m lc := (hdep 2 33 (by kernel_rfl) (by kernel_rfl)).2.1.trans (hdep 2 33 (by kernel_rfl) (by kernel_rfl)).2.2
      rw [if_pos (by rfl)]
      clear hold hdep hend o3 o9 o10 o11
      have HJ := Lib.hid hJ
      clear hJ
      go_simp
      exact hK _ _ (fun _ _ _ h => h) HJ.out rfl
    · intro ls vs a w1 hi hJ hold hdep K hK
      have q11 : a.tmps[11]?.getD undef = .slice (some ⟨b, o, none⟩) m lc := (hold 11 (by kernel_rfl)).trans o11
      rw [if_pos (by rfl)]
      clear hold hdep hend o3 o9 o10 o11
      have HJ := Lib.hid hJ
      clear hJ
      go_simp
      exact hK _ _ (fun _ _ _ h => h) HJ.out rfl
    · intro ls vs a w1 hi hJ hold hdep K hK
      have q35 : a.tmps[35]?.getD undef = .slice (some ⟨b, o, none⟩) m lc := (hdep 4 35 (by kernel_rfl) (by kernel_rfl)).2.1.trans (hdep 4 35 (by kernel_rfl) (by kernel_rfl)).2.2
      rw [if_pos (by rfl)]
      clear hold hdep hend o3 o9 o10 o11
      have HJ := Lib.hid hJ
      clear hJ
      have hi2 : (0 : Int) < (m : Int) := by omega
      go_simp
      exact hK _ _ (fun _ _ _ h => h) HJ.out rfl
    · intro ls vs a w1 hi hJ hold hdep K hK
      have q36 : a.tmps[36]?.getD undef = .pointer (some ⟨b, o, none⟩) := (hdep 5 36 (by kernel_rfl) (by kernel_rfl)).2.1.trans (hdep 5 36 (by kernel_rfl) (by kernel_rfl)).2.2
      rw [if_pos (by rfl)]
      clear hold hdep hend o3 o9 o10 o11
      have HJ := Lib.hid hJ
      clear hJ
      go_simp
      exact hK _ _ (fun _ _ _ h => h) HJ.out rfl
    · intro ls vs a w1 hi hJ hold hdep K hK
      have q37 : a.tmps[37]?.getD undef = .pointer (some ⟨b, o + 5, none⟩) := (hdep 6 37 (by kernel_rfl) (by kernel_rfl)).2.1.trans (hdep 6 37 (by kernel_rfl) (by kernel_rfl)).2.2
      rw [if_pos (by rfl)]
      clear hold hdep hend o3 o9 o10 o11
      have HJ := Lib.hid hJ
      clear hJ
      obtain ⟨j1, j2, j3, j4, j5, j6, j7⟩ := HJ.out
      have hi7 : ls 7 = false := hi
      have hz1 := j2 (d54_7 _ _ _ _ _ _ _ _ j7 hi7)
      go_simp
      exact hK _ _ (fun _ _ _ h => h) ⟨j1, j2, j3, j4, j5, j6, d54_s7 _ _ _ _ _ _ _ _ j7⟩ rfl
    · intro ls vs a w1 hi hJ hold hdep K hK
      have q11 : a.tmps[11]?.getD undef = .slice (some ⟨b, o, none⟩) m lc := (hold 11 (by kernel_rfl)).trans o11
      rw [if_pos (by rfl)]
      clear hold hdep hend o3 o9 o10 o11
      have HJ := Lib.hid hJ
      clear hJ
      go_simp
      exact hK _ _ (fun _ _ _ h => h) HJ.out rfl
    · intro ls vs a w1 hi hJ hold hdep K hK
      have q39 : a.tmps[39]?.getD undef = .slice (some ⟨b, o, none⟩) m lc := (hdep 8 39 (by kernel_rfl) (by kernel_rfl)).2.1.trans (hdep 8 39 (by kernel_rfl) (by kernel_rfl)).2.2
      rw [if_pos (by rfl)]
      clear hold hdep hend o3 o9 o10 o11
      have HJ := Lib.hid hJ
      clear hJ
      have hi2 : (0 : Int) < (m : Int) := by omega
      go_simp
      exact hK _ _ (fun _ _ _ h => h) HJ.out rfl
    · intro ls vs a w1 hi hJ hold hdep K hK
      have q40 : a.tmps[40]?.getD undef = .pointer (some ⟨b, o, none⟩) := (hdep 9 40 (by kernel_rfl) (by kernel_rfl)).2.1.trans (hdep 9 40 (by kernel_rfl) (by kernel_rfl)).2.2
      rw [if_pos (by rfl)]
      clear hold hdep hend o3 o9 o10 o11
      have HJ := Lib.hid hJ
      clear hJ
      go_simp
      exact hK _ _ (fun _ _ _ h => h) HJ.out rfl
    · intro ls vs a w1 hi hJ hold hdep K hK
      have q41 : a.tmps[41]?.getD undef = .pointer (some ⟨b, o + 6, none⟩) := (hdep 10 41 (by kernel_rfl) (by kernel_rfl)).2.1.trans (hdep 10 41 (by kernel_rfl) (by kernel_rfl)).2.2
      rw [if_pos (by rfl)]
      clear hold hdep hend o3 o9 o10 o11
      have HJ := Lib.hid hJ
      clear hJ
      obtain ⟨j1, j2, j3, j4, j5, j6, j7⟩ := HJ.out
      have hi7 : ls 11 = false := hi
      have hz1 := j2 (d54_11 _ _ _ _ _ _ _ _ j7 hi7)
      go_simp
      exact hK _ _ (fun _ _ _ h => h) ⟨j1, j2, j3, j4, j5, j6, d54_s11 _ _ _ _ _ _ _ _ j7⟩ rfl
    · intro ls vs a w1 hi hJ hold hdep K hK
      have q11 : a.tmps[11]?.getD undef = .slice (some ⟨b, o, none⟩) m lc := (hold 11 (by kernel_rfl)).trans o11
      rw [if_pos (by rfl)]
      clear hold hdep hend o3 o9 o10 o11
      have HJ := Lib.hid hJ
      clear hJ
      go_simp
      exact hK _ _ (fun _ _ _ h => h) HJ.out rfl
    · intro ls vs a w1 hi hJ hold hdep K hK
      have q43 : a.tmps[43]?.getD undef = .slice (some ⟨b, o, none⟩) m lc := (hdep 12 43 (by kernel_rfl) (by kernel_rfl)).2.1.trans (hdep 12 43 (by kernel_rfl) (by kernel_rfl)).2.2
      rw [if_pos (by rfl)]
      clear hold hdep hend o3 o9 o10 o11
      have HJ := Lib.hid hJ
      clear hJ
      have hi2 : (0 : Int) < (m : Int) := by omega
      go_simp
      exact hK _ _ (fun _ _ _ h => h) HJ.out rfl
    · intro ls vs a w1 hi hJ hold hdep K hK
      have q44 : a.tmps[44]?.getD undef = .pointer (some ⟨b, o, none⟩) := (hdep 13 44 (by kernel_rfl) (by kernel_rfl)).2.1.trans (hdep 13 44 (by kernel_rfl) (by kernel_rfl)).2.2
      rw [if_pos (by rfl)]
      clear hold hdep hend o3 o9 o10 o11
      have HJ := Lib.hid hJ
      clear hJ
      go_simp
      exact hK _ _ (fun _ _ _ h => h) HJ.out rfl
    · intro ls vs a w1 hi hJ hold hdep K hK
      have q45 : a.tmps[45]?.getD undef = .pointer (some ⟨b, o + 2, none⟩) := (hdep 14 45 (by kernel_rfl) (by kernel_rfl)).2.1.trans (hdep 14 45 (by kernel_rfl) (by kernel_rfl)).2.2
      rw [if_pos (by rfl)]
      clear hold hdep hend o3 o9 o10 o11
      have HJ := Lib.hid hJ
      clear hJ
      obtain ⟨j1, j2, j3, j4, j5, j6, j7⟩ := HJ.out
      have hi7 : ls 15 = false := hi
      have hz1 := j2 (d54_15 _ _ _ _ _ _ _ _ j7 hi7)
      go_simp
      exact hK _ _ (fun _ _ _ h => h) ⟨j1, j2, j3, j4, j5, j6, d54_s15 _ _ _ _ _ _ _ _ j7⟩ rfl
    · intro ls vs a w1 hi hJ hold hdep K hK
      have q3 : a.tmps[3]?.getD undef = .pointer (some ⟨vb, 0, none⟩) := (hold 3 (by kernel_rfl)).trans o3
      rw [if_pos (by rfl)]
      clear hold hdep hend o3 o9 o10 o11
      have HJ := Lib.hid hJ
      clear hJ
      obtain ⟨j1, j2, j3, j4, j5, j6, j7⟩ := HJ.out
      go_simp
      exact hK _ _ (fun _ _ _ h => h) ⟨j1, j2, j3, j4, j5, j6, d54_s16 _ _ _ _ _ _ _ _ j7⟩ rfl
    · intro ls vs a w1 hi hJ hold hdep K hK
      have q11 : a.tmps[11]?.getD undef = .slice (some ⟨b, o, none⟩) m lc := (hold 11 (by kernel_rfl)).trans o11
      rw [if_pos (by rfl)]
      clear hold hdep hend o3 o9 o10 o11
      have HJ := Lib.hid hJ
      clear hJ
      go_simp
      exact hK _ _ (fun _ _ _ h => h) HJ.out rfl
    · intro ls vs a w1 hi hJ hold hdep K hK
      have q47 : a.tmps[47]?.getD undef = .agg #[.bool false, .slice al n c] := (hdep 16 47 (by kernel_rfl) (by kernel_rfl)).2.1.trans (hdep 16 47 (by kernel_rfl) (by kernel_rfl)).2.2
      have q48 : a.tmps[48]?.getD undef = .slice (some ⟨b, o, none⟩) m lc := (hdep 17 48 (by kernel_rfl) (by kernel_rfl)).2.1.trans (hdep 17 48 (by kernel_rfl) (by kernel_rfl)).2.2
      obtain ⟨hl16, -, -⟩ := hdep 16 47 (by kernel_rfl) (by kernel_rfl)
      rw [if_pos (by rfl)]
      clear hold hdep hend o3 o9 o10 o11
      have HJ := Lib.hid hJ
      clear hJ
      obtain ⟨j1, j2, j3, j4, j5, j6, j7⟩ := HJ.out
      have hi7 : ls 18 = false := hi
      have h21 := d54_18 _ _ _ _ _ _ _ _ j7 hi7
      have hz1 := j2 h21
      have hl16' : ls 16 = true := hl16
      go_simp
      go_at_call 83
      (with_reducible refine (HG.out _ hz1).mono ?_); rintro e w20 ⟨rfl, he⟩
      refine hK _ _ (fun _ _ _ h => h) ⟨j1.trans he, fun _ => hz1.trans he, fun _ => (j3 h21).ext he, fun e => (by rw [show ls 21 = true from e] at h21; cases h21), j5, fun e1 e2 => ?_, d54_s18 _ _ _ _ _ _ _ _ j7 hl16'⟩ rfl
      obtain ⟨g', k1, k2⟩ := j6 e1 e2
      exact ⟨g', k1, he.block k2⟩
    · intro ls vs a w1 hi hJ hold hdep K hK
      have q32 : a.tmps[32]?.getD undef = .int .i64 ((k : Int) + 1) := (hdep 1 32 (by kernel_rfl) (by kernel_rfl)).2.1.trans (hdep 1 32 (by kernel_rfl) (by kernel_rfl)).2.2
      have q34 : a.tmps[34]?.getD undef = .int .i64 m := (hdep 3 34 (by kernel_rfl) (by kernel_rfl)).2.1.trans (hdep 3 34 (by kernel_rfl) (by kernel_rfl)).2.2
      have q38 : a.tmps[38]?.getD undef = .int .i64 da := (hdep 7 38 (by kernel_rfl) (by kernel_rfl)).2.1.trans (hdep 7 38 (by kernel_rfl) (by kernel_rfl)).2.2
      have q42 : a.tmps[42]?.getD undef = .int .i64 un := (hdep 11 42 (by kernel_rfl) (by kernel_rfl)).2.1.trans (hdep 11 42 (by kernel_rfl) (by kernel_rfl)).2.2
      have q46 : a.tmps[46]?.getD undef = .string kd := (hdep 15 46 (by kernel_rfl) (by kernel_rfl)).2.1.trans (hdep 15 46 (by kernel_rfl) (by kernel_rfl)).2.2
      have q49 : a.tmps[49]?.getD undef = .bool g := (hdep 18 49 (by kernel_rfl) (by kernel_rfl)).2.1.trans (hdep 18 49 (by kernel_rfl) (by kernel_rfl)).2.2
      obtain ⟨hl7, -, -⟩ := hdep 7 38 (by kernel_rfl) (by kernel_rfl)
      obtain ⟨hl11, -, -⟩ := hdep 11 42 (by kernel_rfl) (by kernel_rfl)
      obtain ⟨hl15, -, -⟩ := hdep 15 46 (by kernel_rfl) (by kernel_rfl)
      obtain ⟨hl18, -, -⟩ := hdep 18 49 (by kernel_rfl) (by kernel_rfl)
      rw [if_pos (by rfl)]
      clear hold hdep hend o3 o9 o10 o11
      have HJ := Lib.hid hJ
      clear hJ
      obtain ⟨j1, j2, j3, j4, j5, j6, j7⟩ := HJ.out
      have d7 : ls 7 = true := hl7
      have d11 : ls 11 = true := hl11
      have d15 : ls 15 = true := hl15
      have d18 : ls 18 = true := hl18
      go_simp
      exact hK _ _ (fun _ _ _ h => h) ⟨j1, j2, j3, j4, j5, j6, d54_s19 _ _ _ _ _ _ _ _ j7 d7 d11 d15 d18⟩ rfl
    · intro ls vs a w1 hi hJ hold hdep K hK
      have q50 : a.tmps[50]?.getD undef = .agg #[.int .i64 ((k : Int) + 1), .int .i64 m, .int .i64 da, .int .i64 un, .string kd, .bool g] := (hdep 19 50 (by kernel_rfl) (by kernel_rfl)).2.1.trans (hdep 19 50 (by kernel_rfl) (by kernel_rfl)).2.2
      obtain ⟨hl19, -, -⟩ := hdep 19 50 (by kernel_rfl) (by kernel_rfl)
      rw [if_pos (by rfl)]
      clear hold hdep hend o3 o9 o10 o11
      have HJ := Lib.hid hJ
      clear hJ
      obtain ⟨j1, j2, j3, j4, j5, j6, j7⟩ := HJ.out
      have d19 : ls 19 = true := hl19
      have hi7 : ls 20 = false := hi
      have h21 := d54_20 _ _ _ _ _ _ _ _ j7 hi7
      go_simp
      have hx := (Ext.refl w1).alloc (.cells #[.int .i64 ((k : Int) + 1), .int .i64 m, .int .i64 da, .int .i64 un, .string kd, .bool g] 94)
      exact hK _ _ (fun _ _ _ h => h) ⟨j1.trans hx, fun e => (j2 e).trans hx, fun e => (j3 e).ext hx, fun e => (j4 e).ext hx, j5, fun _ _ => ⟨_, rfl, by rw [HX.out]; exact heap_new _ _⟩, d54_s20 _ _ _ _ _ _ _ _ j7 d19⟩ trivial
    · intro ls vs a w1 hi hJ hold hdep K hK
      have q31 : a.tmps[31]?.getD undef = u := (hdep 0 31 (by kernel_rfl) (by kernel_rfl)).2.1.trans (hdep 0 31 (by kernel_rfl) (by kernel_rfl)).2.2
      obtain ⟨hl20, q51, p51⟩ := hdep 20 51 (by kernel_rfl) (by kernel_rfl)
      clear hold hdep hend o3 o9 o10 o11
      have HJ := Lib.hid hJ
      clear hJ
      obtain ⟨j1, j2, j3, j4, j5, j6, j7⟩ := HJ.out
      obtain ⟨gg, hv, hb⟩ := j6 hl20 hi
      rw [hv] at q51
      obtain ⟨v', w', r1', r2', r3', r4'⟩ := app_entry w1 B 41 u xs (j3 hi) x gg hb (by omega) (by rw [hB]; exact j1.size)
      refine step_app (by rfl) (.tmp 31) (.tmp 51) 41 (by rfl) _ _ (by simpa [Act.eval, Array.getD_eq_getD_getElem?] using q31) (by simpa [Act.eval, Array.getD_eq_getD_getElem?] using q51) (fun v3 w3 => v3 = v' ∧ w3 = w') ⟨_, _, r1', rfl, rfl⟩ ?_
      rintro v3 w3 ⟨rfl, rfl⟩
      have hbb : ∀ q, u.ownBlock = some q → wb.heap.size ≤ q := fun q hq => by have := ((j3 hi).lt q hq).1; omega
      exact hK _ _ (fun _ _ _ h => h) ⟨grown_ext j1 r3' hbb, fun e => (by simp at e), fun e => (by simp at e), fun _ => r2', fun e => ⟨by simp, by have := (j5 (by simpa using e)).1; rw [hi] at this; cases this⟩, fun _ e => (by simp at e), d54_s21 _ _ _ _ _ _ _ _ j7 hl20⟩ trivial
    · intro ls vs a w1 hi hJ hold hdep K hK
      obtain ⟨hl21, q52, p52⟩ := hdep 21 52 (by kernel_rfl) (by kernel_rfl)
      rw [if_pos (by rfl)]
      clear hold hdep hend o3 o9 o10 o11
      have HJ := Lib.hid hJ
      clear hJ
      obtain ⟨j1, j2, j3, j4, j5, j6, j7⟩ := HJ.out
      go_simp
      exact hK _ _ (fun _ _ _ h => h) ⟨j1, j2, j3, j4, fun _ => ⟨hl21, rfl⟩, j6, j7⟩ trivial
  · intro vs w9 ls9 hl9 hJ9 hφ
    have e0 := hφ 0 (by kernel_rfl)
    have e1 := hφ 1 (by kernel_rfl)
    have e2 := hφ 2 (by kernel_rfl)
    have e3 := hφ 3 (by kernel_rfl)
    have e4 := hφ 4 (by kernel_rfl)
    have e5 := hφ 5 (by kernel_rfl)
    have e6 := hφ 6 (by kernel_rfl)
    have e7 := hφ 7 (by kernel_rfl)
    have e8 := hφ 8 (by kernel_rfl)
    have e9 := hφ 9 (by kernel_rfl)
    have e10 := hφ 10 (by kernel_rfl)
    have e11 := hφ 11 (by kernel_rfl)
    have e12 := hφ 12 (by kernel_rfl)
    have e13 := hφ 13 (by kernel_rfl)
    have e14 := hφ 14 (by kernel_rfl)
    have e15 := hφ 15 (by kernel_rfl)
    have e16 := hφ 16 (by kernel_rfl)
    have e17 := hφ 17 (by kernel_rfl)
    have e18 := hφ 18 (by kernel_rfl)
    have e19 := hφ 19 (by kernel_rfl)
    have e20 := hφ 20 (by kernel_rfl)
    have e21 := hφ 21 (by kernel_rfl)
    have e22 := hφ 22 (by kernel_rfl)
    have hq := hend vs w9 ls9 hl9 hJ9 e0 e1 e2 e3 e4 e5 e6 e7 e8 e9 e10 e11 e12 e13 e14 e15 e16 e17 e18 e19 e20 e21 e22
    simp only [Act.put] at hq
    simp only [putAll, Act.put]
    exact hq
set_option maxRecDepth 100000 in
set_option maxHeartbeats 4000000 in
theorem rlist_any (S : PV) (al : Option Addr) (xs : List Lv) (c : Nat) (nm ps : ByteArray) (w : World) (hR : RvAt w S al xs) (hn : nm.size ≤ 1000) (hp : ps.size ≤ 1000) :
    Calls Try.prog 54 #[rv false al xs.length c, .string nm, .string ps] w (RetList S nm ps w) := by
  have hen := hR.ent c nm ps (by omega) (by omega)
  have hrc := hR.cnt false c nm
  have hvs := fun num => hR.vers false c nm num
  have hgn := hR.gone false c
  obtain ⟨en, hen2⟩ : ∃ z, z = enterR S nm ps := ⟨_, rfl⟩
  obtain ⟨dy, hdd⟩ : ∃ z, z = S.day := ⟨_, rfl⟩
  obtain ⟨M, hM⟩ : ∃ z, z = recsN S nm := ⟨_, rfl⟩
  obtain ⟨n, hnn⟩ : ∃ z, z = xs.length := ⟨_, rfl⟩
  obtain ⟨L, hL⟩ : ∃ L, L = (listR S nm ps).1 := ⟨_, rfl⟩
  have hl0 : en ≠ 0 → listR S nm ps = ([], en) := fun h => by
    rw [hen2] at h ⊢
    unfold listR; rw [if_pos h]
  have hl1 : en = 0 → (listR S nm ps).2 = 0 ∧ L.length = M ∧ M ≤ 30 ∧ ∀ k, k < M → recV S nm ((k : Int) + 1) ≠ [] ∧ L.take (k + 1) = L.take k ++ [entryOf dy k (recV S nm ((k : Int) + 1))] := fun h => by
    have he : enterR S nm ps = 0 := by rw [← hen2]; exact h
    obtain ⟨cc, hf⟩ := enter_find he
    have hLe : L = entries S.day cc.recs := by
      rw [hL]; unfold listR; rw [if_neg (by simpa using he), hf]
    have hMe : M = cc.recs.length := by rw [hM]; unfold recsN; rw [hf]
    have hrl := (hR.good.ok.cs cc (find_mem hf).1).rl
    refine ⟨by unfold listR; rw [if_neg (by simpa using he)], by rw [hLe, entries_len, hMe], by omega, fun k hk => ?_⟩
    have hr : recV S nm ((k : Int) + 1) = cc.recs.getD k [] := by
      unfold recV
      rw [hf]
      show versC cc ((k : Int) + 1) = _
      unfold versC
      rw [if_neg (by omega), show ((k : Int) + 1 - 1).toNat = k by omega]
    refine ⟨(hR.good.nrec nm).1 k (by rw [← hM]; exact hk), ?_⟩
    rw [hr, hLe, hdd]
    exact entries_take _ _ _ (by omega)
  rw [← hen2] at hen; rw [← hdd] at hgn; rw [← hM] at hrc; rw [← hnn] at hen hrc hvs hgn ⊢
  have HEN := Lib.hid hen; have HRC := Lib.hid hrc; have HVS := Lib.hid hvs; have HGN := Lib.hid hgn; have HL := Lib.hid hL; have HL0 := Lib.hid hl0; have HL1 := Lib.hid hl1
  clear hen hrc hvs hgn hen2 hdd hM hnn hL hl0 hl1 hR hn hp
  go_enter Try.func54, Try.ntmps54
  go_upto_region 1 with fail
  generalize hw1 : World.alloc _ _ = w1
  obtain ⟨he, o1, hs1⟩ := alloc1 hw1
  have HE := Lib.hid he
  obtain ⟨v0, v1⟩ := obj_cells2 o1
  have V0 := Lib.hid v0; have V1 := Lib.hid v1
  have E1 := Ext.refl w1
  clear hw1 o1
  go_wp2_with (fail)
  (with_reducible refine (HEN.out _ he).mono ?_); rintro e w2 ⟨rfl, he2⟩
  have E2 := Ext.refl w2
  by_cases h0 : en = 0
  · subst h0
    obtain ⟨l2, lM, lM30, hlk⟩ := HL1.out (by simp)
    have hlk2 := Lib.hid hlk; have L2 := Lib.hid l2; have LM := Lib.hid lM
    clear hlk l2 lM v0 v1 E1
    go_upto_region 5 with fail
    generalize hw3 : World.alloc w2 _ = w3
    have hst : Hid (OwnE w3 w1.heap.size (.slice (some ⟨w2.heap.size, 0, none⟩) 0 0) (L.take 0)) := by
      subst hw3
      exact own_base (own_empty w2 94 6) he2.size
    obtain ⟨he3, -, -⟩ := alloc1 hw3
    have HE3 := Lib.hid (he2.trans he3)
    clear hw3 E2 he2 he3
    go_wp2_with (fail)
    go_loopw [9, 10] (fun out i wr => ∃ k : Nat, k ≤ M ∧ i = .int .i64 ((k : Int) + 1) ∧ Hid (OwnE wr w1.heap.size out (L.take k)) ∧ Hid (Ext w1 wr)) (fun _ i _ => M + 1 - (intOf i).toNat)
    case atStart => exact ⟨0, Nat.zero_le _, rfl, hst.out, HE3.out⟩
    case round =>
      obtain ⟨k, hk, rfl, hown, her⟩ := hrel
      have E0 := Ext.refl wr
      have v0 := fun W (e : Ext wr W) => V0.out W (her.out.trans e)
      have v1 := fun W (e : Ext wr W) => V1.out W (her.out.trans e)
      go_wp2_with (fail)
      (with_reducible refine (HRC.out _ (HE.out.trans her.out)).mono ?_); rintro e w4 ⟨rfl, he4⟩
      have E4 := Ext.refl w4
      by_cases hlt : k < M
      · have hlt1 : (k : Int) + 1 ≤ (M : Int) := by omega
        have hk1 : (k : Int) < (M : Int) := by omega
        go_wp2_with (fail)
        (with_reducible refine (HVS.out _ _ (HE.out.trans (her.out.trans he4))).mono ?_); rintro e w5 ⟨la, lc, ys, rfl, he5, hyl, hyo, hyr⟩
        have he45 := he4.trans he5
        obtain ⟨hne, htk⟩ := hlk2.out k hlt
        have hy0 : 0 < ys.length := by rw [← lks_len, hyr]; exact List.length_pos_iff.2 hne
        have hgo := fun W (e : Ext w5 W) => HGN.out la ys lc W (HE.out.trans (her.out.trans (he45.trans e))) (hyl.ext e) hy0
        obtain ⟨b, o, rfl, hc⟩ := hyl.at 0 hy0
        obtain ⟨x0, hx0⟩ : ∃ x0, x0 = lth ys 0 := ⟨_, rfl⟩
        have hgd : (lks ys).getD 0 Lk.nil = x0.l := by
          rw [hx0, lth_eq _ _ hy0, getD_lt _ (by rw [lks_len]; exact hy0)]; simp [lks]
        have hun : untilR (lks ys) = x0.l.un := by
          rw [hx0]
          cases ys with
          | nil => simp at hy0
          | cons y ys => rfl
        rw [← hx0] at hc
        rw [← hyr] at htk
        obtain ⟨m, hm⟩ : ∃ m, m = ys.length := ⟨_, rfl⟩
        rw [hun, ← hm] at hgo
        obtain ⟨g, hg⟩ : ∃ g, g = decide (x0.l.un < dy) := ⟨_, rfl⟩
        rw [← hg] at hgo
        rw [← hm] at hy0 ⊢
        obtain ⟨x, hx⟩ : ∃ x, x = entryOf dy k (lks ys) := ⟨_, rfl⟩
        have HX : Hid (encs x = [.int .i64 ((k : Int) + 1), .int .i64 m, .int .i64 x0.l.da, .int .i64 x0.l.un, .string x0.l.ki, .bool g]) := by
          rw [Hid, hx, hg]
          unfold entryOf encs
          simp only [lks_len, hgd, hun, ← hm]
        rw [← hx] at htk
        have HTK := Lib.hid htk
        have hr : Ext w1 w5 := her.out.trans he45
        obtain ⟨B, hB⟩ : ∃ B, B = w1.heap.size := ⟨_, rfl⟩
        have hown5 := hown.out.ext he45
        rw [← hB] at hown5
        have HOW := Lib.hid hown5
        have hk30 : k ≤ 40 := by omega
        have hm0 : 0 < m := hy0
        have hxl : (L.take k).length ≤ 40 := by rw [List.length_take]; omega
        have HG : Hid (∀ W, Ext w5 W → Calls Try.prog 83 #[.agg #[.bool false, .slice al n c], .slice (some ⟨b, o, none⟩) m lc] W (Ret (.bool g) W)) := hgo
        have h0 := V0.out; have h1 := V1.out
        have y5 : ∀ W, Ext w5 W → W.cell? ⟨b, o + 5, none⟩ = some (.int .i64 x0.l.da) := fun W e => by have := (hc W e).2.2.2.2.2.1; simpa using this
        have y6 : ∀ W, Ext w5 W → W.cell? ⟨b, o + 6, none⟩ = some (.int .i64 x0.l.un) := fun W e => by have := (hc W e).2.2.2.2.2.2.1; simpa using this
        have y2 : ∀ W, Ext w5 W → W.cell? ⟨b, o + 2, none⟩ = some (.string x0.l.ki) := fun W e => by have := (hc W e).2.2.1; simpa using this
        clear hyl hyo hyr hgo hc hgd hun hm hg hx hx0 htk hown5 hne v0 v1 E0 E4 he4 he5 he45 hown
        go_upto_region 9 with fail
        refine l54_9 hr hB hk30 hm0 hxl HX HOW HG h0 h1 y5 y6 y2 _ (by rfl) rfl rfl rfl rfl ?_
        intro vs w9 ls9 hl9 hJ9 e0 e1 e2 e3 e4 e5 e6 e7 e8 e9 e10 e11 e12 e13 e14 e15 e16 e17 e18 e19 e20 e21 e22
        simp only [Act.put, List.setIfInBounds_toArray, List.set_cons_zero, List.set_cons_succ]
        rw [e0, e1, e2, e3, e4, e5, e6, e7, e8, e9, e10, e11, e12, e13, e14, e15, e16, e17, e18, e19]
        obtain ⟨j1, j2, j3, j4, j5, j6, j7⟩ := hJ9
        have hw9 := (j4 (hl9 21 (by omega)))
        rw [(j5 (hl9 22 (by omega))).2]
        rw [hB] at hw9
        have HW9 := Lib.hid hw9; have HJ1 := Lib.hid j1
        clear j1 j2 j3 j4 j5 j6 j7 hw9 hl9 e0 e1 e2 e3 e4 e5 e6 e7 e8 e9 e10 e11 e12 e13 e14 e15 e16 e17 e18 e19 e20 e21 e22 h0 h1 y5 y6 y2 hr hB
        go_wp2_with (fail)
        go_roundw
        case rel => exact ⟨k + 1, by omega, by go_num, by rw [Hid, HTK.out]; exact HW9.out, HJ1.out⟩
        case measure => simp [intOf]; omega
      · obtain rfl : k = M := by omega
        obtain ⟨a5, c5, hu⟩ : ∃ a c, u9 = .slice a L.length c := by
          have h5 := hown.out
          rw [List.take_of_length_le (by rw [LM.out]; omega)] at h5
          rcases h5.2 with ⟨hv, hn⟩ | ⟨g, cap, cur, hv, -⟩
          · exact ⟨none, 0, by rw [hv, hn]⟩
          · exact ⟨_, _, hv⟩
        subst hu
        go_wp2_with (fail)
        go_ret2
        refine ⟨a5, c5, ?_, (HE.out.trans her.out).trans he4, ?_⟩
        · rw [L2.out, ← HL.out]; rfl
        · rw [← HL.out]
          have h5 := hown.out.ext he4
          rw [List.take_of_length_le (by rw [LM.out]; omega)] at h5
          exact own_base h5 HE.out.size
  · have h0' : (en == 0) = false := by simpa using h0
    have hli := HL0.out h0
    go_wp2_with (fail)
    go_ret2
    refine ⟨none, 0, ?_, HE.out.trans he2, ?_⟩
    · rw [hli]; rfl
    · rw [hli]; exact OwnF.nil _ _ _ _ _
end Go.Proofs.Ytlahejakcgoheaa
