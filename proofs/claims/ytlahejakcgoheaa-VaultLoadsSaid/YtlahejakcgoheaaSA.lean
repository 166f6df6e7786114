/-
  Walks of the reference: told.
-/
import Derived.Test.YtlahejakcgoheaaRZ
set_option linter.unusedVariables false
set_option linter.unusedSimpArgs false
namespace Go.Proofs.Ytlahejakcgoheaa
open Go.RowKit
/-- Two blocks are written, all else stands. -/
structure JE (w0 wz : World) (b4 b5 : Nat) (c4 c5 : Array Value) : Prop where
  os : wz.os = w0.os
  tape : wz.tape = w0.tape
  output : wz.output = w0.output
  size : wz.heap.size = w0.heap.size
  blk : ∀ k, k ≠ b4 → k ≠ b5 → wz.heap[k]? = w0.heap[k]?
  h4 : wz.heap[b4]? = some (.cells c4 40 (0, 0))
  h5 : wz.heap[b5]? = some (.cells c5 44 (0, 0))
theorem JE.set4 {w0 w : World} {b4 b5 : Nat} {c5 : Array Value} {u v u' v' : Value} (h : JE w0 w b4 b5 #[u, v] c5) (hne : b4 ≠ b5) : JE w0 ((w.setCell ⟨b4, 0, none⟩ u').setCell ⟨b4, 1, none⟩ v') b4 b5 #[u', v'] c5 :=
  ⟨h.os, h.tape, h.output, by rw [← h.size]; simp [World.setCell], fun k q1 q2 => (set2_off w b4 _ _ k q1).trans (h.blk k q1 q2), set2_blk h.h4, (set2_off w b4 _ _ b5 (Ne.symm hne)).trans h.h5⟩
theorem JE.set5 {w0 w : World} {b4 b5 : Nat} {c4 : Array Value} {u0 u1 u2 u3 v0 v1 v2 v3 : Value} (h : JE w0 w b4 b5 c4 #[u0, u1, u2, u3]) (hne : b4 ≠ b5) : JE w0 ((((w.setCell ⟨b5, 0, none⟩ v0).setCell ⟨b5, 1, none⟩ v1).setCell ⟨b5, 2, none⟩ v2).setCell ⟨b5, 3, none⟩ v3) b4 b5 c4 #[v0, v1, v2, v3] := by
  have hk : ∀ k, k ≠ b5 → ((((w.setCell ⟨b5, 0, none⟩ v0).setCell ⟨b5, 1, none⟩ v1).setCell ⟨b5, 2, none⟩ v2).setCell ⟨b5, 3, none⟩ v3).heap[k]? = w.heap[k]? := fun k q => (((heap_set_ne _ q).trans (heap_set_ne _ q)).trans (heap_set_ne _ q)).trans (heap_set_ne _ q)
  refine ⟨h.os, h.tape, h.output, by rw [← h.size]; simp [World.setCell], fun k q1 q2 => (hk k q2).trans (h.blk k q1 q2), (hk b4 hne).trans h.h4, ?_⟩
  have := block_set (block_set (block_set (block_set h.h5 0 v0) 1 v1) 2 v2) 3 v3
  simpa using this
set_option maxRecDepth 100000 in
set_option maxHeartbeats 4000000 in
theorem l23_19 {A y b4 b5 n c ln lc : Nat} {al la : Option Addr} {N : Bool} {num err : Int} {tx : ByteArray} {w0 : World} (HA : Hid (w0.heap[A]? = some (.cells #[.bool N, .slice al n c] 40 (0, 0)))) (HY : Hid (w0.heap[y]? = some (.cells #[.int .i64 num, .string tx, .slice la ln lc, .int .i64 err] 44 (0, 0)))) (H4 : Hid (w0.heap[b4]? = some (.cells #[.bool false, .slice none 0 0] 40 (0, 0)))) (H5 : Hid (w0.heap[b5]? = some (.cells #[.int .i64 0, .string ⟨#[]⟩, .slice none 0 0, .int .i64 0] 44 (0, 0)))) (hne : (A ≠ b4 ∧ A ≠ b5) ∧ (y ≠ b4 ∧ y ≠ b5) ∧ b4 ≠ b5) {Q : Exit → Act → World → Prop} (aZ : Act) (hsz : aZ.tmps.size = 139) (o2 : aZ.tmps[2]?.getD undef = .pointer (some ⟨A, 0, none⟩)) (o4 : aZ.tmps[4]?.getD undef = .pointer (some ⟨b4, 0, none⟩)) (o5 : aZ.tmps[5]?.getD undef = .pointer (some ⟨b5, 0, none⟩)) (o6 : aZ.tmps[6]?.getD undef = .pointer (some ⟨y, 0, none⟩))
    (hend : ∀ (vs : Nat → Value) (w9 : World) (ls9 : Nat → Bool), (∀ j : Nat, j < 4 → ls9 j = true) → (JE w0 w9 b4 b5 (bif ls9 2 then #[.bool N, .slice al n c] else #[.bool false, .slice none 0 0]) (bif ls9 3 then #[.int .i64 num, .string tx, .slice la ln lc, .int .i64 err] else #[.int .i64 0, .string ⟨#[]⟩, .slice none 0 0, .int .i64 0])) → (vs 0 = .agg #[.bool N, .slice al n c]) → (vs 1 = .agg #[.int .i64 num, .string tx, .slice la ln lc, .int .i64 err]) → Q .normal ((aZ.put (some 137) (vs 0)).put (some 138) (vs 1)) w9) : (regOf Try.f23 19).wp Try.prog Q aZ w0 := by
  conv => arg 2; whnf
  refine wp_region_said3 (fun i v wz => match i with
    | 0 => v = .agg #[.bool N, .slice al n c]
    | 1 => v = .agg #[.int .i64 num, .string tx, .slice la ln lc, .int .i64 err]
    | 2 => True
    | _ => True) (fun ls vs wz => JE w0 wz b4 b5 (bif ls 2 then #[.bool N, .slice al n c] else #[.bool false, .slice none 0 0]) (bif ls 3 then #[.int .i64 num, .string tx, .slice la ln lc, .int .i64 err] else #[.int .i64 0, .string ⟨#[]⟩, .slice none 0 0, .int .i64 0])) (by kernel_rfl) (by kernel_rfl) (by rw [hsz]; kernel_rfl) ?_ ?_ ?_
  · exact ⟨rfl, rfl, rfl, rfl, fun _ _ _ => rfl, H4.out, H5.out⟩
  · refine ⟨?_, ?_, ?_, ?_, trivial⟩
    · intro ls vs a w1 hi hJ hold hdep K hK
      have q2 : a.tmps[2]?.getD undef = .pointer (some ⟨A, 0, none⟩) := (hold 2 (by kernel_rfl)).trans o2
      rw [if_pos (by rfl)]
      clear hold hdep hend o2 o4 o5 o6
      have HJ := Lib.hid hJ
      clear hJ
      obtain ⟨z0, z1⟩ := obj_cells2 ((HJ.out.blk A hne.1.1 hne.1.2).trans HA.out)
      have E1 := Ext.refl w1
      go_simp
      exact hK _ _ (fun _ _ _ h => h) HJ.out rfl
    · intro ls vs a w1 hi hJ hold hdep K hK
      have q6 : a.tmps[6]?.getD undef = .pointer (some ⟨y, 0, none⟩) := (hold 6 (by kernel_rfl)).trans o6
      rw [if_pos (by rfl)]
      clear hold hdep hend o2 o4 o5 o6
      have HJ := Lib.hid hJ
      clear hJ
      obtain ⟨z0, z1, z2, z3⟩ := obj_cells4 ((HJ.out.blk y hne.2.1.1 hne.2.1.2).trans HY.out)
      have E1 := Ext.refl w1
      go_simp
      exact hK _ _ (fun _ _ _ h => h) HJ.out rfl
    · intro ls vs a w1 hi hJ hold hdep K hK
      have q4 : a.tmps[4]?.getD undef = .pointer (some ⟨b4, 0, none⟩) := (hold 4 (by kernel_rfl)).trans o4
      have q137 : a.tmps[137]?.getD undef = .agg #[.bool N, .slice al n c] := (hdep 0 137 (by kernel_rfl) (by kernel_rfl)).2.1.trans (hdep 0 137 (by kernel_rfl) (by kernel_rfl)).2.2
      rw [if_pos (by rfl)]
      clear hold hdep hend o2 o4 o5 o6
      have HJ := Lib.hid hJ
      clear hJ
      have j1 := HJ.out
      have hi2 : ls 2 = false := hi
      rw [hi2, cond_false] at j1
      obtain ⟨z0, z1⟩ := obj_cells2 j1.h4
      replace z0 := z0 w1 (Ext.refl _); replace z1 := z1 w1 (Ext.refl _)
      have f1 := obj_free j1.h4 w1 (Ext.refl _)
      go_simp
      exact hK undef _ (fun _ _ _ h => h) (j1.set4 hne.2.2) trivial
    · intro ls vs a w1 hi hJ hold hdep K hK
      have q5 : a.tmps[5]?.getD undef = .pointer (some ⟨b5, 0, none⟩) := (hold 5 (by kernel_rfl)).trans o5
      have q138 : a.tmps[138]?.getD undef = .agg #[.int .i64 num, .string tx, .slice la ln lc, .int .i64 err] := (hdep 1 138 (by kernel_rfl) (by kernel_rfl)).2.1.trans (hdep 1 138 (by kernel_rfl) (by kernel_rfl)).2.2
      rw [if_pos (by rfl)]
      clear hold hdep hend o2 o4 o5 o6
      have HJ := Lib.hid hJ
      clear hJ
      have j1 := HJ.out
      have hi3 : ls 3 = false := hi
      rw [hi3, cond_false] at j1
      obtain ⟨z0, z1, z2, z3⟩ := obj_cells4 j1.h5
      replace z0 := z0 w1 (Ext.refl _); replace z1 := z1 w1 (Ext.refl _); replace z2 := z2 w1 (Ext.refl _); replace z3 := z3 w1 (Ext.refl _)
      have f1 := obj_free j1.h5 w1 (Ext.refl _)
      go_simp
      exact hK undef _ (fun _ _ _ h => h) (j1.set5 hne.2.2) trivial
  · intro vs w9 ls9 hl9 hJ9 hφ
    have e0 := hφ 0 (by kernel_rfl)
    have e1 := hφ 1 (by kernel_rfl)
    have hq := hend vs w9 ls9 hl9 hJ9 e0 e1
    simp only [Act.put] at hq
    simp only [putAll, Act.put]
    exact hq
/-- What a call of 'told' leaves: W is the world in which the method was called, w'' the one behind it. -/
def ToldPost (Q : Res → Option Addr → Nat → Bool → Option Addr → Nat → Nat → World → World → Prop) (w : World) (e : Ending) (w' : World) : Prop :=
  ∃ r la lc N a n c W w'', e = .returned (.tuple #[rv N a n c, resval r la lc]) ∧ Ext w W ∧ w.heap.size < W.heap.size ∧ Ext W w'' ∧ Q r la lc N a n c W w'' ∧ (∀ k, w.heap.size ≤ k → k < W.heap.size → NoU8 w'' k) ∧ ExtR w.heap.size W.heap.size w'' w'
theorem alloc5 {w w1 : World} {o p q r s : Obj} (h : ((((w.alloc o).alloc p).alloc q).alloc r).alloc s = w1) : Ext w w1 ∧ w1.heap[w.heap.size]? = some o ∧ w1.heap[w.heap.size + 1]? = some p ∧ w1.heap[w.heap.size + 2]? = some q ∧ w1.heap[w.heap.size + 3]? = some r ∧ w1.heap[w.heap.size + 4]? = some s ∧ w1.heap.size = w.heap.size + 5 := by
  obtain ⟨e1, g1, g2, g3, g4⟩ := alloc4 (rfl : (((w.alloc o).alloc p).alloc q).alloc r = _)
  obtain ⟨e2, g5, z2⟩ := alloc1 h
  have hz : ((((w.alloc o).alloc p).alloc q).alloc r).heap.size = w.heap.size + 4 := by simp [heap_size]
  rw [hz] at g5 z2
  exact ⟨e1.trans e2, e2.block g1, e2.block g2, e2.block g3, e2.block g4, g5, by omega⟩
theorem no8_44 {w : World} {X : Nat} {num err : Int} {tx : ByteArray} {a : Option Addr} {n c : Nat} {fz : Nat × Nat} (h : w.heap[X]? = some (.cells #[.int .i64 num, .string tx, .slice a n c, .int .i64 err] 44 fz)) : NoU8 w X := by
  intro i z hc
  simp only [World.cell?, h, Option.isSome_none, Bool.false_eq_true, if_false] at hc
  match i, hc with
  | 0, hc => cases hc
  | 1, hc => cases hc
  | 2, hc => cases hc
  | 3, hc => cases hc
  | (i + 4), hc => simp at hc
theorem no8_op {w : World} {X : Nat} {o : Op} {fz : Nat × Nat} (h : w.heap[X]? = some (.cells (opcells o) 47 fz)) : NoU8 w X := by
  intro i z hc
  simp only [World.cell?, h, Option.isSome_none, Bool.false_eq_true, if_false] at hc
  match i, hc with
  | 0, hc => cases hc
  | 1, hc => cases hc
  | 2, hc => cases hc
  | 3, hc => cases hc
  | 4, hc => cases hc
  | 5, hc => cases hc
  | 6, hc => cases hc
  | 7, hc => cases hc
  | 8, hc => cases hc
  | (i + 9), hc => simp at hc
theorem JE.extR {w0 w : World} {b4 b5 lo hi : Nat} {c4 c5 : Array Value} (h : JE w0 w b4 b5 c4 c5) (h4 : lo ≤ b4 ∧ b4 < hi) (h5 : lo ≤ b5 ∧ b5 < hi) : ExtR lo hi w0 w :=
  ⟨h.os, h.tape, h.output, by rw [h.size]; exact Nat.le_refl _, fun k _ q => h.blk k (by omega) (by omega)⟩
set_option maxRecDepth 100000 in
set_option maxHeartbeats 8000000 in
theorem told_walk (N : Bool) (al : Option Addr) (n c : Nat) (o : Op) (w : World) (Q : Res → Option Addr → Nat → Bool → Option Addr → Nat → Nat → World → World → Prop)
    (h1 : o.kind = 1 → ∀ W, Ext w W → Calls Try.prog 49 #[rv N al n c, .string o.name, .string o.pass] W fun e w' => ∃ (N2 : Bool) (aa : Option Addr) (nn cc : Nat) (q : Int), e = .returned (.tuple #[rv N2 aa nn cc, .int .i64 q]) ∧ Ext W w' ∧ Q ⟨0, ⟨#[]⟩, [], q⟩ none 0 N2 aa nn cc W w')
    (h2 : o.kind = 2 → ∀ W, Ext w W → Calls Try.prog 50 #[rv N al n c, .int .i64 o.day] W fun e w' => ∃ (N2 : Bool) (aa : Option Addr) (nn cc : Nat) (q : Int), e = .returned (.tuple #[rv N2 aa nn cc, .int .i64 q]) ∧ Ext W w' ∧ Q ⟨0, ⟨#[]⟩, [], q⟩ none 0 N2 aa nn cc W w')
    (h3 : o.kind = 3 → ∀ W, Ext w W → Calls Try.prog 51 #[rv N al n c, .string o.name, .string o.pass, .string o.label, .int .i64 o.day, .string o.text] W fun e w' => ∃ (N2 : Bool) (aa : Option Addr) (nn cc : Nat) (m : Int) (q : Int), e = .returned (.tuple #[rv N2 aa nn cc, .int .i64 m, .int .i64 q]) ∧ Ext W w' ∧ Q ⟨m, ⟨#[]⟩, [], q⟩ none 0 N2 aa nn cc W w')
    (h4 : o.kind = 4 → ∀ W, Ext w W → Calls Try.prog 52 #[rv N al n c, .string o.name, .string o.pass, .int .i64 o.num, .string o.text] W fun e w' => ∃ (N2 : Bool) (aa : Option Addr) (nn cc : Nat) (m : Int) (q : Int), e = .returned (.tuple #[rv N2 aa nn cc, .int .i64 m, .int .i64 q]) ∧ Ext W w' ∧ Q ⟨m, ⟨#[]⟩, [], q⟩ none 0 N2 aa nn cc W w')
    (h5 : o.kind = 5 → ∀ W, Ext w W → Calls Try.prog 53 #[rv N al n c, .string o.name, .string o.pass, .int .i64 o.num, .int .i64 o.ver] W fun e w' => ∃ (t : ByteArray) (q : Int), e = .returned (.tuple #[.string t, .int .i64 q]) ∧ Ext W w' ∧ Q ⟨0, t, [], q⟩ none 0 N al n c W w')
    (h6 : o.kind = 6 → ∀ W, Ext w W → Calls Try.prog 54 #[rv N al n c, .string o.name, .string o.pass] W fun e w' => ∃ (L : List En) (la : Option Addr) (lc : Nat) (q : Int), e = .returned (.tuple #[.slice la L.length lc, .int .i64 q]) ∧ Ext W w' ∧ Q ⟨0, ⟨#[]⟩, L, q⟩ la lc N al n c W w')
    (h7 : o.kind = 7 → ∀ W, Ext w W → Calls Try.prog 55 #[rv N al n c, .string o.name, .string o.pass, .int .i64 o.num, .string o.other, .string o.text] W fun e w' => ∃ (N2 : Bool) (aa : Option Addr) (nn cc : Nat) (q : Int), e = .returned (.tuple #[rv N2 aa nn cc, .int .i64 q]) ∧ Ext W w' ∧ Q ⟨0, ⟨#[]⟩, [], q⟩ none 0 N2 aa nn cc W w')
    (h8 : o.kind = 8 → ∀ W, Ext w W → Calls Try.prog 56 #[rv N al n c, .string o.name, .string o.pass, .string o.other, .int .i64 o.num, .string o.text] W fun e w' => ∃ (t : ByteArray) (q : Int), e = .returned (.tuple #[.string t, .int .i64 q]) ∧ Ext W w' ∧ Q ⟨0, t, [], q⟩ none 0 N al n c W w')
    (h0 : (∀ j : Int, 1 ≤ j → j ≤ 8 → o.kind ≠ j) → ∀ W, Ext w W → Q ⟨0, ⟨#[]⟩, [], 0⟩ none 0 N al n c W W) :
    Calls Try.prog 23 #[rv N al n c, opval o] w (ToldPost Q w) := by
  have H0 := Lib.hid h0
  have H1 := Lib.hid h1
  have H2 := Lib.hid h2
  have H3 := Lib.hid h3
  have H4 := Lib.hid h4
  have H5 := Lib.hid h5
  have H6 := Lib.hid h6
  have H7 := Lib.hid h7
  have H8 := Lib.hid h8
  clear h0 h1 h2 h3 h4 h5 h6 h7 h8
  go_enter Try.func23, Try.ntmps23
  go_upto_region 2 with fail
  generalize hw1 : World.alloc _ _ = w1
  obtain ⟨he1, oA, oO, o4, o5, oY, hs1⟩ := alloc5 hw1
  clear hw1
  obtain ⟨a0, a1⟩ := obj_cells2 oA
  obtain ⟨c0, c1, c2, c3, c4, c5, c6, c7, c8⟩ := obj_cells9 oO
  have HOA := Lib.hid oA; have HOO := Lib.hid oO; have HO4 := Lib.hid o4; have HO5 := Lib.hid o5; have HOY := Lib.hid oY; have HS1 := Lib.hid hs1
  clear oA oO o4 o5 oY hs1
  have E1 := Ext.refl w1
  have hcase : o.kind = 1 ∨ o.kind = 2 ∨ o.kind = 3 ∨ o.kind = 4 ∨ o.kind = 5 ∨ o.kind = 6 ∨ o.kind = 7 ∨ o.kind = 8 ∨ (∀ j : Int, 1 ≤ j → j ≤ 8 → o.kind ≠ j) := by
    by_cases q : 1 ≤ o.kind ∧ o.kind ≤ 8
    · omega
    · refine .inr (.inr (.inr (.inr (.inr (.inr (.inr (.inr fun j h1 h2 e => ?_)))))))
      omega
  have hno : Hid (∀ W, Ext w1 W → ∀ k, w.heap.size ≤ k → k < w1.heap.size → NoU8 W k) := fun W e k q1 q2 => by
    rw [HS1.out] at q2
    obtain rfl | rfl | rfl | rfl | rfl : k = w.heap.size ∨ k = w.heap.size + 1 ∨ k = w.heap.size + 2 ∨ k = w.heap.size + 3 ∨ k = w.heap.size + 4 := by omega
    · exact no8_40 (e.block HOA.out)
    · exact no8_op (e.block HOO.out)
    · exact no8_40 (e.block HO4.out)
    · exact no8_44 (e.block HO5.out)
    · exact no8_44 (e.block HOY.out)
  rcases hcase with k1 | k2 | k3 | k4 | k5 | k6 | k7 | k8 | k0
  · rw [k1] at c0
    have HM := Lib.hid (H1.out k1 w1 he1)
    clear H0 H1 H2 H3 H4 H5 H6 H7 H8
    go_upto_region 4 with fail
    go_wp2_with fail
    with_reducible refine HM.out.mono ?_
    rintro e w2 ⟨N2, aa, nn, cc, q, rfl, he2, hq⟩
    have gA := he2.block HOA.out; have g4 := he2.block HO4.out; have g5 := he2.block HO5.out; have gY := he2.block HOY.out
    have fA := obj_free gA; have fY := obj_free gY
    obtain ⟨x0, x1⟩ := obj_cells2 gA
    obtain ⟨y0, y1, y2, y3⟩ := obj_cells4 gY
    have E2 := Ext.refl w2
    have hx := ExtR.refl w.heap.size w1.heap.size w2
    replace hx := ExtR.set hx (p := ⟨w.heap.size, 0, none⟩) (show w.heap.size ≤ w.heap.size by omega) (show w.heap.size < w1.heap.size by rw [HS1.out]; omega) (.bool N2)
    replace gA := block_set gA 0 (.bool N2)
    replace g4 := (heap_set_ne (g := w.heap.size) (o := 0) (.bool N2) (show w.heap.size + 2 ≠ w.heap.size by omega)).trans g4
    replace g5 := (heap_set_ne (g := w.heap.size) (o := 0) (.bool N2) (show w.heap.size + 3 ≠ w.heap.size by omega)).trans g5
    replace gY := (heap_set_ne (g := w.heap.size) (o := 0) (.bool N2) (show w.heap.size + 4 ≠ w.heap.size by omega)).trans gY
    replace hx := ExtR.set hx (p := ⟨w.heap.size, 1, none⟩) (show w.heap.size ≤ w.heap.size by omega) (show w.heap.size < w1.heap.size by rw [HS1.out]; omega) (.slice aa nn cc)
    replace gA := block_set gA 1 (.slice aa nn cc)
    replace g4 := (heap_set_ne (g := w.heap.size) (o := 1) (.slice aa nn cc) (show w.heap.size + 2 ≠ w.heap.size by omega)).trans g4
    replace g5 := (heap_set_ne (g := w.heap.size) (o := 1) (.slice aa nn cc) (show w.heap.size + 3 ≠ w.heap.size by omega)).trans g5
    replace gY := (heap_set_ne (g := w.heap.size) (o := 1) (.slice aa nn cc) (show w.heap.size + 4 ≠ w.heap.size by omega)).trans gY
    replace hx := ExtR.set hx (p := ⟨w.heap.size + 4, 3, none⟩) (show w.heap.size ≤ w.heap.size + 4 by omega) (show w.heap.size + 4 < w1.heap.size by rw [HS1.out]; omega) (.int .i64 q)
    replace gA := (heap_set_ne (g := w.heap.size + 4) (o := 3) (.int .i64 q) (show w.heap.size ≠ w.heap.size + 4 by omega)).trans gA
    replace g4 := (heap_set_ne (g := w.heap.size + 4) (o := 3) (.int .i64 q) (show w.heap.size + 2 ≠ w.heap.size + 4 by omega)).trans g4
    replace g5 := (heap_set_ne (g := w.heap.size + 4) (o := 3) (.int .i64 q) (show w.heap.size + 3 ≠ w.heap.size + 4 by omega)).trans g5
    replace gY := block_set gY 3 (.int .i64 q)
    have HQ := Lib.hid hq; have HE2 := Lib.hid he2; have HGA := Lib.hid gA; have HG4 := Lib.hid g4; have HG5 := Lib.hid g5; have HGY := Lib.hid gY; have HX := Lib.hid hx
    clear hq he2 gA g4 g5 gY hx HM
    go_upto_region 19 with fail
    clear x0 x1 y0 y1 y2 y3 fA fY E2 a0 a1 c0 c1 c2 c3 c4 c5 c6 c7 c8 E1
    obtain ⟨w3, hw3⟩ : ∃ w3, w3 = (((w2.setCell ⟨w.heap.size, 0, none⟩ (.bool N2)).setCell ⟨w.heap.size, 1, none⟩ (.slice aa nn cc)).setCell ⟨w.heap.size + 4, 3, none⟩ (.int .i64 q)) := ⟨_, rfl⟩
    rw [← hw3] at HGA HG4 HG5 HGY HX ⊢
    clear hw3
    have HA : Hid (w3.heap[w.heap.size]? = some (.cells #[.bool N2, .slice aa nn cc] 40 (0, 0))) := by rw [Hid]; have := HGA.out; simpa using this
    have HY : Hid (w3.heap[w.heap.size + 4]? = some (.cells #[.int .i64 0, .string ⟨#[]⟩, .slice none 0 0, .int .i64 q] 44 (0, 0))) := by rw [Hid]; have := HGY.out; simpa using this
    have hne : (w.heap.size ≠ w.heap.size + 2 ∧ w.heap.size ≠ w.heap.size + 3) ∧ (w.heap.size + 4 ≠ w.heap.size + 2 ∧ w.heap.size + 4 ≠ w.heap.size + 3) ∧ w.heap.size + 2 ≠ w.heap.size + 3 := by omega
    have H4 := HG4; have H5 := HG5
    refine l23_19 HA HY H4 H5 hne _ (by rfl) rfl rfl rfl rfl ?_
    intro vs w9 ls9 hl9 hJ9 e0 e1
    simp only [Act.put, List.setIfInBounds_toArray, List.set_cons_zero, List.set_cons_succ]
    rw [e0, e1]
    rw [hl9 2 (by omega), hl9 3 (by omega), cond_true, cond_true] at hJ9
    obtain ⟨z0, z1⟩ := obj_cells2 hJ9.h4
    obtain ⟨t0, t1, t2, t3⟩ := obj_cells4 hJ9.h5
    replace z0 := z0 w9 (Ext.refl _); replace z1 := z1 w9 (Ext.refl _); replace t0 := t0 w9 (Ext.refl _); replace t1 := t1 w9 (Ext.refl _); replace t2 := t2 w9 (Ext.refl _); replace t3 := t3 w9 (Ext.refl _)
    have HXE := Lib.hid (HX.out.trans (hJ9.extR (lo := w.heap.size) (hi := w1.heap.size) (by rw [HS1.out]; omega) (by rw [HS1.out]; omega)))
    clear hJ9 hl9 e0 e1
    go_wp2_with (fail)
    refine bodyPost_ret (v := .tuple #[rv N2 aa nn cc, resval ⟨0, ⟨#[]⟩, [], q⟩ none 0]) (by simp [results, Try.results23, go_sem, z0, z1, t0, t1, t2, t3]) rfl ⟨_, _, _, _, _, _, _, w1, w2, rfl, he1, by rw [HS1.out]; omega, HE2.out, HQ.out, hno.out _ HE2.out, HXE.out⟩
  · rw [k2] at c0
    have HM := Lib.hid (H2.out k2 w1 he1)
    clear H0 H1 H2 H3 H4 H5 H6 H7 H8
    go_upto_region 6 with fail
    go_wp2_with fail
    with_reducible refine HM.out.mono ?_
    rintro e w2 ⟨N2, aa, nn, cc, q, rfl, he2, hq⟩
    have gA := he2.block HOA.out; have g4 := he2.block HO4.out; have g5 := he2.block HO5.out; have gY := he2.block HOY.out
    have fA := obj_free gA; have fY := obj_free gY
    obtain ⟨x0, x1⟩ := obj_cells2 gA
    obtain ⟨y0, y1, y2, y3⟩ := obj_cells4 gY
    have E2 := Ext.refl w2
    have hx := ExtR.refl w.heap.size w1.heap.size w2
    replace hx := ExtR.set hx (p := ⟨w.heap.size, 0, none⟩) (show w.heap.size ≤ w.heap.size by omega) (show w.heap.size < w1.heap.size by rw [HS1.out]; omega) (.bool N2)
    replace gA := block_set gA 0 (.bool N2)
    replace g4 := (heap_set_ne (g := w.heap.size) (o := 0) (.bool N2) (show w.heap.size + 2 ≠ w.heap.size by omega)).trans g4
    replace g5 := (heap_set_ne (g := w.heap.size) (o := 0) (.bool N2) (show w.heap.size + 3 ≠ w.heap.size by omega)).trans g5
    replace gY := (heap_set_ne (g := w.heap.size) (o := 0) (.bool N2) (show w.heap.size + 4 ≠ w.heap.size by omega)).trans gY
    replace hx := ExtR.set hx (p := ⟨w.heap.size, 1, none⟩) (show w.heap.size ≤ w.heap.size by omega) (show w.heap.size < w1.heap.size by rw [HS1.out]; omega) (.slice aa nn cc)
    replace gA := block_set gA 1 (.slice aa nn cc)
    replace g4 := (heap_set_ne (g := w.heap.size) (o := 1) (.slice aa nn cc) (show w.heap.size + 2 ≠ w.heap.size by omega)).trans g4
    replace g5 := (heap_set_ne (g := w.heap.size) (o := 1) (.slice aa nn cc) (show w.heap.size + 3 ≠ w.heap.size by omega)).trans g5
    replace gY := (heap_set_ne (g := w.heap.size) (o := 1) (.slice aa nn cc) (show w.heap.size + 4 ≠ w.heap.size by omega)).trans gY
    replace hx := ExtR.set hx (p := ⟨w.heap.size + 4, 3, none⟩) (show w.heap.size ≤ w.heap.size + 4 by omega) (show w.heap.size + 4 < w1.heap.size by rw [HS1.out]; omega) (.int .i64 q)
    replace gA := (heap_set_ne (g := w.heap.size + 4) (o := 3) (.int .i64 q) (show w.heap.size ≠ w.heap.size + 4 by omega)).trans gA
    replace g4 := (heap_set_ne (g := w.heap.size + 4) (o := 3) (.int .i64 q) (show w.heap.size + 2 ≠ w.heap.size + 4 by omega)).trans g4
    replace g5 := (heap_set_ne (g := w.heap.size + 4) (o := 3) (.int .i64 q) (show w.heap.size + 3 ≠ w.heap.size + 4 by omega)).trans g5
    replace gY := block_set gY 3 (.int .i64 q)
    have HQ := Lib.hid hq; have HE2 := Lib.hid he2; have HGA := Lib.hid gA; have HG4 := Lib.hid g4; have HG5 := Lib.hid g5; have HGY := Lib.hid gY; have HX := Lib.hid hx
    clear hq he2 gA g4 g5 gY hx HM
    go_upto_region 19 with fail
    clear x0 x1 y0 y1 y2 y3 fA fY E2 a0 a1 c0 c1 c2 c3 c4 c5 c6 c7 c8 E1
    obtain ⟨w3, hw3⟩ : ∃ w3, w3 = (((w2.setCell ⟨w.heap.size, 0, none⟩ (.bool N2)).setCell ⟨w.heap.size, 1, none⟩ (.slice aa nn cc)).setCell ⟨w.heap.size + 4, 3, none⟩ (.int .i64 q)) := ⟨_, rfl⟩
    rw [← hw3] at HGA HG4 HG5 HGY HX ⊢
    clear hw3
    have HA : Hid (w3.heap[w.heap.size]? = some (.cells #[.bool N2, .slice aa nn cc] 40 (0, 0))) := by rw [Hid]; have := HGA.out; simpa using this
    have HY : Hid (w3.heap[w.heap.size + 4]? = some (.cells #[.int .i64 0, .string ⟨#[]⟩, .slice none 0 0, .int .i64 q] 44 (0, 0))) := by rw [Hid]; have := HGY.out; simpa using this
    have hne : (w.heap.size ≠ w.heap.size + 2 ∧ w.heap.size ≠ w.heap.size + 3) ∧ (w.heap.size + 4 ≠ w.heap.size + 2 ∧ w.heap.size + 4 ≠ w.heap.size + 3) ∧ w.heap.size + 2 ≠ w.heap.size + 3 := by omega
    have H4 := HG4; have H5 := HG5
    refine l23_19 HA HY H4 H5 hne _ (by rfl) rfl rfl rfl rfl ?_
    intro vs w9 ls9 hl9 hJ9 e0 e1
    simp only [Act.put, List.setIfInBounds_toArray, List.set_cons_zero, List.set_cons_succ]
    rw [e0, e1]
    rw [hl9 2 (by omega), hl9 3 (by omega), cond_true, cond_true] at hJ9
    obtain ⟨z0, z1⟩ := obj_cells2 hJ9.h4
    obtain ⟨t0, t1, t2, t3⟩ := obj_cells4 hJ9.h5
    replace z0 := z0 w9 (Ext.refl _); replace z1 := z1 w9 (Ext.refl _); replace t0 := t0 w9 (Ext.refl _); replace t1 := t1 w9 (Ext.refl _); replace t2 := t2 w9 (Ext.refl _); replace t3 := t3 w9 (Ext.refl _)
    have HXE := Lib.hid (HX.out.trans (hJ9.extR (lo := w.heap.size) (hi := w1.heap.size) (by rw [HS1.out]; omega) (by rw [HS1.out]; omega)))
    clear hJ9 hl9 e0 e1
    go_wp2_with (fail)
    refine bodyPost_ret (v := .tuple #[rv N2 aa nn cc, resval ⟨0, ⟨#[]⟩, [], q⟩ none 0]) (by simp [results, Try.results23, go_sem, z0, z1, t0, t1, t2, t3]) rfl ⟨_, _, _, _, _, _, _, w1, w2, rfl, he1, by rw [HS1.out]; omega, HE2.out, HQ.out, hno.out _ HE2.out, HXE.out⟩
  · rw [k3] at c0
    have HM := Lib.hid (H3.out k3 w1 he1)
    clear H0 H1 H2 H3 H4 H5 H6 H7 H8
    go_upto_region 8 with fail
    go_wp2_with fail
    with_reducible refine HM.out.mono ?_
    rintro e w2 ⟨N2, aa, nn, cc, m, q, rfl, he2, hq⟩
    have gA := he2.block HOA.out; have g4 := he2.block HO4.out; have g5 := he2.block HO5.out; have gY := he2.block HOY.out
    have fA := obj_free gA; have fY := obj_free gY
    obtain ⟨x0, x1⟩ := obj_cells2 gA
    obtain ⟨y0, y1, y2, y3⟩ := obj_cells4 gY
    have E2 := Ext.refl w2
    have hx := ExtR.refl w.heap.size w1.heap.size w2
    replace hx := ExtR.set hx (p := ⟨w.heap.size, 0, none⟩) (show w.heap.size ≤ w.heap.size by omega) (show w.heap.size < w1.heap.size by rw [HS1.out]; omega) (.bool N2)
    replace gA := block_set gA 0 (.bool N2)
    replace g4 := (heap_set_ne (g := w.heap.size) (o := 0) (.bool N2) (show w.heap.size + 2 ≠ w.heap.size by omega)).trans g4
    replace g5 := (heap_set_ne (g := w.heap.size) (o := 0) (.bool N2) (show w.heap.size + 3 ≠ w.heap.size by omega)).trans g5
    replace gY := (heap_set_ne (g := w.heap.size) (o := 0) (.bool N2) (show w.heap.size + 4 ≠ w.heap.size by omega)).trans gY
    replace hx := ExtR.set hx (p := ⟨w.heap.size, 1, none⟩) (show w.heap.size ≤ w.heap.size by omega) (show w.heap.size < w1.heap.size by rw [HS1.out]; omega) (.slice aa nn cc)
    replace gA := block_set gA 1 (.slice aa nn cc)
    replace g4 := (heap_set_ne (g := w.heap.size) (o := 1) (.slice aa nn cc) (show w.heap.size + 2 ≠ w.heap.size by omega)).trans g4
    replace g5 := (heap_set_ne (g := w.heap.size) (o := 1) (.slice aa nn cc) (show w.heap.size + 3 ≠ w.heap.size by omega)).trans g5
    replace gY := (heap_set_ne (g := w.heap.size) (o := 1) (.slice aa nn cc) (show w.heap.size + 4 ≠ w.heap.size by omega)).trans gY
    replace hx := ExtR.set hx (p := ⟨w.heap.size + 4, 0, none⟩) (show w.heap.size ≤ w.heap.size + 4 by omega) (show w.heap.size + 4 < w1.heap.size by rw [HS1.out]; omega) (.int .i64 m)
    replace gA := (heap_set_ne (g := w.heap.size + 4) (o := 0) (.int .i64 m) (show w.heap.size ≠ w.heap.size + 4 by omega)).trans gA
    replace g4 := (heap_set_ne (g := w.heap.size + 4) (o := 0) (.int .i64 m) (show w.heap.size + 2 ≠ w.heap.size + 4 by omega)).trans g4
    replace g5 := (heap_set_ne (g := w.heap.size + 4) (o := 0) (.int .i64 m) (show w.heap.size + 3 ≠ w.heap.size + 4 by omega)).trans g5
    replace gY := block_set gY 0 (.int .i64 m)
    replace hx := ExtR.set hx (p := ⟨w.heap.size + 4, 3, none⟩) (show w.heap.size ≤ w.heap.size + 4 by omega) (show w.heap.size + 4 < w1.heap.size by rw [HS1.out]; omega) (.int .i64 q)
    replace gA := (heap_set_ne (g := w.heap.size + 4) (o := 3) (.int .i64 q) (show w.heap.size ≠ w.heap.size + 4 by omega)).trans gA
    replace g4 := (heap_set_ne (g := w.heap.size + 4) (o := 3) (.int .i64 q) (show w.heap.size + 2 ≠ w.heap.size + 4 by omega)).trans g4
    replace g5 := (heap_set_ne (g := w.heap.size + 4) (o := 3) (.int .i64 q) (show w.heap.size + 3 ≠ w.heap.size + 4 by omega)).trans g5
    replace gY := block_set gY 3 (.int .i64 q)
    have HQ := Lib.hid hq; have HE2 := Lib.hid he2; have HGA := Lib.hid gA; have HG4 := Lib.hid g4; have HG5 := Lib.hid g5; have HGY := Lib.hid gY; have HX := Lib.hid hx
    clear hq he2 gA g4 g5 gY hx HM
    go_upto_region 19 with fail
    clear x0 x1 y0 y1 y2 y3 fA fY E2 a0 a1 c0 c1 c2 c3 c4 c5 c6 c7 c8 E1
    obtain ⟨w3, hw3⟩ : ∃ w3, w3 = ((((w2.setCell ⟨w.heap.size, 0, none⟩ (.bool N2)).setCell ⟨w.heap.size, 1, none⟩ (.slice aa nn cc)).setCell ⟨w.heap.size + 4, 0, none⟩ (.int .i64 m)).setCell ⟨w.heap.size + 4, 3, none⟩ (.int .i64 q)) := ⟨_, rfl⟩
    rw [← hw3] at HGA HG4 HG5 HGY HX ⊢
    clear hw3
    have HA : Hid (w3.heap[w.heap.size]? = some (.cells #[.bool N2, .slice aa nn cc] 40 (0, 0))) := by rw [Hid]; have := HGA.out; simpa using this
    have HY : Hid (w3.heap[w.heap.size + 4]? = some (.cells #[.int .i64 m, .string ⟨#[]⟩, .slice none 0 0, .int .i64 q] 44 (0, 0))) := by rw [Hid]; have := HGY.out; simpa using this
    have hne : (w.heap.size ≠ w.heap.size + 2 ∧ w.heap.size ≠ w.heap.size + 3) ∧ (w.heap.size + 4 ≠ w.heap.size + 2 ∧ w.heap.size + 4 ≠ w.heap.size + 3) ∧ w.heap.size + 2 ≠ w.heap.size + 3 := by omega
    have H4 := HG4; have H5 := HG5
    refine l23_19 HA HY H4 H5 hne _ (by rfl) rfl rfl rfl rfl ?_
    intro vs w9 ls9 hl9 hJ9 e0 e1
    simp only [Act.put, List.setIfInBounds_toArray, List.set_cons_zero, List.set_cons_succ]
    rw [e0, e1]
    rw [hl9 2 (by omega), hl9 3 (by omega), cond_true, cond_true] at hJ9
    obtain ⟨z0, z1⟩ := obj_cells2 hJ9.h4
    obtain ⟨t0, t1, t2, t3⟩ := obj_cells4 hJ9.h5
    replace z0 := z0 w9 (Ext.refl _); replace z1 := z1 w9 (Ext.refl _); replace t0 := t0 w9 (Ext.refl _); replace t1 := t1 w9 (Ext.refl _); replace t2 := t2 w9 (Ext.refl _); replace t3 := t3 w9 (Ext.refl _)
    have HXE := Lib.hid (HX.out.trans (hJ9.extR (lo := w.heap.size) (hi := w1.heap.size) (by rw [HS1.out]; omega) (by rw [HS1.out]; omega)))
    clear hJ9 hl9 e0 e1
    go_wp2_with (fail)
    refine bodyPost_ret (v := .tuple #[rv N2 aa nn cc, resval ⟨m, ⟨#[]⟩, [], q⟩ none 0]) (by simp [results, Try.results23, go_sem, z0, z1, t0, t1, t2, t3]) rfl ⟨_, _, _, _, _, _, _, w1, w2, rfl, he1, by rw [HS1.out]; omega, HE2.out, HQ.out, hno.out _ HE2.out, HXE.out⟩
  · rw [k4] at c0
    have HM := Lib.hid (H4.out k4 w1 he1)
    clear H0 H1 H2 H3 H4 H5 H6 H7 H8
    go_upto_region 10 with fail
    go_wp2_with fail
    with_reducible refine HM.out.mono ?_
    rintro e w2 ⟨N2, aa, nn, cc, m, q, rfl, he2, hq⟩
    have gA := he2.block HOA.out; have g4 := he2.block HO4.out; have g5 := he2.block HO5.out; have gY := he2.block HOY.out
    have fA := obj_free gA; have fY := obj_free gY
    obtain ⟨x0, x1⟩ := obj_cells2 gA
    obtain ⟨y0, y1, y2, y3⟩ := obj_cells4 gY
    have E2 := Ext.refl w2
    have hx := ExtR.refl w.heap.size w1.heap.size w2
    replace hx := ExtR.set hx (p := ⟨w.heap.size, 0, none⟩) (show w.heap.size ≤ w.heap.size by omega) (show w.heap.size < w1.heap.size by rw [HS1.out]; omega) (.bool N2)
    replace gA := block_set gA 0 (.bool N2)
    replace g4 := (heap_set_ne (g := w.heap.size) (o := 0) (.bool N2) (show w.heap.size + 2 ≠ w.heap.size by omega)).trans g4
    replace g5 := (heap_set_ne (g := w.heap.size) (o := 0) (.bool N2) (show w.heap.size + 3 ≠ w.heap.size by omega)).trans g5
    replace gY := (heap_set_ne (g := w.heap.size) (o := 0) (.bool N2) (show w.heap.size + 4 ≠ w.heap.size by omega)).trans gY
    replace hx := ExtR.set hx (p := ⟨w.heap.size, 1, none⟩) (show w.heap.size ≤ w.heap.size by omega) (show w.heap.size < w1.heap.size by rw [HS1.out]; omega) (.slice aa nn cc)
    replace gA := block_set gA 1 (.slice aa nn cc)
    replace g4 := (heap_set_ne (g := w.heap.size) (o := 1) (.slice aa nn cc) (show w.heap.size + 2 ≠ w.heap.size by omega)).trans g4
    replace g5 := (heap_set_ne (g := w.heap.size) (o := 1) (.slice aa nn cc) (show w.heap.size + 3 ≠ w.heap.size by omega)).trans g5
    replace gY := (heap_set_ne (g := w.heap.size) (o := 1) (.slice aa nn cc) (show w.heap.size + 4 ≠ w.heap.size by omega)).trans gY
    replace hx := ExtR.set hx (p := ⟨w.heap.size + 4, 0, none⟩) (show w.heap.size ≤ w.heap.size + 4 by omega) (show w.heap.size + 4 < w1.heap.size by rw [HS1.out]; omega) (.int .i64 m)
    replace gA := (heap_set_ne (g := w.heap.size + 4) (o := 0) (.int .i64 m) (show w.heap.size ≠ w.heap.size + 4 by omega)).trans gA
    replace g4 := (heap_set_ne (g := w.heap.size + 4) (o := 0) (.int .i64 m) (show w.heap.size + 2 ≠ w.heap.size + 4 by omega)).trans g4
    replace g5 := (heap_set_ne (g := w.heap.size + 4) (o := 0) (.int .i64 m) (show w.heap.size + 3 ≠ w.heap.size + 4 by omega)).trans g5
    replace gY := block_set gY 0 (.int .i64 m)
    replace hx := ExtR.set hx (p := ⟨w.heap.size + 4, 3, none⟩) (show w.heap.size ≤ w.heap.size + 4 by omega) (show w.heap.size + 4 < w1.heap.size by rw [HS1.out]; omega) (.int .i64 q)
    replace gA := (heap_set_ne (g := w.heap.size + 4) (o := 3) (.int .i64 q) (show w.heap.size ≠ w.heap.size + 4 by omega)).trans gA
    replace g4 := (heap_set_ne (g := w.heap.size + 4) (o := 3) (.int .i64 q) (show w.heap.size + 2 ≠ w.heap.size + 4 by omega)).trans g4
    replace g5 := (heap_set_ne (g := w.heap.size + 4) (o := 3) (.int .i64 q) (show w.heap.size + 3 ≠ w.heap.size + 4 by omega)).trans g5
    replace gY := block_set gY 3 (.int .i64 q)
    have HQ := Lib.hid hq; have HE2 := Lib.hid he2; have HGA := Lib.hid gA; have HG4 := Lib.hid g4; have HG5 := Lib.hid g5; have HGY := Lib.hid gY; have HX := Lib.hid hx
    clear hq he2 gA g4 g5 gY hx HM
    go_upto_region 19 with fail
    clear x0 x1 y0 y1 y2 y3 fA fY E2 a0 a1 c0 c1 c2 c3 c4 c5 c6 c7 c8 E1
    obtain ⟨w3, hw3⟩ : ∃ w3, w3 = ((((w2.setCell ⟨w.heap.size, 0, none⟩ (.bool N2)).setCell ⟨w.heap.size, 1, none⟩ (.slice aa nn cc)).setCell ⟨w.heap.size + 4, 0, none⟩ (.int .i64 m)).setCell ⟨w.heap.size + 4, 3, none⟩ (.int .i64 q)) := ⟨_, rfl⟩
    rw [← hw3] at HGA HG4 HG5 HGY HX ⊢
    clear hw3
    have HA : Hid (w3.heap[w.heap.size]? = some (.cells #[.bool N2, .slice aa nn cc] 40 (0, 0))) := by rw [Hid]; have := HGA.out; simpa using this
    have HY : Hid (w3.heap[w.heap.size + 4]? = some (.cells #[.int .i64 m, .string ⟨#[]⟩, .slice none 0 0, .int .i64 q] 44 (0, 0))) := by rw [Hid]; have := HGY.out; simpa using this
    have hne : (w.heap.size ≠ w.heap.size + 2 ∧ w.heap.size ≠ w.heap.size + 3) ∧ (w.heap.size + 4 ≠ w.heap.size + 2 ∧ w.heap.size + 4 ≠ w.heap.size + 3) ∧ w.heap.size + 2 ≠ w.heap.size + 3 := by omega
    have H4 := HG4; have H5 := HG5
    refine l23_19 HA HY H4 H5 hne _ (by rfl) rfl rfl rfl rfl ?_
    intro vs w9 ls9 hl9 hJ9 e0 e1
    simp only [Act.put, List.setIfInBounds_toArray, List.set_cons_zero, List.set_cons_succ]
    rw [e0, e1]
    rw [hl9 2 (by omega), hl9 3 (by omega), cond_true, cond_true] at hJ9
    obtain ⟨z0, z1⟩ := obj_cells2 hJ9.h4
    obtain ⟨t0, t1, t2, t3⟩ := obj_cells4 hJ9.h5
    replace z0 := z0 w9 (Ext.refl _); replace z1 := z1 w9 (Ext.refl _); replace t0 := t0 w9 (Ext.refl _); replace t1 := t1 w9 (Ext.refl _); replace t2 := t2 w9 (Ext.refl _); replace t3 := t3 w9 (Ext.refl _)
    have HXE := Lib.hid (HX.out.trans (hJ9.extR (lo := w.heap.size) (hi := w1.heap.size) (by rw [HS1.out]; omega) (by rw [HS1.out]; omega)))
    clear hJ9 hl9 e0 e1
    go_wp2_with (fail)
    refine bodyPost_ret (v := .tuple #[rv N2 aa nn cc, resval ⟨m, ⟨#[]⟩, [], q⟩ none 0]) (by simp [results, Try.results23, go_sem, z0, z1, t0, t1, t2, t3]) rfl ⟨_, _, _, _, _, _, _, w1, w2, rfl, he1, by rw [HS1.out]; omega, HE2.out, HQ.out, hno.out _ HE2.out, HXE.out⟩
  · rw [k5] at c0
    have HM := Lib.hid (H5.out k5 w1 he1)
    clear H0 H1 H2 H3 H4 H5 H6 H7 H8
    go_upto_region 12 with fail
    go_wp2_with fail
    with_reducible refine HM.out.mono ?_
    rintro e w2 ⟨t, q, rfl, he2, hq⟩
    have gA := he2.block HOA.out; have g4 := he2.block HO4.out; have g5 := he2.block HO5.out; have gY := he2.block HOY.out
    have fA := obj_free gA; have fY := obj_free gY
    obtain ⟨x0, x1⟩ := obj_cells2 gA
    obtain ⟨y0, y1, y2, y3⟩ := obj_cells4 gY
    have E2 := Ext.refl w2
    have hx := ExtR.refl w.heap.size w1.heap.size w2
    replace hx := ExtR.set hx (p := ⟨w.heap.size + 4, 1, none⟩) (show w.heap.size ≤ w.heap.size + 4 by omega) (show w.heap.size + 4 < w1.heap.size by rw [HS1.out]; omega) (.string t)
    replace gA := (heap_set_ne (g := w.heap.size + 4) (o := 1) (.string t) (show w.heap.size ≠ w.heap.size + 4 by omega)).trans gA
    replace g4 := (heap_set_ne (g := w.heap.size + 4) (o := 1) (.string t) (show w.heap.size + 2 ≠ w.heap.size + 4 by omega)).trans g4
    replace g5 := (heap_set_ne (g := w.heap.size + 4) (o := 1) (.string t) (show w.heap.size + 3 ≠ w.heap.size + 4 by omega)).trans g5
    replace gY := block_set gY 1 (.string t)
    replace hx := ExtR.set hx (p := ⟨w.heap.size + 4, 3, none⟩) (show w.heap.size ≤ w.heap.size + 4 by omega) (show w.heap.size + 4 < w1.heap.size by rw [HS1.out]; omega) (.int .i64 q)
    replace gA := (heap_set_ne (g := w.heap.size + 4) (o := 3) (.int .i64 q) (show w.heap.size ≠ w.heap.size + 4 by omega)).trans gA
    replace g4 := (heap_set_ne (g := w.heap.size + 4) (o := 3) (.int .i64 q) (show w.heap.size + 2 ≠ w.heap.size + 4 by omega)).trans g4
    replace g5 := (heap_set_ne (g := w.heap.size + 4) (o := 3) (.int .i64 q) (show w.heap.size + 3 ≠ w.heap.size + 4 by omega)).trans g5
    replace gY := block_set gY 3 (.int .i64 q)
    have HQ := Lib.hid hq; have HE2 := Lib.hid he2; have HGA := Lib.hid gA; have HG4 := Lib.hid g4; have HG5 := Lib.hid g5; have HGY := Lib.hid gY; have HX := Lib.hid hx
    clear hq he2 gA g4 g5 gY hx HM
    go_upto_region 19 with fail
    clear x0 x1 y0 y1 y2 y3 fA fY E2 a0 a1 c0 c1 c2 c3 c4 c5 c6 c7 c8 E1
    obtain ⟨w3, hw3⟩ : ∃ w3, w3 = ((w2.setCell ⟨w.heap.size + 4, 1, none⟩ (.string t)).setCell ⟨w.heap.size + 4, 3, none⟩ (.int .i64 q)) := ⟨_, rfl⟩
    rw [← hw3] at HGA HG4 HG5 HGY HX ⊢
    clear hw3
    have HA : Hid (w3.heap[w.heap.size]? = some (.cells #[.bool N, .slice al n c] 40 (0, 0))) := by rw [Hid]; have := HGA.out; simpa using this
    have HY : Hid (w3.heap[w.heap.size + 4]? = some (.cells #[.int .i64 0, .string t, .slice none 0 0, .int .i64 q] 44 (0, 0))) := by rw [Hid]; have := HGY.out; simpa using this
    have hne : (w.heap.size ≠ w.heap.size + 2 ∧ w.heap.size ≠ w.heap.size + 3) ∧ (w.heap.size + 4 ≠ w.heap.size + 2 ∧ w.heap.size + 4 ≠ w.heap.size + 3) ∧ w.heap.size + 2 ≠ w.heap.size + 3 := by omega
    have H4 := HG4; have H5 := HG5
    refine l23_19 HA HY H4 H5 hne _ (by rfl) rfl rfl rfl rfl ?_
    intro vs w9 ls9 hl9 hJ9 e0 e1
    simp only [Act.put, List.setIfInBounds_toArray, List.set_cons_zero, List.set_cons_succ]
    rw [e0, e1]
    rw [hl9 2 (by omega), hl9 3 (by omega), cond_true, cond_true] at hJ9
    obtain ⟨z0, z1⟩ := obj_cells2 hJ9.h4
    obtain ⟨t0, t1, t2, t3⟩ := obj_cells4 hJ9.h5
    replace z0 := z0 w9 (Ext.refl _); replace z1 := z1 w9 (Ext.refl _); replace t0 := t0 w9 (Ext.refl _); replace t1 := t1 w9 (Ext.refl _); replace t2 := t2 w9 (Ext.refl _); replace t3 := t3 w9 (Ext.refl _)
    have HXE := Lib.hid (HX.out.trans (hJ9.extR (lo := w.heap.size) (hi := w1.heap.size) (by rw [HS1.out]; omega) (by rw [HS1.out]; omega)))
    clear hJ9 hl9 e0 e1
    go_wp2_with (fail)
    refine bodyPost_ret (v := .tuple #[rv N al n c, resval ⟨0, t, [], q⟩ none 0]) (by simp [results, Try.results23, go_sem, z0, z1, t0, t1, t2, t3]) rfl ⟨_, _, _, _, _, _, _, w1, w2, rfl, he1, by rw [HS1.out]; omega, HE2.out, HQ.out, hno.out _ HE2.out, HXE.out⟩
  · rw [k6] at c0
    have HM := Lib.hid (H6.out k6 w1 he1)
    clear H0 H1 H2 H3 H4 H5 H6 H7 H8
    go_upto_region 14 with fail
    go_wp2_with fail
    with_reducible refine HM.out.mono ?_
    rintro e w2 ⟨L, la, lc, q, rfl, he2, hq⟩
    have gA := he2.block HOA.out; have g4 := he2.block HO4.out; have g5 := he2.block HO5.out; have gY := he2.block HOY.out
    have fA := obj_free gA; have fY := obj_free gY
    obtain ⟨x0, x1⟩ := obj_cells2 gA
    obtain ⟨y0, y1, y2, y3⟩ := obj_cells4 gY
    have E2 := Ext.refl w2
    have hx := ExtR.refl w.heap.size w1.heap.size w2
    replace hx := ExtR.set hx (p := ⟨w.heap.size + 4, 2, none⟩) (show w.heap.size ≤ w.heap.size + 4 by omega) (show w.heap.size + 4 < w1.heap.size by rw [HS1.out]; omega) (.slice la L.length lc)
    replace gA := (heap_set_ne (g := w.heap.size + 4) (o := 2) (.slice la L.length lc) (show w.heap.size ≠ w.heap.size + 4 by omega)).trans gA
    replace g4 := (heap_set_ne (g := w.heap.size + 4) (o := 2) (.slice la L.length lc) (show w.heap.size + 2 ≠ w.heap.size + 4 by omega)).trans g4
    replace g5 := (heap_set_ne (g := w.heap.size + 4) (o := 2) (.slice la L.length lc) (show w.heap.size + 3 ≠ w.heap.size + 4 by omega)).trans g5
    replace gY := block_set gY 2 (.slice la L.length lc)
    replace hx := ExtR.set hx (p := ⟨w.heap.size + 4, 3, none⟩) (show w.heap.size ≤ w.heap.size + 4 by omega) (show w.heap.size + 4 < w1.heap.size by rw [HS1.out]; omega) (.int .i64 q)
    replace gA := (heap_set_ne (g := w.heap.size + 4) (o := 3) (.int .i64 q) (show w.heap.size ≠ w.heap.size + 4 by omega)).trans gA
    replace g4 := (heap_set_ne (g := w.heap.size + 4) (o := 3) (.int .i64 q) (show w.heap.size + 2 ≠ w.heap.size + 4 by omega)).trans g4
    replace g5 := (heap_set_ne (g := w.heap.size + 4) (o := 3) (.int .i64 q) (show w.heap.size + 3 ≠ w.heap.size + 4 by omega)).trans g5
    replace gY := block_set gY 3 (.int .i64 q)
    have HQ := Lib.hid hq; have HE2 := Lib.hid he2; have HGA := Lib.hid gA; have HG4 := Lib.hid g4; have HG5 := Lib.hid g5; have HGY := Lib.hid gY; have HX := Lib.hid hx
    clear hq he2 gA g4 g5 gY hx HM
    go_upto_region 19 with fail
    clear x0 x1 y0 y1 y2 y3 fA fY E2 a0 a1 c0 c1 c2 c3 c4 c5 c6 c7 c8 E1
    obtain ⟨w3, hw3⟩ : ∃ w3, w3 = ((w2.setCell ⟨w.heap.size + 4, 2, none⟩ (.slice la L.length lc)).setCell ⟨w.heap.size + 4, 3, none⟩ (.int .i64 q)) := ⟨_, rfl⟩
    rw [← hw3] at HGA HG4 HG5 HGY HX ⊢
    clear hw3
    have HA : Hid (w3.heap[w.heap.size]? = some (.cells #[.bool N, .slice al n c] 40 (0, 0))) := by rw [Hid]; have := HGA.out; simpa using this
    have HY : Hid (w3.heap[w.heap.size + 4]? = some (.cells #[.int .i64 0, .string ⟨#[]⟩, .slice la L.length lc, .int .i64 q] 44 (0, 0))) := by rw [Hid]; have := HGY.out; simpa using this
    have hne : (w.heap.size ≠ w.heap.size + 2 ∧ w.heap.size ≠ w.heap.size + 3) ∧ (w.heap.size + 4 ≠ w.heap.size + 2 ∧ w.heap.size + 4 ≠ w.heap.size + 3) ∧ w.heap.size + 2 ≠ w.heap.size + 3 := by omega
    have H4 := HG4; have H5 := HG5
    refine l23_19 HA HY H4 H5 hne _ (by rfl) rfl rfl rfl rfl ?_
    intro vs w9 ls9 hl9 hJ9 e0 e1
    simp only [Act.put, List.setIfInBounds_toArray, List.set_cons_zero, List.set_cons_succ]
    rw [e0, e1]
    rw [hl9 2 (by omega), hl9 3 (by omega), cond_true, cond_true] at hJ9
    obtain ⟨z0, z1⟩ := obj_cells2 hJ9.h4
    obtain ⟨t0, t1, t2, t3⟩ := obj_cells4 hJ9.h5
    replace z0 := z0 w9 (Ext.refl _); replace z1 := z1 w9 (Ext.refl _); replace t0 := t0 w9 (Ext.refl _); replace t1 := t1 w9 (Ext.refl _); replace t2 := t2 w9 (Ext.refl _); replace t3 := t3 w9 (Ext.refl _)
    have HXE := Lib.hid (HX.out.trans (hJ9.extR (lo := w.heap.size) (hi := w1.heap.size) (by rw [HS1.out]; omega) (by rw [HS1.out]; omega)))
    clear hJ9 hl9 e0 e1
    go_wp2_with (fail)
    refine bodyPost_ret (v := .tuple #[rv N al n c, resval ⟨0, ⟨#[]⟩, L, q⟩ la lc]) (by simp [results, Try.results23, go_sem, z0, z1, t0, t1, t2, t3]) rfl ⟨_, _, _, _, _, _, _, w1, w2, rfl, he1, by rw [HS1.out]; omega, HE2.out, HQ.out, hno.out _ HE2.out, HXE.out⟩
  · rw [k7] at c0
    have HM := Lib.hid (H7.out k7 w1 he1)
    clear H0 H1 H2 H3 H4 H5 H6 H7 H8
    go_upto_region 16 with fail
    go_wp2_with fail
    with_reducible refine HM.out.mono ?_
    rintro e w2 ⟨N2, aa, nn, cc, q, rfl, he2, hq⟩
    have gA := he2.block HOA.out; have g4 := he2.block HO4.out; have g5 := he2.block HO5.out; have gY := he2.block HOY.out
    have fA := obj_free gA; have fY := obj_free gY
    obtain ⟨x0, x1⟩ := obj_cells2 gA
    obtain ⟨y0, y1, y2, y3⟩ := obj_cells4 gY
    have E2 := Ext.refl w2
    have hx := ExtR.refl w.heap.size w1.heap.size w2
    replace hx := ExtR.set hx (p := ⟨w.heap.size, 0, none⟩) (show w.heap.size ≤ w.heap.size by omega) (show w.heap.size < w1.heap.size by rw [HS1.out]; omega) (.bool N2)
    replace gA := block_set gA 0 (.bool N2)
    replace g4 := (heap_set_ne (g := w.heap.size) (o := 0) (.bool N2) (show w.heap.size + 2 ≠ w.heap.size by omega)).trans g4
    replace g5 := (heap_set_ne (g := w.heap.size) (o := 0) (.bool N2) (show w.heap.size + 3 ≠ w.heap.size by omega)).trans g5
    replace gY := (heap_set_ne (g := w.heap.size) (o := 0) (.bool N2) (show w.heap.size + 4 ≠ w.heap.size by omega)).trans gY
    replace hx := ExtR.set hx (p := ⟨w.heap.size, 1, none⟩) (show w.heap.size ≤ w.heap.size by omega) (show w.heap.size < w1.heap.size by rw [HS1.out]; omega) (.slice aa nn cc)
    replace gA := block_set gA 1 (.slice aa nn cc)
    replace g4 := (heap_set_ne (g := w.heap.size) (o := 1) (.slice aa nn cc) (show w.heap.size + 2 ≠ w.heap.size by omega)).trans g4
    replace g5 := (heap_set_ne (g := w.heap.size) (o := 1) (.slice aa nn cc) (show w.heap.size + 3 ≠ w.heap.size by omega)).trans g5
    replace gY := (heap_set_ne (g := w.heap.size) (o := 1) (.slice aa nn cc) (show w.heap.size + 4 ≠ w.heap.size by omega)).trans gY
    replace hx := ExtR.set hx (p := ⟨w.heap.size + 4, 3, none⟩) (show w.heap.size ≤ w.heap.size + 4 by omega) (show w.heap.size + 4 < w1.heap.size by rw [HS1.out]; omega) (.int .i64 q)
    replace gA := (heap_set_ne (g := w.heap.size + 4) (o := 3) (.int .i64 q) (show w.heap.size ≠ w.heap.size + 4 by omega)).trans gA
    replace g4 := (heap_set_ne (g := w.heap.size + 4) (o := 3) (.int .i64 q) (show w.heap.size + 2 ≠ w.heap.size + 4 by omega)).trans g4
    replace g5 := (heap_set_ne (g := w.heap.size + 4) (o := 3) (.int .i64 q) (show w.heap.size + 3 ≠ w.heap.size + 4 by omega)).trans g5
    replace gY := block_set gY 3 (.int .i64 q)
    have HQ := Lib.hid hq; have HE2 := Lib.hid he2; have HGA := Lib.hid gA; have HG4 := Lib.hid g4; have HG5 := Lib.hid g5; have HGY := Lib.hid gY; have HX := Lib.hid hx
    clear hq he2 gA g4 g5 gY hx HM
    go_upto_region 19 with fail
    clear x0 x1 y0 y1 y2 y3 fA fY E2 a0 a1 c0 c1 c2 c3 c4 c5 c6 c7 c8 E1
    obtain ⟨w3, hw3⟩ : ∃ w3, w3 = (((w2.setCell ⟨w.heap.size, 0, none⟩ (.bool N2)).setCell ⟨w.heap.size, 1, none⟩ (.slice aa nn cc)).setCell ⟨w.heap.size + 4, 3, none⟩ (.int .i64 q)) := ⟨_, rfl⟩
    rw [← hw3] at HGA HG4 HG5 HGY HX ⊢
    clear hw3
    have HA : Hid (w3.heap[w.heap.size]? = some (.cells #[.bool N2, .slice aa nn cc] 40 (0, 0))) := by rw [Hid]; have := HGA.out; simpa using this
    have HY : Hid (w3.heap[w.heap.size + 4]? = some (.cells #[.int .i64 0, .string ⟨#[]⟩, .slice none 0 0, .int .i64 q] 44 (0, 0))) := by rw [Hid]; have := HGY.out; simpa using this
    have hne : (w.heap.size ≠ w.heap.size + 2 ∧ w.heap.size ≠ w.heap.size + 3) ∧ (w.heap.size + 4 ≠ w.heap.size + 2 ∧ w.heap.size + 4 ≠ w.heap.size + 3) ∧ w.heap.size + 2 ≠ w.heap.size + 3 := by omega
    have H4 := HG4; have H5 := HG5
    refine l23_19 HA HY H4 H5 hne _ (by rfl) rfl rfl rfl rfl ?_
    intro vs w9 ls9 hl9 hJ9 e0 e1
    simp only [Act.put, List.setIfInBounds_toArray, List.set_cons_zero, List.set_cons_succ]
    rw [e0, e1]
    rw [hl9 2 (by omega), hl9 3 (by omega), cond_true, cond_true] at hJ9
    obtain ⟨z0, z1⟩ := obj_cells2 hJ9.h4
    obtain ⟨t0, t1, t2, t3⟩ := obj_cells4 hJ9.h5
    replace z0 := z0 w9 (Ext.refl _); replace z1 := z1 w9 (Ext.refl _); replace t0 := t0 w9 (Ext.refl _); replace t1 := t1 w9 (Ext.refl _); replace t2 := t2 w9 (Ext.refl _); replace t3 := t3 w9 (Ext.refl _)
    have HXE := Lib.hid (HX.out.trans (hJ9.extR (lo := w.heap.size) (hi := w1.heap.size) (by rw [HS1.out]; omega) (by rw [HS1.out]; omega)))
    clear hJ9 hl9 e0 e1
    go_wp2_with (fail)
    refine bodyPost_ret (v := .tuple #[rv N2 aa nn cc, resval ⟨0, ⟨#[]⟩, [], q⟩ none 0]) (by simp [results, Try.results23, go_sem, z0, z1, t0, t1, t2, t3]) rfl ⟨_, _, _, _, _, _, _, w1, w2, rfl, he1, by rw [HS1.out]; omega, HE2.out, HQ.out, hno.out _ HE2.out, HXE.out⟩
  · rw [k8] at c0
    have HM := Lib.hid (H8.out k8 w1 he1)
    clear H0 H1 H2 H3 H4 H5 H6 H7 H8
    go_upto_region 18 with fail
    go_wp2_with fail
    with_reducible refine HM.out.mono ?_
    rintro e w2 ⟨t, q, rfl, he2, hq⟩
    have gA := he2.block HOA.out; have g4 := he2.block HO4.out; have g5 := he2.block HO5.out; have gY := he2.block HOY.out
    have fA := obj_free gA; have fY := obj_free gY
    obtain ⟨x0, x1⟩ := obj_cells2 gA
    obtain ⟨y0, y1, y2, y3⟩ := obj_cells4 gY
    have E2 := Ext.refl w2
    have hx := ExtR.refl w.heap.size w1.heap.size w2
    replace hx := ExtR.set hx (p := ⟨w.heap.size + 4, 1, none⟩) (show w.heap.size ≤ w.heap.size + 4 by omega) (show w.heap.size + 4 < w1.heap.size by rw [HS1.out]; omega) (.string t)
    replace gA := (heap_set_ne (g := w.heap.size + 4) (o := 1) (.string t) (show w.heap.size ≠ w.heap.size + 4 by omega)).trans gA
    replace g4 := (heap_set_ne (g := w.heap.size + 4) (o := 1) (.string t) (show w.heap.size + 2 ≠ w.heap.size + 4 by omega)).trans g4
    replace g5 := (heap_set_ne (g := w.heap.size + 4) (o := 1) (.string t) (show w.heap.size + 3 ≠ w.heap.size + 4 by omega)).trans g5
    replace gY := block_set gY 1 (.string t)
    replace hx := ExtR.set hx (p := ⟨w.heap.size + 4, 3, none⟩) (show w.heap.size ≤ w.heap.size + 4 by omega) (show w.heap.size + 4 < w1.heap.size by rw [HS1.out]; omega) (.int .i64 q)
    replace gA := (heap_set_ne (g := w.heap.size + 4) (o := 3) (.int .i64 q) (show w.heap.size ≠ w.heap.size + 4 by omega)).trans gA
    replace g4 := (heap_set_ne (g := w.heap.size + 4) (o := 3) (.int .i64 q) (show w.heap.size + 2 ≠ w.heap.size + 4 by omega)).trans g4
    replace g5 := (heap_set_ne (g := w.heap.size + 4) (o := 3) (.int .i64 q) (show w.heap.size + 3 ≠ w.heap.size + 4 by omega)).trans g5
    replace gY := block_set gY 3 (.int .i64 q)
    have HQ := Lib.hid hq; have HE2 := Lib.hid he2; have HGA := Lib.hid gA; have HG4 := Lib.hid g4; have HG5 := Lib.hid g5; have HGY := Lib.hid gY; have HX := Lib.hid hx
    clear hq he2 gA g4 g5 gY hx HM
    go_upto_region 19 with fail
    clear x0 x1 y0 y1 y2 y3 fA fY E2 a0 a1 c0 c1 c2 c3 c4 c5 c6 c7 c8 E1
    obtain ⟨w3, hw3⟩ : ∃ w3, w3 = ((w2.setCell ⟨w.heap.size + 4, 1, none⟩ (.string t)).setCell ⟨w.heap.size + 4, 3, none⟩ (.int .i64 q)) := ⟨_, rfl⟩
    rw [← hw3] at HGA HG4 HG5 HGY HX ⊢
    clear hw3
    have HA : Hid (w3.heap[w.heap.size]? = some (.cells #[.bool N, .slice al n c] 40 (0, 0))) := by rw [Hid]; have := HGA.out; simpa using this
    have HY : Hid (w3.heap[w.heap.size + 4]? = some (.cells #[.int .i64 0, .string t, .slice none 0 0, .int .i64 q] 44 (0, 0))) := by rw [Hid]; have := HGY.out; simpa using this
    have hne : (w.heap.size ≠ w.heap.size + 2 ∧ w.heap.size ≠ w.heap.size + 3) ∧ (w.heap.size + 4 ≠ w.heap.size + 2 ∧ w.heap.size + 4 ≠ w.heap.size + 3) ∧ w.heap.size + 2 ≠ w.heap.size + 3 := by omega
    have H4 := HG4; have H5 := HG5
    refine l23_19 HA HY H4 H5 hne _ (by rfl) rfl rfl rfl rfl ?_
    intro vs w9 ls9 hl9 hJ9 e0 e1
    simp only [Act.put, List.setIfInBounds_toArray, List.set_cons_zero, List.set_cons_succ]
    rw [e0, e1]
    rw [hl9 2 (by omega), hl9 3 (by omega), cond_true, cond_true] at hJ9
    obtain ⟨z0, z1⟩ := obj_cells2 hJ9.h4
    obtain ⟨t0, t1, t2, t3⟩ := obj_cells4 hJ9.h5
    replace z0 := z0 w9 (Ext.refl _); replace z1 := z1 w9 (Ext.refl _); replace t0 := t0 w9 (Ext.refl _); replace t1 := t1 w9 (Ext.refl _); replace t2 := t2 w9 (Ext.refl _); replace t3 := t3 w9 (Ext.refl _)
    have HXE := Lib.hid (HX.out.trans (hJ9.extR (lo := w.heap.size) (hi := w1.heap.size) (by rw [HS1.out]; omega) (by rw [HS1.out]; omega)))
    clear hJ9 hl9 e0 e1
    go_wp2_with (fail)
    refine bodyPost_ret (v := .tuple #[rv N al n c, resval ⟨0, t, [], q⟩ none 0]) (by simp [results, Try.results23, go_sem, z0, z1, t0, t1, t2, t3]) rfl ⟨_, _, _, _, _, _, _, w1, w2, rfl, he1, by rw [HS1.out]; omega, HE2.out, HQ.out, hno.out _ HE2.out, HXE.out⟩
  · have HM := Lib.hid (H0.out k0 w1 he1)
    have m1 := k0 1 (by omega) (by omega); have m2 := k0 2 (by omega) (by omega); have m3 := k0 3 (by omega) (by omega); have m4 := k0 4 (by omega) (by omega); have m5 := k0 5 (by omega) (by omega); have m6 := k0 6 (by omega) (by omega); have m7 := k0 7 (by omega) (by omega); have m8 := k0 8 (by omega) (by omega)
    clear H0 H1 H2 H3 H4 H5 H6 H7 H8 k0
    have he2 := Ext.refl w1; have hq := HM.out
    have gA := HOA.out; have g4 := HO4.out; have g5 := HO5.out; have gY := HOY.out
    have hx := ExtR.refl w.heap.size w1.heap.size w1
    have HQ := Lib.hid hq; have HE2 := Lib.hid he2; have HGA := Lib.hid gA; have HG4 := Lib.hid g4; have HG5 := Lib.hid g5; have HGY := Lib.hid gY; have HX := Lib.hid hx
    clear hq he2 gA g4 g5 gY hx HM
    go_upto_region 19 with fail
    clear a0 a1 c0 c1 c2 c3 c4 c5 c6 c7 c8 E1
    have HA : Hid (w1.heap[w.heap.size]? = some (.cells #[.bool N, .slice al n c] 40 (0, 0))) := by rw [Hid]; have := HGA.out; simpa using this
    have HY : Hid (w1.heap[w.heap.size + 4]? = some (.cells #[.int .i64 0, .string ⟨#[]⟩, .slice none 0 0, .int .i64 0] 44 (0, 0))) := by rw [Hid]; have := HGY.out; simpa using this
    have hne : (w.heap.size ≠ w.heap.size + 2 ∧ w.heap.size ≠ w.heap.size + 3) ∧ (w.heap.size + 4 ≠ w.heap.size + 2 ∧ w.heap.size + 4 ≠ w.heap.size + 3) ∧ w.heap.size + 2 ≠ w.heap.size + 3 := by omega
    have H4 := HG4; have H5 := HG5
    refine l23_19 HA HY H4 H5 hne _ (by rfl) rfl rfl rfl rfl ?_
    intro vs w9 ls9 hl9 hJ9 e0 e1
    simp only [Act.put, List.setIfInBounds_toArray, List.set_cons_zero, List.set_cons_succ]
    rw [e0, e1]
    rw [hl9 2 (by omega), hl9 3 (by omega), cond_true, cond_true] at hJ9
    obtain ⟨z0, z1⟩ := obj_cells2 hJ9.h4
    obtain ⟨t0, t1, t2, t3⟩ := obj_cells4 hJ9.h5
    replace z0 := z0 w9 (Ext.refl _); replace z1 := z1 w9 (Ext.refl _); replace t0 := t0 w9 (Ext.refl _); replace t1 := t1 w9 (Ext.refl _); replace t2 := t2 w9 (Ext.refl _); replace t3 := t3 w9 (Ext.refl _)
    have HXE := Lib.hid (HX.out.trans (hJ9.extR (lo := w.heap.size) (hi := w1.heap.size) (by rw [HS1.out]; omega) (by rw [HS1.out]; omega)))
    clear hJ9 hl9 e0 e1
    go_wp2_with (fail)
    refine bodyPost_ret (v := .tuple #[rv N al n c, resval ⟨0, ⟨#[]⟩, [], 0⟩ none 0]) (by simp [results, Try.results23, go_sem, z0, z1, t0, t1, t2, t3]) rfl ⟨_, _, _, _, _, _, _, w1, w1, rfl, he1, by rw [HS1.out]; omega, HE2.out, HQ.out, hno.out _ HE2.out, HXE.out⟩
end Go.Proofs.Ytlahejakcgoheaa
