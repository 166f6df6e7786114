/-
  Walk: play, for any receiver whose methods' contracts are given.
-/
import Derived.Test.YtlahejakcgoheaaO1
import Derived.Test.YtlahejakcgoheaaWL
set_option linter.unusedVariables false
set_option linter.unusedSimpArgs false
namespace Go.Proofs.Ytlahejakcgoheaa
open Go.RowKit
/-- What a call gave. -/
structure Res where
  num : Int
  text : ByteArray
  list : List En
  err : Int
/-- All that was there stands, but for blocks between lo and hi. -/
structure ExtR (lo hi : Nat) (w w' : World) : Prop where
  os : w'.os = w.os
  tape : w'.tape = w.tape
  output : w'.output = w.output
  size : w.heap.size ≤ w'.heap.size
  block : ∀ k, k < w.heap.size → (k < lo ∨ hi ≤ k) → w'.heap[k]? = w.heap[k]?
theorem ExtR.refl (lo hi : Nat) (w : World) : ExtR lo hi w w := ⟨rfl, rfl, rfl, Nat.le_refl _, fun _ _ _ => rfl⟩
theorem ExtR.set {lo hi : Nat} {w W : World} (h : ExtR lo hi w W) {p : Addr} (h0 : lo ≤ p.block) (h1 : p.block < hi) (u : Value) : ExtR lo hi w (W.setCell p u) :=
  ⟨h.os, h.tape, h.output, by simpa [World.setCell] using h.size, fun k hk q => (Below.heap_setCell _ _ _ _ (fun e => by omega)).trans (h.block k hk q)⟩
theorem ExtR.trans {lo hi : Nat} {a b c : World} (h : ExtR lo hi a b) (k : ExtR lo hi b c) : ExtR lo hi a c :=
  ⟨k.os.trans h.os, k.tape.trans h.tape, k.output.trans h.output, Nat.le_trans h.size k.size, fun i hi q => (k.block i (Nat.lt_of_lt_of_le hi h.size) q).trans (h.block i hi q)⟩
theorem ExtR.drew {lo hi : Nat} {a b : World} (h : ExtR lo hi a b) : ExtR lo hi a b.drew := h.trans ⟨rfl, rfl, rfl, Nat.le_refl _, fun _ _ _ => rfl⟩
/-- What a method of a vault may leave: the blocks made since w in W stand. -/
structure Kept (lo : Nat) (W w' : World) : Prop where
  size : W.heap.size ≤ w'.heap.size
  block : ∀ k, lo ≤ k → k < W.heap.size → w'.heap[k]? = W.heap[k]?
theorem Ext.kept {W w' : World} (h : Ext W w') (lo : Nat) : Kept lo W w' := ⟨h.size, fun k _ hk => Below.block h k hk⟩
abbrev rcells (r : Res) (a : Option Addr) (c : Nat) : Array Value := #[.int .i64 r.num, .string r.text, .slice a r.list.length c, .int .i64 r.err]
abbrev resval (r : Res) (a : Option Addr) (c : Nat) : Value := .agg (rcells r a c)
/-- What a call of 'play' leaves: W is the world in which the method was called, w'' the one behind it. -/
def PlayPost (Q : Res → Option Addr → Nat → World → World → Prop) (w : World) (e : Ending) (w' : World) : Prop :=
  ∃ r a c W w'', e = .returned (resval r a c) ∧ Ext w W ∧ w.heap.size < W.heap.size ∧ Q r a c W w'' ∧ ExtR w.heap.size W.heap.size w'' w'
set_option maxRecDepth 100000 in
set_option maxHeartbeats 4000000 in
theorem play_walk (rv : Value) (o : Op) (w : World) (Q : Res → Option Addr → Nat → World → World → Prop)
    (h1 : o.kind = 1 → ∀ W, Ext w W → Calls Try.prog 37 #[rv, .string o.name, .string o.pass] W fun e w' => ∃ n, e = .returned (.int .i64 n) ∧ Kept w.heap.size W w' ∧ Q ⟨0, ⟨#[]⟩, [], n⟩ none 0 W w')
    (h2 : o.kind = 2 → ∀ W, Ext w W → Calls Try.prog 43 #[rv, .int .i64 o.day] W fun e w' => ∃ n, e = .returned (.int .i64 n) ∧ Kept w.heap.size W w' ∧ Q ⟨0, ⟨#[]⟩, [], n⟩ none 0 W w')
    (h3 : o.kind = 3 → ∀ W, Ext w W → Calls Try.prog 38 #[rv, .string o.name, .string o.pass, .string o.label, .int .i64 o.day, .string o.text] W fun e w' => ∃ m n, e = .returned (.tuple #[.int .i64 m, .int .i64 n]) ∧ Kept w.heap.size W w' ∧ Q ⟨m, ⟨#[]⟩, [], n⟩ none 0 W w')
    (h4 : o.kind = 4 → ∀ W, Ext w W → Calls Try.prog 40 #[rv, .string o.name, .string o.pass, .int .i64 o.num, .string o.text] W fun e w' => ∃ m n, e = .returned (.tuple #[.int .i64 m, .int .i64 n]) ∧ Kept w.heap.size W w' ∧ Q ⟨m, ⟨#[]⟩, [], n⟩ none 0 W w')
    (h5 : o.kind = 5 → ∀ W, Ext w W → Calls Try.prog 36 #[rv, .string o.name, .string o.pass, .int .i64 o.num, .int .i64 o.ver] W fun e w' => ∃ m n, e = .returned (.tuple #[.string m, .int .i64 n]) ∧ Kept w.heap.size W w' ∧ Q ⟨0, m, [], n⟩ none 0 W w')
    (h6 : o.kind = 6 → ∀ W, Ext w W → Calls Try.prog 42 #[rv, .string o.name, .string o.pass] W fun e w' => ∃ (m : List En) (n : Int) (a : Option Addr) (c : Nat), e = .returned (.tuple #[.slice a m.length c, .int .i64 n]) ∧ Kept w.heap.size W w' ∧ Q ⟨0, ⟨#[]⟩, m, n⟩ a c W w')
    (h7 : o.kind = 7 → ∀ W, Ext w W → Calls Try.prog 39 #[rv, .string o.name, .string o.pass, .int .i64 o.num, .string o.other, .string o.text] W fun e w' => ∃ n, e = .returned (.int .i64 n) ∧ Kept w.heap.size W w' ∧ Q ⟨0, ⟨#[]⟩, [], n⟩ none 0 W w')
    (h8 : o.kind = 8 → ∀ W, Ext w W → Calls Try.prog 41 #[rv, .string o.name, .string o.pass, .string o.other, .int .i64 o.num, .string o.text] W fun e w' => ∃ m n, e = .returned (.tuple #[.string m, .int .i64 n]) ∧ Kept w.heap.size W w' ∧ Q ⟨0, m, [], n⟩ none 0 W w')
    (h0 : (∀ j : Int, 1 ≤ j → j ≤ 8 → o.kind ≠ j) → ∀ W, Ext w W → Q ⟨0, ⟨#[]⟩, [], 0⟩ none 0 W W) :
    Calls Try.prog 22 #[rv, opval o] w (PlayPost Q w) := by
  have H0 := Lib.hid h0
  have H1 := Lib.hid h1
  have H2 := Lib.hid h2
  have H3 := Lib.hid h3
  have H4 := Lib.hid h4
  have H5 := Lib.hid h5
  have H6 := Lib.hid h6
  have H7 := Lib.hid h7
  have H8 := Lib.hid h8
  clear h0 h1 h2 h3 h4 h5 h6 h7 h8
  go_enter Try.func22, Try.ntmps22
  go_upto_region 2 with fail
  generalize hw1 : World.alloc _ _ = w1
  obtain ⟨he1, o1, o2, o3, hs1⟩ := alloc3 hw1
  clear hw1
  obtain ⟨c0, c1, c2, c3, c4, c5, c6, c7, c8⟩ := obj_cells9 o1
  have HO2 := Lib.hid o2; have HO3 := Lib.hid o3; have HS1 := Lib.hid hs1
  clear o1 o2 o3 hs1
  have E1 := Ext.refl w1
  have hcase : o.kind = 1 ∨ o.kind = 2 ∨ o.kind = 3 ∨ o.kind = 4 ∨ o.kind = 5 ∨ o.kind = 6 ∨ o.kind = 7 ∨ o.kind = 8 ∨ (∀ j : Int, 1 ≤ j → j ≤ 8 → o.kind ≠ j) := by
    by_cases q : 1 ≤ o.kind ∧ o.kind ≤ 8
    · omega
    · refine .inr (.inr (.inr (.inr (.inr (.inr (.inr (.inr fun j h1 h2 e => ?_)))))))
      omega
  rcases hcase with k1 | k2 | k3 | k4 | k5 | k6 | k7 | k8 | k0
  · rw [k1] at c0
    have HM := Lib.hid (H1.out k1 w1 he1)
    clear H0 H1 H2 H3 H4 H5 H6 H7 H8
    go_upto_region 4 with fail
    go_wp2_with fail
    with_reducible refine HM.out.mono ?_
    rintro e w2 ⟨n, rfl, hk, hq⟩
    have g2 := hk.block (w.heap.size + 1) (by omega) (by rw [HS1.out]; omega)
    rw [HO2.out] at g2
    have g3 := hk.block (w.heap.size + 1 + 1) (by omega) (by rw [HS1.out]; omega)
    rw [HO3.out] at g3
    have f2 := obj_free g2; have f3 := obj_free g3
    obtain ⟨a0, a1, a2, a3⟩ := obj_cells4 g2
    obtain ⟨b0, b1, b2, b3⟩ := obj_cells4 g3
    have HQ := Lib.hid hq; have HG2 := Lib.hid g2; have HG3 := Lib.hid g3; have HK := Lib.hid hk
    have E2 := Ext.refl w2
    clear hq g2 g3 hk HM
    go_upto_region 19 with fail
    have g3_0 := block_set HG3.out 3 (.int .i64 n)
    have g2_0 := (heap_set_ne (g := w.heap.size + 1 + 1) (o := 3) (.int .i64 n) (show w.heap.size + 1 ≠ w.heap.size + 1 + 1 by omega)).trans HG2.out
    have hx_0 := ExtR.set (ExtR.refl w.heap.size w1.heap.size w2) (p := ⟨w.heap.size + 1 + 1, 3, none⟩) (show w.heap.size ≤ w.heap.size + 1 + 1 by omega) (show w.heap.size + 1 + 1 < w1.heap.size by rw [HS1.out]; omega) (.int .i64 n)
    have g3 := g3_0; have g2 := g2_0; have hx := hx_0
    clear a0 a1 a2 a3 b0 b1 b2 b3 f2 f3 E2 HG2 HG3 g3_0 g2_0 hx_0
    generalize World.setCell w2 _ _ = w3 at *
    have g3' : w3.heap[w.heap.size + 1 + 1]? = some (.cells (rcells ⟨0, ⟨#[]⟩, [], n⟩ none 0) 44 (0, 0)) := g3
    clear g3
    obtain ⟨b0, b1, b2, b3⟩ := obj_cells4 g3'
    have f2 := obj_free g2
    obtain ⟨a0, a1, a2, a3⟩ := obj_cells4 g2
    have HX := Lib.hid hx
    have E3 := Ext.refl w3
    clear hx g2 g3'
    go_wp2_with (fail)
    refine bodyPost_ret (v := resval ⟨0, ⟨#[]⟩, [], n⟩ none 0) (by simp [results, Try.results22, go_sem, a0 _ E3, a1 _ E3, a2 _ E3, a3 _ E3, b0 _ E3, b1 _ E3, b2 _ E3, b3 _ E3]) rfl ⟨_, _, _, w1, w2, rfl, he1, by rw [HS1.out]; omega, HQ.out, ?_⟩
    refine HX.out.trans ?_
    repeat (refine ExtR.set ?_ (show w.heap.size ≤ w.heap.size + 1 by omega) (show w.heap.size + 1 < w1.heap.size by rw [HS1.out]; omega) _)
    exact ExtR.refl _ _ _
  · rw [k2] at c0
    have HM := Lib.hid (H2.out k2 w1 he1)
    clear H0 H1 H2 H3 H4 H5 H6 H7 H8
    go_upto_region 6 with fail
    go_wp2_with fail
    with_reducible refine HM.out.mono ?_
    rintro e w2 ⟨n, rfl, hk, hq⟩
    have g2 := hk.block (w.heap.size + 1) (by omega) (by rw [HS1.out]; omega)
    rw [HO2.out] at g2
    have g3 := hk.block (w.heap.size + 1 + 1) (by omega) (by rw [HS1.out]; omega)
    rw [HO3.out] at g3
    have f2 := obj_free g2; have f3 := obj_free g3
    obtain ⟨a0, a1, a2, a3⟩ := obj_cells4 g2
    obtain ⟨b0, b1, b2, b3⟩ := obj_cells4 g3
    have HQ := Lib.hid hq; have HG2 := Lib.hid g2; have HG3 := Lib.hid g3; have HK := Lib.hid hk
    have E2 := Ext.refl w2
    clear hq g2 g3 hk HM
    go_upto_region 19 with fail
    have g3_0 := block_set HG3.out 3 (.int .i64 n)
    have g2_0 := (heap_set_ne (g := w.heap.size + 1 + 1) (o := 3) (.int .i64 n) (show w.heap.size + 1 ≠ w.heap.size + 1 + 1 by omega)).trans HG2.out
    have hx_0 := ExtR.set (ExtR.refl w.heap.size w1.heap.size w2) (p := ⟨w.heap.size + 1 + 1, 3, none⟩) (show w.heap.size ≤ w.heap.size + 1 + 1 by omega) (show w.heap.size + 1 + 1 < w1.heap.size by rw [HS1.out]; omega) (.int .i64 n)
    have g3 := g3_0; have g2 := g2_0; have hx := hx_0
    clear a0 a1 a2 a3 b0 b1 b2 b3 f2 f3 E2 HG2 HG3 g3_0 g2_0 hx_0
    generalize World.setCell w2 _ _ = w3 at *
    have g3' : w3.heap[w.heap.size + 1 + 1]? = some (.cells (rcells ⟨0, ⟨#[]⟩, [], n⟩ none 0) 44 (0, 0)) := g3
    clear g3
    obtain ⟨b0, b1, b2, b3⟩ := obj_cells4 g3'
    have f2 := obj_free g2
    obtain ⟨a0, a1, a2, a3⟩ := obj_cells4 g2
    have HX := Lib.hid hx
    have E3 := Ext.refl w3
    clear hx g2 g3'
    go_wp2_with (fail)
    refine bodyPost_ret (v := resval ⟨0, ⟨#[]⟩, [], n⟩ none 0) (by simp [results, Try.results22, go_sem, a0 _ E3, a1 _ E3, a2 _ E3, a3 _ E3, b0 _ E3, b1 _ E3, b2 _ E3, b3 _ E3]) rfl ⟨_, _, _, w1, w2, rfl, he1, by rw [HS1.out]; omega, HQ.out, ?_⟩
    refine HX.out.trans ?_
    repeat (refine ExtR.set ?_ (show w.heap.size ≤ w.heap.size + 1 by omega) (show w.heap.size + 1 < w1.heap.size by rw [HS1.out]; omega) _)
    exact ExtR.refl _ _ _
  · rw [k3] at c0
    have HM := Lib.hid (H3.out k3 w1 he1)
    clear H0 H1 H2 H3 H4 H5 H6 H7 H8
    go_upto_region 8 with fail
    go_wp2_with fail
    with_reducible refine HM.out.mono ?_
    rintro e w2 ⟨m, n, rfl, hk, hq⟩
    have g2 := hk.block (w.heap.size + 1) (by omega) (by rw [HS1.out]; omega)
    rw [HO2.out] at g2
    have g3 := hk.block (w.heap.size + 1 + 1) (by omega) (by rw [HS1.out]; omega)
    rw [HO3.out] at g3
    have f2 := obj_free g2; have f3 := obj_free g3
    obtain ⟨a0, a1, a2, a3⟩ := obj_cells4 g2
    obtain ⟨b0, b1, b2, b3⟩ := obj_cells4 g3
    have HQ := Lib.hid hq; have HG2 := Lib.hid g2; have HG3 := Lib.hid g3; have HK := Lib.hid hk
    have E2 := Ext.refl w2
    clear hq g2 g3 hk HM
    go_upto_region 19 with fail
    have g3_0 := block_set HG3.out 0 (.int .i64 m)
    have g2_0 := (heap_set_ne (g := w.heap.size + 1 + 1) (o := 0) (.int .i64 m) (show w.heap.size + 1 ≠ w.heap.size + 1 + 1 by omega)).trans HG2.out
    have hx_0 := ExtR.set (ExtR.refl w.heap.size w1.heap.size w2) (p := ⟨w.heap.size + 1 + 1, 0, none⟩) (show w.heap.size ≤ w.heap.size + 1 + 1 by omega) (show w.heap.size + 1 + 1 < w1.heap.size by rw [HS1.out]; omega) (.int .i64 m)
    have g3_1 := block_set g3_0 3 (.int .i64 n)
    have g2_1 := (heap_set_ne (g := w.heap.size + 1 + 1) (o := 3) (.int .i64 n) (show w.heap.size + 1 ≠ w.heap.size + 1 + 1 by omega)).trans g2_0
    have hx_1 := ExtR.set hx_0 (p := ⟨w.heap.size + 1 + 1, 3, none⟩) (show w.heap.size ≤ w.heap.size + 1 + 1 by omega) (show w.heap.size + 1 + 1 < w1.heap.size by rw [HS1.out]; omega) (.int .i64 n)
    have g3 := g3_1; have g2 := g2_1; have hx := hx_1
    clear a0 a1 a2 a3 b0 b1 b2 b3 f2 f3 E2 HG2 HG3 g3_0 g2_0 hx_0 g3_1 g2_1 hx_1
    generalize World.setCell (World.setCell w2 _ _) _ _ = w3 at *
    have g3' : w3.heap[w.heap.size + 1 + 1]? = some (.cells (rcells ⟨m, ⟨#[]⟩, [], n⟩ none 0) 44 (0, 0)) := g3
    clear g3
    obtain ⟨b0, b1, b2, b3⟩ := obj_cells4 g3'
    have f2 := obj_free g2
    obtain ⟨a0, a1, a2, a3⟩ := obj_cells4 g2
    have HX := Lib.hid hx
    have E3 := Ext.refl w3
    clear hx g2 g3'
    go_wp2_with (fail)
    refine bodyPost_ret (v := resval ⟨m, ⟨#[]⟩, [], n⟩ none 0) (by simp [results, Try.results22, go_sem, a0 _ E3, a1 _ E3, a2 _ E3, a3 _ E3, b0 _ E3, b1 _ E3, b2 _ E3, b3 _ E3]) rfl ⟨_, _, _, w1, w2, rfl, he1, by rw [HS1.out]; omega, HQ.out, ?_⟩
    refine HX.out.trans ?_
    repeat (refine ExtR.set ?_ (show w.heap.size ≤ w.heap.size + 1 by omega) (show w.heap.size + 1 < w1.heap.size by rw [HS1.out]; omega) _)
    exact ExtR.refl _ _ _
  · rw [k4] at c0
    have HM := Lib.hid (H4.out k4 w1 he1)
    clear H0 H1 H2 H3 H4 H5 H6 H7 H8
    go_upto_region 10 with fail
    go_wp2_with fail
    with_reducible refine HM.out.mono ?_
    rintro e w2 ⟨m, n, rfl, hk, hq⟩
    have g2 := hk.block (w.heap.size + 1) (by omega) (by rw [HS1.out]; omega)
    rw [HO2.out] at g2
    have g3 := hk.block (w.heap.size + 1 + 1) (by omega) (by rw [HS1.out]; omega)
    rw [HO3.out] at g3
    have f2 := obj_free g2; have f3 := obj_free g3
    obtain ⟨a0, a1, a2, a3⟩ := obj_cells4 g2
    obtain ⟨b0, b1, b2, b3⟩ := obj_cells4 g3
    have HQ := Lib.hid hq; have HG2 := Lib.hid g2; have HG3 := Lib.hid g3; have HK := Lib.hid hk
    have E2 := Ext.refl w2
    clear hq g2 g3 hk HM
    go_upto_region 19 with fail
    have g3_0 := block_set HG3.out 0 (.int .i64 m)
    have g2_0 := (heap_set_ne (g := w.heap.size + 1 + 1) (o := 0) (.int .i64 m) (show w.heap.size + 1 ≠ w.heap.size + 1 + 1 by omega)).trans HG2.out
    have hx_0 := ExtR.set (ExtR.refl w.heap.size w1.heap.size w2) (p := ⟨w.heap.size + 1 + 1, 0, none⟩) (show w.heap.size ≤ w.heap.size + 1 + 1 by omega) (show w.heap.size + 1 + 1 < w1.heap.size by rw [HS1.out]; omega) (.int .i64 m)
    have g3_1 := block_set g3_0 3 (.int .i64 n)
    have g2_1 := (heap_set_ne (g := w.heap.size + 1 + 1) (o := 3) (.int .i64 n) (show w.heap.size + 1 ≠ w.heap.size + 1 + 1 by omega)).trans g2_0
    have hx_1 := ExtR.set hx_0 (p := ⟨w.heap.size + 1 + 1, 3, none⟩) (show w.heap.size ≤ w.heap.size + 1 + 1 by omega) (show w.heap.size + 1 + 1 < w1.heap.size by rw [HS1.out]; omega) (.int .i64 n)
    have g3 := g3_1; have g2 := g2_1; have hx := hx_1
    clear a0 a1 a2 a3 b0 b1 b2 b3 f2 f3 E2 HG2 HG3 g3_0 g2_0 hx_0 g3_1 g2_1 hx_1
    generalize World.setCell (World.setCell w2 _ _) _ _ = w3 at *
    have g3' : w3.heap[w.heap.size + 1 + 1]? = some (.cells (rcells ⟨m, ⟨#[]⟩, [], n⟩ none 0) 44 (0, 0)) := g3
    clear g3
    obtain ⟨b0, b1, b2, b3⟩ := obj_cells4 g3'
    have f2 := obj_free g2
    obtain ⟨a0, a1, a2, a3⟩ := obj_cells4 g2
    have HX := Lib.hid hx
    have E3 := Ext.refl w3
    clear hx g2 g3'
    go_wp2_with (fail)
    refine bodyPost_ret (v := resval ⟨m, ⟨#[]⟩, [], n⟩ none 0) (by simp [results, Try.results22, go_sem, a0 _ E3, a1 _ E3, a2 _ E3, a3 _ E3, b0 _ E3, b1 _ E3, b2 _ E3, b3 _ E3]) rfl ⟨_, _, _, w1, w2, rfl, he1, by rw [HS1.out]; omega, HQ.out, ?_⟩
    refine HX.out.trans ?_
    repeat (refine ExtR.set ?_ (show w.heap.size ≤ w.heap.size + 1 by omega) (show w.heap.size + 1 < w1.heap.size by rw [HS1.out]; omega) _)
    exact ExtR.refl _ _ _
  · rw [k5] at c0
    have HM := Lib.hid (H5.out k5 w1 he1)
    clear H0 H1 H2 H3 H4 H5 H6 H7 H8
    go_upto_region 12 with fail
    go_wp2_with fail
    with_reducible refine HM.out.mono ?_
    rintro e w2 ⟨m, n, rfl, hk, hq⟩
    have g2 := hk.block (w.heap.size + 1) (by omega) (by rw [HS1.out]; omega)
    rw [HO2.out] at g2
    have g3 := hk.block (w.heap.size + 1 + 1) (by omega) (by rw [HS1.out]; omega)
    rw [HO3.out] at g3
    have f2 := obj_free g2; have f3 := obj_free g3
    obtain ⟨a0, a1, a2, a3⟩ := obj_cells4 g2
    obtain ⟨b0, b1, b2, b3⟩ := obj_cells4 g3
    have HQ := Lib.hid hq; have HG2 := Lib.hid g2; have HG3 := Lib.hid g3; have HK := Lib.hid hk
    have E2 := Ext.refl w2
    clear hq g2 g3 hk HM
    go_upto_region 19 with fail
    have g3_0 := block_set HG3.out 1 (.string m)
    have g2_0 := (heap_set_ne (g := w.heap.size + 1 + 1) (o := 1) (.string m) (show w.heap.size + 1 ≠ w.heap.size + 1 + 1 by omega)).trans HG2.out
    have hx_0 := ExtR.set (ExtR.refl w.heap.size w1.heap.size w2) (p := ⟨w.heap.size + 1 + 1, 1, none⟩) (show w.heap.size ≤ w.heap.size + 1 + 1 by omega) (show w.heap.size + 1 + 1 < w1.heap.size by rw [HS1.out]; omega) (.string m)
    have g3_1 := block_set g3_0 3 (.int .i64 n)
    have g2_1 := (heap_set_ne (g := w.heap.size + 1 + 1) (o := 3) (.int .i64 n) (show w.heap.size + 1 ≠ w.heap.size + 1 + 1 by omega)).trans g2_0
    have hx_1 := ExtR.set hx_0 (p := ⟨w.heap.size + 1 + 1, 3, none⟩) (show w.heap.size ≤ w.heap.size + 1 + 1 by omega) (show w.heap.size + 1 + 1 < w1.heap.size by rw [HS1.out]; omega) (.int .i64 n)
    have g3 := g3_1; have g2 := g2_1; have hx := hx_1
    clear a0 a1 a2 a3 b0 b1 b2 b3 f2 f3 E2 HG2 HG3 g3_0 g2_0 hx_0 g3_1 g2_1 hx_1
    generalize World.setCell (World.setCell w2 _ _) _ _ = w3 at *
    have g3' : w3.heap[w.heap.size + 1 + 1]? = some (.cells (rcells ⟨0, m, [], n⟩ none 0) 44 (0, 0)) := g3
    clear g3
    obtain ⟨b0, b1, b2, b3⟩ := obj_cells4 g3'
    have f2 := obj_free g2
    obtain ⟨a0, a1, a2, a3⟩ := obj_cells4 g2
    have HX := Lib.hid hx
    have E3 := Ext.refl w3
    clear hx g2 g3'
    go_wp2_with (fail)
    refine bodyPost_ret (v := resval ⟨0, m, [], n⟩ none 0) (by simp [results, Try.results22, go_sem, a0 _ E3, a1 _ E3, a2 _ E3, a3 _ E3, b0 _ E3, b1 _ E3, b2 _ E3, b3 _ E3]) rfl ⟨_, _, _, w1, w2, rfl, he1, by rw [HS1.out]; omega, HQ.out, ?_⟩
    refine HX.out.trans ?_
    repeat (refine ExtR.set ?_ (show w.heap.size ≤ w.heap.size + 1 by omega) (show w.heap.size + 1 < w1.heap.size by rw [HS1.out]; omega) _)
    exact ExtR.refl _ _ _
  · rw [k6] at c0
    have HM := Lib.hid (H6.out k6 w1 he1)
    clear H0 H1 H2 H3 H4 H5 H6 H7 H8
    go_upto_region 14 with fail
    go_wp2_with fail
    with_reducible refine HM.out.mono ?_
    rintro e w2 ⟨m, n, la, lc, rfl, hk, hq⟩
    have g2 := hk.block (w.heap.size + 1) (by omega) (by rw [HS1.out]; omega)
    rw [HO2.out] at g2
    have g3 := hk.block (w.heap.size + 1 + 1) (by omega) (by rw [HS1.out]; omega)
    rw [HO3.out] at g3
    have f2 := obj_free g2; have f3 := obj_free g3
    obtain ⟨a0, a1, a2, a3⟩ := obj_cells4 g2
    obtain ⟨b0, b1, b2, b3⟩ := obj_cells4 g3
    have HQ := Lib.hid hq; have HG2 := Lib.hid g2; have HG3 := Lib.hid g3; have HK := Lib.hid hk
    have E2 := Ext.refl w2
    clear hq g2 g3 hk HM
    go_upto_region 19 with fail
    have g3_0 := block_set HG3.out 2 (.slice la m.length lc)
    have g2_0 := (heap_set_ne (g := w.heap.size + 1 + 1) (o := 2) (.slice la m.length lc) (show w.heap.size + 1 ≠ w.heap.size + 1 + 1 by omega)).trans HG2.out
    have hx_0 := ExtR.set (ExtR.refl w.heap.size w1.heap.size w2) (p := ⟨w.heap.size + 1 + 1, 2, none⟩) (show w.heap.size ≤ w.heap.size + 1 + 1 by omega) (show w.heap.size + 1 + 1 < w1.heap.size by rw [HS1.out]; omega) (.slice la m.length lc)
    have g3_1 := block_set g3_0 3 (.int .i64 n)
    have g2_1 := (heap_set_ne (g := w.heap.size + 1 + 1) (o := 3) (.int .i64 n) (show w.heap.size + 1 ≠ w.heap.size + 1 + 1 by omega)).trans g2_0
    have hx_1 := ExtR.set hx_0 (p := ⟨w.heap.size + 1 + 1, 3, none⟩) (show w.heap.size ≤ w.heap.size + 1 + 1 by omega) (show w.heap.size + 1 + 1 < w1.heap.size by rw [HS1.out]; omega) (.int .i64 n)
    have g3 := g3_1; have g2 := g2_1; have hx := hx_1
    clear a0 a1 a2 a3 b0 b1 b2 b3 f2 f3 E2 HG2 HG3 g3_0 g2_0 hx_0 g3_1 g2_1 hx_1
    generalize World.setCell (World.setCell w2 _ _) _ _ = w3 at *
    have g3' : w3.heap[w.heap.size + 1 + 1]? = some (.cells (rcells ⟨0, ⟨#[]⟩, m, n⟩ la lc) 44 (0, 0)) := g3
    clear g3
    obtain ⟨b0, b1, b2, b3⟩ := obj_cells4 g3'
    have f2 := obj_free g2
    obtain ⟨a0, a1, a2, a3⟩ := obj_cells4 g2
    have HX := Lib.hid hx
    have E3 := Ext.refl w3
    clear hx g2 g3'
    go_wp2_with (fail)
    refine bodyPost_ret (v := resval ⟨0, ⟨#[]⟩, m, n⟩ la lc) (by simp [results, Try.results22, go_sem, a0 _ E3, a1 _ E3, a2 _ E3, a3 _ E3, b0 _ E3, b1 _ E3, b2 _ E3, b3 _ E3]) rfl ⟨_, _, _, w1, w2, rfl, he1, by rw [HS1.out]; omega, HQ.out, ?_⟩
    refine HX.out.trans ?_
    repeat (refine ExtR.set ?_ (show w.heap.size ≤ w.heap.size + 1 by omega) (show w.heap.size + 1 < w1.heap.size by rw [HS1.out]; omega) _)
    exact ExtR.refl _ _ _
  · rw [k7] at c0
    have HM := Lib.hid (H7.out k7 w1 he1)
    clear H0 H1 H2 H3 H4 H5 H6 H7 H8
    go_upto_region 16 with fail
    go_wp2_with fail
    with_reducible refine HM.out.mono ?_
    rintro e w2 ⟨n, rfl, hk, hq⟩
    have g2 := hk.block (w.heap.size + 1) (by omega) (by rw [HS1.out]; omega)
    rw [HO2.out] at g2
    have g3 := hk.block (w.heap.size + 1 + 1) (by omega) (by rw [HS1.out]; omega)
    rw [HO3.out] at g3
    have f2 := obj_free g2; have f3 := obj_free g3
    obtain ⟨a0, a1, a2, a3⟩ := obj_cells4 g2
    obtain ⟨b0, b1, b2, b3⟩ := obj_cells4 g3
    have HQ := Lib.hid hq; have HG2 := Lib.hid g2; have HG3 := Lib.hid g3; have HK := Lib.hid hk
    have E2 := Ext.refl w2
    clear hq g2 g3 hk HM
    go_upto_region 19 with fail
    have g3_0 := block_set HG3.out 3 (.int .i64 n)
    have g2_0 := (heap_set_ne (g := w.heap.size + 1 + 1) (o := 3) (.int .i64 n) (show w.heap.size + 1 ≠ w.heap.size + 1 + 1 by omega)).trans HG2.out
    have hx_0 := ExtR.set (ExtR.refl w.heap.size w1.heap.size w2) (p := ⟨w.heap.size + 1 + 1, 3, none⟩) (show w.heap.size ≤ w.heap.size + 1 + 1 by omega) (show w.heap.size + 1 + 1 < w1.heap.size by rw [HS1.out]; omega) (.int .i64 n)
    have g3 := g3_0; have g2 := g2_0; have hx := hx_0
    clear a0 a1 a2 a3 b0 b1 b2 b3 f2 f3 E2 HG2 HG3 g3_0 g2_0 hx_0
    generalize World.setCell w2 _ _ = w3 at *
    have g3' : w3.heap[w.heap.size + 1 + 1]? = some (.cells (rcells ⟨0, ⟨#[]⟩, [], n⟩ none 0) 44 (0, 0)) := g3
    clear g3
    obtain ⟨b0, b1, b2, b3⟩ := obj_cells4 g3'
    have f2 := obj_free g2
    obtain ⟨a0, a1, a2, a3⟩ := obj_cells4 g2
    have HX := Lib.hid hx
    have E3 := Ext.refl w3
    clear hx g2 g3'
    go_wp2_with (fail)
    refine bodyPost_ret (v := resval ⟨0, ⟨#[]⟩, [], n⟩ none 0) (by simp [results, Try.results22, go_sem, a0 _ E3, a1 _ E3, a2 _ E3, a3 _ E3, b0 _ E3, b1 _ E3, b2 _ E3, b3 _ E3]) rfl ⟨_, _, _, w1, w2, rfl, he1, by rw [HS1.out]; omega, HQ.out, ?_⟩
    refine HX.out.trans ?_
    repeat (refine ExtR.set ?_ (show w.heap.size ≤ w.heap.size + 1 by omega) (show w.heap.size + 1 < w1.heap.size by rw [HS1.out]; omega) _)
    exact ExtR.refl _ _ _
  · rw [k8] at c0
    have HM := Lib.hid (H8.out k8 w1 he1)
    clear H0 H1 H2 H3 H4 H5 H6 H7 H8
    go_upto_region 18 with fail
    go_wp2_with fail
    with_reducible refine HM.out.mono ?_
    rintro e w2 ⟨m, n, rfl, hk, hq⟩
    have g2 := hk.block (w.heap.size + 1) (by omega) (by rw [HS1.out]; omega)
    rw [HO2.out] at g2
    have g3 := hk.block (w.heap.size + 1 + 1) (by omega) (by rw [HS1.out]; omega)
    rw [HO3.out] at g3
    have f2 := obj_free g2; have f3 := obj_free g3
    obtain ⟨a0, a1, a2, a3⟩ := obj_cells4 g2
    obtain ⟨b0, b1, b2, b3⟩ := obj_cells4 g3
    have HQ := Lib.hid hq; have HG2 := Lib.hid g2; have HG3 := Lib.hid g3; have HK := Lib.hid hk
    have E2 := Ext.refl w2
    clear hq g2 g3 hk HM
    go_upto_region 19 with fail
    have g3_0 := block_set HG3.out 1 (.string m)
    have g2_0 := (heap_set_ne (g := w.heap.size + 1 + 1) (o := 1) (.string m) (show w.heap.size + 1 ≠ w.heap.size + 1 + 1 by omega)).trans HG2.out
    have hx_0 := ExtR.set (ExtR.refl w.heap.size w1.heap.size w2) (p := ⟨w.heap.size + 1 + 1, 1, none⟩) (show w.heap.size ≤ w.heap.size + 1 + 1 by omega) (show w.heap.size + 1 + 1 < w1.heap.size by rw [HS1.out]; omega) (.string m)
    have g3_1 := block_set g3_0 3 (.int .i64 n)
    have g2_1 := (heap_set_ne (g := w.heap.size + 1 + 1) (o := 3) (.int .i64 n) (show w.heap.size + 1 ≠ w.heap.size + 1 + 1 by omega)).trans g2_0
    have hx_1 := ExtR.set hx_0 (p := ⟨w.heap.size + 1 + 1, 3, none⟩) (show w.heap.size ≤ w.heap.size + 1 + 1 by omega) (show w.heap.size + 1 + 1 < w1.heap.size by rw [HS1.out]; omega) (.int .i64 n)
    have g3 := g3_1; have g2 := g2_1; have hx := hx_1
    clear a0 a1 a2 a3 b0 b1 b2 b3 f2 f3 E2 HG2 HG3 g3_0 g2_0 hx_0 g3_1 g2_1 hx_1
    generalize World.setCell (World.setCell w2 _ _) _ _ = w3 at *
    have g3' : w3.heap[w.heap.size + 1 + 1]? = some (.cells (rcells ⟨0, m, [], n⟩ none 0) 44 (0, 0)) := g3
    clear g3
    obtain ⟨b0, b1, b2, b3⟩ := obj_cells4 g3'
    have f2 := obj_free g2
    obtain ⟨a0, a1, a2, a3⟩ := obj_cells4 g2
    have HX := Lib.hid hx
    have E3 := Ext.refl w3
    clear hx g2 g3'
    go_wp2_with (fail)
    refine bodyPost_ret (v := resval ⟨0, m, [], n⟩ none 0) (by simp [results, Try.results22, go_sem, a0 _ E3, a1 _ E3, a2 _ E3, a3 _ E3, b0 _ E3, b1 _ E3, b2 _ E3, b3 _ E3]) rfl ⟨_, _, _, w1, w2, rfl, he1, by rw [HS1.out]; omega, HQ.out, ?_⟩
    refine HX.out.trans ?_
    repeat (refine ExtR.set ?_ (show w.heap.size ≤ w.heap.size + 1 by omega) (show w.heap.size + 1 < w1.heap.size by rw [HS1.out]; omega) _)
    exact ExtR.refl _ _ _
  · have HQ := Lib.hid (H0.out k0 w1 he1)
    have t1 : (o.kind == 1) = false := by have := k0 1 (by omega) (by omega); simpa using this
    have t2 : (o.kind == 2) = false := by have := k0 2 (by omega) (by omega); simpa using this
    have t3 : (o.kind == 3) = false := by have := k0 3 (by omega) (by omega); simpa using this
    have t4 : (o.kind == 4) = false := by have := k0 4 (by omega) (by omega); simpa using this
    have t5 : (o.kind == 5) = false := by have := k0 5 (by omega) (by omega); simpa using this
    have t6 : (o.kind == 6) = false := by have := k0 6 (by omega) (by omega); simpa using this
    have t7 : (o.kind == 7) = false := by have := k0 7 (by omega) (by omega); simpa using this
    have t8 : (o.kind == 8) = false := by have := k0 8 (by omega) (by omega); simpa using this
    clear H0 H1 H2 H3 H4 H5 H6 H7 H8 k0
    go_upto_region 19 with fail
    obtain ⟨w3, hw3⟩ : ∃ w3, w3 = w1 := ⟨_, rfl⟩
    have g2 := HO2.out; have g3 := HO3.out
    have f2 := obj_free g2
    obtain ⟨a0, a1, a2, a3⟩ := obj_cells4 g2
    obtain ⟨b0, b1, b2, b3⟩ := obj_cells4 g3
    clear g2 g3
    go_wp2_with (fail)
    refine bodyPost_ret (v := resval ⟨0, ⟨#[]⟩, [], 0⟩ none 0) (by simp [results, Try.results22, go_sem, a0 _ E1, a1 _ E1, a2 _ E1, a3 _ E1, b0 _ E1, b1 _ E1, b2 _ E1, b3 _ E1]) rfl ⟨_, _, _, w1, w1, rfl, he1, by rw [HS1.out]; omega, HQ.out, ?_⟩
    repeat (refine ExtR.set ?_ (show w.heap.size ≤ w.heap.size + 1 by omega) (show w.heap.size + 1 < w1.heap.size by rw [HS1.out]; omega) _)
    exact ExtR.refl _ _ _
end Go.Proofs.Ytlahejakcgoheaa
