/-
  Words and regions of VaultPlays.
-/
import Derived.Test.YtlahejakcgoheaaSC
import Derived.Test.YtlahejakcgoheaaLS
import Derived.Test.YtlahejakcgoheaaLW
set_option linter.unusedVariables false
set_option linter.unusedSimpArgs false
namespace Go.Proofs.Ytlahejakcgoheaa
open Go.RowKit
def tup (v : Value) (i : Nat) : Value := match v with | .tuple cs => cs.getD i undef | _ => undef
def cellsOf (v : Value) : Array Value := match v with | .agg cs => cs | _ => #[]
/-- Entries do not lie in a block of few cells. -/
theorem Ents.off {w w' : World} {X : Nat} {cs : Array Value} {T : TypeId} {fz : Nat × Nat} {a : Option Addr} {xs : List En} (h : Ents w a xs) (hX : w.heap[X]? = some (.cells cs T fz)) (hs : cs.size ≤ 5) (hk : ∀ k, k ≠ X → w'.heap[k]? = w.heap[k]?) : Ents w' a xs := by
  rcases h with h | ⟨b, o, h1, h2⟩
  · exact .inl h
  · refine .inr ⟨b, o, h1, fun i hi => ?_⟩
    have hc := h2 i hi
    have hb : b ≠ X := by
      rintro rfl
      have := hc.2.2.2.2.2
      simp only [World.cell?, hX, Option.isSome_none, Bool.false_eq_true, if_false] at this
      rw [Array.getElem?_eq_none (by omega)] at this
      cases this
    have e := fun j => cell_off hk (p := ⟨b, j, none⟩) hb
    obtain ⟨c0, c1, c2, c3, c4, c5⟩ := hc
    exact ⟨(e _).trans c0, (e _).trans c1, (e _).trans c2, (e _).trans c3, (e _).trans c4, (e _).trans c5⟩
theorem RvAt.off {w w' : World} {X : Nat} {S : PV} {a : Option Addr} {xs : List Lv} (h : RvAt w S a xs) (hX : NoU8 w X) (hk : ∀ k, k ≠ X → w'.heap[k]? = w.heap[k]?) : RvAt w' S a xs := ⟨h.lk.off hX hk, h.ok, h.ch, h.good⟩
theorem set4_off (w : World) (X : Nat) (v0 v1 v2 v3 : Value) : ∀ k, k ≠ X → ((((w.setCell ⟨X, 0, none⟩ v0).setCell ⟨X, 1, none⟩ v1).setCell ⟨X, 2, none⟩ v2).setCell ⟨X, 3, none⟩ v3).heap[k]? = w.heap[k]? := fun k q => (((heap_set_ne _ q).trans (heap_set_ne _ q)).trans (heap_set_ne _ q)).trans (heap_set_ne _ q)
theorem set4_blk {w : World} {X : Nat} {u0 u1 u2 u3 v0 v1 v2 v3 : Value} {T : TypeId} {fz : Nat × Nat} (h : w.heap[X]? = some (.cells #[u0, u1, u2, u3] T fz)) : ((((w.setCell ⟨X, 0, none⟩ v0).setCell ⟨X, 1, none⟩ v1).setCell ⟨X, 2, none⟩ v2).setCell ⟨X, 3, none⟩ v3).heap[X]? = some (.cells #[v0, v1, v2, v3] T fz) := by
  have := block_set (block_set (block_set (block_set h 0 v0) 1 v1) 2 v2) 3 v3
  simpa using this
theorem set4_ext {w0 w : World} (h : Ext w0 w) {X : Nat} (hX : w0.heap.size ≤ X) (v0 v1 v2 v3 : Value) : Ext w0 ((((w.setCell ⟨X, 0, none⟩ v0).setCell ⟨X, 1, none⟩ v1).setCell ⟨X, 2, none⟩ v2).setCell ⟨X, 3, none⟩ v3) :=
  (((h.set (p := ⟨X, 0, none⟩) hX _).set (p := ⟨X, 1, none⟩) hX _).set (p := ⟨X, 2, none⟩) hX _).set (p := ⟨X, 3, none⟩) hX _
/-- What holds between the operations of the region in which the reference is told. -/
structure J8 (wr wz : World) (S : PV) (o : Op) (al : Option Addr) (xs : List Lv) (l5 l6 l7 l8 l9 l10 l11 l12 : Bool) (v5 v6 v7 v8 v9 v10 : Value) : Prop where
  x : Ext wr wz
  a5 : l5 = true → ∃ a c ys la lc, v5 = .tuple #[rv false a ys.length c, resval (playR S o) la lc] ∧ RvAt wz (playS S o) a ys ∧ Grow wr al xs a ys ∧ Ents wz la (playR S o).list
  a6 : l6 = true → l5 = true ∧ v6 = v5
  a7 : l7 = true → l6 = true ∧ v7 = tup v5 0
  a8 : l8 = true → l6 = true ∧ v8 = tup v5 1
  a9 : l9 = true → ∃ g, v9 = .pointer (some ⟨g, 0, none⟩) ∧ wr.heap.size ≤ g ∧ wz.heap[g]? = some (.cells (bif l11 then cellsOf v7 else #[.bool false, .slice none 0 0]) 40 (0, 0))
  a10 : l10 = true → ∃ g, v10 = .pointer (some ⟨g, 0, none⟩) ∧ wr.heap.size ≤ g ∧ wz.heap[g]? = some (.cells (bif l12 then cellsOf v8 else #[.int .i64 0, .string ⟨#[]⟩, .slice none 0 0, .int .i64 0]) 44 (0, 0))
  e11 : l11 = true → l9 = true ∧ l7 = true
  e12 : l12 = true → l10 = true ∧ l8 = true
section
variable {wr w : World} {S : PV} {o : Op} {al : Option Addr} {xs : List Lv} {l5 l6 l7 l8 l9 l10 l11 l12 : Bool} {v5 v6 v7 v8 v9 v10 : Value}
theorem J8.start (h : Ext wr w) : J8 wr w S o al xs false false false false false false false false v5 v6 v7 v8 v9 v10 :=
  ⟨h, fun e => (by cases e), fun e => (by cases e), fun e => (by cases e), fun e => (by cases e), fun e => (by cases e), fun e => (by cases e), fun e => (by cases e), fun e => (by cases e)⟩
theorem J8.ext {w' : World} (h : J8 wr w S o al xs l5 l6 l7 l8 l9 l10 l11 l12 v5 v6 v7 v8 v9 v10) (e : Ext w w') : J8 wr w' S o al xs l5 l6 l7 l8 l9 l10 l11 l12 v5 v6 v7 v8 v9 v10 := by
  refine ⟨h.x.trans e, fun q => ?_, h.a6, h.a7, h.a8, fun q => ?_, fun q => ?_, h.e11, h.e12⟩
  · obtain ⟨a, c, ys, la, lc, h1, h2, h3, h4⟩ := h.a5 q
    exact ⟨a, c, ys, la, lc, h1, h2.ext e, h3, h4.ext e⟩
  · obtain ⟨g, h1, h2, h3⟩ := h.a9 q
    exact ⟨g, h1, h2, e.block h3⟩
  · obtain ⟨g, h1, h2, h3⟩ := h.a10 q
    exact ⟨g, h1, h2, e.block h3⟩
theorem J8.no5 (h : J8 wr w S o al xs false l6 l7 l8 l9 l10 l11 l12 v5 v6 v7 v8 v9 v10) : l6 = false ∧ l7 = false ∧ l8 = false ∧ l11 = false ∧ l12 = false := by
  have h6 : l6 = false := by cases l6 with | false => rfl | true => have := (h.a6 rfl).1; cases this
  subst h6
  have h7 : l7 = false := by cases l7 with | false => rfl | true => have := (h.a7 rfl).1; cases this
  have h8 : l8 = false := by cases l8 with | false => rfl | true => have := (h.a8 rfl).1; cases this
  subst h7; subst h8
  have h11 : l11 = false := by cases l11 with | false => rfl | true => have := (h.e11 rfl).2; cases this
  have h12 : l12 = false := by cases l12 with | false => rfl | true => have := (h.e12 rfl).2; cases this
  exact ⟨rfl, rfl, rfl, h11, h12⟩
theorem J8.put5 {w' : World} {e : Ending} (h : J8 wr w S o al xs false l6 l7 l8 l9 l10 l11 l12 v5 v6 v7 v8 v9 v10) (hr : RetTold S al xs o w e w') : ∃ v, e = .returned v ∧ J8 wr w' S o al xs true l6 l7 l8 l9 l10 l11 l12 v v6 v7 v8 v9 v10 := by
  obtain ⟨rfl, rfl, rfl, rfl, rfl⟩ := h.no5
  obtain ⟨a, c, ys, la, lc, rfl, h1, h2, h3, h4⟩ := hr
  have h' := h.ext h1
  exact ⟨_, rfl, h'.x, fun _ => ⟨a, c, ys, la, lc, rfl, h2, h4.base h.x, h3⟩, fun e => (by cases e), fun e => (by cases e), fun e => (by cases e), h'.a9, h'.a10, fun e => (by cases e), fun e => (by cases e)⟩
theorem J8.put6 (h : J8 wr w S o al xs true false l7 l8 l9 l10 l11 l12 v5 v6 v7 v8 v9 v10) : J8 wr w S o al xs true true l7 l8 l9 l10 l11 l12 v5 v5 v7 v8 v9 v10 :=
  ⟨h.x, h.a5, fun _ => ⟨rfl, rfl⟩, fun q => ⟨rfl, (h.a7 q).2⟩, fun q => ⟨rfl, (h.a8 q).2⟩, h.a9, h.a10, h.e11, h.e12⟩
theorem J8.put7 (h : J8 wr w S o al xs l5 true false l8 l9 l10 l11 l12 v5 v6 v7 v8 v9 v10) : J8 wr w S o al xs l5 true true l8 l9 l10 l11 l12 v5 v6 (tup v5 0) v8 v9 v10 := by
  have h11 : l11 = false := by cases l11 with | false => rfl | true => have := (h.e11 rfl).2; cases this
  subst h11
  exact ⟨h.x, h.a5, h.a6, fun _ => ⟨rfl, rfl⟩, h.a8, h.a9, h.a10, fun e => (by cases e), h.e12⟩
theorem J8.put8 (h : J8 wr w S o al xs l5 true l7 false l9 l10 l11 l12 v5 v6 v7 v8 v9 v10) : J8 wr w S o al xs l5 true l7 true l9 l10 l11 l12 v5 v6 v7 (tup v5 1) v9 v10 := by
  have h12 : l12 = false := by cases l12 with | false => rfl | true => have := (h.e12 rfl).2; cases this
  subst h12
  exact ⟨h.x, h.a5, h.a6, h.a7, fun _ => ⟨rfl, rfl⟩, h.a9, h.a10, h.e11, fun e => (by cases e)⟩
theorem J8.put9 (h : J8 wr w S o al xs l5 l6 l7 l8 false l10 l11 l12 v5 v6 v7 v8 v9 v10) : J8 wr (w.alloc (.cells #[.bool false, .slice none 0 0] 40)) S o al xs l5 l6 l7 l8 true l10 l11 l12 v5 v6 v7 v8 (.pointer (some ⟨w.heap.size, 0, none⟩)) v10 := by
  have h11 : l11 = false := by cases l11 with | false => rfl | true => have := (h.e11 rfl).1; cases this
  subst h11
  have h' := h.ext ((Ext.refl w).alloc (.cells #[.bool false, .slice none 0 0] 40))
  exact ⟨h'.x, h'.a5, h'.a6, h'.a7, h'.a8, fun _ => ⟨_, rfl, h.x.size, heap_new _ _⟩, h'.a10, fun e => (by cases e), h'.e12⟩
theorem J8.put10 (h : J8 wr w S o al xs l5 l6 l7 l8 l9 false l11 l12 v5 v6 v7 v8 v9 v10) : J8 wr (w.alloc (.cells #[.int .i64 0, .string ⟨#[]⟩, .slice none 0 0, .int .i64 0] 44)) S o al xs l5 l6 l7 l8 l9 true l11 l12 v5 v6 v7 v8 v9 (.pointer (some ⟨w.heap.size, 0, none⟩)) := by
  have h12 : l12 = false := by cases l12 with | false => rfl | true => have := (h.e12 rfl).1; cases this
  subst h12
  have h' := h.ext ((Ext.refl w).alloc (.cells #[.int .i64 0, .string ⟨#[]⟩, .slice none 0 0, .int .i64 0] 44))
  exact ⟨h'.x, h'.a5, h'.a6, h'.a7, h'.a8, h'.a9, fun _ => ⟨_, rfl, h.x.size, heap_new _ _⟩, h'.e11, fun e => (by cases e)⟩
theorem J8.put11 (h : J8 wr w S o al xs l5 l6 true l8 true l10 false l12 v5 v6 v7 v8 v9 v10) : ∃ g a n c, v9 = .pointer (some ⟨g, 0, none⟩) ∧ v7 = rv false a n c ∧ w.heap[g]? = some (.cells #[.bool false, .slice none 0 0] 40 (0, 0)) ∧
    J8 wr ((w.setCell ⟨g, 0, none⟩ (.bool false)).setCell ⟨g, 1, none⟩ (.slice a n c)) S o al xs l5 l6 true l8 true l10 true l12 v5 v6 v7 v8 v9 v10 := by
  obtain ⟨h6, h7⟩ := h.a7 rfl
  obtain ⟨h5, -⟩ := h.a6 h6
  obtain ⟨a, c, ys, la, lc, k1, k2, k3, k4⟩ := h.a5 h5
  obtain ⟨g, g1, g2, g3⟩ := h.a9 rfl
  have hv7 : v7 = rv false a ys.length c := by rw [h7, k1]; rfl
  have g3' : w.heap[g]? = some (.cells #[.bool false, .slice none 0 0] 40 (0, 0)) := g3
  have hk := set2_off w g (.bool false) (.slice a ys.length c)
  refine ⟨g, a, ys.length, c, g1, hv7, g3', set2_ext h.x g2 _ _, fun _ => ⟨a, c, ys, la, lc, k1, k2.off (no8_40 g3') hk, k3, k4.off g3' (by simp) hk⟩, h.a6, h.a7, h.a8, fun _ => ⟨g, g1, g2, ?_⟩, fun q => ?_, fun _ => ⟨rfl, rfl⟩, h.e12⟩
  · rw [hv7]; exact set2_blk g3'
  · obtain ⟨g', q1, q2, q3⟩ := h.a10 q
    have hne : g' ≠ g := by
      rintro rfl
      rw [g3'] at q3
      simp only [Option.some.injEq, Obj.cells.injEq] at q3
      exact absurd q3.2.1 (by decide)
    exact ⟨g', q1, q2, (hk g' hne).trans q3⟩
theorem J8.put12 (h : J8 wr w S o al xs l5 l6 l7 true l9 true l11 false v5 v6 v7 v8 v9 v10) : ∃ g la lc, v10 = .pointer (some ⟨g, 0, none⟩) ∧ v8 = resval (playR S o) la lc ∧ w.heap[g]? = some (.cells #[.int .i64 0, .string ⟨#[]⟩, .slice none 0 0, .int .i64 0] 44 (0, 0)) ∧
    J8 wr ((((w.setCell ⟨g, 0, none⟩ (.int .i64 (playR S o).num)).setCell ⟨g, 1, none⟩ (.string (playR S o).text)).setCell ⟨g, 2, none⟩ (.slice la (playR S o).list.length lc)).setCell ⟨g, 3, none⟩ (.int .i64 (playR S o).err)) S o al xs l5 l6 l7 true l9 true l11 true v5 v6 v7 v8 v9 v10 := by
  obtain ⟨h6, h8⟩ := h.a8 rfl
  obtain ⟨h5, -⟩ := h.a6 h6
  obtain ⟨a, c, ys, la, lc, k1, k2, k3, k4⟩ := h.a5 h5
  obtain ⟨g, g1, g2, g3⟩ := h.a10 rfl
  have hv8 : v8 = resval (playR S o) la lc := by rw [h8, k1]; rfl
  have g3' : w.heap[g]? = some (.cells #[.int .i64 0, .string ⟨#[]⟩, .slice none 0 0, .int .i64 0] 44 (0, 0)) := g3
  have hk := set4_off w g (.int .i64 (playR S o).num) (.string (playR S o).text) (.slice la (playR S o).list.length lc) (.int .i64 (playR S o).err)
  refine ⟨g, la, lc, g1, hv8, g3', set4_ext h.x g2 _ _ _ _, fun _ => ⟨a, c, ys, la, lc, k1, k2.off (no8_44 g3') hk, k3, k4.off g3' (by simp) hk⟩, h.a6, h.a7, h.a8, fun q => ?_, fun _ => ⟨g, g1, g2, ?_⟩, h.e11, fun _ => ⟨rfl, rfl⟩⟩
  · obtain ⟨g', q1, q2, q3⟩ := h.a9 q
    have hne : g' ≠ g := by
      rintro rfl
      rw [g3'] at q3
      simp only [Option.some.injEq, Obj.cells.injEq] at q3
      exact absurd q3.2.1 (by decide)
    exact ⟨g', q1, q2, (hk g' hne).trans q3⟩
  · rw [hv8]; exact set4_blk g3'
end
set_option maxRecDepth 100000 in
set_option maxHeartbeats 4000000 in
theorem l5_8 {x4 ob oo k m co n c : Nat} {al : Option Addr} {S : PV} {x : Op} {xs : List Lv} {wb wr : World} (HB0 : Hid (Ext wb wr)) (hk0 : (0 : Int) ≤ (k : Int)) (hk1 : (k : Int) < (m : Int)) (H4 : Hid (wr.heap[x4]? = some (.cells #[.bool false, .slice al n c] 40 (0, 0)))) (HC : Hid (∀ W, Ext wb W → OpC W ob (oo + k * 9) x)) (HT : Hid (∀ W, Ext wr W → Calls Try.prog 23 #[.agg #[.bool false, .slice al n c], opval x] W (RetTold S al xs x W))) {Q : Exit → Act → World → Prop} (aZ : Act) (hsz : aZ.tmps.size = 100) (o0 : aZ.tmps[0]?.getD undef = .slice (some ⟨ob, oo, none⟩) m co) (o4 : aZ.tmps[4]?.getD undef = .pointer (some ⟨x4, 0, none⟩)) (o5 : aZ.tmps[5]?.getD undef = .int .i64 k)
    (hend : ∀ (vs : Nat → Value) (w9 : World) (ls9 : Nat → Bool), (∀ j : Nat, j < 13 → ls9 j = true) → (J8 wr w9 S x al xs (ls9 5) (ls9 6) (ls9 7) (ls9 8) (ls9 9) (ls9 10) (ls9 11) (ls9 12) (vs 5) (vs 6) (vs 7) (vs 8) (vs 9) (vs 10)) → (vs 0 = .agg #[.bool false, .slice al n c]) → (vs 1 = .slice (some ⟨ob, oo, none⟩) m co) → (vs 2 = .int .i64 k) → (vs 3 = .pointer (some ⟨ob, oo + k * 9, none⟩)) → (vs 4 = opval x) → (True) → (True) → (True) → (True) → (True) → (True) → Q .normal (((((((((((aZ.put (some 32) (vs 0)).put (some 33) (vs 1)).put (some 34) (vs 2)).put (some 35) (vs 3)).put (some 36) (vs 4)).put (some 37) (vs 5)).put (some 31) (vs 6)).put (some 38) (vs 7)).put (some 39) (vs 8)).put (some 7) (vs 9)).put (some 8) (vs 10)) w9) : (regOf Try.f5 8).wp Try.prog Q aZ wr := by
  conv => arg 2; whnf
  refine wp_region_said3 (fun i v wz => match i with
    | 0 => v = .agg #[.bool false, .slice al n c]
    | 1 => v = .slice (some ⟨ob, oo, none⟩) m co
    | 2 => v = .int .i64 k
    | 3 => v = .pointer (some ⟨ob, oo + k * 9, none⟩)
    | 4 => v = opval x
    | 5 => True
    | 6 => True
    | 7 => True
    | 8 => True
    | 9 => True
    | 10 => True
    | 11 => True
    | _ => True) (fun ls vs wz => J8 wr wz S x al xs (ls 5) (ls 6) (ls 7) (ls 8) (ls 9) (ls 10) (ls 11) (ls 12) (vs 5) (vs 6) (vs 7) (vs 8) (vs 9) (vs 10)) (by kernel_rfl) (by kernel_rfl) (by rw [hsz]; kernel_rfl) ?_ ?_ ?_
  · exact J8.start (Ext.refl _).drew
  · refine ⟨?_, ?_, ?_, ?_, ?_, ?_, ?_, ?_, ?_, ?_, ?_, ?_, ?_, trivial⟩
    · intro ls vs a w1 hi hJ hold hdep K hK
      have q4 : a.tmps[4]?.getD undef = .pointer (some ⟨x4, 0, none⟩) := (hold 4 (by kernel_rfl)).trans o4
      rw [if_pos (by rfl)]
      clear hold hdep hend o0 o4 o5
      have HJ := Lib.hid hJ
      clear hJ
      obtain ⟨z0, z1⟩ := obj_cells2 (HJ.out.x.block H4.out)
      have E1 := Ext.refl w1
      go_simp
      exact hK _ _ (fun _ _ _ h => h) HJ.out rfl
    · intro ls vs a w1 hi hJ hold hdep K hK
      have q0 : a.tmps[0]?.getD undef = .slice (some ⟨ob, oo, none⟩) m co := (hold 0 (by kernel_rfl)).trans o0
      rw [if_pos (by rfl)]
      clear hold hdep hend o0 o4 o5
      have HJ := Lib.hid hJ
      clear hJ
      go_simp
      exact hK _ _ (fun _ _ _ h => h) HJ.out rfl
    · intro ls vs a w1 hi hJ hold hdep K hK
      have q5 : a.tmps[5]?.getD undef = .int .i64 k := (hold 5 (by kernel_rfl)).trans o5
      rw [if_pos (by rfl)]
      clear hold hdep hend o0 o4 o5
      have HJ := Lib.hid hJ
      clear hJ
      go_simp
      exact hK _ _ (fun _ _ _ h => h) HJ.out rfl
    · intro ls vs a w1 hi hJ hold hdep K hK
      have q33 : a.tmps[33]?.getD undef = .slice (some ⟨ob, oo, none⟩) m co := (hdep 1 33 (by kernel_rfl) (by kernel_rfl)).2.1.trans (hdep 1 33 (by kernel_rfl) (by kernel_rfl)).2.2
      have q34 : a.tmps[34]?.getD undef = .int .i64 k := (hdep 2 34 (by kernel_rfl) (by kernel_rfl)).2.1.trans (hdep 2 34 (by kernel_rfl) (by kernel_rfl)).2.2
      rw [if_pos (by rfl)]
      clear hold hdep hend o0 o4 o5
      have HJ := Lib.hid hJ
      clear hJ
      go_simp
      exact hK _ _ (fun _ _ _ h => h) HJ.out rfl
    · intro ls vs a w1 hi hJ hold hdep K hK
      have q35 : a.tmps[35]?.getD undef = .pointer (some ⟨ob, oo + k * 9, none⟩) := (hdep 3 35 (by kernel_rfl) (by kernel_rfl)).2.1.trans (hdep 3 35 (by kernel_rfl) (by kernel_rfl)).2.2
      rw [if_pos (by rfl)]
      clear hold hdep hend o0 o4 o5
      have HJ := Lib.hid hJ
      clear hJ
      obtain ⟨x0, x1, x2, x3, x4, x5, x6, x7, x8⟩ := HC.out _ (HB0.out.trans HJ.out.x)
      go_simp
      exact hK _ _ (fun _ _ _ h => h) HJ.out rfl
    · intro ls vs a w1 hi hJ hold hdep K hK
      have q32 : a.tmps[32]?.getD undef = .agg #[.bool false, .slice al n c] := (hdep 0 32 (by kernel_rfl) (by kernel_rfl)).2.1.trans (hdep 0 32 (by kernel_rfl) (by kernel_rfl)).2.2
      have q36 : a.tmps[36]?.getD undef = opval x := (hdep 4 36 (by kernel_rfl) (by kernel_rfl)).2.1.trans (hdep 4 36 (by kernel_rfl) (by kernel_rfl)).2.2
      rw [if_pos (by rfl)]
      clear hold hdep hend o0 o4 o5
      have HJ := Lib.hid hJ
      clear hJ
      have j1 := HJ.out
      have hi5 : ls 5 = false := hi
      rw [hi5] at j1
      have hx := HJ.out.x
      go_simp
      go_at_call 23
      (with_reducible refine (HT.out _ hx).mono ?_); rintro e w20 hr
      obtain ⟨v, rfl, hj⟩ := j1.put5 hr
      exact hK _ _ (fun _ _ _ h => h) hj trivial
    · intro ls vs a w1 hi hJ hold hdep K hK
      obtain ⟨hl5, q37, p37⟩ := hdep 5 37 (by kernel_rfl) (by kernel_rfl)
      rw [if_pos (by rfl)]
      clear hold hdep hend o0 o4 o5
      have HJ := Lib.hid hJ
      clear hJ
      have j1 := HJ.out
      have hi6 : ls 6 = false := hi
      rw [hl5, hi6] at j1
      go_simp
      refine hK _ _ (fun _ _ _ h => h) ?_ trivial
      show J8 wr _ S x al xs (ls 5) true (ls 7) (ls 8) (ls 9) (ls 10) (ls 11) (ls 12) (vs 5) (vs 5) (vs 7) (vs 8) (vs 9) (vs 10)
      rw [hl5]; exact j1.put6
    · intro ls vs a w1 hi hJ hold hdep K hK
      obtain ⟨hl6, q31, p31⟩ := hdep 6 31 (by kernel_rfl) (by kernel_rfl)
      rw [if_pos (by rfl)]
      clear hold hdep hend o0 o4 o5
      have HJ := Lib.hid hJ
      clear hJ
      have j1 := HJ.out
      have hi7 : ls 7 = false := hi
      rw [hl6, hi7] at j1
      obtain ⟨k5, k6⟩ := j1.a6 rfl
      obtain ⟨ra, rc, ys, la, lc, k7, -⟩ := j1.a5 k5
      rw [k6, k7] at q31
      go_simp
      refine hK _ _ (fun _ _ _ h => h) ?_ trivial
      have hj := j1.put7
      rw [show tup (vs 5) 0 = rv false ra ys.length rc by rw [k7]; rfl] at hj
      show J8 wr _ S x al xs (ls 5) (ls 6) true (ls 8) (ls 9) (ls 10) (ls 11) (ls 12) (vs 5) (vs 6) _ (vs 8) (vs 9) (vs 10)
      rw [hl6]; exact hj
    · intro ls vs a w1 hi hJ hold hdep K hK
      obtain ⟨hl6, q31, p31⟩ := hdep 6 31 (by kernel_rfl) (by kernel_rfl)
      rw [if_pos (by rfl)]
      clear hold hdep hend o0 o4 o5
      have HJ := Lib.hid hJ
      clear hJ
      have j1 := HJ.out
      have hi8 : ls 8 = false := hi
      rw [hl6, hi8] at j1
      obtain ⟨k5, k6⟩ := j1.a6 rfl
      obtain ⟨ra, rc, ys, la, lc, k7, -⟩ := j1.a5 k5
      rw [k6, k7] at q31
      go_simp
      refine hK _ _ (fun _ _ _ h => h) ?_ trivial
      have hj := j1.put8
      rw [show tup (vs 5) 1 = resval (playR S x) la lc by rw [k7]; rfl] at hj
      show J8 wr _ S x al xs (ls 5) (ls 6) (ls 7) true (ls 9) (ls 10) (ls 11) (ls 12) (vs 5) (vs 6) (vs 7) _ (vs 9) (vs 10)
      rw [hl6]; exact hj
    · intro ls vs a w1 hi hJ hold hdep K hK
      rw [if_pos (by rfl)]
      clear hold hdep hend o0 o4 o5
      have HJ := Lib.hid hJ
      clear hJ
      have j1 := HJ.out
      have hi9 : ls 9 = false := hi
      rw [hi9] at j1
      go_simp
      exact hK _ _ (fun _ _ _ h => h) j1.put9 trivial
    · intro ls vs a w1 hi hJ hold hdep K hK
      rw [if_pos (by rfl)]
      clear hold hdep hend o0 o4 o5
      have HJ := Lib.hid hJ
      clear hJ
      have j1 := HJ.out
      have hi10 : ls 10 = false := hi
      rw [hi10] at j1
      go_simp
      exact hK _ _ (fun _ _ _ h => h) j1.put10 trivial
    · intro ls vs a w1 hi hJ hold hdep K hK
      obtain ⟨hl9, q7, p7⟩ := hdep 9 7 (by kernel_rfl) (by kernel_rfl)
      obtain ⟨hl7, q38, p38⟩ := hdep 7 38 (by kernel_rfl) (by kernel_rfl)
      rw [if_pos (by rfl)]
      clear hold hdep hend o0 o4 o5
      have HJ := Lib.hid hJ
      clear hJ
      have j1 := HJ.out
      have hi11 : ls 11 = false := hi
      rw [hl7, hl9, hi11] at j1
      obtain ⟨g, ra, rn, rc, k9, k7, kb, hj⟩ := j1.put11
      rw [k9] at q7
      rw [k7] at q38
      obtain ⟨z0, z1⟩ := obj_cells2 kb
      replace z0 := z0 w1 (Ext.refl _); replace z1 := z1 w1 (Ext.refl _)
      have f1 := obj_free kb w1 (Ext.refl _)
      go_simp
      refine hK undef _ (fun _ _ _ h => h) ?_ trivial
      show J8 wr _ S x al xs (ls 5) (ls 6) (ls 7) (ls 8) (ls 9) (ls 10) true (ls 12) (vs 5) (vs 6) (vs 7) (vs 8) (vs 9) (vs 10)
      rw [hl7, hl9]; exact hj
    · intro ls vs a w1 hi hJ hold hdep K hK
      obtain ⟨hl10, q8, p8⟩ := hdep 10 8 (by kernel_rfl) (by kernel_rfl)
      obtain ⟨hl8, q39, p39⟩ := hdep 8 39 (by kernel_rfl) (by kernel_rfl)
      rw [if_pos (by rfl)]
      clear hold hdep hend o0 o4 o5
      have HJ := Lib.hid hJ
      clear hJ
      have j1 := HJ.out
      have hi12 : ls 12 = false := hi
      rw [hl8, hl10, hi12] at j1
      obtain ⟨g, la, lc, k9, k7, kb, hj⟩ := j1.put12
      rw [k9] at q8
      rw [k7] at q39
      obtain ⟨z0, z1, z2, z3⟩ := obj_cells4 kb
      replace z0 := z0 w1 (Ext.refl _); replace z1 := z1 w1 (Ext.refl _); replace z2 := z2 w1 (Ext.refl _); replace z3 := z3 w1 (Ext.refl _)
      have f1 := obj_free kb w1 (Ext.refl _)
      go_simp
      refine hK undef _ (fun _ _ _ h => h) ?_ trivial
      show J8 wr _ S x al xs (ls 5) (ls 6) (ls 7) (ls 8) (ls 9) (ls 10) (ls 11) true (vs 5) (vs 6) (vs 7) (vs 8) (vs 9) (vs 10)
      rw [hl8, hl10]; exact hj
  · intro vs w9 ls9 hl9 hJ9 hφ
    have e0 := hφ 0 (by kernel_rfl)
    have e1 := hφ 1 (by kernel_rfl)
    have e2 := hφ 2 (by kernel_rfl)
    have e3 := hφ 3 (by kernel_rfl)
    have e4 := hφ 4 (by kernel_rfl)
    have e5 := hφ 5 (by kernel_rfl)
    have e6 := hφ 6 (by kernel_rfl)
    have e7 := hφ 7 (by kernel_rfl)
    have e8 := hφ 8 (by kernel_rfl)
    have e9 := hφ 9 (by kernel_rfl)
    have e10 := hφ 10 (by kernel_rfl)
    have hq := hend vs w9 ls9 hl9 hJ9 e0 e1 e2 e3 e4 e5 e6 e7 e8 e9 e10
    simp only [Act.put] at hq
    simp only [putAll, Act.put]
    exact hq
set_option maxRecDepth 100000 in
set_option maxHeartbeats 4000000 in
theorem l5_25 {x4 b n c : Nat} {al : Option Addr} {L : List Lk} {wb : World} (HB4 : Hid (wb.heap[x4]? = some (.cells #[.bool false, .slice al n c] 40 (0, 0)))) (HDM : Hid (∀ W, Ext wb W → Calls Try.prog 27 #[ptr b] W (RetDump L W))) (HSL : Hid (∀ W a' c' (zs : List Lv), Ext wb W → Links W a' zs → lks zs = L → Calls Try.prog 28 #[.slice a' zs.length c', .slice al n c] W (Ret (.bool true) W))) {Q : Exit → Act → World → Prop} (aZ : Act) (hsz : aZ.tmps.size = 100) (o3 : aZ.tmps[3]?.getD undef = ptr b) (o4 : aZ.tmps[4]?.getD undef = .pointer (some ⟨x4, 0, none⟩))
    (hend : ∀ (vs : Nat → Value) (w9 : World) (ls9 : Nat → Bool), (∀ j : Nat, j < 9 → ls9 j = true) → (Ext wb w9) → (vs 0 = ptr b) → (∃ a' c' zs, vs 1 = .slice a' zs.length c' ∧ Links w9 a' zs ∧ lks zs = L) → (vs 2 = .pointer (some ⟨x4, 1, none⟩)) → (vs 3 = .slice al n c) → (vs 4 = .bool true) → (vs 5 = .bool true) → (vs 6 = .bool true) → (vs 7 = .bool true) → (vs 8 = .bool true) → Q .normal (((((((((aZ.put (some 92) (vs 0)).put (some 93) (vs 1)).put (some 94) (vs 2)).put (some 95) (vs 3)).put (some 96) (vs 4)).put (some 97) (vs 5)).put (some 98) (vs 6)).put (some 99) (vs 7)).put (some 2) (vs 8)) w9) : (regOf Try.f5 25).wp Try.prog Q aZ wb := by
  conv => arg 2; whnf
  refine wp_region_said3 (fun i v wz => match i with
    | 0 => v = ptr b
    | 1 => ∃ a' c' zs, v = .slice a' zs.length c' ∧ Links wz a' zs ∧ lks zs = L
    | 2 => v = .pointer (some ⟨x4, 1, none⟩)
    | 3 => v = .slice al n c
    | 4 => v = .bool true
    | 5 => v = .bool true
    | 6 => v = .bool true
    | 7 => v = .bool true
    | _ => v = .bool true) (fun ls vs wz => Ext wb wz) (by kernel_rfl) (by kernel_rfl) (by rw [hsz]; kernel_rfl) ?_ ?_ ?_
  · exact (Ext.refl _).drew
  · refine ⟨?_, ?_, ?_, ?_, ?_, ?_, ?_, ?_, ?_, trivial⟩
    · intro ls vs a w1 hi hJ hold hdep K hK
      have q3 : a.tmps[3]?.getD undef = ptr b := (hold 3 (by kernel_rfl)).trans o3
      rw [if_pos (by rfl)]
      clear hold hdep hend o3 o4
      go_simp
      exact hK _ _ (fun _ _ _ h => h) hJ rfl
    · intro ls vs a w1 hi hJ hold hdep K hK
      have q92 : a.tmps[92]?.getD undef = ptr b := (hdep 0 92 (by kernel_rfl) (by kernel_rfl)).2.1.trans (hdep 0 92 (by kernel_rfl) (by kernel_rfl)).2.2
      rw [if_pos (by rfl)]
      clear hold hdep hend o3 o4
      go_simp
      go_at_call 27
      (with_reducible refine (HDM.out _ hJ).mono ?_); rintro e w20 ⟨a', c', zs, rfl, he, k1, k2⟩
      exact hK _ _ (fun j u _ h => by
            match j, h with
            | 0, h | 2, h | 3, h | 4, h | 5, h | 6, h | 7, h => exact h
            | 1, h => obtain ⟨a', c', zs, h1, h2, h3⟩ := h; exact ⟨a', c', zs, h1, h2.ext he, h3⟩
            | (n + 8), h => exact h) (hJ.trans he) ⟨_, _, _, rfl, k2.links, k1⟩
    · intro ls vs a w1 hi hJ hold hdep K hK
      have q4 : a.tmps[4]?.getD undef = .pointer (some ⟨x4, 0, none⟩) := (hold 4 (by kernel_rfl)).trans o4
      rw [if_pos (by rfl)]
      clear hold hdep hend o3 o4
      go_simp
      exact hK _ _ (fun _ _ _ h => h) hJ rfl
    · intro ls vs a w1 hi hJ hold hdep K hK
      have q94 : a.tmps[94]?.getD undef = .pointer (some ⟨x4, 1, none⟩) := (hdep 2 94 (by kernel_rfl) (by kernel_rfl)).2.1.trans (hdep 2 94 (by kernel_rfl) (by kernel_rfl)).2.2
      rw [if_pos (by rfl)]
      clear hold hdep hend o3 o4
      obtain ⟨z0, z1⟩ := obj_cells2 (hJ.block HB4.out)
      have E1 := Ext.refl w1
      go_simp
      exact hK _ _ (fun _ _ _ h => h) hJ rfl
    · intro ls vs a w1 hi hJ hold hdep K hK
      obtain ⟨hl1, q93, p93⟩ := hdep 1 93 (by kernel_rfl) (by kernel_rfl)
      have q95 : a.tmps[95]?.getD undef = .slice al n c := (hdep 3 95 (by kernel_rfl) (by kernel_rfl)).2.1.trans (hdep 3 95 (by kernel_rfl) (by kernel_rfl)).2.2
      rw [if_pos (by rfl)]
      clear hold hdep hend o3 o4
      obtain ⟨a', c', zs, k1, k2, k3⟩ := p93
      have hs := HSL.out _ a' c' zs hJ k2 k3
      obtain ⟨m, hm⟩ : ∃ m, m = zs.length := ⟨_, rfl⟩
      rw [← hm] at hs k1
      rw [k1] at q93
      have HS := Lib.hid hs
      clear hs hm k1 k2 k3
      go_simp
      go_at_call 28
      (with_reducible refine HS.out.mono ?_); rintro e w20 ⟨rfl, he⟩
      exact hK _ _ (fun j u _ h => by
            match j, h with
            | 0, h | 2, h | 3, h | 4, h | 5, h | 6, h | 7, h => exact h
            | 1, h => obtain ⟨a', c', zs, h1, h2, h3⟩ := h; exact ⟨a', c', zs, h1, h2.ext he, h3⟩
            | (n + 8), h => exact h) (hJ.trans he) rfl
    · intro ls vs a w1 hi hJ hold hdep K hK
      have q96 : a.tmps[96]?.getD undef = .bool true := (hdep 4 96 (by kernel_rfl) (by kernel_rfl)).2.1.trans (hdep 4 96 (by kernel_rfl) (by kernel_rfl)).2.2
      rw [if_pos (by rfl)]
      clear hold hdep hend o3 o4
      go_simp
      exact hK _ _ (fun _ _ _ h => h) hJ rfl
    · intro ls vs a w1 hi hJ hold hdep K hK
      have q97 : a.tmps[97]?.getD undef = .bool true := (hdep 5 97 (by kernel_rfl) (by kernel_rfl)).2.1.trans (hdep 5 97 (by kernel_rfl) (by kernel_rfl)).2.2
      clear hold hdep hend o3 o4
      rw [wanted_of rfl (by kernel_rfl) q97, if_pos (by rfl)]
      go_simp
      go_at_call 12
      (with_reducible refine (known_any _).mono ?_); rintro e w20 ⟨rfl, he⟩
      exact hK _ _ (fun j u _ h => by
            match j, h with
            | 0, h | 2, h | 3, h | 4, h | 5, h | 6, h | 7, h => exact h
            | 1, h => obtain ⟨a', c', zs, h1, h2, h3⟩ := h; exact ⟨a', c', zs, h1, h2.ext he, h3⟩
            | (n + 8), h => exact h) (hJ.trans he) rfl
    · intro ls vs a w1 hi hJ hold hdep K hK
      have q97 : a.tmps[97]?.getD undef = .bool true := (hdep 5 97 (by kernel_rfl) (by kernel_rfl)).2.1.trans (hdep 5 97 (by kernel_rfl) (by kernel_rfl)).2.2
      have q98 : a.tmps[98]?.getD undef = .bool true := (hdep 6 98 (by kernel_rfl) (by kernel_rfl)).2.1.trans (hdep 6 98 (by kernel_rfl) (by kernel_rfl)).2.2
      rw [if_pos (by rfl)]
      clear hold hdep hend o3 o4
      go_simp
      exact hK _ _ (fun _ _ _ h => h) hJ rfl
    · intro ls vs a w1 hi hJ hold hdep K hK
      have q99 : a.tmps[99]?.getD undef = .bool true := (hdep 7 99 (by kernel_rfl) (by kernel_rfl)).2.1.trans (hdep 7 99 (by kernel_rfl) (by kernel_rfl)).2.2
      rw [if_pos (by rfl)]
      clear hold hdep hend o3 o4
      go_simp
      exact hK _ _ (fun _ _ _ h => h) hJ rfl
  · intro vs w9 ls9 hl9 hJ9 hφ
    have e0 := hφ 0 (by kernel_rfl)
    have e1 := hφ 1 (by kernel_rfl)
    have e2 := hφ 2 (by kernel_rfl)
    have e3 := hφ 3 (by kernel_rfl)
    have e4 := hφ 4 (by kernel_rfl)
    have e5 := hφ 5 (by kernel_rfl)
    have e6 := hφ 6 (by kernel_rfl)
    have e7 := hφ 7 (by kernel_rfl)
    have e8 := hφ 8 (by kernel_rfl)
    have hq := hend vs w9 ls9 hl9 hJ9 e0 e1 e2 e3 e4 e5 e6 e7 e8
    simp only [Act.put] at hq
    simp only [putAll, Act.put]
    exact hq
end Go.Proofs.Ytlahejakcgoheaa
