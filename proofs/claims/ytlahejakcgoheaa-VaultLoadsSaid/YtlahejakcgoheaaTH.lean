/-
  Words and regions of VaultLoads.
-/
import Derived.Test.YtlahejakcgoheaaSF
import Derived.Test.YtlahejakcgoheaaTE
import Derived.Test.YtlahejakcgoheaaTG
set_option linter.unusedVariables false
set_option linter.unusedSimpArgs false
namespace Go.Proofs.Ytlahejakcgoheaa
open Go.RowKit
/-- What is said of a result and stands where something is made, or a small block without bytes is written. -/
structure KOk (K : World → Bool → Option Addr → Nat → Nat → Option Addr → Nat → Prop) : Prop where
  ext : ∀ W W' N a n c la lc, K W N a n c la lc → Ext W W' → K W' N a n c la lc
  off : ∀ W W' N a n c la lc g cs T fz, K W N a n c la lc → W.heap[g]? = some (.cells cs T fz) → cs.size ≤ 5 → NoU8 W g → (∀ k, k ≠ g → W'.heap[k]? = W.heap[k]?) → W'.heap.size = W.heap.size → K W' N a n c la lc
/-- What holds between the operations of the region in which the reference is told. -/
structure JG (wr wz : World) (r : Res) (K : World → Bool → Option Addr → Nat → Nat → Option Addr → Nat → Prop) (l5 l6 l7 l8 l9 l10 l11 l12 : Bool) (v5 v6 v7 v8 v9 v10 : Value) : Prop where
  x : Ext wr wz
  a5 : l5 = true → ∃ N a n c la lc, v5 = .tuple #[rv N a n c, resval r la lc] ∧ K wz N a n c la lc
  a6 : l6 = true → l5 = true ∧ v6 = v5
  a7 : l7 = true → l6 = true ∧ v7 = tup v5 0
  a8 : l8 = true → l6 = true ∧ v8 = tup v5 1
  a9 : l9 = true → ∃ g, v9 = .pointer (some ⟨g, 0, none⟩) ∧ wr.heap.size ≤ g ∧ wz.heap[g]? = some (.cells (bif l11 then cellsOf v7 else #[.bool false, .slice none 0 0]) 40 (0, 0))
  a10 : l10 = true → ∃ g, v10 = .pointer (some ⟨g, 0, none⟩) ∧ wr.heap.size ≤ g ∧ wz.heap[g]? = some (.cells (bif l12 then cellsOf v8 else #[.int .i64 0, .string ⟨#[]⟩, .slice none 0 0, .int .i64 0]) 44 (0, 0))
  e11 : l11 = true → l9 = true ∧ l7 = true
  e12 : l12 = true → l10 = true ∧ l8 = true
section
variable {wr w : World} {r : Res} {K : World → Bool → Option Addr → Nat → Nat → Option Addr → Nat → Prop} {l5 l6 l7 l8 l9 l10 l11 l12 : Bool} {v5 v6 v7 v8 v9 v10 : Value}
theorem JG.start (h : Ext wr w) : JG wr w r K false false false false false false false false v5 v6 v7 v8 v9 v10 :=
  ⟨h, fun e => (by cases e), fun e => (by cases e), fun e => (by cases e), fun e => (by cases e), fun e => (by cases e), fun e => (by cases e), fun e => (by cases e), fun e => (by cases e)⟩
theorem JG.ext {w' : World} (hK : KOk K) (h : JG wr w r K l5 l6 l7 l8 l9 l10 l11 l12 v5 v6 v7 v8 v9 v10) (e : Ext w w') : JG wr w' r K l5 l6 l7 l8 l9 l10 l11 l12 v5 v6 v7 v8 v9 v10 := by
  refine ⟨h.x.trans e, fun q => ?_, h.a6, h.a7, h.a8, fun q => ?_, fun q => ?_, h.e11, h.e12⟩
  · obtain ⟨N, a, n, c, la, lc, h1, h2⟩ := h.a5 q
    exact ⟨N, a, n, c, la, lc, h1, hK.ext _ _ _ _ _ _ _ _ h2 e⟩
  · obtain ⟨g, h1, h2, h3⟩ := h.a9 q
    exact ⟨g, h1, h2, e.block h3⟩
  · obtain ⟨g, h1, h2, h3⟩ := h.a10 q
    exact ⟨g, h1, h2, e.block h3⟩
theorem JG.no5 (h : JG wr w r K false l6 l7 l8 l9 l10 l11 l12 v5 v6 v7 v8 v9 v10) : l6 = false ∧ l7 = false ∧ l8 = false ∧ l11 = false ∧ l12 = false := by
  have h6 : l6 = false := by cases l6 with | false => rfl | true => have := (h.a6 rfl).1; cases this
  subst h6
  have h7 : l7 = false := by cases l7 with | false => rfl | true => have := (h.a7 rfl).1; cases this
  have h8 : l8 = false := by cases l8 with | false => rfl | true => have := (h.a8 rfl).1; cases this
  subst h7; subst h8
  have h11 : l11 = false := by cases l11 with | false => rfl | true => have := (h.e11 rfl).2; cases this
  have h12 : l12 = false := by cases l12 with | false => rfl | true => have := (h.e12 rfl).2; cases this
  exact ⟨rfl, rfl, rfl, h11, h12⟩
theorem JG.put5 {w' : World} {N : Bool} {a la : Option Addr} {n c lc : Nat} (hK : KOk K) (h : JG wr w r K false l6 l7 l8 l9 l10 l11 l12 v5 v6 v7 v8 v9 v10) (e : Ext w w') (hk : K w' N a n c la lc) : JG wr w' r K true l6 l7 l8 l9 l10 l11 l12 (.tuple #[rv N a n c, resval r la lc]) v6 v7 v8 v9 v10 := by
  obtain ⟨rfl, rfl, rfl, rfl, rfl⟩ := h.no5
  have h' := h.ext hK e
  exact ⟨h'.x, fun _ => ⟨N, a, n, c, la, lc, rfl, hk⟩, fun e => (by cases e), fun e => (by cases e), fun e => (by cases e), h'.a9, h'.a10, fun e => (by cases e), fun e => (by cases e)⟩
theorem JG.put6 (h : JG wr w r K true false l7 l8 l9 l10 l11 l12 v5 v6 v7 v8 v9 v10) : JG wr w r K true true l7 l8 l9 l10 l11 l12 v5 v5 v7 v8 v9 v10 :=
  ⟨h.x, h.a5, fun _ => ⟨rfl, rfl⟩, fun q => ⟨rfl, (h.a7 q).2⟩, fun q => ⟨rfl, (h.a8 q).2⟩, h.a9, h.a10, h.e11, h.e12⟩
theorem JG.put7 (h : JG wr w r K l5 true false l8 l9 l10 l11 l12 v5 v6 v7 v8 v9 v10) : JG wr w r K l5 true true l8 l9 l10 l11 l12 v5 v6 (tup v5 0) v8 v9 v10 := by
  have h11 : l11 = false := by cases l11 with | false => rfl | true => have := (h.e11 rfl).2; cases this
  subst h11
  exact ⟨h.x, h.a5, h.a6, fun _ => ⟨rfl, rfl⟩, h.a8, h.a9, h.a10, fun e => (by cases e), h.e12⟩
theorem JG.put8 (h : JG wr w r K l5 true l7 false l9 l10 l11 l12 v5 v6 v7 v8 v9 v10) : JG wr w r K l5 true l7 true l9 l10 l11 l12 v5 v6 v7 (tup v5 1) v9 v10 := by
  have h12 : l12 = false := by cases l12 with | false => rfl | true => have := (h.e12 rfl).2; cases this
  subst h12
  exact ⟨h.x, h.a5, h.a6, h.a7, fun _ => ⟨rfl, rfl⟩, h.a9, h.a10, h.e11, fun e => (by cases e)⟩
theorem JG.put9 (hK : KOk K) (h : JG wr w r K l5 l6 l7 l8 false l10 l11 l12 v5 v6 v7 v8 v9 v10) : JG wr (w.alloc (.cells #[.bool false, .slice none 0 0] 40)) r K l5 l6 l7 l8 true l10 l11 l12 v5 v6 v7 v8 (.pointer (some ⟨w.heap.size, 0, none⟩)) v10 := by
  have h11 : l11 = false := by cases l11 with | false => rfl | true => have := (h.e11 rfl).1; cases this
  subst h11
  have h' := h.ext hK ((Ext.refl w).alloc (.cells #[.bool false, .slice none 0 0] 40))
  exact ⟨h'.x, h'.a5, h'.a6, h'.a7, h'.a8, fun _ => ⟨_, rfl, h.x.size, heap_new _ _⟩, h'.a10, fun e => (by cases e), h'.e12⟩
theorem JG.put10 (hK : KOk K) (h : JG wr w r K l5 l6 l7 l8 l9 false l11 l12 v5 v6 v7 v8 v9 v10) : JG wr (w.alloc (.cells #[.int .i64 0, .string ⟨#[]⟩, .slice none 0 0, .int .i64 0] 44)) r K l5 l6 l7 l8 l9 true l11 l12 v5 v6 v7 v8 v9 (.pointer (some ⟨w.heap.size, 0, none⟩)) := by
  have h12 : l12 = false := by cases l12 with | false => rfl | true => have := (h.e12 rfl).1; cases this
  subst h12
  have h' := h.ext hK ((Ext.refl w).alloc (.cells #[.int .i64 0, .string ⟨#[]⟩, .slice none 0 0, .int .i64 0] 44))
  exact ⟨h'.x, h'.a5, h'.a6, h'.a7, h'.a8, h'.a9, fun _ => ⟨_, rfl, h.x.size, heap_new _ _⟩, h'.e11, fun e => (by cases e)⟩
theorem JG.put11 (hK : KOk K) (h : JG wr w r K l5 l6 true l8 true l10 false l12 v5 v6 v7 v8 v9 v10) : ∃ g N a n c, v9 = .pointer (some ⟨g, 0, none⟩) ∧ v7 = rv N a n c ∧ w.heap[g]? = some (.cells #[.bool false, .slice none 0 0] 40 (0, 0)) ∧
    JG wr ((w.setCell ⟨g, 0, none⟩ (.bool N)).setCell ⟨g, 1, none⟩ (.slice a n c)) r K l5 l6 true l8 true l10 true l12 v5 v6 v7 v8 v9 v10 := by
  obtain ⟨h6, h7⟩ := h.a7 rfl
  obtain ⟨h5, -⟩ := h.a6 h6
  obtain ⟨N, a, n, c, la, lc, k1, k2⟩ := h.a5 h5
  obtain ⟨g, g1, g2, g3⟩ := h.a9 rfl
  have hv7 : v7 = rv N a n c := by rw [h7, k1]; rfl
  have g3' : w.heap[g]? = some (.cells #[.bool false, .slice none 0 0] 40 (0, 0)) := g3
  have hk := set2_off w g (.bool N) (.slice a n c)
  refine ⟨g, N, a, n, c, g1, hv7, g3', set2_ext h.x g2 _ _, fun _ => ⟨N, a, n, c, la, lc, k1, hK.off _ _ _ _ _ _ _ _ g _ _ _ k2 g3' (by simp) (no8_40 g3') hk (by simp [World.setCell])⟩, h.a6, h.a7, h.a8, fun _ => ⟨g, g1, g2, ?_⟩, fun q => ?_, fun _ => ⟨rfl, rfl⟩, h.e12⟩
  · rw [hv7]; exact set2_blk g3'
  · obtain ⟨g', q1, q2, q3⟩ := h.a10 q
    have hne : g' ≠ g := by
      rintro rfl
      rw [g3'] at q3
      simp only [Option.some.injEq, Obj.cells.injEq] at q3
      exact absurd q3.2.1 (by decide)
    exact ⟨g', q1, q2, (hk g' hne).trans q3⟩
theorem JG.put12 (hK : KOk K) (h : JG wr w r K l5 l6 l7 true l9 true l11 false v5 v6 v7 v8 v9 v10) : ∃ g la lc, v10 = .pointer (some ⟨g, 0, none⟩) ∧ v8 = resval r la lc ∧ w.heap[g]? = some (.cells #[.int .i64 0, .string ⟨#[]⟩, .slice none 0 0, .int .i64 0] 44 (0, 0)) ∧
    JG wr ((((w.setCell ⟨g, 0, none⟩ (.int .i64 r.num)).setCell ⟨g, 1, none⟩ (.string r.text)).setCell ⟨g, 2, none⟩ (.slice la r.list.length lc)).setCell ⟨g, 3, none⟩ (.int .i64 r.err)) r K l5 l6 l7 true l9 true l11 true v5 v6 v7 v8 v9 v10 := by
  obtain ⟨h6, h8⟩ := h.a8 rfl
  obtain ⟨h5, -⟩ := h.a6 h6
  obtain ⟨N, a, n, c, la, lc, k1, k2⟩ := h.a5 h5
  obtain ⟨g, g1, g2, g3⟩ := h.a10 rfl
  have hv8 : v8 = resval r la lc := by rw [h8, k1]; rfl
  have g3' : w.heap[g]? = some (.cells #[.int .i64 0, .string ⟨#[]⟩, .slice none 0 0, .int .i64 0] 44 (0, 0)) := g3
  have hk := set4_off w g (.int .i64 r.num) (.string r.text) (.slice la r.list.length lc) (.int .i64 r.err)
  refine ⟨g, la, lc, g1, hv8, g3', set4_ext h.x g2 _ _ _ _, fun _ => ⟨N, a, n, c, la, lc, k1, hK.off _ _ _ _ _ _ _ _ g _ _ _ k2 g3' (by simp) (no8_44 g3') hk (by simp [World.setCell])⟩, h.a6, h.a7, h.a8, fun q => ?_, fun _ => ⟨g, g1, g2, ?_⟩, h.e11, fun _ => ⟨rfl, rfl⟩⟩
  · obtain ⟨g', q1, q2, q3⟩ := h.a9 q
    have hne : g' ≠ g := by
      rintro rfl
      rw [g3'] at q3
      simp only [Option.some.injEq, Obj.cells.injEq] at q3
      exact absurd q3.2.1 (by decide)
    exact ⟨g', q1, q2, (hk g' hne).trans q3⟩
  · rw [hv8]; exact set4_blk g3'
end
/-- What is done when, in the region that tells the calls one after another. -/
def D7 (l0 l6 l7 l8 l10 : Bool) : Bool := (!l6 || l0) && ((!l7 || l6) && ((!l8 || l7) && (!l10 || l8)))
theorem d7_0 : ∀ l0 l6 l7 l8 l10, D7 l0 l6 l7 l8 l10 = true → l0 = false → l10 = false := by decide
theorem d7_6 : ∀ l0 l6 l7 l8 l10, D7 l0 l6 l7 l8 l10 = true → l6 = false → l7 = false ∧ l8 = false ∧ l10 = false := by decide
theorem d7_7 : ∀ l0 l6 l7 l8 l10, D7 l0 l6 l7 l8 l10 = true → l7 = false → l8 = false ∧ l10 = false := by decide
theorem d7_8 : ∀ l0 l6 l7 l8 l10, D7 l0 l6 l7 l8 l10 = true → l8 = false → l10 = false := by decide
theorem d7_s0 : ∀ l0 l6 l7 l8 l10, D7 l0 l6 l7 l8 l10 = true → D7 true l6 l7 l8 l10 = true := by decide
theorem d7_s6 : ∀ l0 l6 l7 l8 l10, D7 l0 l6 l7 l8 l10 = true → l0 = true → D7 l0 true l7 l8 l10 = true := by decide
theorem d7_s7 : ∀ l0 l6 l7 l8 l10, D7 l0 l6 l7 l8 l10 = true → l6 = true → D7 l0 l6 true l8 l10 = true := by decide
theorem d7_s8 : ∀ l0 l6 l7 l8 l10, D7 l0 l6 l7 l8 l10 = true → l7 = true → D7 l0 l6 l7 true l10 = true := by decide
theorem d7_s10 : ∀ l0 l6 l7 l8 l10, D7 l0 l6 l7 l8 l10 = true → l8 = true → D7 l0 l6 l7 l8 true = true := by decide
/-- What holds between the operations of that region; the block x3 is written last. -/
structure J7 (wb wr wz : World) (S : PV) (o : Op) (x3 : Nat) (C : Array Value) (l0 l6 l7 l8 l10 : Bool) (v6 v7 v8 : Value) : Prop where
  x : Ext wb wz
  y : l10 = false → Ext wr wz
  b : wb.heap.size ≤ x3
  bx : l10 = false → wz.heap[x3]? = some (.cells C 40 (0, 0))
  a6 : l6 = true → ∃ a c ys la lc, v6 = .tuple #[rv false a ys.length c, resval (playR S o) la lc] ∧ RvAt wz (playS S o) a ys
  a7 : l7 = true → v7 = v6
  a8 : l8 = true → v8 = tup v6 0
  a10 : l10 = true → wz.heap[x3]? = some (.cells (cellsOf v8) 40 (0, 0))
  d : D7 l0 l6 l7 l8 l10 = true
section
variable {wb wr w : World} {S : PV} {o : Op} {x3 : Nat} {C : Array Value} {l0 l6 l7 l8 l10 : Bool} {v6 v7 v8 : Value}
theorem J7.put6 {w' : World} {e : Ending} {al : Option Addr} {xs : List Lv} (h : J7 wb wr w S o x3 C l0 false l7 l8 l10 v6 v7 v8) (h0 : l0 = true) (hr : RetTold S al xs o w e w') : ∃ v, e = .returned v ∧ J7 wb wr w' S o x3 C l0 true l7 l8 l10 v v7 v8 := by
  obtain ⟨q7, q8, q10⟩ := d7_6 _ _ _ _ _ h.d rfl
  obtain ⟨a, c, ys, la, lc, rfl, h1, h2, h3, h4⟩ := hr
  subst q7; subst q8; subst q10
  exact ⟨_, rfl, h.x.trans h1, fun _ => (h.y rfl).trans h1, h.b, fun _ => h1.block (h.bx rfl), fun _ => ⟨a, c, ys, la, lc, rfl, h2⟩, fun e => (by cases e), fun e => (by cases e), fun e => (by cases e), d7_s6 _ _ _ _ _ h.d h0⟩
theorem J7.store {p : Bool} {a0 : Option Addr} {n0 c0 : Nat} (h : J7 wb wr w S o x3 #[.bool p, .slice a0 n0 c0] l0 true l7 true false v6 v7 v8) : ∃ a n c, v8 = rv false a n c ∧ J7 wb wr ((w.setCell ⟨x3, 0, none⟩ (.bool false)).setCell ⟨x3, 1, none⟩ (.slice a n c)) S o x3 #[.bool p, .slice a0 n0 c0] l0 true l7 true true v6 v7 v8 := by
  obtain ⟨a, c, ys, la, lc, k1, k2⟩ := h.a6 rfl
  have hv8 : v8 = rv false a ys.length c := by rw [h.a8 rfl, k1]; rfl
  have hb := h.bx rfl
  refine ⟨a, ys.length, c, hv8, set2_ext h.x h.b _ _, fun e => (by cases e), h.b, fun e => (by cases e), fun _ => ⟨a, c, ys, la, lc, k1, k2.off (no8_40 hb) (set2_off w x3 _ _)⟩, h.a7, h.a8, fun _ => ?_, d7_s10 _ _ _ _ _ h.d rfl⟩
  rw [hv8]; exact set2_blk hb
end
set_option maxRecDepth 100000 in
set_option maxHeartbeats 4000000 in
theorem l6_7 {x3 fb ob oo k m co n c : Nat} {al : Option Addr} {S : PV} {x : Op} {xs : List Lv} {wb wr : World} (HB0 : Hid (Ext wb wr)) (hb3 : wb.heap.size ≤ x3) (hk0 : (0 : Int) ≤ (k : Int)) (hk1 : (k : Int) < (m : Int)) (H3 : Hid (wr.heap[x3]? = some (.cells #[.bool false, .slice al n c] 40 (0, 0)))) (h0 : ∀ W, Ext wb W → W.cell? ⟨fb, 0, none⟩ = some (.slice (some ⟨ob, oo, none⟩) m co)) (HC : Hid (∀ W, Ext wb W → OpC W ob (oo + k * 9) x)) (HT : Hid (∀ W, Ext wr W → Calls Try.prog 23 #[.agg #[.bool false, .slice al n c], opval x] W (RetTold S al xs x W))) {Q : Exit → Act → World → Prop} (aZ : Act) (hsz : aZ.tmps.size = 184) (o1 : aZ.tmps[1]?.getD undef = .pointer (some ⟨fb, 0, none⟩)) (o3 : aZ.tmps[3]?.getD undef = .pointer (some ⟨x3, 0, none⟩)) (o4 : aZ.tmps[4]?.getD undef = .int .i64 k)
    (hend : ∀ (vs : Nat → Value) (w9 : World) (ls9 : Nat → Bool), (∀ j : Nat, j < 11 → ls9 j = true) → (J7 wb wr w9 S x x3 #[.bool false, .slice al n c] (ls9 0) (ls9 6) (ls9 7) (ls9 8) (ls9 10) (vs 6) (vs 7) (vs 8)) → (vs 0 = .agg #[.bool false, .slice al n c]) → (vs 1 = .pointer (some ⟨fb, 0, none⟩)) → (vs 2 = .slice (some ⟨ob, oo, none⟩) m co) → (vs 3 = .int .i64 k) → (vs 4 = .pointer (some ⟨ob, oo + k * 9, none⟩)) → (vs 5 = opval x) → (True) → (True) → (True) → (True) → Q .normal ((((((((((aZ.put (some 47) (vs 0)).put (some 48) (vs 1)).put (some 49) (vs 2)).put (some 50) (vs 3)).put (some 51) (vs 4)).put (some 52) (vs 5)).put (some 53) (vs 6)).put (some 46) (vs 7)).put (some 54) (vs 8)).put (some 55) (vs 9)) w9) : (regOf Try.f6 7).wp Try.prog Q aZ wr := by
  conv => arg 2; whnf
  refine wp_region_said3 (fun i v wz => match i with
    | 0 => v = .agg #[.bool false, .slice al n c]
    | 1 => v = .pointer (some ⟨fb, 0, none⟩)
    | 2 => v = .slice (some ⟨ob, oo, none⟩) m co
    | 3 => v = .int .i64 k
    | 4 => v = .pointer (some ⟨ob, oo + k * 9, none⟩)
    | 5 => v = opval x
    | 6 => True
    | 7 => True
    | 8 => True
    | 9 => True
    | _ => True) (fun ls vs wz => J7 wb wr wz S x x3 #[.bool false, .slice al n c] (ls 0) (ls 6) (ls 7) (ls 8) (ls 10) (vs 6) (vs 7) (vs 8)) (by kernel_rfl) (by kernel_rfl) (by rw [hsz]; kernel_rfl) ?_ ?_ ?_
  · exact ⟨HB0.out.drew, fun _ => (Ext.refl _).drew, hb3, fun _ => H3.out, fun e => (by cases e), fun e => (by cases e), fun e => (by cases e), fun e => (by cases e), rfl⟩
  · refine ⟨?_, ?_, ?_, ?_, ?_, ?_, ?_, ?_, ?_, ?_, ?_, trivial⟩
    · intro ls vs a w1 hi hJ hold hdep K hK
      have q3 : a.tmps[3]?.getD undef = .pointer (some ⟨x3, 0, none⟩) := (hold 3 (by kernel_rfl)).trans o3
      rw [if_pos (by rfl)]
      clear hold hdep hend o1 o3 o4
      have HJ := Lib.hid hJ
      clear hJ
      have j1 := HJ.out
      have hi0 : ls 0 = false := hi
      have h10 := d7_0 _ _ _ _ _ j1.d hi0
      obtain ⟨z0, z1⟩ := obj_cells2 (j1.bx h10)
      have E1 := Ext.refl w1
      go_simp
      exact hK _ _ (fun _ _ _ h => h) ⟨j1.x, j1.y, j1.b, j1.bx, j1.a6, j1.a7, j1.a8, j1.a10, d7_s0 _ _ _ _ _ j1.d⟩ rfl
    · intro ls vs a w1 hi hJ hold hdep K hK
      have q1 : a.tmps[1]?.getD undef = .pointer (some ⟨fb, 0, none⟩) := (hold 1 (by kernel_rfl)).trans o1
      rw [if_pos (by rfl)]
      clear hold hdep hend o1 o3 o4
      have HJ := Lib.hid hJ
      clear hJ
      go_simp
      exact hK _ _ (fun _ _ _ h => h) HJ.out rfl
    · intro ls vs a w1 hi hJ hold hdep K hK
      have q48 : a.tmps[48]?.getD undef = .pointer (some ⟨fb, 0, none⟩) := (hdep 1 48 (by kernel_rfl) (by kernel_rfl)).2.1.trans (hdep 1 48 (by kernel_rfl) (by kernel_rfl)).2.2
      rw [if_pos (by rfl)]
      clear hold hdep hend o1 o3 o4
      have HJ := Lib.hid hJ
      clear hJ
      have hz1 := HJ.out.x
      go_simp
      exact hK _ _ (fun _ _ _ h => h) HJ.out rfl
    · intro ls vs a w1 hi hJ hold hdep K hK
      have q4 : a.tmps[4]?.getD undef = .int .i64 k := (hold 4 (by kernel_rfl)).trans o4
      rw [if_pos (by rfl)]
      clear hold hdep hend o1 o3 o4
      have HJ := Lib.hid hJ
      clear hJ
      go_simp
      exact hK _ _ (fun _ _ _ h => h) HJ.out rfl
    · intro ls vs a w1 hi hJ hold hdep K hK
      have q49 : a.tmps[49]?.getD undef = .slice (some ⟨ob, oo, none⟩) m co := (hdep 2 49 (by kernel_rfl) (by kernel_rfl)).2.1.trans (hdep 2 49 (by kernel_rfl) (by kernel_rfl)).2.2
      have q50 : a.tmps[50]?.getD undef = .int .i64 k := (hdep 3 50 (by kernel_rfl) (by kernel_rfl)).2.1.trans (hdep 3 50 (by kernel_rfl) (by kernel_rfl)).2.2
      rw [if_pos (by rfl)]
      clear hold hdep hend o1 o3 o4
      have HJ := Lib.hid hJ
      clear hJ
      go_simp
      exact hK _ _ (fun _ _ _ h => h) HJ.out rfl
    · intro ls vs a w1 hi hJ hold hdep K hK
      have q51 : a.tmps[51]?.getD undef = .pointer (some ⟨ob, oo + k * 9, none⟩) := (hdep 4 51 (by kernel_rfl) (by kernel_rfl)).2.1.trans (hdep 4 51 (by kernel_rfl) (by kernel_rfl)).2.2
      rw [if_pos (by rfl)]
      clear hold hdep hend o1 o3 o4
      have HJ := Lib.hid hJ
      clear hJ
      obtain ⟨x0, x1, x2, x3, x4, x5, x6, x7, x8⟩ := HC.out _ HJ.out.x
      go_simp
      exact hK _ _ (fun _ _ _ h => h) HJ.out rfl
    · intro ls vs a w1 hi hJ hold hdep K hK
      have q47 : a.tmps[47]?.getD undef = .agg #[.bool false, .slice al n c] := (hdep 0 47 (by kernel_rfl) (by kernel_rfl)).2.1.trans (hdep 0 47 (by kernel_rfl) (by kernel_rfl)).2.2
      have q52 : a.tmps[52]?.getD undef = opval x := (hdep 5 52 (by kernel_rfl) (by kernel_rfl)).2.1.trans (hdep 5 52 (by kernel_rfl) (by kernel_rfl)).2.2
      obtain ⟨hl0, -, -⟩ := hdep 0 47 (by kernel_rfl) (by kernel_rfl)
      rw [if_pos (by rfl)]
      clear hold hdep hend o1 o3 o4
      have HJ := Lib.hid hJ
      clear hJ
      have j1 := HJ.out
      have hi6 : ls 6 = false := hi
      rw [hi6] at j1
      have h10 := (d7_6 _ _ _ _ _ j1.d rfl).2.2
      have hx := j1.y h10
      go_simp
      go_at_call 23
      (with_reducible refine (HT.out _ hx).mono ?_); rintro e w20 hr
      obtain ⟨v, rfl, hj⟩ := j1.put6 hl0 hr
      exact hK _ _ (fun _ _ _ h => h) hj trivial
    · intro ls vs a w1 hi hJ hold hdep K hK
      obtain ⟨hl6, q53, p53⟩ := hdep 6 53 (by kernel_rfl) (by kernel_rfl)
      rw [if_pos (by rfl)]
      clear hold hdep hend o1 o3 o4
      have HJ := Lib.hid hJ
      clear hJ
      have j1 := HJ.out
      have hi7 : ls 7 = false := hi
      obtain ⟨q8, q10⟩ := d7_7 _ _ _ _ _ j1.d hi7
      go_simp
      exact hK _ _ (fun _ _ _ h => h) ⟨j1.x, j1.y, j1.b, j1.bx, j1.a6, fun _ => rfl, j1.a8, j1.a10, d7_s7 _ _ _ _ _ j1.d hl6⟩ trivial
    · intro ls vs a w1 hi hJ hold hdep K hK
      obtain ⟨hl7, q46, p46⟩ := hdep 7 46 (by kernel_rfl) (by kernel_rfl)
      rw [if_pos (by rfl)]
      clear hold hdep hend o1 o3 o4
      have HJ := Lib.hid hJ
      clear hJ
      have j1 := HJ.out
      have hi8 : ls 8 = false := hi
      have q10 := d7_8 _ _ _ _ _ j1.d hi8
      have hl6' : ls 6 = true := by
        cases e : ls 6 with
        | true => rfl
        | false => have := (d7_6 _ _ _ _ _ j1.d e).1; rw [this] at hl7; cases hl7
      obtain ⟨ra, rc, ys, la, lc, k7, -⟩ := j1.a6 hl6'
      rw [j1.a7 hl7, k7] at q46
      go_simp
      refine hK _ _ (fun _ _ _ h => h) ⟨j1.x, j1.y, j1.b, j1.bx, j1.a6, j1.a7, fun _ => ?_, fun e => (by have e' : ls 10 = true := e; rw [q10] at e'; cases e'), d7_s8 _ _ _ _ _ j1.d hl7⟩ trivial
      show _ = tup (vs 6) 0
      rw [k7]; rfl
    · intro ls vs a w1 hi hJ hold hdep K hK
      obtain ⟨hl7, q46, p46⟩ := hdep 7 46 (by kernel_rfl) (by kernel_rfl)
      rw [if_pos (by rfl)]
      clear hold hdep hend o1 o3 o4
      have HJ := Lib.hid hJ
      clear hJ
      have j1 := HJ.out
      have hl6' : ls 6 = true := by
        cases e : ls 6 with
        | true => rfl
        | false => have := (d7_6 _ _ _ _ _ j1.d e).1; rw [this] at hl7; cases hl7
      obtain ⟨ra, rc, ys, la, lc, k7, -⟩ := j1.a6 hl6'
      rw [j1.a7 hl7, k7] at q46
      go_simp
      exact hK _ _ (fun _ _ _ h => h) j1 trivial
    · intro ls vs a w1 hi hJ hold hdep K hK
      have q3 : a.tmps[3]?.getD undef = .pointer (some ⟨x3, 0, none⟩) := (hold 3 (by kernel_rfl)).trans o3
      obtain ⟨hl8, q54, p54⟩ := hdep 8 54 (by kernel_rfl) (by kernel_rfl)
      rw [if_pos (by rfl)]
      clear hold hdep hend o1 o3 o4
      have HJ := Lib.hid hJ
      clear hJ
      have j1 := HJ.out
      have hi10 : ls 10 = false := hi
      have hl7' : ls 7 = true := by
        cases e : ls 7 with
        | true => rfl
        | false => have := (d7_7 _ _ _ _ _ j1.d e).1; rw [this] at hl8; cases hl8
      have hl6' : ls 6 = true := by
        cases e : ls 6 with
        | true => rfl
        | false => have := (d7_6 _ _ _ _ _ j1.d e).1; rw [this] at hl7'; cases hl7'
      rw [hl6', hl8, hi10] at j1
      obtain ⟨z0, z1⟩ := obj_cells2 (j1.bx rfl)
      replace z0 := z0 w1 (Ext.refl _); replace z1 := z1 w1 (Ext.refl _)
      have f1 := obj_free (j1.bx rfl) w1 (Ext.refl _)
      obtain ⟨ra, rn, rc, k8, hj⟩ := j1.store
      rw [k8] at q54
      go_simp
      refine hK undef _ (fun _ _ _ h => h) ?_ trivial
      show J7 wb wr _ S x x3 _ (ls 0) (ls 6) (ls 7) (ls 8) true (vs 6) (vs 7) (vs 8)
      rw [hl6', hl8]; exact hj
  · intro vs w9 ls9 hl9 hJ9 hφ
    have e0 := hφ 0 (by kernel_rfl)
    have e1 := hφ 1 (by kernel_rfl)
    have e2 := hφ 2 (by kernel_rfl)
    have e3 := hφ 3 (by kernel_rfl)
    have e4 := hφ 4 (by kernel_rfl)
    have e5 := hφ 5 (by kernel_rfl)
    have e6 := hφ 6 (by kernel_rfl)
    have e7 := hφ 7 (by kernel_rfl)
    have e8 := hφ 8 (by kernel_rfl)
    have e9 := hφ 9 (by kernel_rfl)
    have hq := hend vs w9 ls9 hl9 hJ9 e0 e1 e2 e3 e4 e5 e6 e7 e8 e9
    simp only [Act.put] at hq
    simp only [putAll, Act.put]
    exact hq
set_option maxRecDepth 100000 in
set_option maxHeartbeats 4000000 in
theorem l6_34 {x9 fb ob oo k m co n c : Nat} {al : Option Addr} {N : Bool} {r : Res} {KK : World → Bool → Option Addr → Nat → Nat → Option Addr → Nat → Prop} {x : Op} {wb wr : World} (HB0 : Hid (Ext wb wr)) (hKO : KOk KK) (hk0 : (0 : Int) ≤ (k : Int)) (hk1 : (k : Int) < (m : Int)) (H9 : Hid (wr.heap[x9]? = some (.cells #[.bool N, .slice al n c] 40 (0, 0)))) (h1 : ∀ W, Ext wb W → W.cell? ⟨fb, 1, none⟩ = some (.slice (some ⟨ob, oo, none⟩) m co)) (HC : Hid (∀ W, Ext wb W → OpC W ob (oo + k * 9) x)) (HT : Hid (∀ W, Ext wr W → Calls Try.prog 23 #[.agg #[.bool N, .slice al n c], opval x] W (fun e w' => ∃ N' a' n' c' la' lc', e = .returned (.tuple #[rv N' a' n' c', resval r la' lc']) ∧ Ext W w' ∧ KK w' N' a' n' c' la' lc'))) {Q : Exit → Act → World → Prop} (aZ : Act) (hsz : aZ.tmps.size = 184) (o1 : aZ.tmps[1]?.getD undef = .pointer (some ⟨fb, 0, none⟩)) (o9 : aZ.tmps[9]?.getD undef = .pointer (some ⟨x9, 0, none⟩)) (o13 : aZ.tmps[13]?.getD undef = .int .i64 k)
    (hend : ∀ (vs : Nat → Value) (w9 : World) (ls9 : Nat → Bool), (∀ j : Nat, j < 14 → ls9 j = true) → (JG wr w9 r KK (ls9 6) (ls9 7) (ls9 8) (ls9 9) (ls9 10) (ls9 11) (ls9 12) (ls9 13) (vs 6) (vs 7) (vs 8) (vs 9) (vs 10) (vs 11)) → (vs 0 = .agg #[.bool N, .slice al n c]) → (vs 1 = .pointer (some ⟨fb, 1, none⟩)) → (vs 2 = .slice (some ⟨ob, oo, none⟩) m co) → (vs 3 = .int .i64 k) → (vs 4 = .pointer (some ⟨ob, oo + k * 9, none⟩)) → (vs 5 = opval x) → (True) → (True) → (True) → (True) → (True) → (True) → Q .normal ((((((((((((aZ.put (some 158) (vs 0)).put (some 159) (vs 1)).put (some 160) (vs 2)).put (some 161) (vs 3)).put (some 162) (vs 4)).put (some 163) (vs 5)).put (some 164) (vs 6)).put (some 157) (vs 7)).put (some 165) (vs 8)).put (some 166) (vs 9)).put (some 15) (vs 10)).put (some 16) (vs 11)) w9) : (regOf Try.f6 34).wp Try.prog Q aZ wr := by
  conv => arg 2; whnf
  refine wp_region_said3 (fun i v wz => match i with
    | 0 => v = .agg #[.bool N, .slice al n c]
    | 1 => v = .pointer (some ⟨fb, 1, none⟩)
    | 2 => v = .slice (some ⟨ob, oo, none⟩) m co
    | 3 => v = .int .i64 k
    | 4 => v = .pointer (some ⟨ob, oo + k * 9, none⟩)
    | 5 => v = opval x
    | 6 => True
    | 7 => True
    | 8 => True
    | 9 => True
    | 10 => True
    | 11 => True
    | 12 => True
    | _ => True) (fun ls vs wz => JG wr wz r KK (ls 6) (ls 7) (ls 8) (ls 9) (ls 10) (ls 11) (ls 12) (ls 13) (vs 6) (vs 7) (vs 8) (vs 9) (vs 10) (vs 11)) (by kernel_rfl) (by kernel_rfl) (by rw [hsz]; kernel_rfl) ?_ ?_ ?_
  · exact JG.start (Ext.refl _).drew
  · refine ⟨?_, ?_, ?_, ?_, ?_, ?_, ?_, ?_, ?_, ?_, ?_, ?_, ?_, ?_, trivial⟩
    · intro ls vs a w1 hi hJ hold hdep K hK
      have q9 : a.tmps[9]?.getD undef = .pointer (some ⟨x9, 0, none⟩) := (hold 9 (by kernel_rfl)).trans o9
      rw [if_pos (by rfl)]
      clear hold hdep hend o1 o9 o13
      have HJ := Lib.hid hJ
      clear hJ
      obtain ⟨z0, z1⟩ := obj_cells2 (HJ.out.x.block H9.out)
      have E1 := Ext.refl w1
      go_simp
      exact hK _ _ (fun _ _ _ h => h) HJ.out rfl
    · intro ls vs a w1 hi hJ hold hdep K hK
      have q1 : a.tmps[1]?.getD undef = .pointer (some ⟨fb, 0, none⟩) := (hold 1 (by kernel_rfl)).trans o1
      rw [if_pos (by rfl)]
      clear hold hdep hend o1 o9 o13
      have HJ := Lib.hid hJ
      clear hJ
      go_simp
      exact hK _ _ (fun _ _ _ h => h) HJ.out rfl
    · intro ls vs a w1 hi hJ hold hdep K hK
      have q159 : a.tmps[159]?.getD undef = .pointer (some ⟨fb, 1, none⟩) := (hdep 1 159 (by kernel_rfl) (by kernel_rfl)).2.1.trans (hdep 1 159 (by kernel_rfl) (by kernel_rfl)).2.2
      rw [if_pos (by rfl)]
      clear hold hdep hend o1 o9 o13
      have HJ := Lib.hid hJ
      clear hJ
      have hz1 := HB0.out.trans HJ.out.x
      go_simp
      exact hK _ _ (fun _ _ _ h => h) HJ.out rfl
    · intro ls vs a w1 hi hJ hold hdep K hK
      have q13 : a.tmps[13]?.getD undef = .int .i64 k := (hold 13 (by kernel_rfl)).trans o13
      rw [if_pos (by rfl)]
      clear hold hdep hend o1 o9 o13
      have HJ := Lib.hid hJ
      clear hJ
      go_simp
      exact hK _ _ (fun _ _ _ h => h) HJ.out rfl
    · intro ls vs a w1 hi hJ hold hdep K hK
      have q160 : a.tmps[160]?.getD undef = .slice (some ⟨ob, oo, none⟩) m co := (hdep 2 160 (by kernel_rfl) (by kernel_rfl)).2.1.trans (hdep 2 160 (by kernel_rfl) (by kernel_rfl)).2.2
      have q161 : a.tmps[161]?.getD undef = .int .i64 k := (hdep 3 161 (by kernel_rfl) (by kernel_rfl)).2.1.trans (hdep 3 161 (by kernel_rfl) (by kernel_rfl)).2.2
      rw [if_pos (by rfl)]
      clear hold hdep hend o1 o9 o13
      have HJ := Lib.hid hJ
      clear hJ
      go_simp
      exact hK _ _ (fun _ _ _ h => h) HJ.out rfl
    · intro ls vs a w1 hi hJ hold hdep K hK
      have q162 : a.tmps[162]?.getD undef = .pointer (some ⟨ob, oo + k * 9, none⟩) := (hdep 4 162 (by kernel_rfl) (by kernel_rfl)).2.1.trans (hdep 4 162 (by kernel_rfl) (by kernel_rfl)).2.2
      rw [if_pos (by rfl)]
      clear hold hdep hend o1 o9 o13
      have HJ := Lib.hid hJ
      clear hJ
      obtain ⟨x0, x1, x2, x3, x4, x5, x6, x7, x8⟩ := HC.out _ (HB0.out.trans HJ.out.x)
      go_simp
      exact hK _ _ (fun _ _ _ h => h) HJ.out rfl
    · intro ls vs a w1 hi hJ hold hdep K hK
      have q158 : a.tmps[158]?.getD undef = .agg #[.bool N, .slice al n c] := (hdep 0 158 (by kernel_rfl) (by kernel_rfl)).2.1.trans (hdep 0 158 (by kernel_rfl) (by kernel_rfl)).2.2
      have q163 : a.tmps[163]?.getD undef = opval x := (hdep 5 163 (by kernel_rfl) (by kernel_rfl)).2.1.trans (hdep 5 163 (by kernel_rfl) (by kernel_rfl)).2.2
      rw [if_pos (by rfl)]
      clear hold hdep hend o1 o9 o13
      have HJ := Lib.hid hJ
      clear hJ
      have j1 := HJ.out
      have hi6 : ls 6 = false := hi
      rw [hi6] at j1
      have hx := HJ.out.x
      go_simp
      go_at_call 23
      (with_reducible refine (HT.out _ hx).mono ?_); rintro e w20 ⟨N', a', n', c', la', lc', rfl, he, hk⟩
      exact hK _ _ (fun _ _ _ h => h) (j1.put5 hKO he hk) trivial
    · intro ls vs a w1 hi hJ hold hdep K hK
      obtain ⟨hl6, q164, p164⟩ := hdep 6 164 (by kernel_rfl) (by kernel_rfl)
      rw [if_pos (by rfl)]
      clear hold hdep hend o1 o9 o13
      have HJ := Lib.hid hJ
      clear hJ
      have j1 := HJ.out
      have hi7 : ls 7 = false := hi
      rw [hl6, hi7] at j1
      go_simp
      refine hK _ _ (fun _ _ _ h => h) ?_ trivial
      show JG wr _ r KK (ls 6) true (ls 8) (ls 9) (ls 10) (ls 11) (ls 12) (ls 13) (vs 6) (vs 6) (vs 8) (vs 9) (vs 10) (vs 11)
      rw [hl6]; exact j1.put6
    · intro ls vs a w1 hi hJ hold hdep K hK
      obtain ⟨hl7, q157, p157⟩ := hdep 7 157 (by kernel_rfl) (by kernel_rfl)
      rw [if_pos (by rfl)]
      clear hold hdep hend o1 o9 o13
      have HJ := Lib.hid hJ
      clear hJ
      have j1 := HJ.out
      have hi8 : ls 8 = false := hi
      rw [hl7, hi8] at j1
      obtain ⟨k5, k6⟩ := j1.a6 rfl
      obtain ⟨rN, ra, rn, rc, la, lc, k7, -⟩ := j1.a5 k5
      rw [k6, k7] at q157
      go_simp
      refine hK _ _ (fun _ _ _ h => h) ?_ trivial
      have hj := j1.put7
      rw [show tup (vs 6) 0 = rv rN ra rn rc by rw [k7]; rfl] at hj
      show JG wr _ r KK (ls 6) (ls 7) true (ls 9) (ls 10) (ls 11) (ls 12) (ls 13) (vs 6) (vs 7) _ (vs 9) (vs 10) (vs 11)
      rw [hl7]; exact hj
    · intro ls vs a w1 hi hJ hold hdep K hK
      obtain ⟨hl7, q157, p157⟩ := hdep 7 157 (by kernel_rfl) (by kernel_rfl)
      rw [if_pos (by rfl)]
      clear hold hdep hend o1 o9 o13
      have HJ := Lib.hid hJ
      clear hJ
      have j1 := HJ.out
      have hi9 : ls 9 = false := hi
      rw [hl7, hi9] at j1
      obtain ⟨k5, k6⟩ := j1.a6 rfl
      obtain ⟨rN, ra, rn, rc, la, lc, k7, -⟩ := j1.a5 k5
      rw [k6, k7] at q157
      go_simp
      refine hK _ _ (fun _ _ _ h => h) ?_ trivial
      have hj := j1.put8
      rw [show tup (vs 6) 1 = resval r la lc by rw [k7]; rfl] at hj
      show JG wr _ r KK (ls 6) (ls 7) (ls 8) true (ls 10) (ls 11) (ls 12) (ls 13) (vs 6) (vs 7) (vs 8) _ (vs 10) (vs 11)
      rw [hl7]; exact hj
    · intro ls vs a w1 hi hJ hold hdep K hK
      rw [if_pos (by rfl)]
      clear hold hdep hend o1 o9 o13
      have HJ := Lib.hid hJ
      clear hJ
      have j1 := HJ.out
      have hi10 : ls 10 = false := hi
      rw [hi10] at j1
      go_simp
      exact hK _ _ (fun _ _ _ h => h) (j1.put9 hKO) trivial
    · intro ls vs a w1 hi hJ hold hdep K hK
      rw [if_pos (by rfl)]
      clear hold hdep hend o1 o9 o13
      have HJ := Lib.hid hJ
      clear hJ
      have j1 := HJ.out
      have hi11 : ls 11 = false := hi
      rw [hi11] at j1
      go_simp
      exact hK _ _ (fun _ _ _ h => h) (j1.put10 hKO) trivial
    · intro ls vs a w1 hi hJ hold hdep K hK
      obtain ⟨hl10, q15, p15⟩ := hdep 10 15 (by kernel_rfl) (by kernel_rfl)
      obtain ⟨hl8, q165, p165⟩ := hdep 8 165 (by kernel_rfl) (by kernel_rfl)
      rw [if_pos (by rfl)]
      clear hold hdep hend o1 o9 o13
      have HJ := Lib.hid hJ
      clear hJ
      have j1 := HJ.out
      have hi12 : ls 12 = false := hi
      rw [hl8, hl10, hi12] at j1
      obtain ⟨g, rN, ra, rn, rc, k9, k7, kb, hj⟩ := j1.put11 hKO
      rw [k9] at q15
      rw [k7] at q165
      obtain ⟨z0, z1⟩ := obj_cells2 kb
      replace z0 := z0 w1 (Ext.refl _); replace z1 := z1 w1 (Ext.refl _)
      have f1 := obj_free kb w1 (Ext.refl _)
      go_simp
      refine hK undef _ (fun _ _ _ h => h) ?_ trivial
      show JG wr _ r KK (ls 6) (ls 7) (ls 8) (ls 9) (ls 10) (ls 11) true (ls 13) (vs 6) (vs 7) (vs 8) (vs 9) (vs 10) (vs 11)
      rw [hl8, hl10]; exact hj
    · intro ls vs a w1 hi hJ hold hdep K hK
      obtain ⟨hl11, q16, p16⟩ := hdep 11 16 (by kernel_rfl) (by kernel_rfl)
      obtain ⟨hl9, q166, p166⟩ := hdep 9 166 (by kernel_rfl) (by kernel_rfl)
      rw [if_pos (by rfl)]
      clear hold hdep hend o1 o9 o13
      have HJ := Lib.hid hJ
      clear hJ
      have j1 := HJ.out
      have hi13 : ls 13 = false := hi
      rw [hl9, hl11, hi13] at j1
      obtain ⟨g, la, lc, k9, k7, kb, hj⟩ := j1.put12 hKO
      rw [k9] at q16
      rw [k7] at q166
      obtain ⟨z0, z1, z2, z3⟩ := obj_cells4 kb
      replace z0 := z0 w1 (Ext.refl _); replace z1 := z1 w1 (Ext.refl _); replace z2 := z2 w1 (Ext.refl _); replace z3 := z3 w1 (Ext.refl _)
      have f1 := obj_free kb w1 (Ext.refl _)
      go_simp
      refine hK undef _ (fun _ _ _ h => h) ?_ trivial
      show JG wr _ r KK (ls 6) (ls 7) (ls 8) (ls 9) (ls 10) (ls 11) (ls 12) true (vs 6) (vs 7) (vs 8) (vs 9) (vs 10) (vs 11)
      rw [hl9, hl11]; exact hj
  · intro vs w9 ls9 hl9 hJ9 hφ
    have e0 := hφ 0 (by kernel_rfl)
    have e1 := hφ 1 (by kernel_rfl)
    have e2 := hφ 2 (by kernel_rfl)
    have e3 := hφ 3 (by kernel_rfl)
    have e4 := hφ 4 (by kernel_rfl)
    have e5 := hφ 5 (by kernel_rfl)
    have e6 := hφ 6 (by kernel_rfl)
    have e7 := hφ 7 (by kernel_rfl)
    have e8 := hφ 8 (by kernel_rfl)
    have e9 := hφ 9 (by kernel_rfl)
    have e10 := hφ 10 (by kernel_rfl)
    have e11 := hφ 11 (by kernel_rfl)
    have hq := hend vs w9 ls9 hl9 hJ9 e0 e1 e2 e3 e4 e5 e6 e7 e8 e9 e10 e11
    simp only [Act.put] at hq
    simp only [putAll, Act.put]
    exact hq
set_option maxRecDepth 100000 in
set_option maxHeartbeats 4000000 in
theorem l6_38 {x9 b n c : Nat} {al : Option Addr} {L : List Lk} {wb : World} (HB9 : Hid (wb.heap[x9]? = some (.cells #[.bool false, .slice al n c] 40 (0, 0)))) (HDM : Hid (∀ W, Ext wb W → Calls Try.prog 27 #[ptr b] W (RetDump L W))) (HSL : Hid (∀ W a' c' (zs : List Lv), Ext wb W → Links W a' zs → lks zs = L → Calls Try.prog 28 #[.slice a' zs.length c', .slice al n c] W (Ret (.bool true) W))) {Q : Exit → Act → World → Prop} (aZ : Act) (hsz : aZ.tmps.size = 184) (o7 : aZ.tmps[7]?.getD undef = ptr b) (o9 : aZ.tmps[9]?.getD undef = .pointer (some ⟨x9, 0, none⟩))
    (hend : ∀ (vs : Nat → Value) (w9 : World) (ls9 : Nat → Bool), (∀ j : Nat, j < 13 → ls9 j = true) → (Ext wb w9) → (vs 0 = .pointer (some ⟨x9, 0, none⟩)) → (vs 1 = .bool false) → (vs 2 = .bool false) → (vs 3 = ptr b) → (∃ a' c' zs, vs 4 = .slice a' zs.length c' ∧ Links w9 a' zs ∧ lks zs = L) → (vs 5 = .pointer (some ⟨x9, 1, none⟩)) → (vs 6 = .slice al n c) → (vs 7 = .bool true) → (vs 8 = .bool true) → (vs 9 = .bool true) → (vs 10 = .bool true) → (vs 11 = .bool true) → (vs 12 = .bool true) → Q .normal (((((((((((((aZ.put (some 172) (vs 0)).put (some 173) (vs 1)).put (some 174) (vs 2)).put (some 175) (vs 3)).put (some 176) (vs 4)).put (some 177) (vs 5)).put (some 178) (vs 6)).put (some 179) (vs 7)).put (some 180) (vs 8)).put (some 181) (vs 9)).put (some 182) (vs 10)).put (some 183) (vs 11)).put (some 2) (vs 12)) w9) : (regOf Try.f6 38).wp Try.prog Q aZ wb := by
  conv => arg 2; whnf
  refine wp_region_said3 (fun i v wz => match i with
    | 0 => v = .pointer (some ⟨x9, 0, none⟩)
    | 1 => v = .bool false
    | 2 => v = .bool false
    | 3 => v = ptr b
    | 4 => ∃ a' c' zs, v = .slice a' zs.length c' ∧ Links wz a' zs ∧ lks zs = L
    | 5 => v = .pointer (some ⟨x9, 1, none⟩)
    | 6 => v = .slice al n c
    | 7 => v = .bool true
    | 8 => v = .bool true
    | 9 => v = .bool true
    | 10 => v = .bool true
    | 11 => v = .bool true
    | _ => v = .bool true) (fun ls vs wz => Ext wb wz) (by kernel_rfl) (by kernel_rfl) (by rw [hsz]; kernel_rfl) ?_ ?_ ?_
  · exact (Ext.refl _).drew
  · refine ⟨?_, ?_, ?_, ?_, ?_, ?_, ?_, ?_, ?_, ?_, ?_, ?_, ?_, trivial⟩
    · intro ls vs a w1 hi hJ hold hdep K hK
      have q9 : a.tmps[9]?.getD undef = .pointer (some ⟨x9, 0, none⟩) := (hold 9 (by kernel_rfl)).trans o9
      rw [if_pos (by rfl)]
      clear hold hdep hend o7 o9
      go_simp
      exact hK _ _ (fun _ _ _ h => h) hJ rfl
    · intro ls vs a w1 hi hJ hold hdep K hK
      have q172 : a.tmps[172]?.getD undef = .pointer (some ⟨x9, 0, none⟩) := (hdep 0 172 (by kernel_rfl) (by kernel_rfl)).2.1.trans (hdep 0 172 (by kernel_rfl) (by kernel_rfl)).2.2
      rw [if_pos (by rfl)]
      clear hold hdep hend o7 o9
      obtain ⟨z0, z1⟩ := obj_cells2 (hJ.block HB9.out)
      have E1 := Ext.refl w1
      go_simp
      exact hK _ _ (fun _ _ _ h => h) hJ rfl
    · intro ls vs a w1 hi hJ hold hdep K hK
      have q173 : a.tmps[173]?.getD undef = .bool false := (hdep 1 173 (by kernel_rfl) (by kernel_rfl)).2.1.trans (hdep 1 173 (by kernel_rfl) (by kernel_rfl)).2.2
      rw [if_pos (by rfl)]
      clear hold hdep hend o7 o9
      go_simp
      exact hK _ _ (fun _ _ _ h => h) hJ rfl
    · intro ls vs a w1 hi hJ hold hdep K hK
      have q7 : a.tmps[7]?.getD undef = ptr b := (hold 7 (by kernel_rfl)).trans o7
      have q174 : a.tmps[174]?.getD undef = .bool false := (hdep 2 174 (by kernel_rfl) (by kernel_rfl)).2.1.trans (hdep 2 174 (by kernel_rfl) (by kernel_rfl)).2.2
      clear hold hdep hend o7 o9
      rw [wanted_of rfl (by kernel_rfl) q174, if_pos (by rfl)]
      go_simp
      exact hK _ _ (fun _ _ _ h => h) hJ rfl
    · intro ls vs a w1 hi hJ hold hdep K hK
      have q175 : a.tmps[175]?.getD undef = ptr b := (hdep 3 175 (by kernel_rfl) (by kernel_rfl)).2.1.trans (hdep 3 175 (by kernel_rfl) (by kernel_rfl)).2.2
      have q174 : a.tmps[174]?.getD undef = .bool false := (hdep 2 174 (by kernel_rfl) (by kernel_rfl)).2.1.trans (hdep 2 174 (by kernel_rfl) (by kernel_rfl)).2.2
      clear hold hdep hend o7 o9
      rw [wanted_of rfl (by kernel_rfl) q174, if_pos (by rfl)]
      go_simp
      go_at_call 27
      (with_reducible refine (HDM.out _ hJ).mono ?_); rintro e w20 ⟨a', c', zs, rfl, he, k1, k2⟩
      exact hK _ _ (fun j u _ h => by
            match j, h with
            | 0, h | 1, h | 2, h | 3, h | 5, h | 6, h | 7, h | 8, h | 9, h | 10, h | 11, h => exact h
            | 4, h => obtain ⟨a', c', zs, h1, h2, h3⟩ := h; exact ⟨a', c', zs, h1, h2.ext he, h3⟩
            | (n + 12), h => exact h) (hJ.trans he) ⟨_, _, _, rfl, k2.links, k1⟩
    · intro ls vs a w1 hi hJ hold hdep K hK
      have q9 : a.tmps[9]?.getD undef = .pointer (some ⟨x9, 0, none⟩) := (hold 9 (by kernel_rfl)).trans o9
      have q174 : a.tmps[174]?.getD undef = .bool false := (hdep 2 174 (by kernel_rfl) (by kernel_rfl)).2.1.trans (hdep 2 174 (by kernel_rfl) (by kernel_rfl)).2.2
      clear hold hdep hend o7 o9
      rw [wanted_of rfl (by kernel_rfl) q174, if_pos (by rfl)]
      go_simp
      exact hK _ _ (fun _ _ _ h => h) hJ rfl
    · intro ls vs a w1 hi hJ hold hdep K hK
      have q177 : a.tmps[177]?.getD undef = .pointer (some ⟨x9, 1, none⟩) := (hdep 5 177 (by kernel_rfl) (by kernel_rfl)).2.1.trans (hdep 5 177 (by kernel_rfl) (by kernel_rfl)).2.2
      have q174 : a.tmps[174]?.getD undef = .bool false := (hdep 2 174 (by kernel_rfl) (by kernel_rfl)).2.1.trans (hdep 2 174 (by kernel_rfl) (by kernel_rfl)).2.2
      clear hold hdep hend o7 o9
      rw [wanted_of rfl (by kernel_rfl) q174, if_pos (by rfl)]
      obtain ⟨z0, z1⟩ := obj_cells2 (hJ.block HB9.out)
      have E1 := Ext.refl w1
      go_simp
      exact hK _ _ (fun _ _ _ h => h) hJ rfl
    · intro ls vs a w1 hi hJ hold hdep K hK
      obtain ⟨hl4, q176, p176⟩ := hdep 4 176 (by kernel_rfl) (by kernel_rfl)
      have q178 : a.tmps[178]?.getD undef = .slice al n c := (hdep 6 178 (by kernel_rfl) (by kernel_rfl)).2.1.trans (hdep 6 178 (by kernel_rfl) (by kernel_rfl)).2.2
      have q174 : a.tmps[174]?.getD undef = .bool false := (hdep 2 174 (by kernel_rfl) (by kernel_rfl)).2.1.trans (hdep 2 174 (by kernel_rfl) (by kernel_rfl)).2.2
      clear hold hdep hend o7 o9
      rw [wanted_of rfl (by kernel_rfl) q174, if_pos (by rfl)]
      obtain ⟨a', c', zs, k1, k2, k3⟩ := p176
      have hs := HSL.out _ a' c' zs hJ k2 k3
      obtain ⟨m, hm⟩ : ∃ m, m = zs.length := ⟨_, rfl⟩
      rw [← hm] at hs k1
      rw [k1] at q176
      have HS := Lib.hid hs
      clear hs hm k1 k2 k3
      go_simp
      go_at_call 28
      (with_reducible refine HS.out.mono ?_); rintro e w20 ⟨rfl, he⟩
      exact hK _ _ (fun j u _ h => by
            match j, h with
            | 0, h | 1, h | 2, h | 3, h | 5, h | 6, h | 7, h | 8, h | 9, h | 10, h | 11, h => exact h
            | 4, h => obtain ⟨a', c', zs, h1, h2, h3⟩ := h; exact ⟨a', c', zs, h1, h2.ext he, h3⟩
            | (n + 12), h => exact h) (hJ.trans he) rfl
    · intro ls vs a w1 hi hJ hold hdep K hK
      have q174 : a.tmps[174]?.getD undef = .bool false := (hdep 2 174 (by kernel_rfl) (by kernel_rfl)).2.1.trans (hdep 2 174 (by kernel_rfl) (by kernel_rfl)).2.2
      have q179 : a.tmps[179]?.getD undef = .bool true := (hdep 7 179 (by kernel_rfl) (by kernel_rfl)).2.1.trans (hdep 7 179 (by kernel_rfl) (by kernel_rfl)).2.2
      rw [if_pos (by rfl)]
      clear hold hdep hend o7 o9
      go_simp
      exact hK _ _ (fun _ _ _ h => h) hJ rfl
    · intro ls vs a w1 hi hJ hold hdep K hK
      have q180 : a.tmps[180]?.getD undef = .bool true := (hdep 8 180 (by kernel_rfl) (by kernel_rfl)).2.1.trans (hdep 8 180 (by kernel_rfl) (by kernel_rfl)).2.2
      rw [if_pos (by rfl)]
      clear hold hdep hend o7 o9
      go_simp
      exact hK _ _ (fun _ _ _ h => h) hJ rfl
    · intro ls vs a w1 hi hJ hold hdep K hK
      have q181 : a.tmps[181]?.getD undef = .bool true := (hdep 9 181 (by kernel_rfl) (by kernel_rfl)).2.1.trans (hdep 9 181 (by kernel_rfl) (by kernel_rfl)).2.2
      clear hold hdep hend o7 o9
      rw [wanted_of rfl (by kernel_rfl) q181, if_pos (by rfl)]
      go_simp
      go_at_call 12
      (with_reducible refine (known_any _).mono ?_); rintro e w20 ⟨rfl, he⟩
      exact hK _ _ (fun j u _ h => by
            match j, h with
            | 0, h | 1, h | 2, h | 3, h | 5, h | 6, h | 7, h | 8, h | 9, h | 10, h | 11, h => exact h
            | 4, h => obtain ⟨a', c', zs, h1, h2, h3⟩ := h; exact ⟨a', c', zs, h1, h2.ext he, h3⟩
            | (n + 12), h => exact h) (hJ.trans he) rfl
    · intro ls vs a w1 hi hJ hold hdep K hK
      have q181 : a.tmps[181]?.getD undef = .bool true := (hdep 9 181 (by kernel_rfl) (by kernel_rfl)).2.1.trans (hdep 9 181 (by kernel_rfl) (by kernel_rfl)).2.2
      have q182 : a.tmps[182]?.getD undef = .bool true := (hdep 10 182 (by kernel_rfl) (by kernel_rfl)).2.1.trans (hdep 10 182 (by kernel_rfl) (by kernel_rfl)).2.2
      rw [if_pos (by rfl)]
      clear hold hdep hend o7 o9
      go_simp
      exact hK _ _ (fun _ _ _ h => h) hJ rfl
    · intro ls vs a w1 hi hJ hold hdep K hK
      have q183 : a.tmps[183]?.getD undef = .bool true := (hdep 11 183 (by kernel_rfl) (by kernel_rfl)).2.1.trans (hdep 11 183 (by kernel_rfl) (by kernel_rfl)).2.2
      rw [if_pos (by rfl)]
      clear hold hdep hend o7 o9
      go_simp
      exact hK _ _ (fun _ _ _ h => h) hJ rfl
  · intro vs w9 ls9 hl9 hJ9 hφ
    have e0 := hφ 0 (by kernel_rfl)
    have e1 := hφ 1 (by kernel_rfl)
    have e2 := hφ 2 (by kernel_rfl)
    have e3 := hφ 3 (by kernel_rfl)
    have e4 := hφ 4 (by kernel_rfl)
    have e5 := hφ 5 (by kernel_rfl)
    have e6 := hφ 6 (by kernel_rfl)
    have e7 := hφ 7 (by kernel_rfl)
    have e8 := hφ 8 (by kernel_rfl)
    have e9 := hφ 9 (by kernel_rfl)
    have e10 := hφ 10 (by kernel_rfl)
    have e11 := hφ 11 (by kernel_rfl)
    have e12 := hφ 12 (by kernel_rfl)
    have hq := hend vs w9 ls9 hl9 hJ9 e0 e1 e2 e3 e4 e5 e6 e7 e8 e9 e10 e11 e12
    simp only [Act.put] at hq
    simp only [putAll, Act.put]
    exact hq
end Go.Proofs.Ytlahejakcgoheaa
