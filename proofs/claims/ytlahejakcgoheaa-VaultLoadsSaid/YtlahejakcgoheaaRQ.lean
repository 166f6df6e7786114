/-
  Walks of the reference: with.
-/
import Derived.Test.YtlahejakcgoheaaRO2
set_option linter.unusedVariables false
set_option linter.unusedSimpArgs false
namespace Go.Proofs.Ytlahejakcgoheaa
open Go.RowKit
theorem link_cells {w : World} {b o : Nat} {x : Lv} (h : LinkC w b o x) (j : Nat) (hj : j < 10) : w.cell? ⟨b, o + j, none⟩ = (lcl x)[j]? := by
  obtain ⟨c0, c1, c2, c3, c4, c5, c6, c7, c8, c9⟩ := h
  match j, hj with
  | 0, _ => exact c0
  | 1, _ => exact c1
  | 2, _ => exact c2
  | 3, _ => exact c3
  | 4, _ => exact c4
  | 5, _ => exact c5
  | 6, _ => exact c6
  | 7, _ => exact c7
  | 8, _ => exact c8
  | 9, _ => exact c9
theorem getElem_lt {α : Type} {l : List α} {j : Nat} {u : α} (h : l[j]? = some u) : j < l.length := by
  rcases Nat.lt_or_ge j l.length with q | q
  · exact q
  · rw [List.getElem?_eq_none q] at h; cases h
theorem app_rows (ty : TypeId) (w : World) (B : Nat) (v : Value) (ys xs : List Lv) (a : Option Addr) (c : Nat) (hv : OwnL w B v ys) (hx : Links w a xs) (hn : ys.length + xs.length ≤ 1000000) (hB : B ≤ w.heap.size) :
    ∃ v' w', (Builtin.append_ #[38, 38] ty #[v, .slice a xs.length c]).run Try.prog w = .ok v' w' ∧ OwnL w' B v' (ys ++ xs) ∧ w.grownBy w' v.ownBlock ∧ (v'.ownBlock = v.ownBlock ∨ v'.ownBlock = some w.heap.size) := by
  obtain ⟨i0, hi, hz0, hz1, hz2⟩ := info_parts info59
  have hgen : ∀ ad : Addr, a = some ad → (∀ j u, (rowF lcl xs)[j]? = some u → w.cell? (ad.add j) = some u) →
      ∃ v' w', (Builtin.append_ #[38, 38] ty #[v, .slice a xs.length c]).run Try.prog w = .ok v' w' ∧ OwnL w' B v' (ys ++ xs) ∧ w.grownBy w' v.ownBlock ∧ (v'.ownBlock = v.ownBlock ∨ v'.ownBlock = some w.heap.size) := by
    rintro ad rfl hc
    obtain ⟨v', w', r1, r2, r3, r4, r5⟩ := run_append_own_at (P := Try.prog) w B 38 ty 59 i0 _ 10 112 Try.underlying38 hi hz0 hz1 hz2 rfl (by omega) v ys.length (rowF lcl ys) hv ad xs.length c (rowF lcl xs) (rowF_len lcl_len xs) hc (rowF_one lcl_one xs) (by unfold maxLen; omega) (by omega) hB
    refine ⟨v', w', r1, ?_, r3, r5⟩
    show w'.ownsRow B 59 10 v' (ys ++ xs).length (rowF lcl (ys ++ xs))
    rw [rowF_append, List.length_append]; exact r2
  rcases hx.1 with rfl | ⟨b, o, rfl, hc⟩
  · cases a with
    | some ad => exact hgen ad rfl (fun j u h => by simp [rowF] at h)
    | none =>
      refine ⟨v, w, ?_, by simpa using hv, ⟨rfl, rfl, rfl, Nat.le_refl _, fun _ _ _ => rfl⟩, .inl rfl⟩
      rcases hv.2 with ⟨rfl, hz⟩ | ⟨g, cap, cur, rfl, _, _, hnc, _⟩
      · simp [Builtin.append_, run_underlying Try.underlying38, sizeOf, typeInfo, hi, Builtin.lenOf, Builtin.firstCells]
      · simp [Builtin.append_, run_underlying Try.underlying38, sizeOf, typeInfo, hi, Builtin.lenOf, Builtin.firstCells, hnc, storeCells]
  · refine hgen _ rfl fun j u hj => ?_
    have hlt := getElem_lt hj
    rw [rowF_len lcl_len] at hlt
    have hi' : j / 10 < xs.length := by omega
    have e : j = j / 10 * 10 + j % 10 := by omega
    have h1 := rowF_at lcl_len xs (j / 10) (j % 10) hi' (by omega)
    rw [← e, hj] at h1
    rw [Addr.add_lit]
    have h2 := link_cells (hc (j / 10) hi') (j % 10) (by omega)
    rw [lth_eq _ _ hi', ← h1] at h2
    rw [← h2, show o + j / 10 * 10 + j % 10 = o + j by omega]
theorem app_oneL (ty : TypeId) (w : World) (B : Nat) (v : Value) (xs : List Lv) (h : OwnL w B v xs) (x : Lv) (g : Nat) (hg : w.heap[g]? = some (.cells (lcells x) 59 (0, 0))) (hn : xs.length ≤ 1000000) (hB : B ≤ w.heap.size) :
    ∃ v' w', (Builtin.append_ #[38, 38] ty #[v, .slice (some ⟨g, 0, none⟩) 1 1]).run Try.prog w = .ok v' w' ∧ OwnL w' B v' (xs ++ [x]) ∧ w.grownBy w' v.ownBlock ∧ (v'.ownBlock = v.ownBlock ∨ v'.ownBlock = some w.heap.size) := by
  obtain ⟨i0, hi, hz0, hz1, hz2⟩ := info_parts info59
  exact app_struct 38 ty 59 lcl lcl_len lcl_one (by omega) Try.underlying38 hi hz0 hz1 hz2 rfl (by omega) w B _ xs h x g hg hn hB
theorem ownL_slice {w : World} {B : Nat} {v : Value} {xs : List Lv} (h : OwnL w B v xs) : ∃ a c, v = .slice a xs.length c := by
  rcases h.2 with ⟨hv, hn⟩ | ⟨g, cap, cur, hv, -⟩
  · exact ⟨none, 0, by rw [hv, hn]⟩
  · exact ⟨_, _, hv⟩
/-- What holds between the operations of the region in which 'with' joins the links. -/
structure JW (w0 wz : World) (vb lb xb B : Nat) (V L : Obj) (xs : List Lv) (y : Lv) (l0 l3 l5 l6 l7 l8 : Bool) (v0 v3 v5 v6 v7 : Value) : Prop where
  x : Ext w0 wz
  b : w0.heap.size ≤ vb ∧ vb < lb ∧ lb < xb ∧ xb < B ∧ B ≤ wz.heap.size
  bv : wz.heap[vb]? = some V
  bl : wz.heap[lb]? = some L
  bx : wz.heap[xb]? = some (.cells #[.bool false, bif l8 then v6 else .slice none 0 0] 40 (0, 0))
  a0 : l0 = true → l3 = false → OwnL wz B v0 []
  a3 : l3 = true → l6 = false → OwnL wz B v3 xs
  a5 : l5 = true → l6 = false → ∃ g, v5 = .slice (some ⟨g, 0, none⟩) 1 1 ∧ wz.heap[g]? = some (.cells (lcells y) 59 (0, 0)) ∧ B ≤ g ∧ (l0 = true → l3 = false → v0.ownBlock ≠ some g) ∧ (l3 = true → v3.ownBlock ≠ some g)
  a6 : l6 = true → OwnL wz B v6 (xs ++ [y])
  a7 : l7 = true → v7 = .agg #[.bool false, v6] ∧ l6 = true
  e3 : l3 = true → l0 = true
  e6 : l6 = true → l3 = true ∧ l5 = true
  e8 : l8 = true → l7 = true
section
variable {w0 w : World} {vb lb xb B : Nat} {V L : Obj} {xs : List Lv} {y : Lv} {l0 l3 l5 l6 l7 l8 : Bool} {v0 v3 v5 v6 v7 : Value}
theorem JW.n6 (h : JW w0 w vb lb xb B V L xs y l0 l3 l5 false l7 l8 v0 v3 v5 v6 v7) : l7 = false ∧ l8 = false := by
  have h7 : l7 = false := by cases l7 with | false => rfl | true => have := (h.a7 rfl).2; cases this
  refine ⟨h7, ?_⟩
  subst h7
  cases l8 with | false => rfl | true => have := h.e8 rfl; cases this
theorem JW.n3 (h : JW w0 w vb lb xb B V L xs y l0 false l5 l6 l7 l8 v0 v3 v5 v6 v7) : l6 = false := by
  cases l6 with | false => rfl | true => have := (h.e6 rfl).1; cases this
theorem JW.any {u0 u3 u5 u6 u7 : Value} (h : JW w0 w vb lb xb B V L xs y false false false false false false v0 v3 v5 v6 v7) : JW w0 w vb lb xb B V L xs y false false false false false false u0 u3 u5 u6 u7 :=
  ⟨h.x, h.b, h.bv, h.bl, h.bx, fun e => (by cases e), fun e => (by cases e), fun e => (by cases e), fun e => (by cases e), fun e => (by cases e), fun e => (by cases e), fun e => (by cases e), fun e => (by cases e)⟩
/-- Something is made. -/
theorem JW.ext {w' : World} (h : JW w0 w vb lb xb B V L xs y l0 l3 l5 l6 l7 l8 v0 v3 v5 v6 v7) (e : Ext w w') : JW w0 w' vb lb xb B V L xs y l0 l3 l5 l6 l7 l8 v0 v3 v5 v6 v7 := by
  obtain ⟨b1, b2, b3, b4, b5⟩ := h.b
  have := e.size
  refine ⟨h.x.trans e, ⟨b1, b2, b3, b4, by omega⟩, e.block h.bv, e.block h.bl, e.block h.bx, fun p q => (h.a0 p q).ext e, fun p q => (h.a3 p q).ext e, fun p q => ?_, fun p => (h.a6 p).ext e, h.a7, h.e3, h.e6, h.e8⟩
  obtain ⟨g, h1, h2, h3⟩ := h.a5 p q
  exact ⟨g, h1, e.block h2, h3⟩
theorem JW.put0 (h : JW w0 w vb lb xb B V L xs y false l3 l5 l6 l7 l8 v0 v3 v5 v6 v7) : JW w0 (w.alloc (.cells #[] 59)) vb lb xb B V L xs y true l3 l5 l6 l7 l8 (.slice (some ⟨w.heap.size, 0, none⟩) 0 0) v3 v5 v6 v7 := by
  have h3 : l3 = false := by cases l3 with | false => rfl | true => have := h.e3 rfl; cases this
  subst h3
  obtain ⟨b1, b2, b3, b4, b5⟩ := h.b
  have h' := h.ext ((Ext.refl w).alloc (.cells #[] 59))
  refine ⟨h'.x, h'.b, h'.bv, h'.bl, h'.bx, fun _ _ => ownL_mono (own_empty w 59 10) b5, h'.a3, fun p q => ?_, h'.a6, h'.a7, fun _ => rfl, h'.e6, h'.e8⟩
  obtain ⟨g, k1, k2, k3, k4, k5⟩ := h.a5 p q
  obtain ⟨g', k1', k2', k3', -⟩ := h'.a5 p q
  have hgg : g' = g := by
    rw [k1] at k1'
    simp only [Value.slice.injEq, Option.some.injEq, Addr.mk.injEq, and_true] at k1'
    exact k1'.symm
  subst hgg
  refine ⟨g', k1', k2', k3', fun _ _ e => ?_, k5⟩
  have hlt := lt_of_block k2
  have e' : some w.heap.size = some g' := e
  have := Option.some.inj e'
  omega
theorem JW.put5 (h : JW w0 w vb lb xb B V L xs y l0 l3 false l6 l7 l8 v0 v3 v5 v6 v7) : JW w0 (w.alloc (.cells (lcells y) 59)) vb lb xb B V L xs y l0 l3 true l6 l7 l8 v0 v3 (.slice (some ⟨w.heap.size, 0, none⟩) 1 1) v6 v7 := by
  have h6 : l6 = false := by cases l6 with | false => rfl | true => have := (h.e6 rfl).2; cases this
  subst h6
  obtain ⟨b1, b2, b3, b4, b5⟩ := h.b
  have h' := h.ext ((Ext.refl w).alloc (.cells (lcells y) 59))
  refine ⟨h'.x, h'.b, h'.bv, h'.bl, h'.bx, h'.a0, h'.a3, fun _ _ => ⟨_, rfl, heap_new w _, b5, fun p q e => ?_, fun p e => ?_⟩, fun e => (by cases e), h'.a7, h'.e3, fun e => (by cases e), h'.e8⟩
  · have := (World.ownsRow.lt (h.a0 p q) _ e).2; omega
  · have := (World.ownsRow.lt (h.a3 p rfl) _ e).2; omega
theorem JW.app3 {a : Option Addr} {c : Nat} (h : JW w0 w vb lb xb B V L xs y true false l5 l6 l7 l8 v0 v3 v5 v6 v7) (hx : Links w a xs) (hn : xs.length ≤ 1000000) :
    ∃ v' w', (Builtin.append_ #[38, 38] 38 #[v0, .slice a xs.length c]).run Try.prog w = .ok v' w' ∧ JW w0 w' vb lb xb B V L xs y true true l5 l6 l7 l8 v0 v' v5 v6 v7 := by
  have h6 := h.n3
  subst h6
  obtain ⟨rfl, rfl⟩ := h.n6
  obtain ⟨b1, b2, b3, b4, b5⟩ := h.b
  have h0 := h.a0 rfl rfl
  obtain ⟨v', w', r1, r2, r3, r4⟩ := app_rows 38 w B v0 [] xs a c h0 hx (by simp; omega) b5
  rw [List.nil_append] at r2
  have hB : ∀ k, v0.ownBlock = some k → B ≤ k ∧ k < w.heap.size := fun k hk => World.ownsRow.lt h0 k hk
  have hb : ∀ k, k < w.heap.size → v0.ownBlock ≠ some k → w'.heap[k]? = w.heap[k]? := fun k q1 q2 => r3.block k q1 fun e => q2 e.symm
  have hsz := r3.size
  have hbl := lt_of_block h.bl; have hbv := lt_of_block h.bv; have hbx := lt_of_block h.bx
  have hne : ∀ k, k < B → v0.ownBlock ≠ some k := fun k q e => by have := (hB k e).1; omega
  refine ⟨v', w', r1, ⟨grown_ext h.x r3 (fun k hk => by have := (hB k hk).1; omega), ⟨b1, b2, b3, b4, by omega⟩, (hb _ hbv (hne _ (by omega))).trans h.bv, (hb _ hbl (hne _ (by omega))).trans h.bl, (hb _ hbx (hne _ (by omega))).trans h.bx, fun _ e => (by cases e), fun _ _ => r2, fun p q => ?_, fun e => (by cases e), fun e => (by cases e), fun _ => rfl, fun e => (by cases e), fun e => (by cases e)⟩⟩
  obtain ⟨g, k1, k2, k3, k4, k5⟩ := h.a5 p q
  have hlt := lt_of_block k2
  refine ⟨g, k1, (hb g hlt (k4 rfl rfl)).trans k2, k3, fun _ e => (by cases e), fun _ e => ?_⟩
  rcases r4 with r4 | r4
  · exact k4 rfl rfl (r4 ▸ e)
  · rw [r4] at e
    have := Option.some.inj e
    omega
theorem JW.app6 (h : JW w0 w vb lb xb B V L xs y l0 true true false l7 l8 v0 v3 v5 v6 v7) (hn : xs.length ≤ 1000000) :
    ∃ v' w', (Builtin.append_ #[38, 38] 38 #[v3, v5]).run Try.prog w = .ok v' w' ∧ JW w0 w' vb lb xb B V L xs y l0 true true true l7 l8 v0 v3 v5 v' v7 := by
  obtain ⟨rfl, rfl⟩ := h.n6
  obtain ⟨b1, b2, b3, b4, b5⟩ := h.b
  have h3 := h.a3 rfl rfl
  obtain ⟨g, rfl, k2, k3, k4, k5⟩ := h.a5 rfl rfl
  obtain ⟨v', w', r1, r2, r3, r4⟩   := app_oneL 38 w B v3 xs h3 y g k2 hn b5
  have hB : ∀ k, v3.ownBlock = some k → B ≤ k ∧ k < w.heap.size := fun k hk => World.ownsRow.lt h3 k hk
  have hb : ∀ k, k < w.heap.size → v3.ownBlock ≠ some k → w'.heap[k]? = w.heap[k]? := fun k q1 q2 => r3.block k q1 fun e => q2 e.symm
  have hsz := r3.size
  have hbl := lt_of_block h.bl; have hbv := lt_of_block h.bv; have hbx := lt_of_block h.bx
  have hne : ∀ k, k < B → v3.ownBlock ≠ some k := fun k q e => by have := (hB k e).1; omega
  exact ⟨v', w', r1, ⟨grown_ext h.x r3 (fun k hk => by have := (hB k hk).1; omega), ⟨b1, b2, b3, b4, by omega⟩, (hb _ hbv (hne _ (by omega))).trans h.bv, (hb _ hbl (hne _ (by omega))).trans h.bl, (hb _ hbx (hne _ (by omega))).trans h.bx, fun _ e => (by cases e), fun _ e => (by cases e), fun _ e => (by cases e), fun _ => r2, fun e => (by cases e), h.e3, fun _ => ⟨rfl, rfl⟩, fun e => (by cases e)⟩⟩
theorem JW.put7 (h : JW w0 w vb lb xb B V L xs y l0 l3 l5 true l7 l8 v0 v3 v5 v6 v7) : JW w0 w vb lb xb B V L xs y l0 l3 l5 true true l8 v0 v3 v5 v6 (.agg #[.bool false, v6]) :=
  ⟨h.x, h.b, h.bv, h.bl, h.bx, h.a0, h.a3, h.a5, h.a6, fun _ => ⟨rfl, rfl⟩, h.e3, h.e6, fun _ => rfl⟩
theorem JW.put8 (h : JW w0 w vb lb xb B V L xs y l0 l3 l5 true true false v0 v3 v5 v6 v7) : JW w0 ((w.setCell ⟨xb, 0, none⟩ (.bool false)).setCell ⟨xb, 1, none⟩ v6) vb lb xb B V L xs y l0 l3 l5 true true true v0 v3 v5 v6 v7 := by
  obtain ⟨b1, b2, b3, b4, b5⟩ := h.b
  have hk : ∀ k, k ≠ xb → ((w.setCell ⟨xb, 0, none⟩ (.bool false)).setCell ⟨xb, 1, none⟩ v6).heap[k]? = w.heap[k]? := fun k q => (heap_set_ne _ q).trans (heap_set_ne _ q)
  have hsz : ((w.setCell ⟨xb, 0, none⟩ (.bool false)).setCell ⟨xb, 1, none⟩ v6).heap.size = w.heap.size := by simp [World.setCell]
  have h6 := h.a6 rfl
  refine ⟨(h.x.set (p := ⟨xb, 0, none⟩) (by show w0.heap.size ≤ xb; omega) _).set (p := ⟨xb, 1, none⟩) (by show w0.heap.size ≤ xb; omega) _, ⟨b1, b2, b3, b4, by omega⟩, (hk _ (by omega)).trans h.bv, (hk _ (by omega)).trans h.bl, ?_, fun p q => ?_, fun _ e => (by cases e), fun _ e => (by cases e), fun _ => own_of_block h6 fun k q => hk k (by have := (World.ownsRow.lt h6 k q).1; omega), h.a7, h.e3, h.e6, fun _ => rfl⟩
  · have := block_set (block_set h.bx 0 (.bool false)) 1 v6
    simpa using this
  · have := (h.e6 rfl).1
    rw [q] at this; cases this
end
set_option maxRecDepth 100000 in
set_option maxHeartbeats 4000000 in
theorem l78_6 {vb lb xb B n c : Nat} {N : Bool} {al : Option Addr} {xs : List Lv} {y : Lv} {u0 u3 u5 u6 u7 : Value} {wb w0 : World} (HJ0 : Hid (JW wb w0 vb lb xb B (.cells #[.bool N, .slice al n c] 40 (0, 0)) (.cells (lcells y) 59 (0, 0)) xs y false false false false false false u0 u3 u5 u6 u7)) (HLK : Hid (Links wb al xs)) (HN : Hid (n = xs.length)) (hlen : n ≤ 1000000) {Q : Exit → Act → World → Prop} (aZ : Act) (hsz : aZ.tmps.size = 31) (o2 : aZ.tmps[2]?.getD undef = .pointer (some ⟨vb, 0, none⟩)) (o3 : aZ.tmps[3]?.getD undef = .pointer (some ⟨lb, 0, none⟩)) (o4 : aZ.tmps[4]?.getD undef = .pointer (some ⟨xb, 0, none⟩))
    (hend : ∀ (vs : Nat → Value) (w9 : World) (ls9 : Nat → Bool), (∀ j : Nat, j < 9 → ls9 j = true) → (JW wb w9 vb lb xb B (.cells #[.bool N, .slice al n c] 40 (0, 0)) (.cells (lcells y) 59 (0, 0)) xs y (ls9 0) (ls9 3) (ls9 5) (ls9 6) (ls9 7) (ls9 8) (vs 0) (vs 3) (vs 5) (vs 6) (vs 7)) → (True) → (vs 1 = .pointer (some ⟨vb, 1, none⟩)) → (vs 2 = .slice al n c) → (True) → (vs 4 = lval y) → (True) → (True) → (True) → Q .normal ((((((((aZ.put (some 23) (vs 0)).put (some 24) (vs 1)).put (some 25) (vs 2)).put (some 26) (vs 3)).put (some 27) (vs 4)).put (some 28) (vs 5)).put (some 29) (vs 6)).put (some 30) (vs 7)) w9) : (regOf Try.f78 6).wp Try.prog Q aZ w0 := by
  conv => arg 2; whnf
  refine wp_region_said3 (fun i v wz => match i with
    | 0 => True
    | 1 => v = .pointer (some ⟨vb, 1, none⟩)
    | 2 => v = .slice al n c
    | 3 => True
    | 4 => v = lval y
    | 5 => True
    | 6 => True
    | 7 => True
    | _ => True) (fun ls vs wz => JW wb wz vb lb xb B (.cells #[.bool N, .slice al n c] 40 (0, 0)) (.cells (lcells y) 59 (0, 0)) xs y (ls 0) (ls 3) (ls 5) (ls 6) (ls 7) (ls 8) (vs 0) (vs 3) (vs 5) (vs 6) (vs 7)) (by kernel_rfl) (by kernel_rfl) (by rw [hsz]; kernel_rfl) ?_ ?_ ?_
  · exact (JW.any HJ0.out).ext (Ext.refl _).drew
  · refine ⟨?_, ?_, ?_, ?_, ?_, ?_, ?_, ?_, ?_, trivial⟩
    · intro ls vs a w1 hi hJ hold hdep K hK
      rw [if_pos (by rfl)]
      clear hold hdep hend o2 o3 o4
      have HJ := Lib.hid hJ
      clear hJ
      go_simp
      have j1 := HJ.out
      have hi0 : ls 0 = false := hi
      rw [hi0] at j1
      exact hK _ _ (fun _ _ _ h => h) j1.put0 trivial
    · intro ls vs a w1 hi hJ hold hdep K hK
      have q2 : a.tmps[2]?.getD undef = .pointer (some ⟨vb, 0, none⟩) := (hold 2 (by kernel_rfl)).trans o2
      rw [if_pos (by rfl)]
      clear hold hdep hend o2 o3 o4
      have HJ := Lib.hid hJ
      clear hJ
      go_simp
      exact hK _ _ (fun _ _ _ h => h) HJ.out rfl
    · intro ls vs a w1 hi hJ hold hdep K hK
      have q24 : a.tmps[24]?.getD undef = .pointer (some ⟨vb, 1, none⟩) := (hdep 1 24 (by kernel_rfl) (by kernel_rfl)).2.1.trans (hdep 1 24 (by kernel_rfl) (by kernel_rfl)).2.2
      rw [if_pos (by rfl)]
      clear hold hdep hend o2 o3 o4
      have HJ := Lib.hid hJ
      clear hJ
      have hc := (obj_cells2 HJ.out.bv).2 w1 (Ext.refl _)
      go_simp
      exact hK _ _ (fun _ _ _ h => h) HJ.out rfl
    · intro ls vs a w1 hi hJ hold hdep K hK
      obtain ⟨hl0, q23, p23⟩ := hdep 0 23 (by kernel_rfl) (by kernel_rfl)
      have q25 : a.tmps[25]?.getD undef = .slice al n c := (hdep 2 25 (by kernel_rfl) (by kernel_rfl)).2.1.trans (hdep 2 25 (by kernel_rfl) (by kernel_rfl)).2.2
      clear hold hdep hend o2 o3 o4
      have HJ := Lib.hid hJ
      clear hJ
      have j1 := HJ.out
      have hi3 : ls 3 = false := hi
      rw [hl0, hi3] at j1
      obtain ⟨v', w', r1', r2'⟩ := j1.app3 (a := al) (c := c) (HLK.out.ext j1.x) (by rw [← HN.out]; exact hlen)
      rw [← HN.out] at r1'
      refine step_app (by rfl) (.tmp 23) (.tmp 25) 38 (by rfl) _ _ (by simpa [Act.eval, Array.getD_eq_getD_getElem?] using q23) (by simpa [Act.eval, Array.getD_eq_getD_getElem?] using q25) (fun v3 w3 => v3 = v' ∧ w3 = w') ⟨_, _, r1', rfl, rfl⟩ ?_
      rintro v3 w3 ⟨rfl, rfl⟩
      refine hK _ _ (fun _ _ _ h => h) ?_ trivial
      show JW wb _ vb lb xb B _ _ xs y (ls 0) true (ls 5) (ls 6) (ls 7) (ls 8) (vs 0) v3 (vs 5) (vs 6) (vs 7)
      rw [hl0]; exact r2'
    · intro ls vs a w1 hi hJ hold hdep K hK
      have q3 : a.tmps[3]?.getD undef = .pointer (some ⟨lb, 0, none⟩) := (hold 3 (by kernel_rfl)).trans o3
      rw [if_pos (by rfl)]
      clear hold hdep hend o2 o3 o4
      have HJ := Lib.hid hJ
      clear hJ
      obtain ⟨d0, d1, d2, d3, d4, d5, d6, d7, d8, d9⟩ := obj_cells10 HJ.out.bl
      have E1 := Ext.refl w1
      go_simp
      exact hK _ _ (fun _ _ _ h => h) HJ.out rfl
    · intro ls vs a w1 hi hJ hold hdep K hK
      have q27 : a.tmps[27]?.getD undef = lval y := (hdep 4 27 (by kernel_rfl) (by kernel_rfl)).2.1.trans (hdep 4 27 (by kernel_rfl) (by kernel_rfl)).2.2
      rw [if_pos (by rfl)]
      clear hold hdep hend o2 o3 o4
      have HJ := Lib.hid hJ
      clear hJ
      go_simp
      have j1 := HJ.out
      have hi5 : ls 5 = false := hi
      rw [hi5] at j1
      exact hK _ _ (fun _ _ _ h => h) j1.put5 trivial
    · intro ls vs a w1 hi hJ hold hdep K hK
      obtain ⟨hl3, q26, p26⟩ := hdep 3 26 (by kernel_rfl) (by kernel_rfl)
      obtain ⟨hl5, q28, p28⟩ := hdep 5 28 (by kernel_rfl) (by kernel_rfl)
      clear hold hdep hend o2 o3 o4
      have HJ := Lib.hid hJ
      clear hJ
      have j1 := HJ.out
      have hi6 : ls 6 = false := hi
      rw [hl3, hl5, hi6] at j1
      obtain ⟨v', w', r1', r2'⟩ := j1.app6 (by rw [← HN.out]; exact hlen)
      refine step_app (by rfl) (.tmp 26) (.tmp 28) 38 (by rfl) _ _ (by simpa [Act.eval, Array.getD_eq_getD_getElem?] using q26) (by simpa [Act.eval, Array.getD_eq_getD_getElem?] using q28) (fun v3 w3 => v3 = v' ∧ w3 = w') ⟨_, _, r1', rfl, rfl⟩ ?_
      rintro v3 w3 ⟨rfl, rfl⟩
      refine hK _ _ (fun _ _ _ h => h) ?_ trivial
      show JW wb _ vb lb xb B _ _ xs y (ls 0) (ls 3) (ls 5) true (ls 7) (ls 8) (vs 0) (vs 3) (vs 5) v3 (vs 7)
      rw [hl3, hl5]; exact r2'
    · intro ls vs a w1 hi hJ hold hdep K hK
      obtain ⟨hl6, q29, p29⟩ := hdep 6 29 (by kernel_rfl) (by kernel_rfl)
      rw [if_pos (by rfl)]
      clear hold hdep hend o2 o3 o4
      have HJ := Lib.hid hJ
      clear hJ
      have j1 := HJ.out
      rw [hl6] at j1
      obtain ⟨ra, rc, hv⟩ := ownL_slice (j1.a6 rfl)
      have hv : vs 6 = .slice ra (xs.length + 1) rc := by simpa using hv
      rw [hv] at q29
      go_simp
      refine hK _ _ (fun _ _ _ h => h) ?_ trivial
      show JW wb _ vb lb xb B _ _ xs y (ls 0) (ls 3) (ls 5) (ls 6) true (ls 8) (vs 0) (vs 3) (vs 5) (vs 6) (.agg #[.bool false, .slice ra _ rc])
      rw [hl6, ← hv]; exact j1.put7
    · intro ls vs a w1 hi hJ hold hdep K hK
      have q4 : a.tmps[4]?.getD undef = .pointer (some ⟨xb, 0, none⟩) := (hold 4 (by kernel_rfl)).trans o4
      obtain ⟨hl7, q30, p30⟩ := hdep 7 30 (by kernel_rfl) (by kernel_rfl)
      rw [if_pos (by rfl)]
      clear hold hdep hend o2 o3 o4
      have HJ := Lib.hid hJ
      clear hJ
      have j1 := HJ.out
      have hi8 : ls 8 = false := hi
      rw [hl7, hi8] at j1
      obtain ⟨hv7, hl6⟩ := j1.a7 rfl
      rw [hl6] at j1
      obtain ⟨ra, rc, hv⟩ := ownL_slice (j1.a6 rfl)
      have hv : vs 6 = .slice ra (xs.length + 1) rc := by simpa using hv
      rw [hv7, hv] at q30
      obtain ⟨z0, z1⟩ := obj_cells2 j1.bx
      replace z0 := z0 w1 (Ext.refl _)
      replace z1 := z1 w1 (Ext.refl _)
      have f1 := obj_free j1.bx w1 (Ext.refl _)
      go_simp
      refine hK undef _ (fun _ _ _ h => h) ?_ trivial
      show JW wb _ vb lb xb B _ _ xs y (ls 0) (ls 3) (ls 5) (ls 6) (ls 7) true (vs 0) (vs 3) (vs 5) (vs 6) (vs 7)
      rw [hl6, hl7, ← hv]; exact j1.put8
  · intro vs w9 ls9 hl9 hJ9 hφ
    have e0 := hφ 0 (by kernel_rfl)
    have e1 := hφ 1 (by kernel_rfl)
    have e2 := hφ 2 (by kernel_rfl)
    have e3 := hφ 3 (by kernel_rfl)
    have e4 := hφ 4 (by kernel_rfl)
    have e5 := hφ 5 (by kernel_rfl)
    have e6 := hφ 6 (by kernel_rfl)
    have e7 := hφ 7 (by kernel_rfl)
    have hq := hend vs w9 ls9 hl9 hJ9 e0 e1 e2 e3 e4 e5 e6 e7
    simp only [Act.put] at hq
    simp only [putAll, Act.put]
    exact hq
theorem lastN_lks {xs : List Lv} {m : Nat} (h : xs.length = m + 1) : lastN (lks xs) = (lth xs m).l.ch := by
  have hl : (lks xs).getLast? = some (lth xs m).l := by
    rw [List.getLast?_eq_getElem?, lks_len, h, Nat.add_sub_cancel]
    unfold lks
    rw [List.getElem?_map, List.getElem?_eq_getElem (by omega), lth_eq _ _ (by omega)]; rfl
  unfold lastN; rw [hl]
theorem LkOk.chd {l : Lk} (h : LkOk l) (n : Nat) (hn : n < 18446744073709551616) : LkOk (withCh l n) := by
  obtain ⟨h1, h2, h3, h4, h5, h6, h7, h8, h9, h10, h11, h12, h13, h14⟩ := h
  exact ⟨h1, h2, h3, h4, h5, h6, h7, h8, h9, h10, h11, h12, h13, hn⟩
/-- A vault of the reference is returned. -/
def RetV (ls : List Lk) (G : Option Addr → List Lv → Prop) (w : World) (e : Ending) (w' : World) : Prop := ∃ a c ys, e = .returned (rv false a ys.length c) ∧ Ext w w' ∧ Links w' a ys ∧ LksOk ys ∧ lks ys = ls ∧ G a ys
/-- Where a vault's row and its Bodies lie: where they lay, or in blocks made since. -/
def Grow (w : World) (al : Option Addr) (xs : List Lv) (a : Option Addr) (ys : List Lv) : Prop := (a = al ∧ ys = xs) ∨ ((∀ ad, a = some ad → w.heap.size ≤ ad.block) ∧ ∀ y ∈ ys, y ∈ xs ∨ ∀ ad, y.ba = some ad → w.heap.size ≤ ad.block)
theorem ownL_addr {w : World} {B : Nat} {ad : Addr} {n c : Nat} {xs : List Lv} (h : OwnL w B (.slice (some ad) n c) xs) : B ≤ ad.block := (World.ownsRow.lt h ad.block rfl).1
theorem ownL_links {w : World} {B : Nat} {a : Option Addr} {n c : Nat} {xs : List Lv} (h : OwnL w B (.slice a n c) xs) (hb : ∀ x ∈ xs, Byts w x.ba x.l.bo) : Links w a xs := by
  refine ⟨?_, fun i hi => by rw [lth_eq _ _ hi]; exact hb _ (List.getElem_mem hi)⟩
  cases xs with
  | nil => exact .inl rfl
  | cons x0 xs0 =>
    obtain ⟨g, ha, -, -, -⟩ := OwnF.cell lcl_len h 0 (by simp)
    refine .inr ⟨g, 0, ha, fun i hi => ?_⟩
    obtain ⟨g', ha', -, -, hc⟩ := OwnF.cell lcl_len h i hi
    rw [ha] at ha'
    simp only [Option.some.injEq, Addr.mk.injEq, and_true] at ha'
    subst ha'
    rw [lth_eq _ _ hi, Nat.zero_add]
    exact ⟨hc 0 (by omega), hc 1 (by omega), hc 2 (by omega), hc 3 (by omega), hc 4 (by omega), hc 5 (by omega), hc 6 (by omega), hc 7 (by omega), hc 8 (by omega), hc 9 (by omega)⟩
set_option maxRecDepth 100000 in
set_option maxHeartbeats 4000000 in
theorem rwith_any (N : Bool) (a : Option Addr) (xs : List Lv) (c : Nat) (x : Lv) (w : World) (h : Links w a xs) (ho : LksOk xs) (hl : xs.length ≤ 900000) (hx : LkOk x.l) (hsm : SmL x.l) (hb : Byts w x.ba x.l.bo) :
    Calls Try.prog 78 #[rv N a xs.length c, lval x] w (RetV (lks xs ++ [withCh x.l (chainN (lastN (lks xs)) x.l)]) (fun a' ys => (∀ ad, a' = some ad → w.heap.size ≤ ad.block) ∧ ∀ y ∈ ys, y ∈ xs ∨ y.ba = x.ba) w) := by
  obtain ⟨n, hn⟩ : ∃ n, n = xs.length := ⟨_, rfl⟩
  obtain ⟨bf, hbf⟩ : ∃ bf, bf = lastN (lks xs) := ⟨_, rfl⟩
  have hbf2 : bf < 18446744073709551616 := by
    cases n with
    | zero =>
      have : xs = [] := List.length_eq_zero_iff.1 hn.symm
      subst this
      rw [hbf]; decide
    | succ m =>
      rw [hbf, lastN_lks hn.symm]
      exact (ho m (by omega)).ch
  obtain ⟨d, hd⟩ : ∃ d, d = chainN bf x.l := ⟨_, rfl⟩
  have hd2 : d < 18446744073709551616 := by rw [hd]; exact p61_64 (chainN_lt _ _)
  have hch := fun W (e : Ext w W) => rchain_any bf x W hbf2 hx hsm (hb.ext e)
  rw [← hd] at hch
  have HX := Lib.hid h; have HN := Lib.hid hn; have HO := Lib.hid ho; have HXO := Lib.hid hx; have HB := Lib.hid hb; have HBF := Lib.hid hbf; have HD2 := Lib.hid hd2; have HCH := Lib.hid hch
  rw [← hn] at hl ⊢
  rw [← hbf, ← hd]
  clear h hn ho hx hb hsm hbf hbf2 hd hd2 hch
  go_enter Try.func78, Try.ntmps78
  go_upto_region 1 with fail
  generalize hw1 : World.alloc _ _ = w1
  obtain ⟨he, o1, o2, o3, hs1⟩ := alloc3 hw1
  have O1 := Lib.hid o1; have O2 := Lib.hid o2; have O3 := Lib.hid o3; have HE := Lib.hid he
  obtain ⟨b0, b1⟩ := obj_cells2 o1
  obtain ⟨d0, d1, d2, d3, d4, d5, d6, d7, d8, d9⟩ := obj_cells10 o2
  clear hw1 o1 o2 o3 b0
  have E1 := Ext.refl w1
  have hbefore : Hid (∀ K : Prop, (n = 0 → bf = 7 → K) → (∀ m b o, n = m + 1 → a = some ⟨b, o, none⟩ → (∀ W, Ext w W → W.cell? ⟨b, o + m * 10 + 9, none⟩ = some (.int .u64 (bf : Int))) → K) → K) := fun K k0 k1 => by
    cases hn : n with
    | zero =>
      have : xs = [] := List.length_eq_zero_iff.1 (HN.out.symm.trans hn)
      refine k0 hn ?_
      rw [HBF.out, this]; rfl
    | succ m =>
      have hm : xs.length = m + 1 := HN.out.symm.trans hn
      obtain ⟨b, o, ha, hc⟩ := HX.out.at m (by omega)
      refine k1 m b o hn ha fun W e => ?_
      have := (hc W e).2.2.2.2.2.2.2.2.2
      rw [HBF.out, lastN_lks hm]; exact this
  refine hbefore.out _ (fun h0 h7 => ?_) (fun m b o hm ha hc => ?_)
  · subst h0
    subst h7
    clear hbefore
    have hc1 : Calls Try.prog 32 #[.int .u64 7, lval x] w1 (Ret (u64 d) w1) := HCH.out w1 he
    go_wp2_with (fail)
    (with_reducible refine hc1.mono ?_); rintro e w2 ⟨rfl, he2⟩
    have q1 := he2.block O1.out
    have q2 := he2.block O2.out
    have q3 := he2.block O3.out
    clear d0 d1 d2 d3 d4 d5 d6 d7 d8 d9 b1 E1
    obtain ⟨d0, d1, d2, d3, d4, d5, d6, d7, d8, d9⟩ := obj_cells10 q2
    replace d9 := d9 w2 (Ext.refl _)
    have f9 := obj_free q2 w2 (Ext.refl _) 9
    have hbk := block_set q2 9 (u64 d)
    have hb1 : (w2.setCell ⟨w.heap.size + 1, 9, none⟩ (u64 d)).heap[w.heap.size]? = _ := (heap_set_ne _ (by omega)).trans q1
    have hb3 : (w2.setCell ⟨w.heap.size + 1, 9, none⟩ (u64 d)).heap[w.heap.size + 2]? = _ := (heap_set_ne _ (by omega)).trans q3
    have he3 := (HE.out.trans he2).set (p := ⟨w.heap.size + 1, 9, none⟩) (by simp) (u64 d)
    have hs3 : w.heap.size + 3 ≤ (w2.setCell ⟨w.heap.size + 1, 9, none⟩ (u64 d)).heap.size := by
      have := he2.size
      simp [World.setCell]; omega
    have HB1 := Lib.hid hb1; have HB2 := Lib.hid hbk; have HB3 := Lib.hid hb3; have HE3 := Lib.hid he3; have HS3 := Lib.hid hs3
    clear hc1 q1 q2 q3 d0 d1 d2 d3 d4 d5 d6 d7 d8 hbk hb1 hb3 he3 hs3
    go_upto_region 6 with fail
    generalize World.setCell w2 ⟨w.heap.size + 1, 9, none⟩ _ = w3 at *
    clear d9 f9
    simp only [lcells, List.setIfInBounds_toArray, List.set_cons_succ, List.set_cons_zero] at HB2
    obtain ⟨y, hy⟩ : ∃ y : Lv, y = ⟨withCh x.l d, x.ba, x.bc⟩ := ⟨_, rfl⟩
    have HB2' : Hid (w3.heap[w.heap.size + 1]? = some (.cells (lcells y) 59 (0, 0))) := by rw [hy]; exact HB2.out
    have HJ0 := Lib.hid (JW.mk (w0 := w) (wz := w3) (vb := w.heap.size) (lb := w.heap.size + 1) (xb := w.heap.size + 2) (B := w.heap.size + 3) (xs := xs) (y := y) (l0 := false) (l3 := false) (l5 := false) (l6 := false) (l7 := false) (l8 := false) (v0 := undef) (v3 := undef) (v5 := undef) (v6 := undef) (v7 := undef) HE3.out ⟨Nat.le_refl _, by omega, by omega, by omega, HS3.out⟩ HB1.out HB2'.out HB3.out (fun e => (by cases e)) (fun e => (by cases e)) (fun e => (by cases e)) (fun e => (by cases e)) (fun e => (by cases e)) (fun e => (by cases e)) (fun e => (by cases e)) (fun e => (by cases e)))
    have hlen : _ ≤ 1000000 := Nat.le_trans hl (by omega)
    have HLK := HX
    have HY := Lib.hid hy
    clear hy HB1 HB2 HB3 HE3 HS3 he2
    refine l78_6 HJ0 HLK HN hlen _ (by rfl) rfl rfl rfl ?_
    intro vs w9 ls9 hl9 hJ9 e0 e1 e2 e3 e4 e5 e6 e7
    simp only [Act.put, List.setIfInBounds_toArray, List.set_cons_zero, List.set_cons_succ]
    rw [e1, e2, e4]
    have h6 := hJ9.a6 (hl9 6 (by omega))
    obtain ⟨ra, rc, hv⟩ := ownL_slice h6
    have hbx := hJ9.bx
    rw [hl9 8 (by omega), cond_true, hv] at hbx
    rw [hv] at h6
    obtain ⟨z0, z1⟩ := obj_cells2 hbx
    replace z0 := z0 w9 (Ext.refl _)
    replace z1 := z1 w9 (Ext.refl _)
    have HXX := Lib.hid hJ9.x; have H6 := Lib.hid h6
    obtain ⟨L, hL⟩ : ∃ L, L = (xs ++ [y]).length := ⟨_, rfl⟩
    rw [← hL] at z1
    have HLL := Lib.hid hL
    clear hJ9 hl9 e0 e1 e2 e3 e4 e5 e6 e7 hbx h6 hv hL
    go_wp2_with (fail)
    refine bodyPost_ret (v := rv false ra L rc) (by simp [results, Try.results78, go_sem, z0, z1]) rfl ⟨ra, rc, xs ++ [y], by rw [HLL.out], HXX.out, ownL_links H6.out fun z hz => ?_, fun i hi => ?_, ?_, fun ad hd => ?_, fun z hz => ?_⟩
    · rcases List.mem_append.1 hz with hz | hz
      · obtain ⟨i, hi, rfl⟩ := List.getElem_of_mem hz
        have := HX.out.2 i hi
        rw [lth_eq _ _ hi] at this
        exact this.ext HXX.out
      · simp only [List.mem_singleton] at hz; subst hz
        rw [HY.out]; exact HB.out.ext HXX.out
    · rw [lth_eq _ _ hi]
      have hm := List.getElem_mem hi
      rcases List.mem_append.1 hm with hm | hm
      · obtain ⟨j, hj, e⟩ := List.getElem_of_mem hm
        rw [← e, ← lth_eq _ _ hj]; exact HO.out j hj
      · simp only [List.mem_singleton] at hm
        rw [hm, HY.out]; exact HXO.out.chd d HD2.out
    · simp [lks, HY.out]
    · subst hd
      have := ownL_addr H6.out; omega
    · rcases List.mem_append.1 hz with hz | hz
      · exact .inl hz
      · simp only [List.mem_singleton] at hz; subst hz
        exact .inr (by rw [HY.out])
  · subst hm
    subst ha
    have c9 := fun W (e : Ext w1 W) => hc W (he.trans e)
    have hi0 : (0 : Int) ≤ (m : Int) := by omega
    have hi1 : (m : Int) < (m : Int) + 1 := by omega
    have hi2 : (0 : Int) < (m : Int) + 1 := by omega
    clear hc hbefore
    have hc1 := HCH.out w1 he
    go_wp2_with (fail)
    clear c9
    (with_reducible refine hc1.mono ?_); rintro e w2 ⟨rfl, he2⟩
    have q1 := he2.block O1.out
    have q2 := he2.block O2.out
    have q3 := he2.block O3.out
    clear d0 d1 d2 d3 d4 d5 d6 d7 d8 d9 b1 E1
    obtain ⟨d0, d1, d2, d3, d4, d5, d6, d7, d8, d9⟩ := obj_cells10 q2
    replace d9 := d9 w2 (Ext.refl _)
    have f9 := obj_free q2 w2 (Ext.refl _) 9
    have hbk := block_set q2 9 (u64 d)
    have hb1 : (w2.setCell ⟨w.heap.size + 1, 9, none⟩ (u64 d)).heap[w.heap.size]? = _ := (heap_set_ne _ (by omega)).trans q1
    have hb3 : (w2.setCell ⟨w.heap.size + 1, 9, none⟩ (u64 d)).heap[w.heap.size + 2]? = _ := (heap_set_ne _ (by omega)).trans q3
    have he3 := (HE.out.trans he2).set (p := ⟨w.heap.size + 1, 9, none⟩) (by simp) (u64 d)
    have hs3 : w.heap.size + 3 ≤ (w2.setCell ⟨w.heap.size + 1, 9, none⟩ (u64 d)).heap.size := by
      have := he2.size
      simp [World.setCell]; omega
    have HB1 := Lib.hid hb1; have HB2 := Lib.hid hbk; have HB3 := Lib.hid hb3; have HE3 := Lib.hid he3; have HS3 := Lib.hid hs3
    clear hc1 q1 q2 q3 d0 d1 d2 d3 d4 d5 d6 d7 d8 hbk hb1 hb3 he3 hs3
    go_upto_region 6 with fail
    generalize World.setCell w2 ⟨w.heap.size + 1, 9, none⟩ _ = w3 at *
    clear d9 f9
    simp only [lcells, List.setIfInBounds_toArray, List.set_cons_succ, List.set_cons_zero] at HB2
    obtain ⟨y, hy⟩ : ∃ y : Lv, y = ⟨withCh x.l d, x.ba, x.bc⟩ := ⟨_, rfl⟩
    have HB2' : Hid (w3.heap[w.heap.size + 1]? = some (.cells (lcells y) 59 (0, 0))) := by rw [hy]; exact HB2.out
    have HJ0 := Lib.hid (JW.mk (w0 := w) (wz := w3) (vb := w.heap.size) (lb := w.heap.size + 1) (xb := w.heap.size + 2) (B := w.heap.size + 3) (xs := xs) (y := y) (l0 := false) (l3 := false) (l5 := false) (l6 := false) (l7 := false) (l8 := false) (v0 := undef) (v3 := undef) (v5 := undef) (v6 := undef) (v7 := undef) HE3.out ⟨Nat.le_refl _, by omega, by omega, by omega, HS3.out⟩ HB1.out HB2'.out HB3.out (fun e => (by cases e)) (fun e => (by cases e)) (fun e => (by cases e)) (fun e => (by cases e)) (fun e => (by cases e)) (fun e => (by cases e)) (fun e => (by cases e)) (fun e => (by cases e)))
    have hlen : _ ≤ 1000000 := Nat.le_trans hl (by omega)
    have HLK := HX
    have HY := Lib.hid hy
    clear hy HB1 HB2 HB3 HE3 HS3 he2
    refine l78_6 HJ0 HLK HN hlen _ (by rfl) rfl rfl rfl ?_
    intro vs w9 ls9 hl9 hJ9 e0 e1 e2 e3 e4 e5 e6 e7
    simp only [Act.put, List.setIfInBounds_toArray, List.set_cons_zero, List.set_cons_succ]
    rw [e1, e2, e4]
    have h6 := hJ9.a6 (hl9 6 (by omega))
    obtain ⟨ra, rc, hv⟩ := ownL_slice h6
    have hbx := hJ9.bx
    rw [hl9 8 (by omega), cond_true, hv] at hbx
    rw [hv] at h6
    obtain ⟨z0, z1⟩ := obj_cells2 hbx
    replace z0 := z0 w9 (Ext.refl _)
    replace z1 := z1 w9 (Ext.refl _)
    have HXX := Lib.hid hJ9.x; have H6 := Lib.hid h6
    obtain ⟨L, hL⟩ : ∃ L, L = (xs ++ [y]).length := ⟨_, rfl⟩
    rw [← hL] at z1
    have HLL := Lib.hid hL
    clear hJ9 hl9 e0 e1 e2 e3 e4 e5 e6 e7 hbx h6 hv hL
    go_wp2_with (fail)
    refine bodyPost_ret (v := rv false ra L rc) (by simp [results, Try.results78, go_sem, z0, z1]) rfl ⟨ra, rc, xs ++ [y], by rw [HLL.out], HXX.out, ownL_links H6.out fun z hz => ?_, fun i hi => ?_, ?_, fun ad hd => ?_, fun z hz => ?_⟩
    · rcases List.mem_append.1 hz with hz | hz
      · obtain ⟨i, hi, rfl⟩ := List.getElem_of_mem hz
        have := HX.out.2 i hi
        rw [lth_eq _ _ hi] at this
        exact this.ext HXX.out
      · simp only [List.mem_singleton] at hz; subst hz
        rw [HY.out]; exact HB.out.ext HXX.out
    · rw [lth_eq _ _ hi]
      have hm := List.getElem_mem hi
      rcases List.mem_append.1 hm with hm | hm
      · obtain ⟨j, hj, e⟩ := List.getElem_of_mem hm
        rw [← e, ← lth_eq _ _ hj]; exact HO.out j hj
      · simp only [List.mem_singleton] at hm
        rw [hm, HY.out]; exact HXO.out.chd d HD2.out
    · simp [lks, HY.out]
    · subst hd
      have := ownL_addr H6.out; omega
    · rcases List.mem_append.1 hz with hz | hz
      · exact .inl hz
      · simp only [List.mem_singleton] at hz; subst hz
        exact .inr (by rw [HY.out])
end Go.Proofs.Ytlahejakcgoheaa
