/-
  Walks: groupOf.
-/
import Derived.Test.YtplbofhgmflnlaaGreatM12
import Derived.Test.YtplbofhgmflnlaaGreatMS
set_option linter.unusedVariables false
set_option linter.unusedSimpArgs false
namespace Go.Proofs.YtplbofhgmflnlaaGreat
open Go.RowKit
/-- The cells of a group: the block, and the levels of the hard factors below k. -/
def gT (fs : List Fac) (xs : List Int) (b : Int) (k : Nat) : List Int := b :: fl 8 fun i => if decide (i < k) && (fth fs i).hard then nth xs i else 0
theorem gT_len (fs : List Fac) (xs : List Int) (b : Int) (k : Nat) : (gT fs xs b k).length = 9 := by simp [gT, fl_len]
theorem gT_soft {fs : List Fac} {xs : List Int} {b : Int} {k : Nat} (h : (fth fs k).hard = false) : gT fs xs b (k + 1) = gT fs xs b k := by
  unfold gT
  congr 1
  refine fl_congr _ _ _ fun i _ => ?_
  by_cases hi : i = k
  · subst hi; simp [h]
  · simp [show (i < k + 1) ↔ (i < k) by omega]
theorem gT_hard {fs : List Fac} {xs : List Int} {b : Int} {k : Nat} (hk : k < 8) (h : (fth fs k).hard = true) : gT fs xs b (k + 1) = (gT fs xs b k).set (1 + k) (nth xs k) := by
  unfold gT
  rw [Nat.add_comm 1 k, List.set_cons_succ]
  congr 1
  refine ext_nth _ _ (by simp [fl_len]) fun i hi => ?_
  rw [fl_len] at hi
  rw [nth_set _ _ _ _ (by rw [fl_len]; exact hi), nth_fl _ _ _ hi, nth_fl _ _ _ hi]
  by_cases hi : i = k
  · subst hi; simp [h]
  · simp [show (i < k + 1) ↔ (i < k) by omega, hi]
def gL (fs : List Fac) (s : Se) : List Int := gT fs s.lv.xs s.blk fs.length
abbrev grV (L : List Int) : Value := .agg (rowI L).toArray
theorem block_setI {w : World} {g : Nat} {L : List Int} {T : TypeId} {j : Nat} (h : w.heap[g]? = some (.cells (rowI L).toArray T (0, 0))) (v : Int) : (w.setCell ⟨g, j, none⟩ (.int .i64 v)).heap[g]? = some (.cells (rowI (L.set j v)).toArray T (0, 0)) := by
  have e : (rowI (L.set j v)).toArray = (rowI L).toArray.setIfInBounds j (.int .i64 v) := by
    apply Array.ext'
    simp [rowI, List.map_set]
  have hg := lt_of_block h
  simp [World.setCell, Array.getElem?_modify, h, e]
theorem block_cell {w : World} {g : Nat} {L : List Int} {T : TypeId} (h : w.heap[g]? = some (.cells (rowI L).toArray T (0, 0))) (j : Nat) (hj : j < L.length) : w.cell? ⟨g, j, none⟩ = some (.int .i64 (nth L j)) := by
  simp only [World.cell?, h, Option.isSome_none, Bool.false_eq_true, if_false]
  have := rowI_get L j hj
  simpa using this
theorem block_free {w : World} {g : Nat} {a : Array Value} {T : TypeId} (h : w.heap[g]? = some (.cells a T (0, 0))) (j : Nat) : w.frozen? ⟨g, j, none⟩ = false := by simp [World.frozen?, h]
theorem list9 {L : List Int} (h : L.length = 9) : ∃ l0 l1 l2 l3 l4 l5 l6 l7 l8, L = [l0, l1, l2, l3, l4, l5, l6, l7, l8] := by
  match L, h with
  | [l0, l1, l2, l3, l4, l5, l6, l7, l8], _ => exact ⟨l0, l1, l2, l3, l4, l5, l6, l7, l8, rfl⟩
set_option maxRecDepth 100000 in
set_option maxHeartbeats 4000000 in
theorem groupOf_any (P : Pw) (s : Se) (w : World) (h : PlanAt w P) (hf : P.fs.length ≤ 8) (hs : Ints w s.lv.a s.lv.xs) (ls : s.lv.xs.length = P.fs.length) :
    Calls Tryz.prog 126 #[planV P, setV s] w (Ret (grV (gL P.fs s)) w) := by
  obtain ⟨fs, fa, fc, fo, ga, gc⟩ := P
  obtain ⟨⟨xa, xs, xc⟩, xb⟩ := s
  have HH := Lib.hid h; have HX := Lib.hid hs
  have LX := Lib.hid ls
  simp only at hf ⊢
  clear h hs ls
  have hxn : fs.length ≤ xs.length := by have := LX.out; simp only at this; omega
  go_enter Tryz.func126, Tryz.ntmps126
  go_wp2_with (fail)
  generalize hw1 : World.alloc _ _ = w1
  obtain ⟨he, o1, o2, o3, o4⟩ := alloc4 hw1
  obtain ⟨g0, hg0⟩ : ∃ g0, g0 = w.heap.size := ⟨_, rfl⟩
  have HE := Lib.hid he
  rw [← hg0] at o1 o2 o3 o4 ⊢
  obtain ⟨b0, b1⟩ := obj_cells2 o1
  obtain ⟨s0, s1⟩ := obj_cells2 o2
  have ho3 : w1.heap[g0 + 1 + 1]? = some (.cells #[.int .i64 0, .int .i64 0, .int .i64 0, .int .i64 0, .int .i64 0, .int .i64 0, .int .i64 0, .int .i64 0, .int .i64 0] 191 (0, 0)) := o3
  have ho4 : w1.heap[g0 + 1 + 1 + 1]? = some (.cells (rowI (gT fs xs xb 0)).toArray 191 (0, 0)) := by
    have : gT fs xs xb 0 = [xb, 0, 0, 0, 0, 0, 0, 0, 0] := by simp [gT, fl, List.range, List.range.loop]
    rw [this]; exact o4
  have HS1 : Hid (w1.heap.size = g0 + 4) := by
    rw [Hid, hg0, ← hw1]; simp [heap_size]
  clear hw1 o1 o2 o3 o4 he
  obtain ⟨gB, hgB⟩ : ∃ gB, gB = g0 + 1 + 1 + 1 := ⟨_, rfl⟩
  rw [← hgB] at ho4 ⊢
  obtain ⟨gA, hgA⟩ : ∃ gA, gA = g0 + 1 + 1 := ⟨_, rfl⟩
  rw [← hgA] at ho3 ⊢
  obtain ⟨gC, hgC⟩ : ∃ gC, gC = g0 + 1 := ⟨_, rfl⟩
  rw [← hgC] at s0 s1 ⊢
  have HNE : Hid (g0 ≠ gB ∧ gC ≠ gB ∧ gA ≠ gB ∧ gA < w1.heap.size ∧ w.heap.size ≤ gB ∧ w.heap.size ≤ gA) := by rw [Hid, HS1.out]; omega
  have HA := Lib.hid ho3
  have HB0 := Lib.hid (b0 w1 (Ext.refl _)); have HB1 := Lib.hid (b1 w1 (Ext.refl _)); have HS0 := Lib.hid (s0 w1 (Ext.refl _))
  have HO4 := Lib.hid ho4
  clear ho3 hgA hgB hgC hg0 b0 b1 s0 s1 ho4
  go_loopw [14] (fun i wr => ∃ k : Nat, k ≤ fs.length ∧ i = .int .i64 k ∧ Hid (ExtX gB w1 wr) ∧ Hid (wr.heap[gB]? = some (.cells (rowI (gT fs xs xb k)).toArray 191 (0, 0)))) (fun i _ => fs.length - (intOf i).toNat)
  case atStart => exact ⟨0, Nat.zero_le _, rfl, Lib.hid (ExtX.refl _ _), HO4⟩
  case round =>
    obtain ⟨k, hk, rfl, hx, hown⟩ := hrel
    have HW := Lib.hid (((HE.out.x (X := gB)).trans hx.out).ext HNE.out.2.2.2.2.1)
    by_cases hlt : k < fs.length
    · obtain ⟨fb, fu, rfl, z0, z1, z2⟩ := fac_at (HH.out.fs.ext facC_len HW.out) k hlt
      obtain ⟨xo, xp, rfl, d0⟩ := (HX.out.ext HW.out).at k (by show k < xs.length; omega)
      have hxk : k < xs.length := by omega
      have hk8 : (k : Int) < 8 := by omega
      obtain ⟨q0, hq0⟩ : ∃ q, q = (fth fs k).lev := ⟨_, rfl⟩
      obtain ⟨q1, hq1⟩ : ∃ q, q = (fth fs k).cost := ⟨_, rfl⟩
      rw [← hq0] at z0
      rw [← hq1] at z1
      have Er := Ext.refl wr
      clear hq0 hq1
      go_upto_region 5 with fail
      generalize hw3 : World.alloc wr _ = w3
      obtain ⟨he3, o3, hs3⟩ := alloc1 hw3
      obtain ⟨y0, y1, y2⟩ := obj_cells3 o3
      have d3 := fun W (e : Ext w3 W) => d0 W (he3.trans e)
      have a0 := fun W (e : Ext w3 W) => e.cell (he3.cell (hx.out.cell HS0.out HNE.out.2.1))
      have hb3 := he3.block hown.out
      have f3 := fun W (e : Ext w3 W) => block_free (e.block hb3) (1 + k)
      have c3 := fun W (e : Ext w3 W) => block_cell (e.block hb3) (1 + k) (by rw [gT_len]; omega)
      have E3 := Ext.refl w3
      have HX3 := Lib.hid (hx.out.trans he3.x)
      have HB3 := Lib.hid hb3
      clear hw3 o3 hs3 d0 z0 z1 z2 Er hb3 hown hx he3
      cases T : (fth fs k).hard
      · have HG := Lib.hid (gT_soft (xs := xs) (b := xb) T)
        go_wp2_with (fail)
        go_roundw
        case rel => exact ⟨k + 1, by omega, by go_num, HX3, by rw [HG.out]; exact HB3⟩
        case measure => simp [intOf]; omega
      · have HG := Lib.hid (gT_hard (xs := xs) (b := xb) (by omega : k < 8) T)
        go_wp2_with (fail)
        go_roundw
        case rel => exact ⟨k + 1, by omega, by go_num, Lib.hid (HX3.out.set _ _), by rw [HG.out]; exact Lib.hid (block_setI HB3.out _)⟩
        case measure => simp [intOf]; omega
    · obtain rfl : k = fs.length := by omega
      have hl := gT_len fs xs xb fs.length
      have HR : Hid (gL fs ⟨⟨xa, xs, xc⟩, xb⟩ = gT fs xs xb fs.length) := rfl
      obtain ⟨L, hL⟩ : ∃ L, L = gT fs xs xb fs.length := ⟨_, rfl⟩
      rw [← hL] at hown hl HR
      have HZ := Lib.hid (hx.out.block gA HNE.out.2.2.2.1 HNE.out.2.2.1 ▸ HA.out)
      clear hL hlt
      obtain ⟨l0, l1, l2, l3, l4, l5, l6, l7, l8, rfl⟩ := list9 hl
      have ho : wr.heap[gB]? = some (.cells #[.int .i64 l0, .int .i64 l1, .int .i64 l2, .int .i64 l3, .int .i64 l4, .int .i64 l5, .int .i64 l6, .int .i64 l7, .int .i64 l8] 191 (0, 0)) := hown.out
      obtain ⟨c0, c1, c2, c3, c4, c5, c6, c7, c8⟩ := obj_cells9 ho
      have Er := Ext.refl wr
      clear hown
      obtain ⟨z0, z1, z2, z3, z4, z5, z6, z7, z8⟩ := obj_cells9 HZ.out
      have fz := obj_free HZ.out
      go_wp2_with (fail)
      generalize hwz : World.setCell _ _ _ = wz
      have hz : ExtX gB w1 wr := hx.out
      have HE9 : Ext w wz := by
        have hg : w.heap.size ≤ gA := HNE.out.2.2.2.2.2
        rw [← hwz]
        exact ((((((((HW.out.set hg _).set hg _).set hg _).set hg _).set hg _).set hg _).set hg _).set hg _).set hg _
      have hbz : wz.heap[gA]? = some (.cells #[.int .i64 l0, .int .i64 l1, .int .i64 l2, .int .i64 l3, .int .i64 l4, .int .i64 l5, .int .i64 l6, .int .i64 l7, .int .i64 l8] 191 (0, 0)) := by
        rw [← hwz]
        exact block_set (block_set (block_set (block_set (block_set (block_set (block_set (block_set (block_set HZ.out 0 _) 1 _) 2 _) 3 _) 4 _) 5 _) 6 _) 7 _) 8 _
      clear hwz
      obtain ⟨r0, r1, r2, r3, r4, r5, r6, r7, r8⟩ := obj_cells9 hbz
      have rz := Ext.refl wz
      refine bodyPost_ret (v := grV [l0, l1, l2, l3, l4, l5, l6, l7, l8]) (by simp [results, Tryz.results126, go_sem, r0 _ rz, r1 _ rz, r2 _ rz, r3 _ rz, r4 _ rz, r5 _ rz, r6 _ rz, r7 _ rz, r8 _ rz, rowI]) rfl ⟨by rw [HR.out], HE9⟩
end Go.Proofs.YtplbofhgmflnlaaGreat
