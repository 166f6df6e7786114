/-
  Texts merged: M13, M14, M15, M16.
-/
import Derived.Test.YtplbofhgmflnlaaGreatMH4
import Derived.Deep.MidRow
section
/-
  Walks: groupOf.
-/
set_option linter.unusedVariables false
set_option linter.unusedSimpArgs false
namespace Go.Proofs.YtplbofhgmflnlaaGreat
open Go.RowKit
/-- The cells of a group: the block, and the levels of the hard factors below k. -/
def gT (fs : List Fac) (xs : List Int) (b : Int) (k : Nat) : List Int := b :: fl 8 fun i => if decide (i < k) && (fth fs i).hard then nth xs i else 0
theorem gT_len (fs : List Fac) (xs : List Int) (b : Int) (k : Nat) : (gT fs xs b k).length = 9 := by simp [gT, fl_len]
theorem gT_soft {fs : List Fac} {xs : List Int} {b : Int} {k : Nat} (h : (fth fs k).hard = false) : gT fs xs b (k + 1) = gT fs xs b k := by
  unfold gT
  congr 1
  refine fl_congr _ _ _ fun i _ => ?_
  by_cases hi : i = k
  · subst hi; simp [h]
  · simp [show (i < k + 1) ↔ (i < k) by omega]
theorem gT_hard {fs : List Fac} {xs : List Int} {b : Int} {k : Nat} (hk : k < 8) (h : (fth fs k).hard = true) : gT fs xs b (k + 1) = (gT fs xs b k).set (1 + k) (nth xs k) := by
  unfold gT
  rw [Nat.add_comm 1 k, List.set_cons_succ]
  congr 1
  refine ext_nth _ _ (by simp [fl_len]) fun i hi => ?_
  rw [fl_len] at hi
  rw [nth_set _ _ _ _ (by rw [fl_len]; exact hi), nth_fl _ _ _ hi, nth_fl _ _ _ hi]
  by_cases hi : i = k
  · subst hi; simp [h]
  · simp [show (i < k + 1) ↔ (i < k) by omega, hi]
def gL (fs : List Fac) (s : Se) : List Int := gT fs s.lv.xs s.blk fs.length
abbrev grV (L : List Int) : Value := .agg (rowI L).toArray
theorem block_setI {w : World} {g : Nat} {L : List Int} {T : TypeId} {j : Nat} (h : w.heap[g]? = some (.cells (rowI L).toArray T (0, 0))) (v : Int) : (w.setCell ⟨g, j, none⟩ (.int .i64 v)).heap[g]? = some (.cells (rowI (L.set j v)).toArray T (0, 0)) := by
  have e : (rowI (L.set j v)).toArray = (rowI L).toArray.setIfInBounds j (.int .i64 v) := by
    apply Array.ext'
    simp [rowI, List.map_set]
  have hg := lt_of_block h
  simp [World.setCell, Array.getElem?_modify, h, e]
theorem block_cell {w : World} {g : Nat} {L : List Int} {T : TypeId} (h : w.heap[g]? = some (.cells (rowI L).toArray T (0, 0))) (j : Nat) (hj : j < L.length) : w.cell? ⟨g, j, none⟩ = some (.int .i64 (nth L j)) := by
  simp only [World.cell?, h, Option.isSome_none, Bool.false_eq_true, if_false]
  have := rowI_get L j hj
  simpa using this
theorem block_free {w : World} {g : Nat} {a : Array Value} {T : TypeId} (h : w.heap[g]? = some (.cells a T (0, 0))) (j : Nat) : w.frozen? ⟨g, j, none⟩ = false := by simp [World.frozen?, h]
theorem list9 {L : List Int} (h : L.length = 9) : ∃ l0 l1 l2 l3 l4 l5 l6 l7 l8, L = [l0, l1, l2, l3, l4, l5, l6, l7, l8] := by
  match L, h with
  | [l0, l1, l2, l3, l4, l5, l6, l7, l8], _ => exact ⟨l0, l1, l2, l3, l4, l5, l6, l7, l8, rfl⟩
set_option maxRecDepth 100000 in
set_option maxHeartbeats 4000000 in
theorem groupOf_any (P : Pw) (s : Se) (w : World) (h : PlanAt w P) (hf : P.fs.length ≤ 8) (hs : Ints w s.lv.a s.lv.xs) (ls : s.lv.xs.length = P.fs.length) :
    Calls Tryz.prog 126 #[planV P, setV s] w (Ret (grV (gL P.fs s)) w) := by
  obtain ⟨fs, fa, fc, fo, ga, gc⟩ := P
  obtain ⟨⟨xa, xs, xc⟩, xb⟩ := s
  have HH := Lib.hid h; have HX := Lib.hid hs
  have LX := Lib.hid ls
  simp only at hf ⊢
  clear h hs ls
  have hxn : fs.length ≤ xs.length := by have := LX.out; simp only at this; omega
  go_enter Tryz.func126, Tryz.ntmps126
  go_wp2_with (fail)
  generalize hw1 : World.alloc _ _ = w1
  obtain ⟨he, o1, o2, o3, o4⟩ := alloc4 hw1
  obtain ⟨g0, hg0⟩ : ∃ g0, g0 = w.heap.size := ⟨_, rfl⟩
  have HE := Lib.hid he
  rw [← hg0] at o1 o2 o3 o4 ⊢
  obtain ⟨b0, b1⟩ := obj_cells2 o1
  obtain ⟨s0, s1⟩ := obj_cells2 o2
  have ho3 : w1.heap[g0 + 1 + 1]? = some (.cells #[.int .i64 0, .int .i64 0, .int .i64 0, .int .i64 0, .int .i64 0, .int .i64 0, .int .i64 0, .int .i64 0, .int .i64 0] 191 (0, 0)) := o3
  have ho4 : w1.heap[g0 + 1 + 1 + 1]? = some (.cells (rowI (gT fs xs xb 0)).toArray 191 (0, 0)) := by
    have : gT fs xs xb 0 = [xb, 0, 0, 0, 0, 0, 0, 0, 0] := by simp [gT, fl, List.range, List.range.loop]
    rw [this]; exact o4
  have HS1 : Hid (w1.heap.size = g0 + 4) := by
    rw [Hid, hg0, ← hw1]; simp [heap_size]
  clear hw1 o1 o2 o3 o4 he
  obtain ⟨gB, hgB⟩ : ∃ gB, gB = g0 + 1 + 1 + 1 := ⟨_, rfl⟩
  rw [← hgB] at ho4 ⊢
  obtain ⟨gA, hgA⟩ : ∃ gA, gA = g0 + 1 + 1 := ⟨_, rfl⟩
  rw [← hgA] at ho3 ⊢
  obtain ⟨gC, hgC⟩ : ∃ gC, gC = g0 + 1 := ⟨_, rfl⟩
  rw [← hgC] at s0 s1 ⊢
  have HNE : Hid (g0 ≠ gB ∧ gC ≠ gB ∧ gA ≠ gB ∧ gA < w1.heap.size ∧ w.heap.size ≤ gB ∧ w.heap.size ≤ gA) := by rw [Hid, HS1.out]; omega
  have HA := Lib.hid ho3
  have HB0 := Lib.hid (b0 w1 (Ext.refl _)); have HB1 := Lib.hid (b1 w1 (Ext.refl _)); have HS0 := Lib.hid (s0 w1 (Ext.refl _))
  have HO4 := Lib.hid ho4
  clear ho3 hgA hgB hgC hg0 b0 b1 s0 s1 ho4
  go_loopw [14] (fun i wr => ∃ k : Nat, k ≤ fs.length ∧ i = .int .i64 k ∧ Hid (ExtX gB w1 wr) ∧ Hid (wr.heap[gB]? = some (.cells (rowI (gT fs xs xb k)).toArray 191 (0, 0)))) (fun i _ => fs.length - (intOf i).toNat)
  case atStart => exact ⟨0, Nat.zero_le _, rfl, Lib.hid (ExtX.refl _ _), HO4⟩
  case round =>
    obtain ⟨k, hk, rfl, hx, hown⟩ := hrel
    have HW := Lib.hid (((HE.out.x (X := gB)).trans hx.out).ext HNE.out.2.2.2.2.1)
    by_cases hlt : k < fs.length
    · obtain ⟨fb, fu, rfl, z0, z1, z2⟩ := fac_at (HH.out.fs.ext facC_len HW.out) k hlt
      obtain ⟨xo, xp, rfl, d0⟩ := (HX.out.ext HW.out).at k (by show k < xs.length; omega)
      have hxk : k < xs.length := by omega
      have hk8 : (k : Int) < 8 := by omega
      obtain ⟨q0, hq0⟩ : ∃ q, q = (fth fs k).lev := ⟨_, rfl⟩
      obtain ⟨q1, hq1⟩ : ∃ q, q = (fth fs k).cost := ⟨_, rfl⟩
      rw [← hq0] at z0
      rw [← hq1] at z1
      have Er := Ext.refl wr
      clear hq0 hq1
      go_upto_region 5 with fail
      generalize hw3 : World.alloc wr _ = w3
      obtain ⟨he3, o3, hs3⟩ := alloc1 hw3
      obtain ⟨y0, y1, y2⟩ := obj_cells3 o3
      have d3 := fun W (e : Ext w3 W) => d0 W (he3.trans e)
      have a0 := fun W (e : Ext w3 W) => e.cell (he3.cell (hx.out.cell HS0.out HNE.out.2.1))
      have hb3 := he3.block hown.out
      have f3 := fun W (e : Ext w3 W) => block_free (e.block hb3) (1 + k)
      have c3 := fun W (e : Ext w3 W) => block_cell (e.block hb3) (1 + k) (by rw [gT_len]; omega)
      have E3 := Ext.refl w3
      have HX3 := Lib.hid (hx.out.trans he3.x)
      have HB3 := Lib.hid hb3
      clear hw3 o3 hs3 d0 z0 z1 z2 Er hb3 hown hx he3
      cases T : (fth fs k).hard
      · have HG := Lib.hid (gT_soft (xs := xs) (b := xb) T)
        go_wp2_with (fail)
        go_roundw
        case rel => exact ⟨k + 1, by omega, by go_num, HX3, by rw [HG.out]; exact HB3⟩
        case measure => simp [intOf]; omega
      · have HG := Lib.hid (gT_hard (xs := xs) (b := xb) (by omega : k < 8) T)
        go_wp2_with (fail)
        go_roundw
        case rel => exact ⟨k + 1, by omega, by go_num, Lib.hid (HX3.out.set _ _), by rw [HG.out]; exact Lib.hid (block_setI HB3.out _)⟩
        case measure => simp [intOf]; omega
    · obtain rfl : k = fs.length := by omega
      have hl := gT_len fs xs xb fs.length
      have HR : Hid (gL fs ⟨⟨xa, xs, xc⟩, xb⟩ = gT fs xs xb fs.length) := rfl
      obtain ⟨L, hL⟩ : ∃ L, L = gT fs xs xb fs.length := ⟨_, rfl⟩
      rw [← hL] at hown hl HR
      have HZ := Lib.hid (hx.out.block gA HNE.out.2.2.2.1 HNE.out.2.2.1 ▸ HA.out)
      clear hL hlt
      obtain ⟨l0, l1, l2, l3, l4, l5, l6, l7, l8, rfl⟩ := list9 hl
      have ho : wr.heap[gB]? = some (.cells #[.int .i64 l0, .int .i64 l1, .int .i64 l2, .int .i64 l3, .int .i64 l4, .int .i64 l5, .int .i64 l6, .int .i64 l7, .int .i64 l8] 191 (0, 0)) := hown.out
      obtain ⟨c0, c1, c2, c3, c4, c5, c6, c7, c8⟩ := obj_cells9 ho
      have Er := Ext.refl wr
      clear hown
      obtain ⟨z0, z1, z2, z3, z4, z5, z6, z7, z8⟩ := obj_cells9 HZ.out
      have fz := obj_free HZ.out
      go_wp2_with (fail)
      generalize hwz : World.setCell _ _ _ = wz
      have hz : ExtX gB w1 wr := hx.out
      have HE9 : Ext w wz := by
        have hg : w.heap.size ≤ gA := HNE.out.2.2.2.2.2
        rw [← hwz]
        exact ((((((((HW.out.set hg _).set hg _).set hg _).set hg _).set hg _).set hg _).set hg _).set hg _).set hg _
      have hbz : wz.heap[gA]? = some (.cells #[.int .i64 l0, .int .i64 l1, .int .i64 l2, .int .i64 l3, .int .i64 l4, .int .i64 l5, .int .i64 l6, .int .i64 l7, .int .i64 l8] 191 (0, 0)) := by
        rw [← hwz]
        exact block_set (block_set (block_set (block_set (block_set (block_set (block_set (block_set (block_set HZ.out 0 _) 1 _) 2 _) 3 _) 4 _) 5 _) 6 _) 7 _) 8 _
      clear hwz
      obtain ⟨r0, r1, r2, r3, r4, r5, r6, r7, r8⟩ := obj_cells9 hbz
      have rz := Ext.refl wz
      refine bodyPost_ret (v := grV [l0, l1, l2, l3, l4, l5, l6, l7, l8]) (by simp [results, Tryz.results126, go_sem, r0 _ rz, r1 _ rz, r2 _ rz, r3 _ rz, r4 _ rz, r5 _ rz, r6 _ rz, r7 _ rz, r8 _ rz, rowI]) rfl ⟨by rw [HR.out], HE9⟩
end Go.Proofs.YtplbofhgmflnlaaGreat
end
section
/-
  Base words: groups as keys; own rows of structs read and written in the middle.
-/
set_option linter.unusedVariables false
set_option linter.unusedSimpArgs false
namespace Go.Proofs.YtplbofhgmflnlaaGreat
open Go.RowKit Go.Maps Go.Sort
theorem laidOut0 : laidOutB Tryz.prog = true := by kernel_rfl
theorem row191 : (191 : TypeId) < Tryz.prog.types.size := of_decide_eq_true (by kernel_rfl)
theorem wide191 : (match Tryz.prog.underlying 191 with | some (.array _ _) | some (.struct _) => true | _ => false) = true := by rw [Tryz.underlying191]
set_option maxRecDepth 100000 in
theorem keyed191 : Keyed Tryz.prog 191 := Keyed.of_law (deep_law_laid laidOut0 (m := 3) (by decide) row191 (by kernel_rfl) wide191)
theorem keyed3 : Keyed Tryz.prog 3 := int_keyed Tryz.underlying3
theorem keyed59 : Keyed Tryz.prog 59 := int_keyed Tryz.underlying59
abbrev wf64 (x : Int) : Prop := -9223372036854775808 ≤ x ∧ x ≤ 9223372036854775807
theorem lit_wf {x : Int} (h : wf64 x) : (Lit.int .i64 x).wf = true := by
  simp [Lit.wf, IntKind.min, IntKind.max, IntKind.signed, IntKind.bits]; omega
theorem cells189 : Tryz.prog.cellsOf 189 = 8 := by kernel_rfl
theorem cells191 : Tryz.prog.cellsOf 191 = 9 := by kernel_rfl
theorem cells3 : Tryz.prog.cellsOf 3 = 1 := by kernel_rfl
theorem kt191 : Tryz.prog.keyType 191 = true := by kernel_rfl
theorem key191 {L : List Int} (hl : L.length = 9) (h : ∀ x ∈ L, wf64 x) : ∃ l, keyOf Tryz.prog 191 (grV L) = some l := by
  obtain ⟨l0, l1, l2, l3, l4, l5, l6, l7, l8, rfl⟩ := list9 hl
  have hw : ∀ x ∈ [l0, l1, l2, l3, l4, l5, l6, l7, l8], (Lit.int .i64 x).wf = true := fun x hx => lit_wf (h x hx)
  simp only [List.mem_cons, List.mem_nil_iff, or_false, forall_eq_or_imp, forall_eq] at hw
  obtain ⟨w0, w1, w2, w3, w4, w5, w6, w7, w8⟩ := hw
  obtain ⟨m, hm⟩ : ∃ m, Tryz.prog.types.size = m + 2 := ⟨Tryz.prog.types.size - 2, by have : 191 < Tryz.prog.types.size := row191; omega⟩
  unfold keyOf
  simp only [Tryz.underlying191]
  rw [if_pos (by simp [kt191, Value.formed, Tryz.underlying191, cells191, rowI]), hm]
  simp [Program.keyLits, Tryz.underlying191, Tryz.underlying189, Tryz.underlying3, Value.cells, cells191, cells189, cells3, List.range, List.range.loop, rowI, w0, w1, w2, w3, w4, w5, w6, w7, w8]
theorem key3 {x : Int} (h : wf64 x) : ∃ l, keyOf Tryz.prog 3 (.int .i64 x) = some l := ⟨_, keyOf_int_mk Tryz.underlying3 (lit_wf h)⟩
theorem rowI_inj {xs ys : List Int} (h : rowI xs = rowI ys) : xs = ys := by
  unfold rowI at h
  exact (List.map_inj_right (fun a b e => by cases e; rfl)).1 h
theorem grV_inj {xs ys : List Int} (h : grV xs = grV ys) : xs = ys := by
  unfold grV at h
  simp only [Value.agg.injEq] at h
  exact rowI_inj (by have := congrArg Array.toList h; simpa using this)
/-! ### own rows of structs, in the middle -/
section
variable {α : Type} {e sz : Nat} {f : α → List Value}
theorem OwnF.range (hf : ∀ x, (f x).length = sz) {w : World} {B g n c : Nat} {xs : List α} (h : OwnF e sz f w B (.slice (some ⟨g, 0, none⟩) n c) xs) (i : Nat) (hi : i < xs.length) : w.rangeAt g (i * sz) (f xs[i]) := by
  obtain ⟨g', h1, -, -, h4⟩ := h.cell hf i hi
  cases h1
  intro j v hv
  have hj : j < sz := by rw [← hf xs[i]]; exact (List.getElem?_eq_some_iff.1 hv).1
  rw [h4 j hj, hv]
theorem OwnF.there (hf : ∀ x, (f x).length = sz) {w : World} {B g n c : Nat} {xs : List α} (h : OwnF e sz f w B (.slice (some ⟨g, 0, none⟩) n c) xs) (i : Nat) (hi : i < xs.length) : w.there g (i * sz) sz := by
  intro j hj
  refine ⟨?_, ?_⟩
  · obtain ⟨g', h1, -, -, h4⟩ := h.cell hf i hi
    cases h1
    rw [h4 j hj, List.getElem?_eq_getElem (by rw [hf]; exact hj)]; rfl
  · rcases h.2 with ⟨hv, -⟩ | ⟨g', cap, cur, hv, -, hh, -⟩
    · cases hv
    · cases hv
      simp [World.frozen?, hh]
theorem heap_setCells {b : Nat} {T : TypeId} {fz : Nat × Nat} : ∀ (vs : List Value) (o : Nat) (w : World) (cs : Array Value), w.heap[b]? = some (.cells cs T fz) → (w.setCells b o vs).heap[b]? = some (.cells (setMany cs o vs) T fz)
  | [], _, _, _, h => h
  | v :: r, o, w, cs, h => by
    rw [World.setCells, setMany]
    exact heap_setCells r (o + 1) _ _ (block_set h o v)
theorem heap_setCells_ne {b k : Nat} (hk : k ≠ b) : ∀ (vs : List Value) (o : Nat) (w : World), (w.setCells b o vs).heap[k]? = w.heap[k]?
  | [], _, _ => rfl
  | v :: r, o, w => by rw [World.setCells, heap_setCells_ne hk r (o + 1) _, heap_set_ne v hk]
theorem extX_setCells {X b : Nat} : ∀ (vs : List Value) (o : Nat) {w W : World}, ExtX X w W → b = X → ExtX X w (W.setCells b o vs)
  | [], _, _, _, h, _ => h
  | v :: r, o, w, W, h, e => by
    rw [World.setCells]
    exact extX_setCells r (o + 1) (by rw [e]; exact h.set o v) e
theorem OwnF.setRow (hf : ∀ x, (f x).length = sz) {w : World} {B g n c : Nat} {xs : List α} (h : OwnF e sz f w B (.slice (some ⟨g, 0, none⟩) n c) xs) (i : Nat) (hi : i < xs.length) (x : α) :
    OwnF e sz f (w.setCells g (i * sz) (f x)) B (.slice (some ⟨g, 0, none⟩) n c) (xs.set i x) := by
  obtain ⟨h0, h1⟩ := h
  unfold OwnF
  rw [List.length_set]
  refine ⟨by rw [rowF_len hf, List.length_set], ?_⟩
  rcases h1 with ⟨hv, -⟩ | ⟨g', cap, cur, hv, hg, hh, hnc, hcm, hs, ht⟩
  · cases hv
  · simp only [Value.slice.injEq, Option.some.injEq, Addr.mk.injEq, and_true] at hv
    obtain ⟨rfl, rfl, rfl⟩ := hv
    refine .inr ⟨g, _, _, rfl, hg, heap_setCells _ _ _ _ hh, hnc, hcm, by simp [hs], ?_⟩
    have hle : xs.length * sz ≤ c * sz := Nat.mul_le_mul_right _ hnc
    have hi2 : i * sz + sz ≤ xs.length * sz := by
      have : (i + 1) * sz ≤ xs.length * sz := Nat.mul_le_mul_right _ hi
      rw [Nat.add_mul, Nat.one_mul] at this; exact this
    apply List.ext_getElem?
    intro t
    by_cases htl : t < xs.length * sz
    · have k0 : 0 < sz := by
        rcases Nat.eq_zero_or_pos sz with h | h
        · subst h; simp at htl
        · exact h
      have hq : t / sz < xs.length := (Nat.div_lt_iff_lt_mul k0).2 htl
      have hm : t % sz < sz := Nat.mod_lt _ k0
      have e0 : t / sz * sz + t % sz = t := by rw [Nat.mul_comm]; exact Nat.div_add_mod t sz
      have htc : t < cur.size := by omega
      rw [List.getElem?_take_of_lt htl, Array.getElem?_toList]
      have hset := get_setMany (f x) (i * sz) cur t htc
      have hr := rowF_at hf (xs.set i x) (t / sz) (t % sz) (by rw [List.length_set]; exact hq) hm
      rw [e0] at hr
      rw [hr]
      have hsz2 : t < (setMany cur (i * sz) (f x)).size := by rw [size_setMany]; exact htc
      rw [getElem!_pos (setMany cur (i * sz) (f x)) t hsz2] at hset
      rw [Array.getElem?_eq_getElem hsz2, hset, List.getElem_set]
      by_cases hti : t / sz = i
      · rw [if_pos (by rw [hf]; subst hti; omega), if_pos hti.symm]
        have : t - i * sz = t % sz := by subst hti; omega
        rw [this, getElem!_pos (f x) (t % sz) (by rw [hf]; exact hm), List.getElem?_eq_getElem (by rw [hf]; exact hm)]
      · have hni : ¬ (i * sz ≤ t ∧ t < i * sz + (f x).length) := by
          rw [hf]
          intro h'
          exact hti ((blk_iff sz i t k0).1 h')
        rw [if_neg hni, if_neg (fun e => hti e.symm)]
        have h2 := rowF_at hf xs (t / sz) (t % sz) hq hm
        rw [e0] at h2
        rw [← h2, ← ht, List.getElem?_take_of_lt htl, Array.getElem?_toList, getElem!_pos cur t htc, Array.getElem?_eq_getElem htc]
    · rw [List.getElem?_take_eq_none (by omega), List.getElem?_eq_none (by rw [rowF_len hf, List.length_set]; omega)]
end
/-- The cells of a group in a row. -/
def grC (L : List Int) : List Value := rowI (fl 9 (nth L))
theorem grC_len (L : List Int) : (grC L).length = 9 := by simp [grC, rowI, fl]
theorem grC_eq {L : List Int} (h : L.length = 9) : grC L = rowI L := by
  unfold grC
  congr 1
  exact ext_nth _ _ (by rw [fl_len, h]) fun i hi => nth_fl _ _ _ (by rw [fl_len] at hi; exact hi)
theorem grC_one (L : List Int) : ∀ u ∈ grC L, u.oneCell' = true := rowI_one _
abbrev OwnG (w : World) (B : Nat) (v : Value) (xs : List (List Int)) : Prop := OwnF 191 9 grC w B v xs
theorem info191 : (Tryz.prog.info? 191).map (fun i => (i.zero, i.size, i.bytes)) = some (some (.agg #[.int .i64 0, .int .i64 0, .int .i64 0, .int .i64 0, .int .i64 0, .int .i64 0, .int .i64 0, .int .i64 0, .int .i64 0]), 9, 72) := by kernel_rfl
theorem size191 (cs : List Value) (h : cs.length = 9) : (Tryz.prog.info? 191).map (·.size) = some cs.length := by
  rw [h]
  obtain ⟨i0, hi, -, hz1, -⟩ := info_parts info191
  rw [hi]; simp [hz1]
end Go.Proofs.YtplbofhgmflnlaaGreat
end
section
/-
  Walks: shuffle at []group (printed by genm15.py).
-/
set_option linter.unusedVariables false
set_option linter.unusedSimpArgs false
namespace Go.Proofs.YtplbofhgmflnlaaGreat
open Go.RowKit
set_option maxRecDepth 100000 in
set_option maxHeartbeats 4000000 in
theorem sw_lawG {g n c x y : Nat} {CI CJ : List Value} {wr : World} {S R : World → Prop} (hi0 : (0 : Int) ≤ (x : Int)) (hi1 : (x : Int) < (n : Int)) (hj0 : (0 : Int) ≤ (y : Int)) (hj1 : (y : Int) < (n : Int)) (HLI : Hid (CI.length = 9 ∧ ∀ u ∈ CI, u.oneCell' = true)) (HLJ : Hid (CJ.length = 9 ∧ ∀ u ∈ CJ, u.oneCell' = true)) (HCI : Hid (∀ W, Ext wr W → W.rangeAt g (x * 9) CI)) (HCJ : Hid (∀ W, Ext wr W → W.rangeAt g (y * 9) CJ)) (HF : Hid (∀ W, Ext wr W → W.there g (x * 9) 9)) (HS : Hid (∀ W, Ext wr W → S (W.setCells g (x * 9) CJ))) (HF2 : Hid (∀ W, S W → W.there g (y * 9) 9)) (HR : Hid (∀ W, S W → R (W.setCells g (y * 9) CI))) {Q : Exit → Act → World → Prop} (aZ : Act) (hsz : aZ.tmps.size = 32) (o1 : aZ.tmps[1]?.getD undef = .slice (some ⟨g, 0, none⟩) n c) (o5 : aZ.tmps[5]?.getD undef = .int .i64 (x : Int)) (o6 : aZ.tmps[6]?.getD undef = .int .i64 (y : Int))
    (hend : ∀ (vs : Nat → Value) (w9 : World) (ls9 : Nat → Bool), (∀ j : Nat, j < 16 → ls9 j = true) → ((ls9 15 = true → ls9 13 = true) ∧ (ls9 13 = true → ls9 7 = true ∧ ls9 11 = true) ∧ (ls9 13 = false → Ext wr w9) ∧ (ls9 13 = true → ls9 15 = false → S w9) ∧ (ls9 15 = true → R w9)) → (vs 0 = .slice (some ⟨g, 0, none⟩) n c) → (vs 1 = .int .i64 (x : Int)) → (vs 2 = .slice (some ⟨g, 0, none⟩) n c) → (vs 3 = .int .i64 (y : Int)) → (vs 4 = .slice (some ⟨g, 0, none⟩) n c) → (vs 5 = .int .i64 (y : Int)) → (vs 6 = .pointer (some ⟨g, y * 9, none⟩)) → (vs 7 = .agg CJ.toArray) → (vs 8 = .slice (some ⟨g, 0, none⟩) n c) → (vs 9 = .int .i64 (x : Int)) → (vs 10 = .pointer (some ⟨g, x * 9, none⟩)) → (vs 11 = .agg CI.toArray) → (vs 12 = .pointer (some ⟨g, x * 9, none⟩)) → (vs 14 = .pointer (some ⟨g, y * 9, none⟩)) → Q .normal ((((((((((((((aZ.put (some 18) (vs 0)).put (some 19) (vs 1)).put (some 20) (vs 2)).put (some 21) (vs 3)).put (some 22) (vs 4)).put (some 23) (vs 5)).put (some 24) (vs 6)).put (some 25) (vs 7)).put (some 26) (vs 8)).put (some 27) (vs 9)).put (some 28) (vs 10)).put (some 29) (vs 11)).put (some 30) (vs 12)).put (some 31) (vs 14)) w9) : (regOf Tryz.f127 5).wp Tryz.prog Q aZ wr := by
  conv => arg 2; whnf
  refine wp_region_said3 (fun i v wz => match i with
    | 0 => v = .slice (some ⟨g, 0, none⟩) n c
    | 1 => v = .int .i64 (x : Int)
    | 2 => v = .slice (some ⟨g, 0, none⟩) n c
    | 3 => v = .int .i64 (y : Int)
    | 4 => v = .slice (some ⟨g, 0, none⟩) n c
    | 5 => v = .int .i64 (y : Int)
    | 6 => v = .pointer (some ⟨g, y * 9, none⟩)
    | 7 => v = .agg CJ.toArray
    | 8 => v = .slice (some ⟨g, 0, none⟩) n c
    | 9 => v = .int .i64 (x : Int)
    | 10 => v = .pointer (some ⟨g, x * 9, none⟩)
    | 11 => v = .agg CI.toArray
    | 12 => v = .pointer (some ⟨g, x * 9, none⟩)
    | 13 => True
    | 14 => v = .pointer (some ⟨g, y * 9, none⟩)
    | _ => True) (fun ls vs wz => (ls 15 = true → ls 13 = true) ∧ (ls 13 = true → ls 7 = true ∧ ls 11 = true) ∧ (ls 13 = false → Ext wr wz) ∧ (ls 13 = true → ls 15 = false → S wz) ∧ (ls 15 = true → R wz)) (by kernel_rfl) (by kernel_rfl) (by rw [hsz]; kernel_rfl) ?_ ?_ ?_
  · exact ⟨fun e => (by cases e), fun e => (by cases e), fun _ => (Ext.refl _).drew, fun e => (by cases e), fun e => (by cases e)⟩
  · refine ⟨?_, ?_, ?_, ?_, ?_, ?_, ?_, ?_, ?_, ?_, ?_, ?_, ?_, ?_, ?_, ?_, trivial⟩
    · intro ls vs a w1 hi hJ hold hdep hdon hcl K hK
      have q1 : a.tmps[1]?.getD undef = .slice (some ⟨g, 0, none⟩) n c := (hold 1 (by kernel_rfl)).trans o1
      rw [if_pos (by rfl)]
      clear hold hdep hend hdon hcl o1 o5 o6
      have HJ := Lib.hid hJ
      clear hJ
      go_simp
      exact hK _ _ (fun _ _ _ h => h) HJ.out rfl
    · intro ls vs a w1 hi hJ hold hdep hdon hcl K hK
      have q5 : a.tmps[5]?.getD undef = .int .i64 (x : Int) := (hold 5 (by kernel_rfl)).trans o5
      rw [if_pos (by rfl)]
      clear hold hdep hend hdon hcl o1 o5 o6
      have HJ := Lib.hid hJ
      clear hJ
      go_simp
      exact hK _ _ (fun _ _ _ h => h) HJ.out rfl
    · intro ls vs a w1 hi hJ hold hdep hdon hcl K hK
      have q1 : a.tmps[1]?.getD undef = .slice (some ⟨g, 0, none⟩) n c := (hold 1 (by kernel_rfl)).trans o1
      rw [if_pos (by rfl)]
      clear hold hdep hend hdon hcl o1 o5 o6
      have HJ := Lib.hid hJ
      clear hJ
      go_simp
      exact hK _ _ (fun _ _ _ h => h) HJ.out rfl
    · intro ls vs a w1 hi hJ hold hdep hdon hcl K hK
      have q6 : a.tmps[6]?.getD undef = .int .i64 (y : Int) := (hold 6 (by kernel_rfl)).trans o6
      rw [if_pos (by rfl)]
      clear hold hdep hend hdon hcl o1 o5 o6
      have HJ := Lib.hid hJ
      clear hJ
      go_simp
      exact hK _ _ (fun _ _ _ h => h) HJ.out rfl
    · intro ls vs a w1 hi hJ hold hdep hdon hcl K hK
      have q1 : a.tmps[1]?.getD undef = .slice (some ⟨g, 0, none⟩) n c := (hold 1 (by kernel_rfl)).trans o1
      rw [if_pos (by rfl)]
      clear hold hdep hend hdon hcl o1 o5 o6
      have HJ := Lib.hid hJ
      clear hJ
      go_simp
      exact hK _ _ (fun _ _ _ h => h) HJ.out rfl
    · intro ls vs a w1 hi hJ hold hdep hdon hcl K hK
      have q6 : a.tmps[6]?.getD undef = .int .i64 (y : Int) := (hold 6 (by kernel_rfl)).trans o6
      rw [if_pos (by rfl)]
      clear hold hdep hend hdon hcl o1 o5 o6
      have HJ := Lib.hid hJ
      clear hJ
      go_simp
      exact hK _ _ (fun _ _ _ h => h) HJ.out rfl
    · intro ls vs a w1 hi hJ hold hdep hdon hcl K hK
      have q22 : a.tmps[22]?.getD undef = .slice (some ⟨g, 0, none⟩) n c := (hdep 4 22 (by kernel_rfl) (by kernel_rfl)).2.1.trans (hdep 4 22 (by kernel_rfl) (by kernel_rfl)).2.2
      have q23 : a.tmps[23]?.getD undef = .int .i64 (y : Int) := (hdep 5 23 (by kernel_rfl) (by kernel_rfl)).2.1.trans (hdep 5 23 (by kernel_rfl) (by kernel_rfl)).2.2
      rw [if_pos (by rfl)]
      clear hold hdep hend hdon hcl o1 o5 o6
      have HJ := Lib.hid hJ
      clear hJ
      go_simp
      exact hK _ _ (fun _ _ _ h => h) HJ.out rfl
    · intro ls vs a w1 hi hJ hold hdep hdon hcl K hK
      have q24 : a.tmps[24]?.getD undef = .pointer (some ⟨g, y * 9, none⟩) := (hdep 6 24 (by kernel_rfl) (by kernel_rfl)).2.1.trans (hdep 6 24 (by kernel_rfl) (by kernel_rfl)).2.2
      clear hold hdep hend hdon o1 o5 o6
      have HJ := Lib.hid hJ
      clear hJ
      obtain ⟨j1, j2, j3, j4, j5⟩ := HJ.out
      have hik : ls 7 = false := hi
      have h13 : ls 13 = false := by
        cases e : ls 13 with
        | false => rfl
        | true => have := j2 e; rw [hik] at this; simp at this
      rw [if_pos (by rfl)]
      refine wp_load_mid 191 (.tmp 24) (by rfl) g (y * 9) (by simpa [Act.eval, Array.getD_eq_getD_getElem?] using q24) CJ _ (HCJ.out w1 (j3 h13)) Tryz.underlying191 rfl (size191 _ HLJ.out.1) ?_
      exact hK _ _ (fun _ _ _ h => h) ⟨fun e => by have := j1 (by simpa using e); simp [this], fun e => by have := j2 (by simpa using e); simp [this], fun e => j3 (by simpa using e), fun e e2 => j4 (by simpa using e) (by simpa using e2), fun e => j5 (by simpa using e)⟩ rfl
    · intro ls vs a w1 hi hJ hold hdep hdon hcl K hK
      have q1 : a.tmps[1]?.getD undef = .slice (some ⟨g, 0, none⟩) n c := (hold 1 (by kernel_rfl)).trans o1
      rw [if_pos (by rfl)]
      clear hold hdep hend hdon hcl o1 o5 o6
      have HJ := Lib.hid hJ
      clear hJ
      go_simp
      exact hK _ _ (fun _ _ _ h => h) HJ.out rfl
    · intro ls vs a w1 hi hJ hold hdep hdon hcl K hK
      have q5 : a.tmps[5]?.getD undef = .int .i64 (x : Int) := (hold 5 (by kernel_rfl)).trans o5
      rw [if_pos (by rfl)]
      clear hold hdep hend hdon hcl o1 o5 o6
      have HJ := Lib.hid hJ
      clear hJ
      go_simp
      exact hK _ _ (fun _ _ _ h => h) HJ.out rfl
    · intro ls vs a w1 hi hJ hold hdep hdon hcl K hK
      have q26 : a.tmps[26]?.getD undef = .slice (some ⟨g, 0, none⟩) n c := (hdep 8 26 (by kernel_rfl) (by kernel_rfl)).2.1.trans (hdep 8 26 (by kernel_rfl) (by kernel_rfl)).2.2
      have q27 : a.tmps[27]?.getD undef = .int .i64 (x : Int) := (hdep 9 27 (by kernel_rfl) (by kernel_rfl)).2.1.trans (hdep 9 27 (by kernel_rfl) (by kernel_rfl)).2.2
      rw [if_pos (by rfl)]
      clear hold hdep hend hdon hcl o1 o5 o6
      have HJ := Lib.hid hJ
      clear hJ
      go_simp
      exact hK _ _ (fun _ _ _ h => h) HJ.out rfl
    · intro ls vs a w1 hi hJ hold hdep hdon hcl K hK
      have q28 : a.tmps[28]?.getD undef = .pointer (some ⟨g, x * 9, none⟩) := (hdep 10 28 (by kernel_rfl) (by kernel_rfl)).2.1.trans (hdep 10 28 (by kernel_rfl) (by kernel_rfl)).2.2
      clear hold hdep hend hdon o1 o5 o6
      have HJ := Lib.hid hJ
      clear hJ
      obtain ⟨j1, j2, j3, j4, j5⟩ := HJ.out
      have hik : ls 11 = false := hi
      have h13 : ls 13 = false := by
        cases e : ls 13 with
        | false => rfl
        | true => have := j2 e; rw [hik] at this; simp at this
      rw [if_pos (by rfl)]
      refine wp_load_mid 191 (.tmp 28) (by rfl) g (x * 9) (by simpa [Act.eval, Array.getD_eq_getD_getElem?] using q28) CI _ (HCI.out w1 (j3 h13)) Tryz.underlying191 rfl (size191 _ HLI.out.1) ?_
      exact hK _ _ (fun _ _ _ h => h) ⟨fun e => by have := j1 (by simpa using e); simp [this], fun e => by have := j2 (by simpa using e); simp [this], fun e => j3 (by simpa using e), fun e e2 => j4 (by simpa using e) (by simpa using e2), fun e => j5 (by simpa using e)⟩ rfl
    · intro ls vs a w1 hi hJ hold hdep hdon hcl K hK
      have q18 : a.tmps[18]?.getD undef = .slice (some ⟨g, 0, none⟩) n c := (hdep 0 18 (by kernel_rfl) (by kernel_rfl)).2.1.trans (hdep 0 18 (by kernel_rfl) (by kernel_rfl)).2.2
      have q19 : a.tmps[19]?.getD undef = .int .i64 (x : Int) := (hdep 1 19 (by kernel_rfl) (by kernel_rfl)).2.1.trans (hdep 1 19 (by kernel_rfl) (by kernel_rfl)).2.2
      rw [if_pos (by rfl)]
      clear hold hdep hend hdon hcl o1 o5 o6
      have HJ := Lib.hid hJ
      clear hJ
      go_simp
      exact hK _ _ (fun _ _ _ h => h) HJ.out rfl
    · intro ls vs a w1 hi hJ hold hdep hdon hcl K hK
      have q25 : a.tmps[25]?.getD undef = .agg CJ.toArray := (hdep 7 25 (by kernel_rfl) (by kernel_rfl)).2.1.trans (hdep 7 25 (by kernel_rfl) (by kernel_rfl)).2.2
      have q30 : a.tmps[30]?.getD undef = .pointer (some ⟨g, x * 9, none⟩) := (hdep 12 30 (by kernel_rfl) (by kernel_rfl)).2.1.trans (hdep 12 30 (by kernel_rfl) (by kernel_rfl)).2.2
      have hl7 := hdon 7 (by kernel_rfl)
      have hl11 := hdon 11 (by kernel_rfl)
      clear hold hdep hend hdon o1 o5 o6
      have HJ := Lib.hid hJ
      clear hJ
      obtain ⟨j1, j2, j3, j4, j5⟩ := HJ.out
      have hik : ls 13 = false := hi
      have h15 : ls 15 = false := by
        cases e : ls 15 with
        | false => rfl
        | true => have := j1 e; rw [hik] at this; cases this
      have hx := j3 hik
      have s1 := HS.out w1 hx
      have hl7' : ls 7 = true := hl7
      have hl11' : ls 11 = true := hl11
      rw [if_pos (by rfl)]
      refine wp_store_mid 191 (.tmp 30) (.tmp 25) (by rfl) g (x * 9) CJ.toArray (by simpa [Act.eval, Array.getD_eq_getD_getElem?] using q30) (by simpa [Act.eval, Array.getD_eq_getD_getElem?] using q25) (by rw [List.size_toArray, HLJ.out.1]; exact HF.out w1 hx) (by rw [List.size_toArray]; exact size191 _ HLJ.out.1) (all_oneCell_toArray HLJ.out.2) ?_
      exact hK undef _ (fun _ _ _ h => h) ⟨fun _ => by simp, fun _ => by simp [hl7', hl11'], fun e => by simp at e, fun _ _ => s1, fun e => by simp [h15] at e⟩ trivial
    · intro ls vs a w1 hi hJ hold hdep hdon hcl K hK
      have q20 : a.tmps[20]?.getD undef = .slice (some ⟨g, 0, none⟩) n c := (hdep 2 20 (by kernel_rfl) (by kernel_rfl)).2.1.trans (hdep 2 20 (by kernel_rfl) (by kernel_rfl)).2.2
      have q21 : a.tmps[21]?.getD undef = .int .i64 (y : Int) := (hdep 3 21 (by kernel_rfl) (by kernel_rfl)).2.1.trans (hdep 3 21 (by kernel_rfl) (by kernel_rfl)).2.2
      rw [if_pos (by rfl)]
      clear hold hdep hend hdon hcl o1 o5 o6
      have HJ := Lib.hid hJ
      clear hJ
      go_simp
      exact hK _ _ (fun _ _ _ h => h) HJ.out rfl
    · intro ls vs a w1 hi hJ hold hdep hdon hcl K hK
      have q29 : a.tmps[29]?.getD undef = .agg CI.toArray := (hdep 11 29 (by kernel_rfl) (by kernel_rfl)).2.1.trans (hdep 11 29 (by kernel_rfl) (by kernel_rfl)).2.2
      have q31 : a.tmps[31]?.getD undef = .pointer (some ⟨g, y * 9, none⟩) := (hdep 14 31 (by kernel_rfl) (by kernel_rfl)).2.1.trans (hdep 14 31 (by kernel_rfl) (by kernel_rfl)).2.2
      have hl13 := hdon 13 (by kernel_rfl)
      clear hold hdep hend hdon o1 o5 o6
      have HJ := Lib.hid hJ
      clear hJ
      obtain ⟨j1, j2, j3, j4, j5⟩ := HJ.out
      have hik : ls 15 = false := hi
      have hl13' : ls 13 = true := hl13
      have hs := j4 hl13' hik
      have r1 := HR.out w1 hs
      rw [if_pos (by rfl)]
      refine wp_store_mid 191 (.tmp 31) (.tmp 29) (by rfl) g (y * 9) CI.toArray (by simpa [Act.eval, Array.getD_eq_getD_getElem?] using q31) (by simpa [Act.eval, Array.getD_eq_getD_getElem?] using q29) (by rw [List.size_toArray, HLI.out.1]; exact HF2.out w1 hs) (by rw [List.size_toArray]; exact size191 _ HLI.out.1) (all_oneCell_toArray HLI.out.2) ?_
      exact hK undef _ (fun _ _ _ h => h) ⟨fun _ => by simp [hl13'], fun e => by have := j2 hl13'; simp [this], fun e => by simp [hl13'] at e, fun _ e => by simp at e, fun _ => r1⟩ trivial
  · intro vs w9 ls9 hl9 hJ9 hφ
    have e0 := hφ 0 (by kernel_rfl)
    have e1 := hφ 1 (by kernel_rfl)
    have e2 := hφ 2 (by kernel_rfl)
    have e3 := hφ 3 (by kernel_rfl)
    have e4 := hφ 4 (by kernel_rfl)
    have e5 := hφ 5 (by kernel_rfl)
    have e6 := hφ 6 (by kernel_rfl)
    have e7 := hφ 7 (by kernel_rfl)
    have e8 := hφ 8 (by kernel_rfl)
    have e9 := hφ 9 (by kernel_rfl)
    have e10 := hφ 10 (by kernel_rfl)
    have e11 := hφ 11 (by kernel_rfl)
    have e12 := hφ 12 (by kernel_rfl)
    have e14 := hφ 14 (by kernel_rfl)
    have hq := hend vs w9 ls9 hl9 hJ9 e0 e1 e2 e3 e4 e5 e6 e7 e8 e9 e10 e11 e12 e14
    simp only [Act.put] at hq
    simp only [putAll, Act.put]
    exact hq
def kth (xs : List (List Int)) (i : Nat) : List Int := xs.getD i []
theorem kth_eq (xs : List (List Int)) (i : Nat) (h : i < xs.length) : kth xs i = xs[i] := by simp [kth, h]
theorem swp_kth (l : List (List Int)) (i j : Nat) : swp l i j = (l.set i (kth l j)).set j (kth l i) := rfl
theorem ownG_ne {w : World} {B g n c D o : Nat} {xs : List (List Int)} (hn : xs.length = n) (h : OwnG w B (.slice (some ⟨g, 0, none⟩) n c) xs) (hne : g ≠ D) (v : Value) : OwnG (w.setCell ⟨D, o, none⟩ v) B (.slice (some ⟨g, 0, none⟩) n c) xs := by
  subst hn
  exact own_of_block h fun k hk => by
    simp only [Value.ownBlock, Option.some.injEq] at hk
    subst hk
    exact heap_set_ne v hne
set_option maxRecDepth 100000 in
set_option maxHeartbeats 2000000 in
theorem shuffle_gr (B g n c : Nat) (s : Int) (xs : List (List Int)) (w : World) (hn : xs.length = n) (hm : n ≤ 1000000) (hx : OwnG w B (.slice (some ⟨g, 0, none⟩) n c) xs) (hg : g < w.heap.size) :
    Calls Tryz.prog 127 #[.int .u64 s, .slice (some ⟨g, 0, none⟩) n c] w (fun e w' => e = .returned (.tuple #[]) ∧ ExtX g w w' ∧ OwnG w' B (.slice (some ⟨g, 0, none⟩) n c) (shufK n s xs)) := by
  have HX := Lib.hid hx; have HN := Lib.hid hn
  clear hx hn
  go_enter Tryz.func127, Tryz.ntmps127
  go_wp2_with (fail)
  generalize hw1 : World.alloc _ _ = w1
  obtain ⟨he, o1, -⟩ := alloc1 hw1
  have HO := Lib.hid (HX.out.ext he)
  have HW : Hid (ExtX g w w1) := he.x
  have HG := Lib.hid hg
  obtain ⟨D, hD⟩ : ∃ D, D = w.heap.size := ⟨_, rfl⟩
  have HD := Lib.hid hD
  rw [← hD] at o1 ⊢
  have hgD : g ≠ D := by omega
  have HO1 := Lib.hid o1
  clear hw1 o1 he hD hg
  have HGD := Lib.hid hgD
  clear hgD
  go_loopw [5, 6] (fun i _ wr => ∃ (k : Nat) (t : Int) (ys : List (List Int)), k ≤ n ∧ i = .int .i64 ((k : Int) - 1) ∧ Hid (ys.length = n ∧ shufK k t ys = shufK n s xs ∧ ExtX g w wr ∧ OwnG wr B (.slice (some ⟨g, 0, none⟩) n c) ys ∧ wr.heap[D]? = some (.cells #[.int .u64 t] 173 (0, 0)))) (fun i _ _ => (intOf i).toNat)
  case atStart => exact ⟨n, s, xs, Nat.le_refl _, rfl, HN.out, rfl, HW.out, HO.out, HO1.out⟩
  case round =>
    obtain ⟨k, t, ys, hk, rfl, hh⟩ := hrel
    by_cases hlt : 2 ≤ k
    · obtain ⟨x, rfl⟩ : ∃ x, k = x + 1 := ⟨k - 1, by omega⟩
      have d0 := obj_cells1 hh.out.2.2.2.2
      have df := obj_free hh.out.2.2.2.2
      have hbl : Calls Tryz.prog 114 #[.pointer (some ⟨D, 0, none⟩), .int .i64 ((x : Int) + 1)] wr (fun e w' => e = .returned (.int .i64 (drw (lcg t) ((x : Int) + 1))) ∧ w' = wr.setCell ⟨D, 0, none⟩ (.int .u64 (lcg t))) := below_any D t _ wr (d0 wr (Ext.refl _)) (df wr (Ext.refl _) 0)
      have HBL := Lib.hid hbl
      have hb := drw_bd (lcg t) ((x : Int) + 1) (lcg_bd t).1 (lcg_bd t).2 (by omega) (by omega)
      obtain ⟨y, hy⟩ : ∃ y : Nat, y = (drw (lcg t) ((x : Int) + 1)).toNat := ⟨_, rfl⟩
      have hye : drw (lcg t) ((x : Int) + 1) = (y : Int) := by omega
      have hyn : y < n := by omega
      rw [hye] at HBL
      have HY := Lib.hid hy
      clear hbl d0 df hb hy hye
      have ez : (((x + 1 : Nat) : Int) - 1) = (x : Int) := by omega
      rw [ez]
      clear ez
      go_wp2_with (go_at_call 114; (with_reducible refine HBL.out.mono ?_); rintro e w3 ⟨rfl, rfl⟩)
      clear HBL
      generalize hw4 : World.setCell wr _ _ = w4
      have hb4 : Hid (ExtX g w w4 ∧ OwnG w4 B (.slice (some ⟨g, 0, none⟩) n c) ys ∧ w4.heap[D]? = some (.cells #[.int .u64 (lcg t)] 173 (0, 0)) ∧ g ≠ D) := by
        subst hw4
        refine ⟨?_, ownG_ne hh.out.1 hh.out.2.2.2.1 HGD.out _, block_set hh.out.2.2.2.2 0 _, HGD.out⟩
        have h1 := hh.out.2.2.1
        refine ⟨h1.os, h1.tape, h1.output, by simpa [World.setCell] using h1.size, fun b hb hne => ?_⟩
        rw [heap_set_ne _ (by have := HD.out; omega)]
        exact h1.block b hb hne
      have HLY := Lib.hid hh.out.1
      have HSH := Lib.hid hh.out.2.1
      clear hw4 hh
      have hi0 : (0 : Int) ≤ (x : Int) := by omega
      have hi1 : (x : Int) < (n : Int) := by omega
      have hj0 : (0 : Int) ≤ (y : Int) := by omega
      have hj1 : (y : Int) < (n : Int) := by omega
      obtain ⟨CI, hCI⟩ : ∃ CI, CI = grC (kth ys x) := ⟨_, rfl⟩
      obtain ⟨CJ, hCJ⟩ : ∃ CJ, CJ = grC (kth ys y) := ⟨_, rfl⟩
      have HLI : Hid (CI.length = 9 ∧ ∀ u ∈ CI, u.oneCell' = true) := by rw [hCI]; exact ⟨grC_len _, grC_one _⟩
      have HLJ : Hid (CJ.length = 9 ∧ ∀ u ∈ CJ, u.oneCell' = true) := by rw [hCJ]; exact ⟨grC_len _, grC_one _⟩
      have HCI : Hid (∀ W, Ext w4 W → W.rangeAt g (x * 9) CI) := fun W e => by rw [hCI, kth_eq ys x (by rw [HLY.out]; omega)]; exact (hb4.out.2.1.ext e).range grC_len x (by rw [HLY.out]; omega)
      have HCJ : Hid (∀ W, Ext w4 W → W.rangeAt g (y * 9) CJ) := fun W e => by rw [hCJ, kth_eq ys y (by rw [HLY.out]; exact hyn)]; exact (hb4.out.2.1.ext e).range grC_len y (by rw [HLY.out]; exact hyn)
      have HF : Hid (∀ W, Ext w4 W → W.there g (x * 9) 9) := fun W e => (hb4.out.2.1.ext e).there grC_len x (by rw [HLY.out]; omega)
      obtain ⟨S, hS⟩ : ∃ S : World → Prop, S = fun W => ExtX g w W ∧ OwnG W B (.slice (some ⟨g, 0, none⟩) n c) (ys.set x (kth ys y)) ∧ W.heap[D]? = some (.cells #[.int .u64 (lcg t)] 173 (0, 0)) := ⟨_, rfl⟩
      obtain ⟨R, hR⟩ : ∃ R : World → Prop, R = fun W => ExtX g w W ∧ OwnG W B (.slice (some ⟨g, 0, none⟩) n c) (swp ys x y) ∧ W.heap[D]? = some (.cells #[.int .u64 (lcg t)] 173 (0, 0)) := ⟨_, rfl⟩
      have HS : Hid (∀ W, Ext w4 W → S (W.setCells g (x * 9) CJ)) := fun W e => by
        rw [hS]
        refine ⟨extX_setCells _ _ (hb4.out.1.trans e.x) rfl, ?_, by rw [heap_setCells_ne (Ne.symm hb4.out.2.2.2)]; exact e.block hb4.out.2.2.1⟩
        rw [hCJ]
        exact (hb4.out.2.1.ext e).setRow grC_len x (by rw [HLY.out]; omega) _
      have HF2 : Hid (∀ W, S W → W.there g (y * 9) 9) := fun W h => by
        rw [hS] at h
        exact h.2.1.there grC_len y (by rw [List.length_set, HLY.out]; exact hyn)
      have HR : Hid (∀ W, S W → R (W.setCells g (y * 9) CI)) := fun W h => by
        rw [hS] at h
        rw [hR, swp_kth]
        refine ⟨extX_setCells _ _ h.1 rfl, ?_, by rw [heap_setCells_ne (Ne.symm hb4.out.2.2.2)]; exact h.2.2⟩
        rw [hCI]
        exact h.2.1.setRow grC_len y (by rw [List.length_set, HLY.out]; exact hyn) _
      have HRR := Lib.hid hR
      clear hS hR hb4 hCI hCJ
      go_upto_region 5 with fail
      refine sw_lawG hi0 hi1 hj0 hj1 HLI HLJ HCI HCJ HF HS HF2 HR _ (by rfl) rfl rfl rfl ?_
      intro vs w9 ls9 hl9 hJ9 e0 e1 e2 e3 e4 e5 e6 e7 e8 e9 e10 e11 e12 e14
      simp only [Act.put, List.setIfInBounds_toArray, List.set_cons_zero, List.set_cons_succ]
      rw [e0, e1, e2, e3, e4, e5, e6, e7, e8, e9, e10, e11, e12, e14]
      obtain ⟨-, -, -, -, hj5⟩ := hJ9
      have hfin := hj5 (hl9 15 (by omega))
      rw [HRR.out] at hfin
      have HFIN := Lib.hid hfin
      have HK : Hid ((swp ys x y).length = n ∧ shufK x (lcg t) (swp ys x y) = shufK n s xs) := by
        refine ⟨by rw [swp_len]; exact HLY.out, ?_⟩
        have := HSH.out
        rw [shufK_step x (by omega)] at this
        rw [← this, HY.out]
      clear hj5 hfin HRR HCI HCJ HF HS HF2 HR HSH HY HLI HLJ
      go_wp2_with (fail)
      go_roundw
      case rel => exact ⟨x, lcg t, swp ys x y, by omega, by go_num, HK.out.1, HK.out.2, HFIN.out.1, HFIN.out.2.1, HFIN.out.2.2⟩
      case measure => simp [intOf]; omega
    · have hlt' : k ≤ 1 := by omega
      have HK : Hid (shufK k t ys = ys) := by
        match k, hlt' with
        | 0, _ => rfl
        | 1, _ => rfl
      go_wp2_with (fail)
      go_end0
      refine ⟨rfl, hh.out.2.2.1, ?_⟩
      rw [← hh.out.2.1, HK.out]
      exact hh.out.2.2.2.1
end Go.Proofs.YtplbofhgmflnlaaGreat
end
section
/-
  Order's memory: two maps and many own rows, and what Order's first pass does to them.
-/
set_option linter.unusedVariables false
set_option linter.unusedSimpArgs false
namespace Go.Proofs.YtplbofhgmflnlaaGreat
open Go.RowKit Go.Maps
/-- A row of groups. -/
abbrev rwG (v : Value) (ks : List (List Int)) : Rw := ⟨191, 9, v, ks.length, rowF grC ks⟩
theorem RowsAt.setMid {w w' : World} {B : Nat} {L1 L2 : List Rw} {r r' : Rw} (h : RowsAt w B (L1 ++ r :: L2)) (hw : r'.at w' B)
    (hk : ∀ k, k < w.heap.size → r.v.ownBlock ≠ some k → w'.heap[k]? = w.heap[k]?) (hl : ∀ k, r'.v.ownBlock = some k → r.v.ownBlock = some k ∨ w.heap.size ≤ k) : RowsAt w' B (L1 ++ r' :: L2) := by
  have := h.put (i := L1.length) (r := r) (by simp) hw hk hl
  rwa [List.set_append_right _ _ (Nat.le_refl _), Nat.sub_self, List.set_cons_zero] at this
theorem RowsAt.appMid {w w' : World} {B : Nat} {L1 L2 : List Rw} {r r' : Rw} (h : RowsAt w B (L1 ++ r :: L2)) (hg : w.grownBy w' r.v.ownBlock) (hw : r'.at w' B) (hl : r'.v.ownBlock = r.v.ownBlock ∨ r'.v.ownBlock = some w.heap.size) : RowsAt w' B (L1 ++ r' :: L2) :=
  h.setMid hw (fun k hk hne => hg.block k hk (fun e => hne (by first | exact e | exact e.symm))) (fun k hk => by
    rcases hl with h1 | h1
    · left; rw [← h1]; exact hk
    · right; rw [h1] at hk; cases hk; exact Nat.le_refl _)
theorem RowsAt.wrMid {w w' : World} {B g : Nat} {L1 L2 : List Rw} {r r' : Rw} (h : RowsAt w B (L1 ++ r :: L2)) (hx : ExtX g w w') (hr : r.v.ownBlock = some g) (hv : r'.v = r.v) (hw : r'.at w' B) : RowsAt w' B (L1 ++ r' :: L2) :=
  h.setMid hw (fun k hk hne => hx.block k hk (fun e => hne (by rw [e]; exact hr))) (fun k hk => by left; rw [← hv]; exact hk)
theorem RowsAt.mid {w : World} {B : Nat} {L1 L2 : List Rw} {r : Rw} (h : RowsAt w B (L1 ++ r :: L2)) : r.at w B := h.own r (by simp)
theorem RowsAt.nilrow {w : World} {B : Nat} {L : List Rw} (h : RowsAt w B L) (e sz : Nat) : RowsAt w B (⟨e, sz, .slice none 0 0, 0, []⟩ :: L) :=
  h.push ⟨by simp, .inl ⟨rfl, rfl⟩⟩ (fun k hk => rfl) (fun k hk => by cases hk)
theorem RowsAt.lit {w W : World} {B b n sz : Nat} {e : TypeId} {cs : Array Value} {L : List Rw} (h : RowsAt w B L) (x : Ext w W) (hb : W.heap[b]? = some (.cells cs e (0, 0))) (hge : w.heap.size ≤ b) (hB : B ≤ w.heap.size) (hn : n ≤ 1000000) (hs : cs.size = n * sz) :
    RowsAt W B (⟨e, sz, .slice (some ⟨b, 0, none⟩) n n, n, cs.toList⟩ :: L) := by
  refine h.push ?_ (fun k hk => Below.block x k hk) (fun k hk => ?_)
  · refine ⟨by simp [hs], .inr ⟨b, n, cs, rfl, by omega, hb, Nat.le_refl _, by unfold maxLen; omega, hs, ?_⟩⟩
    rw [← hs, ← Array.length_toList, List.take_length]
  · simp only [Value.ownBlock, Option.some.injEq] at hk
    omega
/-- Two maps and rows of the call's own. -/
structure Ws (w1 w : World) (b7 b8 : Nat) (M7 M8 : List (Value × Value)) (L : List Rw) : Prop where
  ext : Ext w1 w
  le7 : w1.heap.size ≤ b7
  le8 : w1.heap.size ≤ b8
  ne : b7 ≠ b8
  m7 : MapAt 191 w b7 M7
  m8 : MapAt 3 w b8 M8
  rows : RowsAt w w1.heap.size L
section
variable {w1 w w' : World} {b7 b8 : Nat} {M7 M8 : List (Value × Value)} {L L1 L2 : List Rw} {r : Rw}
theorem Ws.grow (h : Ws w1 w b7 b8 M7 M8 L) (e : Ext w w') : Ws w1 w' b7 b8 M7 M8 L := ⟨h.ext.trans e, h.le7, h.le8, h.ne, h.m7.ext e, h.m8.ext e, h.rows.ext e⟩
theorem Ws.perm (h : Ws w1 w b7 b8 M7 M8 L) {L' : List Rw} (p : L.Perm L') : Ws w1 w b7 b8 M7 M8 L' := ⟨h.ext, h.le7, h.le8, h.ne, h.m7, h.m8, h.rows.perm p⟩
theorem Ws.sub (h : Ws w1 w b7 b8 M7 M8 L) {L' : List Rw} (p : L'.Sublist L) : Ws w1 w b7 b8 M7 M8 L' := ⟨h.ext, h.le7, h.le8, h.ne, h.m7, h.m8, h.rows.sub p⟩
theorem Ws.nilrow (h : Ws w1 w b7 b8 M7 M8 L) (e sz : Nat) : Ws w1 w b7 b8 M7 M8 (⟨e, sz, .slice none 0 0, 0, []⟩ :: L) := ⟨h.ext, h.le7, h.le8, h.ne, h.m7, h.m8, h.rows.nilrow e sz⟩
theorem Ws.lit (h : Ws w1 w b7 b8 M7 M8 L) {b n sz : Nat} {e : TypeId} {cs : Array Value} (x : Ext w w') (hb : w'.heap[b]? = some (.cells cs e (0, 0))) (hge : w.heap.size ≤ b) (hn : n ≤ 1000000) (hs : cs.size = n * sz) :
    Ws w1 w' b7 b8 M7 M8 (⟨e, sz, .slice (some ⟨b, 0, none⟩) n n, n, cs.toList⟩ :: L) :=
  ⟨h.ext.trans x, h.le7, h.le8, h.ne, h.m7.ext x, h.m8.ext x, h.rows.lit x hb hge h.ext.size hn hs⟩
theorem Ws.app (h : Ws w1 w b7 b8 M7 M8 (L1 ++ r :: L2)) {r' : Rw} (hg : w.grownBy w' r.v.ownBlock) (hw : r'.at w' w1.heap.size) (hl : r'.v.ownBlock = r.v.ownBlock ∨ r'.v.ownBlock = some w.heap.size) : Ws w1 w' b7 b8 M7 M8 (L1 ++ r' :: L2) :=
  ⟨grown_ext h.ext hg (fun k hk => (h.rows.mid.lt k hk).1), h.le7, h.le8, h.ne,
    h.m7.of_block (hg.block b7 h.m7.lt (fun e => map_ne_row h.m7 h.rows.mid b7 (by first | exact e | exact e.symm) rfl)),
    h.m8.of_block (hg.block b8 h.m8.lt (fun e => map_ne_row h.m8 h.rows.mid b8 (by first | exact e | exact e.symm) rfl)), h.rows.appMid hg hw hl⟩
theorem Ws.wr {g : Nat} (h : Ws w1 w b7 b8 M7 M8 (L1 ++ r :: L2)) {r' : Rw} (hx : ExtX g w w') (hr : r.v.ownBlock = some g) (hv : r'.v = r.v) (hw : r'.at w' w1.heap.size) : Ws w1 w' b7 b8 M7 M8 (L1 ++ r' :: L2) :=
  ⟨(h.ext.x.trans hx).ext (h.rows.mid.lt g hr).1, h.le7, h.le8, h.ne,
    h.m7.of_block (hx.block b7 h.m7.lt (fun e => map_ne_row h.m7 h.rows.mid b7 (by rw [e]; exact hr) rfl)),
    h.m8.of_block (hx.block b8 h.m8.lt (fun e => map_ne_row h.m8 h.rows.mid b8 (by rw [e]; exact hr) rfl)), h.rows.wrMid hx hr hv hw⟩
theorem MapAt.turned {k : TypeId} {b b' : Nat} {m : List (Value × Value)} (h : MapAt k w b m) (t : Turned w w' b') (hne : b ≠ b') : MapAt k w' b m := h.of_block (t.block b hne)
theorem Ws.turn8 (h : Ws w1 w b7 b8 M7 M8 L) {M : List (Value × Value)} (hm : MapAt 3 w' b8 M) (t : Turned w w' b8) : Ws w1 w' b7 b8 M7 M L :=
  ⟨h.ext.turned t h.le8, h.le7, h.le8, h.ne, h.m7.turned t h.ne, hm, h.rows.turned h.m8 t⟩
theorem Ws.turn7 (h : Ws w1 w b7 b8 M7 M8 L) {M : List (Value × Value)} (hm : MapAt 191 w' b7 M) (t : Turned w w' b7) : Ws w1 w' b7 b8 M M8 L :=
  ⟨h.ext.turned t h.le7, h.le7, h.le8, h.ne, hm, h.m8.turned t (Ne.symm h.ne), h.rows.turned h.m7 t⟩
end
theorem zero31 (w : World) : (zeroValue 31).run Tryz.prog w = .ok (.slice none 0 0) w := by kernel_rfl
theorem zero193 (w : World) : (zeroValue 193).run Tryz.prog w = .ok (.slice none 0 0) w := by kernel_rfl
/-- The lists that the maps and the rows are made of. -/
def M7l (gs : List (List Int × Value)) : List (Value × Value) := gs.map fun g => (grV g.1, g.2)
def M8l (bs : List (Int × Value)) : List (Value × Value) := bs.map fun b => (.int .i64 b.1, b.2)
def G7 (mem : List Int → List Int) (gs : List (List Int × Value)) : List Rw := gs.map fun g => rwI g.2 (mem g.1)
def G8 (kb : Int → List (List Int)) (bs : List (Int × Value)) : List Rw := bs.map fun b => rwG b.2 (kb b.1)
theorem app_grL (w : World) (B : Nat) (ty : TypeId) (v : Value) (xs : List (List Int)) (x : List Int) (g c : Nat) (hv : OwnG w B v xs) (hg : w.heap[g]? = some (.cells (grC x).toArray 191 (0, 0))) (hn : xs.length ≤ 1000000) (hB : B ≤ w.heap.size) :
    ∃ v' w', (Builtin.append_ #[193, 193] ty #[v, .slice (some ⟨g, 0, none⟩) 1 1]).run Tryz.prog w = .ok v' w' ∧ OwnG w' B v' (xs ++ [x]) ∧ w.grownBy w' v.ownBlock ∧ (v'.ownBlock = v.ownBlock ∨ v'.ownBlock = some w.heap.size) := by
  obtain ⟨i0, hi, hz0, hz1, hz2⟩ := info_parts info191
  exact app_struct 193 ty 191 grC grC_len grC_one (by omega) Tryz.underlying193 hi hz0 hz1 hz2 rfl (by omega) w B v xs hv x g hg hn hB
section
variable {w1 w : World} {b7 b8 : Nat}
/-- The number of a block is appended. -/
theorem Ws.appN {M7 M8 : List (Value × Value)} {L1 L2 : List Rw} {vn : Value} {ns : List Int} (h : Ws w1 w b7 b8 M7 M8 (L1 ++ rwI vn ns :: L2)) (x : Int) {g : Nat} (hg : w.heap[g]? = some (.cells #[.int .i64 x] 3 (0, 0))) (hn : ns.length ≤ 1000000) :
    ∃ v' w', (Builtin.append_ #[31, 31] 31 #[vn, .slice (some ⟨g, 0, none⟩) 1 1]).run Tryz.prog w = .ok v' w' ∧ Ws w1 w' b7 b8 M7 M8 (L1 ++ rwI v' (ns ++ [x]) :: L2) := by
  obtain ⟨v', w', r1, r2, r3, r4⟩ := app_intsL w w1.heap.size 31 vn ns [x] (some ⟨g, 0, none⟩) 1 h.rows.mid (ints_one hg) (by simp) (by simp; omega) h.ext.size
  exact ⟨v', w', r1, h.app r3 r2 r4⟩
/-- A group is appended to a block's row. -/
theorem Ws.appG {M7 M8 : List (Value × Value)} {L1 L2 : List Rw} {v : Value} {ks : List (List Int)} (h : Ws w1 w b7 b8 M7 M8 (L1 ++ rwG v ks :: L2)) (x : List Int) {g : Nat} (hg : w.heap[g]? = some (.cells (grC x).toArray 191 (0, 0))) (hn : ks.length ≤ 1000000) :
    ∃ v' w', (Builtin.append_ #[193, 193] 193 #[v, .slice (some ⟨g, 0, none⟩) 1 1]).run Tryz.prog w = .ok v' w' ∧ Ws w1 w' b7 b8 M7 M8 (L1 ++ rwG v' (ks ++ [x]) :: L2) := by
  obtain ⟨v', w', r1, r2, r3, r4⟩ := app_grL w w1.heap.size 193 v ks x g 1 h.rows.mid hg hn h.ext.size
  exact ⟨v', w', r1, h.app r3 r2 r4⟩
end
def updF {κ β : Type} [DecidableEq κ] (f : κ → β) (k : κ) (v : β) : κ → β := fun x => if x = k then v else f x
theorem G7_upd (mem : List Int → List Int) (key : List Int) (v : List Int) : ∀ gs : List (List Int × Value), key ∉ gs.map Prod.fst → G7 (updF mem key v) gs = G7 mem gs
  | [], _ => rfl
  | g :: gs, h => by
    simp only [List.map_cons, List.mem_cons, not_or] at h
    unfold G7 at *
    simp only [List.map_cons, List.cons.injEq]
    refine ⟨?_, G7_upd mem key v gs h.2⟩
    unfold updF
    rw [if_neg (fun e => h.1 e.symm)]
theorem G8_upd (kb : Int → List (List Int)) (b : Int) (v : List (List Int)) : ∀ bs : List (Int × Value), b ∉ bs.map Prod.fst → G8 (updF kb b v) bs = G8 kb bs
  | [], _ => rfl
  | g :: bs, h => by
    simp only [List.map_cons, List.mem_cons, not_or] at h
    unfold G8 at *
    simp only [List.map_cons, List.cons.injEq]
    refine ⟨?_, G8_upd kb b v bs h.2⟩
    unfold updF
    rw [if_neg (fun e => h.1 e.symm)]
theorem M7l_mem {gs : List (List Int × Value)} {key : List Int} (h : key ∉ gs.map Prod.fst) : ∀ p ∈ M7l gs, p.1 ≠ grV key := by
  intro p hp
  obtain ⟨g, hg, rfl⟩ := List.mem_map.1 hp
  intro e
  exact h (by rw [← grV_inj e]; exact List.mem_map_of_mem hg)
theorem M8l_mem {bs : List (Int × Value)} {b : Int} (h : b ∉ bs.map Prod.fst) : ∀ p ∈ M8l bs, p.1 ≠ .int .i64 b := by
  intro p hp
  obtain ⟨g, hg, rfl⟩ := List.mem_map.1 hp
  intro e
  simp only [Value.int.injEq, true_and] at e
  exact h (by rw [← e]; exact List.mem_map_of_mem hg)
theorem split_key {κ : Type} {gs : List (κ × Value)} {key : κ} (h : key ∈ gs.map Prod.fst) : ∃ g1 v g2, gs = g1 ++ (key, v) :: g2 := by
  obtain ⟨⟨k, v⟩, hg, rfl⟩ := List.mem_map.1 h
  obtain ⟨g1, g2, rfl⟩ := List.append_of_mem hg
  exact ⟨g1, v, g2, rfl⟩
theorem nodup_split {κ : Type} {g1 g2 : List (κ × Value)} {key : κ} {v : Value} (h : ((g1 ++ (key, v) :: g2).map Prod.fst).Nodup) : key ∉ g1.map Prod.fst ∧ key ∉ g2.map Prod.fst := by
  rw [List.map_append, List.map_cons, List.nodup_append, List.nodup_cons] at h
  exact ⟨fun e => h.2.2 _ e _ (by simp) rfl, h.2.1.1⟩
theorem M7l_nodup {gs : List (List Int × Value)} (h : ((M7l gs).map Prod.fst).Nodup) : (gs.map Prod.fst).Nodup := by
  have e : (M7l gs).map Prod.fst = (gs.map Prod.fst).map grV := by simp [M7l]
  rw [e] at h
  exact (List.pairwise_map.1 h).imp (fun hne e => hne (congrArg _ e))
theorem M8l_nodup {bs : List (Int × Value)} (h : ((M8l bs).map Prod.fst).Nodup) : (bs.map Prod.fst).Nodup := by
  have e : (M8l bs).map Prod.fst = (bs.map Prod.fst).map (fun x : Int => Value.int .i64 x) := by simp [M8l]
  rw [e] at h
  exact (List.pairwise_map.1 h).imp (fun hne e => hne (congrArg _ e))
theorem M7l_app (a b : List (List Int × Value)) : M7l (a ++ b) = M7l a ++ M7l b := by simp [M7l]
theorem M8l_app (a b : List (Int × Value)) : M8l (a ++ b) = M8l a ++ M8l b := by simp [M8l]
theorem G7_app (f) (a b : List (List Int × Value)) : G7 f (a ++ b) = G7 f a ++ G7 f b := by simp [G7]
theorem G8_app (f) (a b : List (Int × Value)) : G8 f (a ++ b) = G8 f a ++ G8 f b := by simp [G8]
section
variable {w1 w : World} {b7 b8 : Nat}
/-- A number is appended to the members of a group, the group's entry made where there is none. -/
theorem p12 {M8 : List (Value × Value)} {gs : List (List Int × Value)} {X Y : List Rw} {mem : List Int → List Int} {key : List Int} (h : Ws w1 w b7 b8 (M7l gs) M8 (X ++ (G7 mem gs ++ Y))) (hl : key.length = 9) (hw : ∀ x ∈ key, wf64 x)
    (hm : key ∉ gs.map Prod.fst → mem key = []) (hgl : gs.length ≤ 1000000) (hml : (mem key).length ≤ 1000000) (x : Int) {g : Nat} (hg : w.heap[g]? = some (.cells #[.int .i64 x] 3 (0, 0))) :
    ∃ v0 st w', (Instr.mapEntry 187 (.map (some b7)) (grV key)).run Tryz.prog w = .ok (.tuple #[v0, .int .i64 (st : Nat)]) w' ∧
    ∃ v' w'', (Builtin.append_ #[31, 31] 31 #[v0, .slice (some ⟨g, 0, none⟩) 1 1]).run Tryz.prog w' = .ok v' w'' ∧
    ∃ w3, (Instr.entryStore 187 (.map (some b7)) (.int .i64 (st : Nat)) v').run Tryz.prog w'' = .ok () w3 ∧
    ∃ gs', gs'.map Prod.fst = (if key ∈ gs.map Prod.fst then gs.map Prod.fst else gs.map Prod.fst ++ [key]) ∧ Ws w1 w3 b7 b8 (M7l gs') M8 (X ++ (G7 (updF mem key (mem key ++ [x])) gs' ++ Y)) := by
  have hgb : g ≠ b7 := by
    rintro rfl
    obtain ⟨es, clock, hb, -⟩ := h.m7
    rw [hg] at hb; cases hb
  have hnd := M7l_nodup h.m7.nodup
  by_cases hk : key ∈ gs.map Prod.fst
  · obtain ⟨g1, v, g2, rfl⟩ := split_key hk
    obtain ⟨n1, n2⟩ := nodup_split hnd
    have hj : (M7l (g1 ++ (key, v) :: g2))[g1.length]? = some (grV key, v) := by simp [M7l]
    obtain ⟨st, w', r1, e1, t1⟩ := h.m7.entry_old keyed191 Tryz.underlying187 (key191 hl hw) hj
    have h1 := h.turn7 e1.map t1
    rw [G7_app] at h1
    have h2 : Ws w1 w' b7 b8 (M7l (g1 ++ (key, v) :: g2)) M8 ((X ++ G7 mem g1) ++ rwI v (mem key) :: (G7 mem g2 ++ Y)) := by
      have e : X ++ (G7 mem g1 ++ G7 mem ((key, v) :: g2) ++ Y) = (X ++ G7 mem g1) ++ rwI v (mem key) :: (G7 mem g2 ++ Y) := by simp [G7]
      rwa [e] at h1
    have hg' : w'.heap[g]? = some (.cells #[.int .i64 x] 3 (0, 0)) := by rw [t1.block g hgb]; exact hg
    obtain ⟨v', w'', r2, r3, r4, r5⟩ := app_intsL w' w1.heap.size 31 v (mem key) [x] (some ⟨g, 0, none⟩) 1 h2.rows.mid (ints_one hg') (by simp) (by simp; omega) h2.ext.size
    have h3 := h2.app r4 (r' := rwI v' (mem key ++ [x])) r3 r5
    have e2 : EntAt 191 w'' b7 (M7l (g1 ++ (key, v) :: g2)) g1.length st := e1.of_block (r4.block b7 h2.m7.lt (fun e => map_ne_row h2.m7 h2.rows.mid b7 (by first | exact e | exact e.symm) rfl))
    obtain ⟨w3, r6, m3, t3⟩ := e2.store hj v'
    have h4 := h3.turn7 m3 t3
    refine ⟨v, st, w', r1, v', w'', r2, w3, r6, g1 ++ (key, v') :: g2, by simp, ?_⟩
    have e3 : (M7l (g1 ++ (key, v) :: g2)).set g1.length (grV key, v') = M7l (g1 ++ (key, v') :: g2) := by
      unfold M7l
      rw [List.map_append, List.map_append, List.set_append_right _ _ (by simp)]
      simp
    rw [e3] at h4
    have e4 : X ++ (G7 (updF mem key (mem key ++ [x])) (g1 ++ (key, v') :: g2) ++ Y) = (X ++ G7 mem g1) ++ rwI v' (mem key ++ [x]) :: (G7 mem g2 ++ Y) := by
      rw [G7_app, G7_upd _ _ _ _ n1]
      have : G7 (updF mem key (mem key ++ [x])) ((key, v') :: g2) = rwI v' (mem key ++ [x]) :: G7 mem g2 := by
        have := G7_upd mem key (mem key ++ [x]) g2 n2
        unfold G7 at this ⊢
        rw [List.map_cons, this]
        simp [updF]
      rw [this]; simp
    rw [e4]; exact h4
  · have hz := hm hk
    obtain ⟨st, w', r1, e1, t1⟩ := h.m7.entry_new keyed191 Tryz.underlying187 (zero31 w) (key191 hl hw) (M7l_mem hk) (by simp [M7l, maxLen]; omega)
    have h1 := (h.turn7 e1.map t1).nilrow 3 1
    have h2 : Ws w1 w' b7 b8 (M7l gs ++ [(grV key, .slice none 0 0)]) M8 ([] ++ rwI (.slice none 0 0) [] :: (X ++ (G7 mem gs ++ Y))) := h1
    have hg' : w'.heap[g]? = some (.cells #[.int .i64 x] 3 (0, 0)) := by rw [t1.block g hgb]; exact hg
    obtain ⟨v', w'', r2, r3, r4, r5⟩ := app_intsL w' w1.heap.size 31 (.slice none 0 0) [] [x] (some ⟨g, 0, none⟩) 1 h2.rows.mid (ints_one hg') (by simp) (by simp) h2.ext.size
    have h3 := h2.app r4 (r' := rwI v' [x]) r3 r5
    have e2 : EntAt 191 w'' b7 (M7l gs ++ [(grV key, .slice none 0 0)]) (M7l gs).length st := e1.of_block (r4.block b7 h2.m7.lt (fun e => map_ne_row h2.m7 h2.rows.mid b7 (by first | exact e | exact e.symm) rfl))
    obtain ⟨w3, r6, m3, t3⟩ := e2.store (key := grV key) (v0 := .slice none 0 0) (by simp) v'
    have h4 := h3.turn7 m3 t3
    refine ⟨.slice none 0 0, st, w', r1, v', w'', r2, w3, r6, gs ++ [(key, v')], by simp [hk], ?_⟩
    have e3 : (M7l gs ++ [(grV key, Value.slice none 0 0)]).set (M7l gs).length (grV key, v') = M7l (gs ++ [(key, v')]) := by
      rw [M7l_app, List.set_append_right _ _ (Nat.le_refl _)]
      simp [M7l]
    rw [e3] at h4
    refine h4.perm ?_
    rw [G7_app, G7_upd _ _ _ _ hk]
    have : G7 (updF mem key (mem key ++ [x])) [(key, v')] = [rwI v' [x]] := by simp [G7, updF, hz]
    rw [this]
    simp only [List.nil_append, List.append_assoc, List.singleton_append]
    rw [← List.append_assoc, ← List.append_assoc]
    exact List.perm_middle.symm
end
section
variable {w1 w : World} {b7 b8 : Nat}
/-- A group is appended to the row of a block, the block's entry made where there is none. -/
theorem p11 {M7 : List (Value × Value)} {bs : List (Int × Value)} {X Y : List Rw} {kb : Int → List (List Int)} {b : Int} (h : Ws w1 w b7 b8 M7 (M8l bs) (X ++ (Y ++ G8 kb bs))) (hb : wf64 b)
    (hz : b ∉ bs.map Prod.fst → kb b = []) (hbl : bs.length ≤ 1000000) (hkl : (kb b).length ≤ 1000000) (key : List Int) :
    ∃ (V : Value) (S : World → Value → Prop) (R : World → Prop),
      (∀ W, Ext w W → (Instr.lookup 188 (.map (some b8)) (.int .i64 b) false).run Tryz.prog W = .ok V W) ∧ (∃ a n c, V = .slice a n c ∧ ((n = 0) ↔ (kb b).length = 0)) ∧
      (∀ W, Ext w W → ∀ g, W.heap[g]? = some (.cells (grC key).toArray 191 (0, 0)) → ∃ v' w', (Builtin.append_ #[193, 193] 193 #[V, .slice (some ⟨g, 0, none⟩) 1 1]).run Tryz.prog W = .ok v' w' ∧ S w' v') ∧
      (∀ W v', S W v' → (Instr.mapUpdate 188 (.map (some b8)) (.int .i64 b) v').run Tryz.prog W = .ok () (mapW 188 W b8 (.int .i64 b) v') ∧ R (mapW 188 W b8 (.int .i64 b) v')) ∧
      (∀ W v', S W v' → ∀ r ∈ X, r.at W w1.heap.size) ∧
      (∀ W, R W → ∃ bs', bs'.map Prod.fst = (if b ∈ bs.map Prod.fst then bs.map Prod.fst else bs.map Prod.fst ++ [b]) ∧ Ws w1 W b7 b8 M7 (M8l bs') (X ++ (Y ++ G8 (updF kb b (kb b ++ [key])) bs'))) := by
  have hnd := M8l_nodup h.m8.nodup
  by_cases hk : b ∈ bs.map Prod.fst
  · obtain ⟨c1, v, c2, rfl⟩ := split_key hk
    obtain ⟨n1, n2⟩ := nodup_split hnd
    have hj : (M8l (c1 ++ (b, v) :: c2))[c1.length]? = some (.int .i64 b, v) := by simp [M8l]
    have e0 : X ++ (Y ++ G8 kb (c1 ++ (b, v) :: c2)) = (X ++ (Y ++ G8 kb c1)) ++ rwG v (kb b) :: G8 kb c2 := by simp [G8]
    rw [e0] at h
    have hv : ∃ a c, v = .slice a (kb b).length c := by
      rcases h.rows.mid.2 with ⟨e1, e2⟩ | ⟨g, cap, cur, e1, -⟩
      · have e1' : v = .slice none 0 0 := e1
        exact ⟨none, 0, by rw [e1']; rw [show (kb b).length = 0 from e2]⟩
      · exact ⟨_, _, e1⟩
    refine ⟨v, fun W v' => Ws w1 W b7 b8 M7 (M8l (c1 ++ (b, v) :: c2)) ((X ++ (Y ++ G8 kb c1)) ++ rwG v' (kb b ++ [key]) :: G8 kb c2),
      fun W => ∃ v', Ws w1 W b7 b8 M7 (M8l (c1 ++ (b, v') :: c2)) ((X ++ (Y ++ G8 kb c1)) ++ rwG v' (kb b ++ [key]) :: G8 kb c2), fun W e => ?_, ?_, fun W e g hg => (h.grow e).appG key hg hkl, fun W v' hs => ?_, fun W v' hs r hr => hs.rows.own r (by simp [hr]), fun W hW => ?_⟩
    · have := (h.m8.ext e).look_yes keyed3 Tryz.underlying188 (key3 hb) (List.mem_of_getElem? hj) false
      simpa using this
    · obtain ⟨a, c, hv⟩ := hv
      exact ⟨a, _, c, hv, Iff.rfl⟩
    · refine run_mapW (R := fun W => ∃ v', Ws w1 W b7 b8 M7 (M8l (c1 ++ (b, v') :: c2)) ((X ++ (Y ++ G8 kb c1)) ++ rwG v' (kb b ++ [key]) :: G8 kb c2)) ?_
      obtain ⟨w', r1, r2, r3⟩ := hs.m8.store_old keyed3 Tryz.underlying188 (key3 hb) (val := v') hj
      refine ⟨w', r1, v', ?_⟩
      have e3 : (M8l (c1 ++ (b, v) :: c2)).set c1.length (.int .i64 b, v') = M8l (c1 ++ (b, v') :: c2) := by
        unfold M8l
        rw [List.map_append, List.map_append, List.set_append_right _ _ (by simp)]
        simp
      rw [e3] at r2
      exact hs.turn8 r2 r3
    · obtain ⟨v', hs⟩ := hW
      refine ⟨c1 ++ (b, v') :: c2, by simp, ?_⟩
      have e4 : X ++ (Y ++ G8 (updF kb b (kb b ++ [key])) (c1 ++ (b, v') :: c2)) = (X ++ (Y ++ G8 kb c1)) ++ rwG v' (kb b ++ [key]) :: G8 kb c2 := by
        rw [G8_app, G8_upd _ _ _ _ n1]
        have : G8 (updF kb b (kb b ++ [key])) ((b, v') :: c2) = rwG v' (kb b ++ [key]) :: G8 kb c2 := by
          have := G8_upd kb b (kb b ++ [key]) c2 n2
          unfold G8 at this ⊢
          rw [List.map_cons, this]
          simp [updF]
        rw [this]; simp
      rw [e4]; exact hs
  · have hz0 := hz hk
    have h0 : Ws w1 w b7 b8 M7 (M8l bs) ([] ++ rwG (.slice none 0 0) [] :: (X ++ (Y ++ G8 kb bs))) := h.nilrow 191 9
    refine ⟨.slice none 0 0, fun W v' => Ws w1 W b7 b8 M7 (M8l bs) ([] ++ rwG v' [key] :: (X ++ (Y ++ G8 kb bs))),
      fun W => ∃ v', Ws w1 W b7 b8 M7 (M8l (bs ++ [(b, v')])) ([] ++ rwG v' [key] :: (X ++ (Y ++ G8 kb bs))), fun W e => ?_, ⟨none, 0, 0, rfl, by simp [hz0]⟩, fun W e g hg => (h0.grow e).appG key hg (by simp), fun W v' hs => ?_, fun W v' hs r hr => hs.rows.own r (by simp [hr]), fun W hW => ?_⟩
    · have := (h.m8.ext e).look_no keyed3 Tryz.underlying188 (zero193 W) (key3 hb) (M8l_mem hk) false
      simpa using this
    · refine run_mapW (R := fun W => ∃ v', Ws w1 W b7 b8 M7 (M8l (bs ++ [(b, v')])) ([] ++ rwG v' [key] :: (X ++ (Y ++ G8 kb bs)))) ?_
      obtain ⟨w', r1, r2, r3⟩ := hs.m8.store_new keyed3 Tryz.underlying188 (key3 hb) (val := v') (M8l_mem hk) (by simp [M8l, maxLen]; omega)
      refine ⟨w', r1, v', ?_⟩
      have e3 : M8l bs ++ [(.int .i64 b, v')] = M8l (bs ++ [(b, v')]) := by simp [M8l]
      rw [e3] at r2
      exact hs.turn8 r2 r3
    · obtain ⟨v', hs⟩ := hW
      refine ⟨bs ++ [(b, v')], by simp [hk], hs.perm ?_⟩
      rw [G8_app, G8_upd _ _ _ _ hk]
      have : G8 (updF kb b (kb b ++ [key])) [(b, v')] = [rwG v' [key]] := by simp [G8, updF, hz0]
      rw [this]
      simp only [List.nil_append]
      rw [← List.append_assoc, ← List.append_assoc, ← List.append_assoc]
      exact (List.perm_append_comm (l₁ := [rwG v' [key]])).trans (by simp)
end
end Go.Proofs.YtplbofhgmflnlaaGreat
end
