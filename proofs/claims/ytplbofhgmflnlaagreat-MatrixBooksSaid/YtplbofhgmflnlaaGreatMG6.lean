/-
  Texts merged: MR, M7, M8, M9a, M9, M10.
-/
import Derived.Test.YtplbofhgmflnlaaGreatMA4
import Derived.Test.YtplbofhgmflnlaaGreatMF6
section
/-
  Base words: several rows of the call's own, no two in one block.
-/
set_option linter.unusedVariables false
set_option linter.unusedSimpArgs false
namespace Go.Proofs.YtplbofhgmflnlaaGreat
open Go.RowKit
/-- A row of the call's own: its elements' type and size, the slice, how many, the cells. -/
structure Rw where
  e : TypeId
  sz : Nat
  v : Value
  n : Nat
  xs : List Value
abbrev Rw.at (w : World) (B : Nat) (r : Rw) : Prop := w.ownsRow B r.e r.sz r.v r.n r.xs
def Rw.off (r s : Rw) : Prop := ∀ k, r.v.ownBlock = some k → s.v.ownBlock ≠ some k
theorem Rw.off.symm {r s : Rw} (h : r.off s) : s.off r := fun k hk e => h k e hk
/-- These rows lie from block B on, no two in one block. -/
structure RowsAt (w : World) (B : Nat) (L : List Rw) : Prop where
  own : ∀ r ∈ L, r.at w B
  off : L.Pairwise Rw.off
theorem RowsAt.nil (w : World) (B : Nat) : RowsAt w B [] := ⟨fun r h => by simp at h, .nil⟩
theorem RowsAt.perm {w : World} {B : Nat} {L L' : List Rw} (h : RowsAt w B L) (p : L.Perm L') : RowsAt w B L' :=
  ⟨fun r hr => h.own r (p.mem_iff.2 hr), (p.pairwise_iff (fun {x y} h => Rw.off.symm h)).1 h.off⟩
theorem RowsAt.ext {w w' : World} {B : Nat} {L : List Rw} (h : RowsAt w B L) (e : Ext w w') : RowsAt w' B L := ⟨fun r hr => own_ext (h.own r hr) e, h.off⟩
theorem RowsAt.down {w : World} {B B' : Nat} {L : List Rw} (h : RowsAt w B L) (e : B' ≤ B) : RowsAt w B' L := ⟨fun r hr => own_base (h.own r hr) e, h.off⟩
theorem RowsAt.sub {w : World} {B : Nat} {L L' : List Rw} (h : RowsAt w B L) (s : L'.Sublist L) : RowsAt w B L' := ⟨fun r hr => h.own r (s.subset hr), h.off.sublist s⟩
theorem RowsAt.get {w : World} {B : Nat} {L : List Rw} (h : RowsAt w B L) {i : Nat} {r : Rw} (hi : L[i]? = some r) : r.at w B := h.own r (List.mem_of_getElem? hi)
/-- One row changes (its own block, or a new one), the others' blocks stay. -/
theorem RowsAt.put {w w' : World} {B : Nat} {L : List Rw} (h : RowsAt w B L) {i : Nat} {r r' : Rw} (hi : L[i]? = some r) (hw : r'.at w' B)
    (hk : ∀ k, k < w.heap.size → r.v.ownBlock ≠ some k → w'.heap[k]? = w.heap[k]?) (hl : ∀ k, r'.v.ownBlock = some k → r.v.ownBlock = some k ∨ w.heap.size ≤ k) : RowsAt w' B (L.set i r') := by
  obtain ⟨hil, hie⟩ := List.getElem?_eq_some_iff.1 hi
  have hoff : ∀ (j : Nat) (hj : j < L.length), j ≠ i → (L[j]).off r := fun j hj hne => by
    rcases Nat.lt_or_gt_of_ne hne with hlt | hlt
    · rw [← hie]; exact List.pairwise_iff_getElem.1 h.off j i hj hil hlt
    · rw [← hie]; exact (List.pairwise_iff_getElem.1 h.off i j hil hj hlt).symm
  have hnew : ∀ (j : Nat) (hj : j < L.length), j ≠ i → (L[j]).off r' := fun j hj hne k hkj e => by
    rcases hl k e with h1 | h1
    · exact hoff j hj hne k hkj h1
    · have := ((h.own L[j] (List.getElem_mem hj)).lt k hkj).2; omega
  refine ⟨fun x hx => ?_, ?_⟩
  · rw [List.mem_iff_getElem] at hx
    obtain ⟨j, hj, rfl⟩ := hx
    rw [List.length_set] at hj
    rw [List.getElem_set]
    split
    · exact hw
    · rename_i hne
      exact own_of_block (h.own L[j] (List.getElem_mem hj)) fun k hkk => hk k ((h.own L[j] (List.getElem_mem hj)).lt k hkk).2 (fun e => hoff j hj (fun e => hne e.symm) k hkk e)
  · rw [List.pairwise_iff_getElem]
    intro p q hp hq hpq
    rw [List.length_set] at hp hq
    rw [List.getElem_set, List.getElem_set]
    split
    · rename_i e1
      rw [if_neg (by omega)]
      exact (hnew q hq (by omega)).symm
    · rename_i e1
      split
      · exact hnew p hp (fun e => e1 e.symm)
      · exact List.pairwise_iff_getElem.1 h.off p q hp hq hpq
/-- A new row in a new block. -/
theorem RowsAt.push {w w' : World} {B : Nat} {L : List Rw} (h : RowsAt w B L) {r : Rw} (hw : r.at w' B) (hk : ∀ k, k < w.heap.size → w'.heap[k]? = w.heap[k]?) (hl : ∀ k, r.v.ownBlock = some k → w.heap.size ≤ k) : RowsAt w' B (r :: L) := by
  refine ⟨fun x hx => ?_, List.pairwise_cons.2 ⟨fun x hx k hkr e => ?_, h.off⟩⟩
  · rcases List.mem_cons.1 hx with rfl | hx
    · exact hw
    · exact own_of_block (h.own x hx) fun k hkk => hk k ((h.own x hx).lt k hkk).2
  · have := hl k hkr
    have := ((h.own x hx).lt k e).2
    omega
/-- A map's block turns: no row lies in it. -/
theorem RowsAt.turned {w w' : World} {B b : Nat} {L : List Rw} {k : TypeId} {m : List (Value × Value)} (h : RowsAt w B L) (hm : MapAt k w b m) (t : Turned w w' b) : RowsAt w' B L :=
  ⟨fun r hr => own_of_block (h.own r hr) fun j hj => t.block j (fun e => by
    subst e
    obtain ⟨es, clock, hb, -⟩ := hm
    rcases (h.own r hr).2 with ⟨hv, -⟩ | ⟨g, cap, cur, hv, -, hh, -⟩
    · rw [hv] at hj; cases hj
    · rw [hv] at hj
      simp only [Value.ownBlock, Option.some.injEq] at hj
      subst hj
      rw [hb] at hh; cases hh), h.off⟩
theorem map_ne_row {w : World} {B b : Nat} {k : TypeId} {m : List (Value × Value)} {r : Rw} (hm : MapAt k w b m) (h : r.at w B) : ∀ j, r.v.ownBlock = some j → j ≠ b := by
  intro j hj e
  subst e
  obtain ⟨es, clock, hb, -⟩ := hm
  rcases h.2 with ⟨hv, -⟩ | ⟨g, cap, cur, hv, -, hh, -⟩
  · rw [hv] at hj; cases hj
  · rw [hv] at hj
    simp only [Value.ownBlock, Option.some.injEq] at hj
    subst hj
    rw [hb] at hh; cases hh
/-- A row of numbers. -/
abbrev rwI (v : Value) (xs : List Int) : Rw := ⟨3, 1, v, xs.length, rowI xs⟩
theorem rwI_at {w : World} {B : Nat} {v : Value} {xs : List Int} : (rwI v xs).at w B ↔ OwnI w B v xs := Iff.rfl
/-- 'append(v, x...)' at []int, and where the new slice lies. -/
theorem app_intsL (w : World) (B : Nat) (ty : TypeId) (v : Value) (xs ys : List Int) (a : Option Addr) (c : Nat) (hv : OwnI w B v xs) (hx : Ints w a ys) (hy : ys ≠ []) (hn : xs.length + ys.length ≤ 17000000000000) (hB : B ≤ w.heap.size) :
    ∃ v' w', (Builtin.append_ #[31, 31] ty #[v, .slice a ys.length c]).run Tryz.prog w = .ok v' w' ∧ OwnI w' B v' (xs ++ ys) ∧ w.grownBy w' v.ownBlock ∧ (v'.ownBlock = v.ownBlock ∨ v'.ownBlock = some w.heap.size) := by
  obtain ⟨i0, hi, hz0, hz1, hz2⟩ := info_parts info3
  rcases hx.src with h0 | ⟨ad, rfl, hc⟩
  · have := congrArg List.length h0
    rw [rowI_len] at this
    exact absurd (List.length_eq_zero_iff.1 this) hy
  · obtain ⟨v', w', h1, h2, h3, -, h5⟩ := run_append_own_at (P := Tryz.prog) w B 31 ty 3 i0 (.int .i64 0) 1 8 Tryz.underlying31 hi hz0 hz1 hz2 rfl (by omega) v xs.length (rowI xs) hv ad ys.length c (rowI ys) (by rw [rowI_len]; omega) hc (rowI_one ys) (by unfold maxLen; omega) (by omega) hB
    refine ⟨v', w', h1, ?_, h3, h5⟩
    unfold OwnI
    rw [List.length_append]
    have e : rowI (xs ++ ys) = rowI xs ++ rowI ys := by simp [rowI]
    rw [e]
    exact h2
theorem RowsAt.appended {w w' : World} {B : Nat} {L : List Rw} (h : RowsAt w B L) {i : Nat} {r r' : Rw} (hi : L[i]? = some r) (hg : w.grownBy w' r.v.ownBlock) (hw : r'.at w' B) (hl : r'.v.ownBlock = r.v.ownBlock ∨ r'.v.ownBlock = some w.heap.size) : RowsAt w' B (L.set i r') :=
  h.put hi hw (fun k hk hne => hg.block k hk (fun e => hne (by first | exact e | exact e.symm))) (fun k hk => by
    rcases hl with h1 | h1
    · left; rw [← h1]; exact hk
    · right; rw [h1] at hk; cases hk; exact Nat.le_refl _)
theorem RowsAt.written {w w' : World} {B g : Nat} {L : List Rw} (h : RowsAt w B L) {i : Nat} {r r' : Rw} (hi : L[i]? = some r) (hx : ExtX g w w') (hr : r.v.ownBlock = some g) (hv : r'.v = r.v) (hw : r'.at w' B) : RowsAt w' B (L.set i r') :=
  h.put hi hw (fun k hk hne => hx.block k hk (fun e => hne (by rw [e]; exact hr))) (fun k hk => by left; rw [← hv]; exact hk)
theorem RowsAt.same {w w' : World} {B : Nat} {L : List Rw} (h : RowsAt w B L) (hk : ∀ k, B ≤ k → k < w.heap.size → w'.heap[k]? = w.heap[k]?) : RowsAt w' B L :=
  ⟨fun r hr => own_of_block (h.own r hr) fun k hkk => hk k ((h.own r hr).lt k hkk).1 ((h.own r hr).lt k hkk).2, h.off⟩
end Go.Proofs.YtplbofhgmflnlaaGreat
end
section
/-
  Walks: cost.
-/
set_option linter.unusedVariables false
set_option linter.unusedSimpArgs false
namespace Go.Proofs.YtplbofhgmflnlaaGreat
open Go.RowKit
/-- What the factors below k cost from one setting to another. -/
def costTo (fs : List Fac) (a b : List Int) : Nat → Int
  | 0 => 0
  | k + 1 => costTo fs a b k + if nth a k != nth b k then (fth fs k).cost else 0
def costS (fs : List Fac) (a b : List Int) : Int := costTo fs a b fs.length
theorem costTo_bd {fs : List Fac} (a b : List Int) (h : ∀ i, i < fs.length → 0 ≤ (fth fs i).cost ∧ (fth fs i).cost ≤ 1000) : ∀ k, k ≤ fs.length → 0 ≤ costTo fs a b k ∧ costTo fs a b k ≤ 1000 * k
  | 0, _ => ⟨Int.le_refl _, by simp [costTo]⟩
  | k + 1, hk => by
    have ih := costTo_bd a b h k (by omega)
    have hc := h k (by omega)
    simp only [costTo]
    split <;> constructor <;> omega
set_option maxRecDepth 100000 in
set_option maxHeartbeats 2000000 in
theorem cost_any (P : Pw) (s u : Se) (w : World) (h : PlanAt w P) (hf : P.fs.length ≤ 8) (hc : ∀ i, i < P.fs.length → 0 ≤ (fth P.fs i).cost ∧ (fth P.fs i).cost ≤ 1000) (hs : Ints w s.lv.a s.lv.xs) (hu : Ints w u.lv.a u.lv.xs)
    (ls : s.lv.xs.length = P.fs.length) (lu : u.lv.xs.length = P.fs.length) :
    Calls Tryz.prog 75 #[planV P, setV s, setV u] w (Ret (.int .i64 (costS P.fs s.lv.xs u.lv.xs)) w) := by
  obtain ⟨fs, fa, fc, fo, ga, gc⟩ := P
  obtain ⟨⟨xa, xs, xc⟩, xb⟩ := s
  obtain ⟨⟨ya, ys, yc⟩, yb⟩ := u
  have HH := Lib.hid h; have HX := Lib.hid hs; have HY := Lib.hid hu
  have HC := Lib.hid hc; have HBD := Lib.hid (costTo_bd xs ys hc)
  have LX := Lib.hid ls; have LY := Lib.hid lu
  simp only at hf ⊢
  clear h hs hu hc ls lu
  have hxn : fs.length ≤ xs.length := by have := LX.out; simp only at this; omega
  have hyn : fs.length ≤ ys.length := by have := LY.out; simp only at this; omega
  go_enter Tryz.func75, Tryz.ntmps75
  go_wp2_with (fail)
  generalize hw1 : World.alloc _ _ = w1
  obtain ⟨he, o1, o2, o3, -⟩ := alloc3 hw1
  obtain ⟨b0, b1⟩ := obj_cells2 o1
  obtain ⟨s0, s1⟩ := obj_cells2 o2
  obtain ⟨t0, t1⟩ := obj_cells2 o3
  clear hw1 o1 o2 o3
  have HE := Lib.hid he
  have E1 := Ext.refl w1
  clear he
  go_wp2_with (fail)
  go_loopw [7, 13] (fun s i wr => ∃ k : Nat, k ≤ fs.length ∧ i = .int .i64 k ∧ s = .int .i64 (costTo fs xs ys k) ∧ Ext w1 wr) (fun _ i _ => fs.length - (intOf i).toNat)
  case atStart => exact ⟨0, Nat.zero_le _, rfl, rfl, Ext.refl _⟩
  case round =>
    obtain ⟨k, hk, rfl, rfl, hr⟩ := hrel
    by_cases hlt : k < fs.length
    · obtain ⟨fb, fu, rfl, g0, g1, g2⟩ := fac_at (HH.out.fs.ext facC_len (HE.out.trans hr)) k hlt
      obtain ⟨xo, xp, rfl, d0⟩ := (HX.out.ext (HE.out.trans hr)).at k (by show k < xs.length; omega)
      obtain ⟨yo, yp, rfl, e0⟩ := (HY.out.ext (HE.out.trans hr)).at k (by show k < ys.length; omega)
      have hxk : k < xs.length := by omega
      have hyk : k < ys.length := by omega
      have hcb := HC.out k hlt
      have hbd := HBD.out k hk
      obtain ⟨z, hz⟩ : ∃ z, z = costTo fs xs ys k := ⟨_, rfl⟩
      obtain ⟨q, hq⟩ : ∃ q, q = (fth fs k).cost := ⟨_, rfl⟩
      have HNX : Hid (costTo fs xs ys (k + 1) = z + if nth xs k != nth ys k then q else 0) := by rw [Hid, hz, hq]; rfl
      rw [← hz] at hbd ⊢
      rw [← hq] at hcb g1
      have Er := Ext.refl wr
      clear hz hq
      go_wp2_with (fail)
      generalize hw3 : World.alloc wr _ = w3
      obtain ⟨he3, o3, hs3⟩ := alloc1 hw3
      obtain ⟨z0, z1, z2⟩ := obj_cells3 o3
      have d3 := fun W (e : Ext w3 W) => d0 W (he3.trans e)
      have e3 := fun W (e : Ext w3 W) => e0 W (he3.trans e)
      have hr3 := hr.trans he3
      have s3 := fun W (e : Ext w3 W) => s0 W (hr3.trans e)
      have t3 := fun W (e : Ext w3 W) => t0 W (hr3.trans e)
      have hr0 := Ext.refl w3
      clear hw3 o3 d0 e0 g0 g1 g2 Er
      cases T : (nth xs k != nth ys k)
      · rw [T] at HNX
        have HN2 := Lib.hid (show costTo fs xs ys (k + 1) = z by have := HNX.out; simpa using this)
        clear HNX
        refine wp_region_ext (by kernel_rfl) (by kernel_rfl) hr0 ?_
        repeat (first | go_big_quiet_step (((fail))) | quiet_step (((fail))))
        refine wpQuiet_nil ?_
        rintro _ ⟨nq, rfl⟩
        have hq2 := nq.ok
        have hrq := hr3.trans hq2
        go_wp2_with (fail)
        go_roundw
        case rel => exact ⟨k + 1, by omega, by go_num, by rw [HN2.out], hrq⟩
        case measure => simp [intOf]; omega
      · rw [T] at HNX
        have HN2 := Lib.hid (show costTo fs xs ys (k + 1) = z + q by have := HNX.out; simpa using this)
        clear HNX
        refine wp_region_ext (by kernel_rfl) (by kernel_rfl) hr0 ?_
        repeat (first | go_big_quiet_step (((fail))) | quiet_step (((fail))))
        refine wpQuiet_nil ?_
        rintro _ ⟨nq, rfl⟩
        have hq2 := nq.ok
        have hrq := hr3.trans hq2
        go_wp2_with (fail)
        go_roundw
        case rel => exact ⟨k + 1, by omega, by go_num, by rw [HN2.out], hrq⟩
        case measure => simp [intOf]; omega
    · obtain rfl : k = fs.length := by omega
      have HR : Hid (costTo fs xs ys fs.length = costS fs xs ys) := rfl
      go_wp2_with (fail)
      go_ret
      exact ⟨by rw [← HR.out]; rfl, HE.out.trans hr⟩
end Go.Proofs.YtplbofhgmflnlaaGreat
end
section
/-
  Walks: newTable (printed by genm8.py).
-/
set_option linter.unusedVariables false
set_option linter.unusedSimpArgs false
namespace Go.Proofs.YtplbofhgmflnlaaGreat
open Go.RowKit
set_option maxRecDepth 100000 in
set_option maxHeartbeats 4000000 in
theorem nt_law {g m q tc pb ab bb : Nat} {c : Int} {ua : Option Addr} {un uc : Nat} {P0 P1 A0 A1 B0 B1 : Value} {wr : World} {S : World → Value → Prop} {R : World → Prop} (hq0 : (0 : Int) ≤ (q : Int)) (hq1 : (q : Int) < (m : Int)) (p0 : ∀ W, Ext wr W → W.cell? ⟨pb, 0, none⟩ = some P0) (p1 : ∀ W, Ext wr W → W.cell? ⟨pb, 1, none⟩ = some P1) (a0 : ∀ W, Ext wr W → W.cell? ⟨ab, 0, none⟩ = some A0) (a1 : ∀ W, Ext wr W → W.cell? ⟨ab, 1, none⟩ = some A1) (c0 : ∀ W, Ext wr W → W.cell? ⟨bb, 0, none⟩ = some B0) (c1 : ∀ W, Ext wr W → W.cell? ⟨bb, 1, none⟩ = some B1) (HTI : Hid (∀ W, Ext wr W → W.cell? ⟨g, q, none⟩ = some (.slice ua un uc))) (HCALL : Hid (∀ W, Ext wr W → Calls Tryz.prog 75 #[.agg #[P0, P1], .agg #[A0, A1], .agg #[B0, B1]] W (Ret (.int .i64 c) W))) (HAPP : Hid (∀ W, Ext wr W → ∀ gb, W.heap[gb]? = some (.cells #[.int .i64 c] 3 (0, 0)) → ∃ v' w', (Builtin.append_ #[31, 31] 31 #[.slice ua un uc, .slice (some ⟨gb, 0, none⟩) 1 1]).run Tryz.prog W = .ok v' w' ∧ S w' v')) (HS : Hid (∀ W v, S W v → (∃ a n c', v = .slice a n c') ∧ (∃ u0, W.cell? ⟨g, q, none⟩ = some u0) ∧ W.frozen? ⟨g, q, none⟩ = false ∧ R (W.setCell ⟨g, q, none⟩ v))) {Q : Exit → Act → World → Prop} (aZ : Act) (hsz : aZ.tmps.size = 42) (o2 : aZ.tmps[2]?.getD undef = .pointer (some ⟨pb, 0, none⟩)) (o5 : aZ.tmps[5]?.getD undef = .slice (some ⟨g, 0, none⟩) m tc) (o6 : aZ.tmps[6]?.getD undef = .int .i64 (q : Int)) (o7 : aZ.tmps[7]?.getD undef = .pointer (some ⟨ab, 0, none⟩)) (o9 : aZ.tmps[9]?.getD undef = .pointer (some ⟨bb, 0, none⟩))
    (hend : ∀ (vs : Nat → Value) (w9 : World) (ls9 : Nat → Bool), (∀ j : Nat, j < 14 → ls9 j = true) → ((ls9 11 = false → Ext wr w9) ∧ (ls9 10 = true → ls9 11 = false → ∃ gb, vs 10 = .slice (some ⟨gb, 0, none⟩) 1 1 ∧ w9.heap[gb]? = some (.cells #[.int .i64 c] 3 (0, 0))) ∧ (ls9 11 = true → ls9 13 = false → S w9 (vs 11)) ∧ (ls9 13 = true → R w9)) → (vs 0 = .slice (some ⟨g, 0, none⟩) m tc) → (vs 1 = .int .i64 (q : Int)) → (vs 2 = .slice (some ⟨g, 0, none⟩) m tc) → (vs 3 = .int .i64 (q : Int)) → (vs 4 = .pointer (some ⟨g, q, none⟩)) → (vs 5 = .slice ua un uc) → (vs 6 = .agg #[P0, P1]) → (vs 7 = .agg #[A0, A1]) → (vs 8 = .agg #[B0, B1]) → (vs 9 = .int .i64 c) → (True) → (True) → (vs 12 = .pointer (some ⟨g, q, none⟩)) → Q .normal (((((((((((((aZ.put (some 26) (vs 0)).put (some 27) (vs 1)).put (some 28) (vs 2)).put (some 29) (vs 3)).put (some 30) (vs 4)).put (some 31) (vs 5)).put (some 32) (vs 6)).put (some 33) (vs 7)).put (some 34) (vs 8)).put (some 35) (vs 9)).put (some 36) (vs 10)).put (some 37) (vs 11)).put (some 38) (vs 12)) w9) : (regOf Tryz.f70 8).wp Tryz.prog Q aZ wr := by
  conv => arg 2; whnf
  refine wp_region_said3 (fun i v wz => match i with
    | 0 => v = .slice (some ⟨g, 0, none⟩) m tc
    | 1 => v = .int .i64 (q : Int)
    | 2 => v = .slice (some ⟨g, 0, none⟩) m tc
    | 3 => v = .int .i64 (q : Int)
    | 4 => v = .pointer (some ⟨g, q, none⟩)
    | 5 => v = .slice ua un uc
    | 6 => v = .agg #[P0, P1]
    | 7 => v = .agg #[A0, A1]
    | 8 => v = .agg #[B0, B1]
    | 9 => v = .int .i64 c
    | 10 => True
    | 11 => True
    | 12 => v = .pointer (some ⟨g, q, none⟩)
    | _ => True) (fun ls vs wz => (ls 11 = false → Ext wr wz) ∧ (ls 10 = true → ls 11 = false → ∃ gb, vs 10 = .slice (some ⟨gb, 0, none⟩) 1 1 ∧ wz.heap[gb]? = some (.cells #[.int .i64 c] 3 (0, 0))) ∧ (ls 11 = true → ls 13 = false → S wz (vs 11)) ∧ (ls 13 = true → R wz)) (by kernel_rfl) (by kernel_rfl) (by rw [hsz]; kernel_rfl) ?_ ?_ ?_
  · exact ⟨fun _ => (Ext.refl _).drew, fun e => (by cases e), fun e => (by cases e), fun e => (by cases e)⟩
  · refine ⟨?_, ?_, ?_, ?_, ?_, ?_, ?_, ?_, ?_, ?_, ?_, ?_, ?_, ?_, trivial⟩
    · intro ls vs a w1 hi hJ hold hdep hdon hcl K hK
      have q5 : a.tmps[5]?.getD undef = .slice (some ⟨g, 0, none⟩) m tc := (hold 5 (by kernel_rfl)).trans o5
      rw [if_pos (by rfl)]
      clear hold hdep hend hdon hcl o2 o5 o6 o7 o9
      have HJ := Lib.hid hJ
      clear hJ
      go_simp
      exact hK _ _ (fun _ _ _ h => h) HJ.out rfl
    · intro ls vs a w1 hi hJ hold hdep hdon hcl K hK
      have q6 : a.tmps[6]?.getD undef = .int .i64 (q : Int) := (hold 6 (by kernel_rfl)).trans o6
      rw [if_pos (by rfl)]
      clear hold hdep hend hdon hcl o2 o5 o6 o7 o9
      have HJ := Lib.hid hJ
      clear hJ
      go_simp
      exact hK _ _ (fun _ _ _ h => h) HJ.out rfl
    · intro ls vs a w1 hi hJ hold hdep hdon hcl K hK
      have q5 : a.tmps[5]?.getD undef = .slice (some ⟨g, 0, none⟩) m tc := (hold 5 (by kernel_rfl)).trans o5
      rw [if_pos (by rfl)]
      clear hold hdep hend hdon hcl o2 o5 o6 o7 o9
      have HJ := Lib.hid hJ
      clear hJ
      go_simp
      exact hK _ _ (fun _ _ _ h => h) HJ.out rfl
    · intro ls vs a w1 hi hJ hold hdep hdon hcl K hK
      have q6 : a.tmps[6]?.getD undef = .int .i64 (q : Int) := (hold 6 (by kernel_rfl)).trans o6
      rw [if_pos (by rfl)]
      clear hold hdep hend hdon hcl o2 o5 o6 o7 o9
      have HJ := Lib.hid hJ
      clear hJ
      go_simp
      exact hK _ _ (fun _ _ _ h => h) HJ.out rfl
    · intro ls vs a w1 hi hJ hold hdep hdon hcl K hK
      have q28 : a.tmps[28]?.getD undef = .slice (some ⟨g, 0, none⟩) m tc := (hdep 2 28 (by kernel_rfl) (by kernel_rfl)).2.1.trans (hdep 2 28 (by kernel_rfl) (by kernel_rfl)).2.2
      have q29 : a.tmps[29]?.getD undef = .int .i64 (q : Int) := (hdep 3 29 (by kernel_rfl) (by kernel_rfl)).2.1.trans (hdep 3 29 (by kernel_rfl) (by kernel_rfl)).2.2
      rw [if_pos (by rfl)]
      clear hold hdep hend hdon hcl o2 o5 o6 o7 o9
      have HJ := Lib.hid hJ
      clear hJ
      go_simp
      exact hK _ _ (fun _ _ _ h => h) HJ.out rfl
    · intro ls vs a w1 hi hJ hold hdep hdon hcl K hK
      have q30 : a.tmps[30]?.getD undef = .pointer (some ⟨g, q, none⟩) := (hdep 4 30 (by kernel_rfl) (by kernel_rfl)).2.1.trans (hdep 4 30 (by kernel_rfl) (by kernel_rfl)).2.2
      have hn11 : ls 11 = false := by
        cases e : ls 11 with
        | false => rfl
        | true =>
          replace e := hcl 11 5 e (by kernel_rfl)
          rw [show ls 5 = false from hi] at e
          cases e
      have hn13 : ls 13 = false := by
        cases e : ls 13 with
        | false => rfl
        | true =>
          replace e := hcl 13 5 e (by kernel_rfl)
          rw [show ls 5 = false from hi] at e
          cases e
      rw [if_pos (by rfl)]
      clear hold hdep hend hdon hcl o2 o5 o6 o7 o9
      have HJ := Lib.hid hJ
      clear hJ
      have c7 := HTI.out w1 (HJ.out.1 hn11)
      go_simp
      exact hK _ _ (fun _ _ _ h => h) HJ.out rfl
    · intro ls vs a w1 hi hJ hold hdep hdon hcl K hK
      have q2 : a.tmps[2]?.getD undef = .pointer (some ⟨pb, 0, none⟩) := (hold 2 (by kernel_rfl)).trans o2
      have hn11 : ls 11 = false := by
        cases e : ls 11 with
        | false => rfl
        | true =>
          replace e := hcl 11 9 e (by kernel_rfl)
          replace e := hcl 9 6 e (by kernel_rfl)
          rw [show ls 6 = false from hi] at e
          cases e
      have hn13 : ls 13 = false := by
        cases e : ls 13 with
        | false => rfl
        | true =>
          replace e := hcl 13 6 e (by kernel_rfl)
          rw [show ls 6 = false from hi] at e
          cases e
      rw [if_pos (by rfl)]
      clear hold hdep hend hdon hcl o2 o5 o6 o7 o9
      have HJ := Lib.hid hJ
      clear hJ
      have hx := HJ.out.1 hn11
      go_simp
      exact hK _ _ (fun _ _ _ h => h) HJ.out rfl
    · intro ls vs a w1 hi hJ hold hdep hdon hcl K hK
      have q7 : a.tmps[7]?.getD undef = .pointer (some ⟨ab, 0, none⟩) := (hold 7 (by kernel_rfl)).trans o7
      have hn11 : ls 11 = false := by
        cases e : ls 11 with
        | false => rfl
        | true =>
          replace e := hcl 11 9 e (by kernel_rfl)
          replace e := hcl 9 7 e (by kernel_rfl)
          rw [show ls 7 = false from hi] at e
          cases e
      have hn13 : ls 13 = false := by
        cases e : ls 13 with
        | false => rfl
        | true =>
          replace e := hcl 13 7 e (by kernel_rfl)
          rw [show ls 7 = false from hi] at e
          cases e
      rw [if_pos (by rfl)]
      clear hold hdep hend hdon hcl o2 o5 o6 o7 o9
      have HJ := Lib.hid hJ
      clear hJ
      have hx := HJ.out.1 hn11
      go_simp
      exact hK _ _ (fun _ _ _ h => h) HJ.out rfl
    · intro ls vs a w1 hi hJ hold hdep hdon hcl K hK
      have q9 : a.tmps[9]?.getD undef = .pointer (some ⟨bb, 0, none⟩) := (hold 9 (by kernel_rfl)).trans o9
      have hn11 : ls 11 = false := by
        cases e : ls 11 with
        | false => rfl
        | true =>
          replace e := hcl 11 9 e (by kernel_rfl)
          replace e := hcl 9 8 e (by kernel_rfl)
          rw [show ls 8 = false from hi] at e
          cases e
      have hn13 : ls 13 = false := by
        cases e : ls 13 with
        | false => rfl
        | true =>
          replace e := hcl 13 8 e (by kernel_rfl)
          rw [show ls 8 = false from hi] at e
          cases e
      rw [if_pos (by rfl)]
      clear hold hdep hend hdon hcl o2 o5 o6 o7 o9
      have HJ := Lib.hid hJ
      clear hJ
      have hx := HJ.out.1 hn11
      go_simp
      exact hK _ _ (fun _ _ _ h => h) HJ.out rfl
    · intro ls vs a w1 hi hJ hold hdep hdon hcl K hK
      have q32 : a.tmps[32]?.getD undef = .agg #[P0, P1] := (hdep 6 32 (by kernel_rfl) (by kernel_rfl)).2.1.trans (hdep 6 32 (by kernel_rfl) (by kernel_rfl)).2.2
      have q33 : a.tmps[33]?.getD undef = .agg #[A0, A1] := (hdep 7 33 (by kernel_rfl) (by kernel_rfl)).2.1.trans (hdep 7 33 (by kernel_rfl) (by kernel_rfl)).2.2
      have q34 : a.tmps[34]?.getD undef = .agg #[B0, B1] := (hdep 8 34 (by kernel_rfl) (by kernel_rfl)).2.1.trans (hdep 8 34 (by kernel_rfl) (by kernel_rfl)).2.2
      have hn11 : ls 11 = false := by
        cases e : ls 11 with
        | false => rfl
        | true =>
          replace e := hcl 11 9 e (by kernel_rfl)
          rw [show ls 9 = false from hi] at e
          cases e
      have hn13 : ls 13 = false := by
        cases e : ls 13 with
        | false => rfl
        | true =>
          replace e := hcl 13 9 e (by kernel_rfl)
          rw [show ls 9 = false from hi] at e
          cases e
      rw [if_pos (by rfl)]
      clear hold hdep hend hdon hcl o2 o5 o6 o7 o9
      have HJ := Lib.hid hJ
      clear hJ
      obtain ⟨j1, j2, j3, j4⟩ := HJ.out
      go_simp
      go_at_call 75
      (with_reducible refine (HCALL.out _ (j1 hn11)).mono ?_); rintro e w20 ⟨rfl, he2⟩
      refine hK _ _ (fun _ _ _ h => h) ⟨fun _ => (j1 hn11).trans he2, fun e e2 => ?_, fun e => (by simp [hn11] at e), fun e => (by simp [hn13] at e)⟩ rfl
      obtain ⟨gb, h1, h2⟩ := j2 (by simpa using e) hn11
      exact ⟨gb, by simpa using h1, he2.block h2⟩
    · intro ls vs a w1 hi hJ hold hdep hdon hcl K hK
      have q35 : a.tmps[35]?.getD undef = .int .i64 c := (hdep 9 35 (by kernel_rfl) (by kernel_rfl)).2.1.trans (hdep 9 35 (by kernel_rfl) (by kernel_rfl)).2.2
      have hn11 : ls 11 = false := by
        cases e : ls 11 with
        | false => rfl
        | true =>
          replace e := hcl 11 10 e (by kernel_rfl)
          rw [show ls 10 = false from hi] at e
          cases e
      have hn13 : ls 13 = false := by
        cases e : ls 13 with
        | false => rfl
        | true =>
          replace e := hcl 13 10 e (by kernel_rfl)
          rw [show ls 10 = false from hi] at e
          cases e
      rw [if_pos (by rfl)]
      clear hold hdep hend hdon hcl o2 o5 o6 o7 o9
      have HJ := Lib.hid hJ
      clear hJ
      obtain ⟨j1, j2, j3, j4⟩ := HJ.out
      go_simp
      have hx := (Ext.refl w1).alloc (.cells #[.int .i64 c] 3)
      exact hK _ _ (fun _ _ _ h => h) ⟨fun _ => (j1 hn11).trans hx, fun _ _ => ⟨_, rfl, heap_new _ _⟩, fun e => (by simp [hn11] at e), fun e => (by simp [hn13] at e)⟩ trivial
    · intro ls vs a w1 hi hJ hold hdep hdon hcl K hK
      have q31 : a.tmps[31]?.getD undef = .slice ua un uc := (hdep 5 31 (by kernel_rfl) (by kernel_rfl)).2.1.trans (hdep 5 31 (by kernel_rfl) (by kernel_rfl)).2.2
      obtain ⟨hl10, q36, p36⟩ := hdep 10 36 (by kernel_rfl) (by kernel_rfl)
      have hl10 := hdon 10 (by kernel_rfl)
      clear hold hdep hend hdon o2 o5 o6 o7 o9
      have HJ := Lib.hid hJ
      clear hJ
      obtain ⟨j1, j2, j3, j4⟩ := HJ.out
      have hn11 : ls 11 = false := hi
      have hn13 : ls 13 = false := by
        cases e : ls 13 with
        | false => rfl
        | true =>
          have e := hcl 13 11 e (by kernel_rfl)
          rw [hn11] at e; cases e
      obtain ⟨gb, hv, hb⟩ := j2 hl10 hn11
      rw [hv] at q36
      obtain ⟨v', w', r1', r2'⟩ := HAPP.out w1 (j1 hn11) gb hb
      refine step_app (by rfl) (.tmp 31) (.tmp 36) 31 (by rfl) _ _ (by simpa [Act.eval, Array.getD_eq_getD_getElem?] using q31) (by simpa [Act.eval, Array.getD_eq_getD_getElem?] using q36) (fun v3 w3 => v3 = v' ∧ w3 = w') ⟨_, _, r1', rfl, rfl⟩ ?_
      rintro v3 w3 ⟨rfl, rfl⟩
      exact hK _ _ (fun _ _ _ h => h) ⟨fun e => (by simp at e), fun _ e => (by simp at e), fun _ _ => r2', fun e => (by simp [hn13] at e)⟩ trivial
    · intro ls vs a w1 hi hJ hold hdep hdon hcl K hK
      have q26 : a.tmps[26]?.getD undef = .slice (some ⟨g, 0, none⟩) m tc := (hdep 0 26 (by kernel_rfl) (by kernel_rfl)).2.1.trans (hdep 0 26 (by kernel_rfl) (by kernel_rfl)).2.2
      have q27 : a.tmps[27]?.getD undef = .int .i64 (q : Int) := (hdep 1 27 (by kernel_rfl) (by kernel_rfl)).2.1.trans (hdep 1 27 (by kernel_rfl) (by kernel_rfl)).2.2
      rw [if_pos (by rfl)]
      clear hold hdep hend hdon hcl o2 o5 o6 o7 o9
      have HJ := Lib.hid hJ
      clear hJ
      go_simp
      exact hK _ _ (fun _ _ _ h => h) HJ.out rfl
    · intro ls vs a w1 hi hJ hold hdep hdon hcl K hK
      obtain ⟨hl11, q37, p37⟩ := hdep 11 37 (by kernel_rfl) (by kernel_rfl)
      have q38 : a.tmps[38]?.getD undef = .pointer (some ⟨g, q, none⟩) := (hdep 12 38 (by kernel_rfl) (by kernel_rfl)).2.1.trans (hdep 12 38 (by kernel_rfl) (by kernel_rfl)).2.2
      have hl11 := hdon 11 (by kernel_rfl)
      rw [if_pos (by rfl)]
      clear hold hdep hend hdon hcl o2 o5 o6 o7 o9
      have HJ := Lib.hid hJ
      clear hJ
      obtain ⟨j1, j2, j3, j4⟩ := HJ.out
      have hs := j3 hl11 hi
      obtain ⟨⟨a, n, c', hv⟩, ⟨u0, hu0⟩, hf, hr⟩ := HS.out w1 _ hs
      rw [hv] at q37 hr
      go_simp
      exact hK undef _ (fun _ _ _ h => h) ⟨fun e => (by simp [hl11] at e), fun _ e => (by simp [hl11] at e), fun _ e => (by simp at e), fun _ => hr⟩ trivial
  · intro vs w9 ls9 hl9 hJ9 hφ
    have e0 := hφ 0 (by kernel_rfl)
    have e1 := hφ 1 (by kernel_rfl)
    have e2 := hφ 2 (by kernel_rfl)
    have e3 := hφ 3 (by kernel_rfl)
    have e4 := hφ 4 (by kernel_rfl)
    have e5 := hφ 5 (by kernel_rfl)
    have e6 := hφ 6 (by kernel_rfl)
    have e7 := hφ 7 (by kernel_rfl)
    have e8 := hφ 8 (by kernel_rfl)
    have e9 := hφ 9 (by kernel_rfl)
    have e10 := hφ 10 (by kernel_rfl)
    have e11 := hφ 11 (by kernel_rfl)
    have e12 := hφ 12 (by kernel_rfl)
    have hq := hend vs w9 ls9 hl9 hJ9 e0 e1 e2 e3 e4 e5 e6 e7 e8 e9 e10 e11 e12
    simp only [Act.put] at hq
    simp only [putAll, Act.put]
    exact hq

/-! ### rows of slices that are written -/
theorem rowV_map (vs : List (Sl Int)) : rowF vecC vs = vs.map fun s => Value.slice s.a s.xs.length s.c := by
  unfold rowF
  induction vs with
  | nil => rfl
  | cons x xs ih => rw [List.flatMap_cons, ih]; rfl
abbrev rwV (v : Value) (vs : List (Sl Int)) : Rw := ⟨31, 1, v, vs.length, rowF vecC vs⟩
abbrev slV (s : Sl Int) : Value := .slice s.a s.xs.length s.c
abbrev rwS (s : Sl Int) : Rw := rwI (slV s) s.xs
/-- A row of slices, and the rows under them. -/
def tabL (v : Value) (vs : List (Sl Int)) : List Rw := rwV v vs :: vs.map rwS
def slN : Sl Int := ⟨none, [], 0⟩
theorem tabL_at (v : Value) (vs : List (Sl Int)) (i : Nat) (hi : i < vs.length) : (tabL v vs)[i + 1]? = some (rwS (vth vs i)) := by
  unfold tabL; rw [List.getElem?_cons_succ, List.getElem?_map, List.getElem?_eq_getElem hi, vth_eq _ _ hi]; rfl
theorem tabL_zero (v : Value) (vs : List (Sl Int)) : (tabL v vs)[0]? = some (rwV v vs) := rfl
theorem ownV_set {w : World} {B g n c i : Nat} {vs : List (Sl Int)} (hn : vs.length = n) (h : OwnV w B (.slice (some ⟨g, 0, none⟩) n c) vs) (s : Sl Int) : OwnV (w.setCell ⟨g, i, none⟩ (slV s)) B (.slice (some ⟨g, 0, none⟩) n c) (vs.set i s) := by
  subst hn
  have h' : w.ownsRow B 31 1 (.slice (some ⟨g, 0, none⟩) vs.length c) vs.length (rowF vecC vs) := h
  have := (h'.stored i (slV s)).1
  show World.ownsRow _ B 31 1 _ (vs.set i s).length (rowF vecC (vs.set i s))
  rw [List.length_set, rowV_map, List.map_set, ← rowV_map]
  exact this
theorem ownV_cell {w : World} {B g n c : Nat} {vs : List (Sl Int)} (hn : vs.length = n) (h : OwnV w B (.slice (some ⟨g, 0, none⟩) n c) vs) (i : Nat) (hi : i < n) : w.cell? ⟨g, i, none⟩ = some (slV (vth vs i)) := by
  subst hn
  have h' : w.ownsRow B 31 1 (.slice (some ⟨g, 0, none⟩) vs.length c) vs.length (rowF vecC vs) := h
  rw [h'.cellAt i (by omega), rowV_map, List.getElem?_map, List.getElem?_eq_getElem hi, vth_eq _ _ hi]; rfl
theorem ownV_free {w : World} {B g n c : Nat} {vs : List (Sl Int)} (hn : vs.length = n) (h : OwnV w B (.slice (some ⟨g, 0, none⟩) n c) vs) (i : Nat) : w.frozen? ⟨g, i, none⟩ = false := by
  subst hn
  have h' : w.ownsRow B 31 1 (.slice (some ⟨g, 0, none⟩) vs.length c) vs.length (rowF vecC vs) := h
  exact h'.frozenAt i
theorem RowsAt.tab_own {w : World} {B : Nat} {v : Value} {vs : List (Sl Int)} (h : RowsAt w B (tabL v vs)) : OwnV w B v vs := h.get (tabL_zero v vs)
theorem RowsAt.tab_row {w : World} {B : Nat} {v : Value} {vs : List (Sl Int)} (h : RowsAt w B (tabL v vs)) (i : Nat) (hi : i < vs.length) : OwnI w B (slV (vth vs i)) (vth vs i).xs := h.get (tabL_at v vs i hi)
/-- One row under the table has changed; then its slice is stored. -/
theorem RowsAt.tab_store {w : World} {B g n c i : Nat} {vs : List (Sl Int)} {s : Sl Int} (hn : vs.length = n) (hi : i < n) (h : RowsAt w B ((tabL (.slice (some ⟨g, 0, none⟩) n c) vs).set (i + 1) (rwS s))) :
    RowsAt (w.setCell ⟨g, i, none⟩ (slV s)) B (tabL (.slice (some ⟨g, 0, none⟩) n c) (vs.set i s)) := by
  have h0 : ((tabL (.slice (some ⟨g, 0, none⟩) n c) vs).set (i + 1) (rwS s))[0]? = some (rwV (.slice (some ⟨g, 0, none⟩) n c) vs) := by
    unfold tabL; rw [List.set_cons_succ]; rfl
  have hown : OwnV w B (.slice (some ⟨g, 0, none⟩) n c) vs := h.get h0
  have := h.written (r' := rwV (.slice (some ⟨g, 0, none⟩) n c) (vs.set i s)) h0 ((ExtX.refl g w).set i (slV s)) rfl rfl (ownV_set hn hown s)
  unfold tabL at this ⊢
  rw [List.set_cons_succ, List.set_cons_zero, ← List.map_set] at this
  exact this
def madeV (W : World) (n : Nat) : World := W.alloc (.cells (madeCells #[.slice none 0 0] n) 31)
theorem run_madeV (t : TypeId) (ht : Tryz.prog.underlying t = some (.slice 31)) (n : Nat) (hn : n ≤ 1000000) (W : World) : (Instr.makeSlice t (.int .i64 (n : Int)) (.int .i64 (n : Int))).run Tryz.prog W = .ok (.slice (some ⟨W.heap.size, 0, none⟩) n n) (madeV W n) := by
  obtain ⟨i0, hi, hz0, hz1, hz2⟩ := info_parts info31
  have := run_make (P := Tryz.prog) W t 31 i0 (.slice none 0 0) ht hi hz0 .i64 .i64 n n
  rw [hz1, hz2] at this
  have h := this (by omega) (by omega) (by omega) (by omega)
  rw [Int.toNat_natCast, Nat.mul_one] at h
  exact h
theorem vth_rep (n i : Nat) : vth (List.replicate n slN) i = slN := by
  unfold vth
  rw [List.getD_eq_getElem?_getD, List.getElem?_replicate]
  split <;> rfl
theorem madeV_facts {W w1 : World} {n : Nat} (hn : n ≤ 1000000) (h : madeV W n = w1) : Ext W w1 ∧ RowsAt w1 W.heap.size (tabL (.slice (some ⟨W.heap.size, 0, none⟩) n n) (List.replicate n slN)) ∧ w1.heap.size = W.heap.size + 1 := by
  subst h
  refine ⟨(Ext.refl W).alloc _, ⟨fun r hr => ?_, ?_⟩, heap_size _ _⟩
  · rcases List.mem_cons.1 hr with rfl | hr
    · show World.ownsRow _ _ 31 1 _ (List.replicate n slN).length _
      rw [List.length_replicate]
      refine ⟨by rw [rowF_len vecC_len, List.length_replicate], .inr ⟨W.heap.size, n, madeCells #[.slice none 0 0] n, rfl, Nat.le_refl _, heap_new _ _, Nat.le_refl _, by unfold maxLen; omega, ?_, ?_⟩⟩
      · rw [← Array.length_toList, toList_madeCells_one]; simp
      · show _ = rowF vecC (List.replicate n slN)
        rw [toList_madeCells_one, rowV_map, List.map_replicate]
        rw [List.take_of_length_le (by simp)]; rfl
    · obtain ⟨s, hs, rfl⟩ := List.mem_map.1 hr
      rw [List.mem_replicate] at hs
      rw [hs.2]
      exact World.ownsRow_nil _ _ _ _
  · unfold tabL
    rw [List.pairwise_cons]
    have hnil : ∀ x ∈ (List.replicate n slN).map rwS, x.v.ownBlock = none := fun x hx => by
      obtain ⟨s, hs, rfl⟩ := List.mem_map.1 hx
      rw [List.mem_replicate] at hs
      rw [hs.2]; rfl
    refine ⟨fun x hx k _ e => (by rw [hnil x hx] at e; cases e), ?_⟩
    rw [List.pairwise_iff_getElem]
    intro i j hi hj _ k hk
    rw [hnil _ (List.getElem_mem hi)] at hk; cases hk
theorem own_type_ne {w : World} {B e sz n b T : Nat} {v : Value} {xs : List Value} {cs : Array Value} {fz : Nat × Nat} (h : w.ownsRow B e sz v n xs) (hb : w.heap[b]? = some (.cells cs T fz)) (hne : e ≠ T) : v.ownBlock ≠ some b := by
  intro hk
  rcases h.2 with ⟨hv, -⟩ | ⟨g, cap, cur, hv, -, hh, -⟩
  · rw [hv] at hk; cases hk
  · rw [hv] at hk
    simp only [Value.ownBlock, Option.some.injEq] at hk
    subst hk
    rw [hh] at hb
    simp only [Option.some.injEq, Obj.cells.injEq] at hb
    exact hne hb.2.1
/-! ### newTable -/
def crow (fs : List Fac) (ss : List Se) (p k : Nat) : List Int := (List.range k).map fun q => costS fs (eth ss p).lv.xs (eth ss q).lv.xs
theorem crow_succ (fs : List Fac) (ss : List Se) (p k : Nat) : crow fs ss p (k + 1) = crow fs ss p k ++ [costS fs (eth ss p).lv.xs (eth ss k).lv.xs] := by
  unfold crow; rw [List.range_succ]; simp
theorem crow_len (fs : List Fac) (ss : List Se) (p k : Nat) : (crow fs ss p k).length = k := by simp [crow]
def TabS (fs : List Fac) (ss : List Se) (i k : Nat) (vs : List (Sl Int)) : Prop := vs.length = ss.length ∧ ∀ p, p < ss.length → (vth vs p).xs = crow fs ss p (if p < i then ss.length else if p = i then k else 0)
theorem vth_set (vs : List (Sl Int)) (i p : Nat) (s : Sl Int) (hp : p < vs.length) : vth (vs.set i s) p = if p = i then s else vth vs p := by
  rw [vth_eq _ _ (by simpa using hp), vth_eq _ _ hp, List.getElem_set]
  by_cases h : i = p
  · rw [if_pos h, if_pos h.symm]
  · rw [if_neg h, if_neg (fun e => h e.symm)]
def RetTab (fs : List Fac) (ss : List Se) (w : World) (e : Ending) (w' : World) : Prop :=
  ∃ g c vs, e = .returned (.slice (some ⟨g, 0, none⟩) ss.length c) ∧ Ext w w' ∧ RowsAt w' w.heap.size (tabL (.slice (some ⟨g, 0, none⟩) ss.length c) vs) ∧ vs.length = ss.length ∧ ∀ p, p < ss.length → (vth vs p).xs = crow fs ss p ss.length
set_option maxRecDepth 100000 in
set_option maxHeartbeats 4000000 in
theorem newTable_any (P : Pw) (a : Option Addr) (ss : List Se) (sc : Nat) (w : World) (h : PlanAt w P) (hf : P.fs.length ≤ 8) (hc : ∀ i, i < P.fs.length → 0 ≤ (fth P.fs i).cost ∧ (fth P.fs i).cost ≤ 1000) (hs : SetsAt w a ss) (hn : ss.length ≤ 2000)
    (hl : ∀ i, i < ss.length → (eth ss i).lv.xs.length = P.fs.length) : Calls Tryz.prog 70 #[planV P, .slice a ss.length sc] w (RetTab P.fs ss w) := by
  have hcall := fun W (e : Ext w W) p q (hp : p < ss.length) (hq : q < ss.length) => cost_any P (eth ss p) (eth ss q) W (h.ext e) hf hc ((hs.ext e).lv p hp) ((hs.ext e).lv q hq) (hl p hp) (hl q hq)
  obtain ⟨fs, fa, fc, fo, ga, gc⟩ := P
  simp only at hcall hf hl ⊢
  have HCALL := Lib.hid hcall; have HS := Lib.hid hs
  have hmk := run_madeV 128 Tryz.underlying128 ss.length (by omega)
  clear hcall h hc hs hl
  go_enter Tryz.func70, Tryz.ntmps70
  go_wp2_with (fail)
  generalize hw1 : World.alloc _ _ = w1
  obtain ⟨he, o1, hs1⟩ := alloc1 hw1
  obtain ⟨b0, b1⟩ := obj_cells2 o1
  clear hw1 o1
  have HE := Lib.hid he
  generalize hw2 : madeV _ _ = w2
  obtain ⟨he2, hrows, hsz⟩ := madeV_facts (by omega) hw2
  obtain ⟨g, hg⟩ : ∃ g, g = w.heap.size + 1 := ⟨_, rfl⟩
  rw [hs1, ← hg] at hrows hsz
  rw [← hg]
  have HE2 := Lib.hid he2; have HR2 := Lib.hid hrows
  have HG : Hid (w.heap.size ≤ g ∧ w1.heap.size ≤ g ∧ g < w2.heap.size) := ⟨by omega, by omega, by omega⟩
  clear he hw2 he2 hrows hsz hg hmk hs1
  go_loopw [15] (fun i wr => ∃ (k : Nat) (vs : List (Sl Int)), k ≤ ss.length ∧ i = .int .i64 k ∧ Ext w1 wr ∧ Hid (RowsAt wr g (tabL (.slice (some ⟨g, 0, none⟩) ss.length ss.length) vs) ∧ TabS fs ss k 0 vs)) (fun i _ => ss.length - (intOf i).toNat)
  case atStart =>
    refine ⟨0, _, Nat.zero_le _, rfl, HE2.out, HR2.out, by simp, fun p hp => ?_⟩
    rw [vth_rep]
    have : (if p < 0 then ss.length else if p = 0 then 0 else 0) = 0 := by simp
    rw [this]; rfl
  case round =>
    obtain ⟨i, vs0, hi, rfl, hr, hrw⟩ := hrel
    obtain ⟨wo, rfl⟩ : ∃ wo : World, wo = wr := ⟨_, rfl⟩
    by_cases hlt : i < ss.length
    · obtain ⟨sb, so, rfl, d0, d1⟩ := set_at (HS.out.ext (HE.out.trans hr)).row i hlt
      have Er := Ext.refl wo
      obtain ⟨A0, hA0⟩ : ∃ A0, A0 = Value.slice (eth ss i).lv.a (eth ss i).lv.xs.length (eth ss i).lv.c := ⟨_, rfl⟩
      obtain ⟨A1, hA1⟩ : ∃ A1, A1 = Value.int .i64 (eth ss i).blk := ⟨_, rfl⟩
      have HA : Hid (setV (eth ss i) = .agg #[A0, A1]) := by rw [hA0, hA1]; rfl
      go_upto_region 5 with fail
      generalize hw3 : World.alloc wo _ = w3
      obtain ⟨he3, o3, hs3⟩ := alloc1 hw3
      obtain ⟨ab, hab⟩ : ∃ ab, ab = wo.heap.size := ⟨_, rfl⟩
      rw [← hab] at o3 ⊢
      rw [← hA0, ← hA1] at o3
      have HAB := Lib.hid o3
      have hr3 := hr.trans he3
      have HRW3 : Hid (RowsAt w3 g (tabL (.slice (some ⟨g, 0, none⟩) ss.length ss.length) vs0) ∧ TabS fs ss i 0 vs0) := ⟨hrw.out.1.ext he3, hrw.out.2⟩
      clear hw3 o3 d0 d1 Er he3 hs3 hab hrw hA0 hA1
      go_upto_region 6 with fail
      go_loopw [22] (fun v wr => ∃ (k : Nat) (vs : List (Sl Int)), k ≤ ss.length ∧ v = .int .i64 k ∧ Ext w1 wr ∧ Hid (wr.heap[ab]? = some (.cells #[A0, A1] 49 (0, 0))) ∧ Hid (RowsAt wr g (tabL (.slice (some ⟨g, 0, none⟩) ss.length ss.length) vs) ∧ TabS fs ss i k vs)) (fun v _ => ss.length - (intOf v).toNat)
      case atStart => exact ⟨0, _, Nat.zero_le _, rfl, hr3, HAB.out, HRW3.out.1, HRW3.out.2⟩
      case round =>
        obtain ⟨k, vs, hk, rfl, hrq, hab, hrw⟩ := hrel
        clear HRW3 HAB hr3
        by_cases hlt2 : k < ss.length
        · obtain ⟨z0', z1'⟩ := obj_cells2 hab.out
          obtain ⟨sb', so', hbo, d0, d1⟩ := set_at (HS.out.ext (HE.out.trans hrq)).row k hlt2
          simp only [Option.some.injEq, Addr.mk.injEq, and_true] at hbo
          obtain ⟨rfl, rfl⟩ := hbo
          have Er := Ext.refl wr
          obtain ⟨B0, hB0⟩ : ∃ B0, B0 = Value.slice (eth ss k).lv.a (eth ss k).lv.xs.length (eth ss k).lv.c := ⟨_, rfl⟩
          obtain ⟨B1, hB1⟩ : ∃ B1, B1 = Value.int .i64 (eth ss k).blk := ⟨_, rfl⟩
          have HBV : Hid (setV (eth ss k) = .agg #[B0, B1]) := by rw [hB0, hB1]; rfl
          have hik : (i : Int) < (ss.length : Int) := by omega
          have hi0 : (0 : Int) ≤ (i : Int) := by omega
          go_upto_region 8 with fail
          generalize hw5 : World.alloc wr _ = w5
          obtain ⟨he5, o5, hs5⟩ := alloc1 hw5
          obtain ⟨bb, hbb⟩ : ∃ bb, bb = wr.heap.size := ⟨_, rfl⟩
          rw [← hbb] at o5 ⊢
          obtain ⟨c0, c1⟩ := obj_cells2 o5
          rw [← hB0] at c0; rw [← hB1] at c1
          have hr5 := hrq.trans he5
          have HRW5 : Hid (RowsAt w5 g (tabL (.slice (some ⟨g, 0, none⟩) ss.length ss.length) vs) ∧ TabS fs ss i k vs) := ⟨hrw.out.1.ext he5, hrw.out.2⟩
          have HAB5 := Lib.hid (he5.block hab.out)
          clear hw5 o5 d0 d1 Er hs5 hbb hrw
          obtain ⟨x, hx⟩ : ∃ x, x = vth vs i := ⟨_, rfl⟩
          have hxs : x.xs = crow fs ss i k := by
            have := HRW5.out.2.2 i hlt
            rw [if_neg (by omega), if_pos rfl] at this
            rw [hx]; exact this
          have HRI : Hid (OwnI w5 g (slV x) x.xs) := by rw [hx]; exact HRW5.out.1.tab_row i (by rw [HRW5.out.2.1]; exact hlt)
          have HOV : Hid (OwnV w5 g (.slice (some ⟨g, 0, none⟩) ss.length ss.length) vs) := HRW5.out.1.tab_own
          have hq0 := hi0
          have hq1 := hik
          have p0 := fun W (e : Ext w5 W) => b0 W (hr5.trans e)
          have p1 := fun W (e : Ext w5 W) => b1 W (hr5.trans e)
          have a0 := fun W (e : Ext w5 W) => z0' W (he5.trans e)
          have a1 := fun W (e : Ext w5 W) => z1' W (he5.trans e)
          obtain ⟨C, hC⟩ : ∃ C, C = costS fs (eth ss i).lv.xs (eth ss k).lv.xs := ⟨_, rfl⟩
          have HTI : Hid (∀ W, Ext w5 W → W.cell? ⟨g, i, none⟩ = some (.slice x.a x.xs.length x.c)) := fun W e => by
            rw [hx]; exact ownV_cell HRW5.out.2.1 (HOV.out.ext e) i hlt
          have HCL : Hid (∀ W, Ext w5 W → Calls Tryz.prog 75 #[.agg #[.slice fa fs.length fc, .slice ga fo.length gc], .agg #[A0, A1], .agg #[B0, B1]] W (Ret (.int .i64 C) W)) := fun W e => by
            have := HCALL.out W (HE.out.trans (hr5.trans e)) i k hlt hlt2
            rw [HA.out, HBV.out, ← hC] at this; exact this
          obtain ⟨S, hS⟩ : ∃ S : World → Value → Prop, S = fun W v => Ext w1 W ∧ W.heap[ab]? = some (.cells #[A0, A1] 49 (0, 0)) ∧ ∃ a' c', v = .slice a' (k + 1) c' ∧ RowsAt W g ((tabL (.slice (some ⟨g, 0, none⟩) ss.length ss.length) vs).set (i + 1) (rwI v (crow fs ss i (k + 1)))) := ⟨_, rfl⟩
          obtain ⟨R, hR⟩ : ∃ R : World → Prop, R = fun W => Ext w1 W ∧ W.heap[ab]? = some (.cells #[A0, A1] 49 (0, 0)) ∧ ∃ vs', RowsAt W g (tabL (.slice (some ⟨g, 0, none⟩) ss.length ss.length) vs') ∧ TabS fs ss i (k + 1) vs' := ⟨_, rfl⟩
          have HAPP : Hid (∀ W, Ext w5 W → ∀ gb, W.heap[gb]? = some (.cells #[.int .i64 C] 3 (0, 0)) → ∃ v' w', (Builtin.append_ #[31, 31] 31 #[.slice x.a x.xs.length x.c, .slice (some ⟨gb, 0, none⟩) 1 1]).run Tryz.prog W = .ok v' w' ∧ S w' v') := fun W e gb hgb => by
            obtain ⟨v', w', r1, r2, r3, r4⟩ := app_intsL W g 31 (slV x) x.xs [C] (some ⟨gb, 0, none⟩) 1 (HRI.out.ext e) (ints_one hgb) (by simp) (by rw [hxs, crow_len]; simp; omega) (by have := ((HOV.out.ext e).lt g rfl).2; omega)
            refine ⟨v', w', r1, ?_⟩
            rw [hS]
            obtain ⟨a', n', c', rfl⟩ := own_slice r2
            obtain ⟨-, hn', -⟩ := r2.ints
            rw [List.length_append, hxs, crow_len] at hn'
            rw [hxs, hC, ← crow_succ] at r2
            refine ⟨grown_ext (hr5.trans e) r3 (fun k hk => by have := (HRI.out.lt k hk).1; have := HG.out.2.1; omega), by
              rw [r3.block ab (lt_of_block (e.block HAB5.out)) (fun e2 => own_type_ne (HRI.out.ext e) (e.block HAB5.out) (by decide) (by first | exact e2 | exact e2.symm))]
              exact e.block HAB5.out, a', c', by rw [hn']; rfl, (HRW5.out.1.ext e).appended (tabL_at _ vs i (by rw [HRW5.out.2.1]; exact hlt)) (by rw [← hx]; exact r3) r2 (by rw [← hx]; exact r4)⟩
          have HSR : Hid (∀ W v, S W v → (∃ a n c', v = .slice a n c') ∧ (∃ u0, W.cell? ⟨g, i, none⟩ = some u0) ∧ W.frozen? ⟨g, i, none⟩ = false ∧ R (W.setCell ⟨g, i, none⟩ v)) := fun W v h => by
            rw [hS] at h
            obtain ⟨h1, hab1, a', c', rfl, h3⟩ := h
            have h0 : ((tabL (.slice (some ⟨g, 0, none⟩) ss.length ss.length) vs).set (i + 1) (rwI (.slice a' (k + 1) c') (crow fs ss i (k + 1))))[0]? = some (rwV (.slice (some ⟨g, 0, none⟩) ss.length ss.length) vs) := by
              unfold tabL; rw [List.set_cons_succ]; rfl
            have hov : OwnV W g (.slice (some ⟨g, 0, none⟩) ss.length ss.length) vs := h3.get h0
            refine ⟨⟨_, _, _, rfl⟩, ⟨_, ownV_cell HRW5.out.2.1 hov i hlt⟩, ownV_free HRW5.out.2.1 hov i, ?_⟩
            rw [hR]
            have hst := RowsAt.tab_store (s := ⟨a', crow fs ss i (k + 1), c'⟩) HRW5.out.2.1 hlt (by show RowsAt W g ((tabL _ vs).set (i + 1) (rwI (.slice a' (crow fs ss i (k + 1)).length c') (crow fs ss i (k + 1)))); rw [crow_len]; exact h3)
            have he1 : slV ⟨a', crow fs ss i (k + 1), c'⟩ = .slice a' (k + 1) c' := by show Value.slice a' (crow fs ss i (k + 1)).length c' = _; rw [crow_len]
            rw [he1] at hst
            refine ⟨h1.set (by have := HG.out.2.1; exact this) _, by
              rw [heap_set_ne _ (fun e2 => own_type_ne hov hab1 (by decide) (by rw [e2]; rfl))]
              exact hab1, _, hst, by rw [List.length_set]; exact HRW5.out.2.1, fun p hp => ?_⟩
            rw [vth_set _ _ _ _ (by rw [HRW5.out.2.1]; exact hp)]
            by_cases hpi : p = i
            · subst hpi; rw [if_pos rfl, if_neg (by omega), if_pos rfl]
            · rw [if_neg hpi, HRW5.out.2.2 p hp, if_neg hpi, if_neg hpi]
          have HRR := Lib.hid hR
          have HIL := Lib.hid hik
          clear hS hR HRW5 HRI HOV HA HBV hx hxs hB0 hB1 hC z0' z1'
          refine nt_law hq0 hq1 p0 p1 a0 a1 c0 c1 HTI HCL HAPP HSR _ (by rfl) rfl rfl rfl rfl rfl ?_
          intro vs w9 ls9 hl9 hJ9 e0 e1 e2 e3 e4 e5 e6 e7 e8 e9 e10 e11 e12
          simp only [Act.put, List.setIfInBounds_toArray, List.set_cons_zero, List.set_cons_succ]
          rw [e0, e1, e2, e3, e4, e5, e6, e7, e8, e9, e12]
          obtain ⟨-, -, -, j4⟩ := hJ9
          have hfin := j4 (hl9 13 (by omega))
          rw [HRR.out] at hfin
          obtain ⟨hx1, hx2, vs', hx3, hx4⟩ := hfin
          have HX2 := Lib.hid hx2; have HX3 := Lib.hid hx3; have HX4 := Lib.hid hx4
          clear hx2 hx3 hx4 j4 HRR HAPP HSR HCL HTI a0 a1 c0 c1 p0 p1
          go_wp2_with (fail)
          go_roundw
          case rel => exact ⟨k + 1, vs', by omega, by go_num, hx1, HX2.out, HX3.out, HX4.out⟩
          case measure => simp [intOf]; omega
        · obtain rfl : k = ss.length := by omega
          have HT : Hid (TabS fs ss (i + 1) 0 vs) := by
            refine ⟨hrw.out.2.1, fun p hp => ?_⟩
            rw [hrw.out.2.2 p hp]
            by_cases h1 : p < i
            · rw [if_pos h1, if_pos (by omega)]
            · rw [if_neg h1]
              by_cases h2 : p = i
              · rw [if_pos h2, if_pos (by omega)]
              · rw [if_neg h2, if_neg (by omega)]; split <;> rfl
          have hrr := hrq
          have HRX := Lib.hid hrw.out.1
          clear hrw
          go_wp2_with (fail)
          go_roundw
          case rel => exact ⟨i + 1, vs, by omega, by go_num, hrr, HRX.out, HT.out⟩
          case measure => simp [intOf]; omega
    · obtain rfl : i = ss.length := by omega
      go_wp2_with (fail)
      go_ret
      refine ⟨g, ss.length, vs0, rfl, HE.out.trans hr, hrw.out.1.down (by have := HG.out; omega), hrw.out.2.1, fun p hp => ?_⟩
      have := hrw.out.2.2 p hp
      rw [if_pos hp] at this; exact this
end Go.Proofs.YtplbofhgmflnlaaGreat
end
section
/-
  Plain: bits of small numbers, as the walk spells them.
-/
set_option linter.unusedVariables false
set_option linter.unusedSimpArgs false
namespace Go.Proofs.YtplbofhgmflnlaaGreat
open Go.RowKit
theorem shr_and : ∀ x : Nat, x < 512 → ∀ q : Nat, q < 9 → bits .and .i64 ((x : Int) / 2 ^ q) 1 = if x.testBit q then 1 else 0 := by decide +kernel
theorem andNot_bit : ∀ x : Nat, x < 512 → ∀ q : Nat, q < 9 → x.testBit q = true → bits .andNot .i64 (x : Int) (((2 ^ q : Nat) : Int)) = ((x - 2 ^ q : Nat) : Int) := by decide +kernel
theorem sub_bit : ∀ x : Nat, x < 512 → ∀ q : Nat, q < 9 → x.testBit q = true → (x - 2 ^ q).testBit q = false := by decide +kernel
end Go.Proofs.YtplbofhgmflnlaaGreat
end
section
/-
  Walks: Cheapest.
-/
set_option linter.unusedVariables false
set_option linter.unusedSimpArgs false
namespace Go.Proofs.YtplbofhgmflnlaaGreat
open Go.RowKit
/-! ### plain: the least cost of the rest -/
section
variable (T : Nat → Nat → Int) (n : Nat)
/-- The least cost to go on from a setting, of the next ones below k. -/
def bestTo (R : Nat → Nat → Int) (left frm : Nat) : Nat → Int
  | 0 => -1
  | k + 1 => if left.testBit k then
      (if bestTo R left frm k < 0 ∨ T frm k + R (left - 2 ^ k) k < bestTo R left frm k then T frm k + R (left - 2 ^ k) k else bestTo R left frm k)
    else bestTo R left frm k
/-- The least cost of the rest, by a set of those that are left and the one from which it goes on. -/
def rstN : Nat → Nat → Nat → Int
  | 0, _, _ => 0
  | f + 1, left, frm => if left.testBit frm ∨ left = 0 then 0 else bestTo T (rstN f) left frm n
def rstV (left frm : Nat) : Int := rstN T n (left + 1) left frm
end
theorem sub_lt' {x k : Nat} (h : x.testBit k = true) : x - 2 ^ k < x := by
  have h2 : 2 ^ k ≤ x := Nat.ge_two_pow_of_testBit h
  have : 0 < 2 ^ k := Nat.two_pow_pos k
  omega
theorem bestTo_congr (T : Nat → Nat → Int) {R R' : Nat → Nat → Int} {left frm : Nat} (h : ∀ l q, l < left → R l q = R' l q) : ∀ k, bestTo T R left frm k = bestTo T R' left frm k
  | 0 => rfl
  | k + 1 => by
    simp only [bestTo]
    rw [bestTo_congr T h k]
    by_cases e : left.testBit k = true
    · rw [if_pos e, if_pos e, h _ _ (sub_lt' e)]
    · rw [if_neg e, if_neg e]
theorem rstN_fuel (T : Nat → Nat → Int) (n : Nat) : ∀ (f f' left frm : Nat), left < f → left < f' → rstN T n f left frm = rstN T n f' left frm
  | 0, _, _, _, h, _ => by omega
  | _ + 1, 0, _, _, _, h => by omega
  | f + 1, f' + 1, left, frm, h, h' => by
    simp only [rstN]
    rw [bestTo_congr T (fun l q hl => rstN_fuel T n f f' l q (by omega) (by omega)) n]
theorem rstV_eq (T : Nat → Nat → Int) (n left frm : Nat) : rstV T n left frm = if left.testBit frm ∨ left = 0 then 0 else bestTo T (rstV T n) left frm n := by
  show (if left.testBit frm = true ∨ left = 0 then (0 : Int) else bestTo T (rstN T n left) left frm n) = _
  rw [bestTo_congr T (R := rstN T n left) (R' := rstV T n) (fun l q hl => rstN_fuel T n left (l + 1) l q hl (by omega)) n]
theorem bestTo_ge {T : Nat → Nat → Int} {n : Nat} {R : Nat → Nat → Int} {left frm : Nat} (hT : ∀ q, q < n → 0 ≤ T frm q) (hR : ∀ q, q < n → left.testBit q = true → 0 ≤ R (left - 2 ^ q) q) : ∀ k, k ≤ n → -1 ≤ bestTo T R left frm k ∧ ((∃ q, q < k ∧ left.testBit q = true) → 0 ≤ bestTo T R left frm k)
  | 0, _ => ⟨by simp [bestTo], fun ⟨q, hq, _⟩ => by omega⟩
  | k + 1, hk => by
    have ih := bestTo_ge hT hR k (by omega)
    have h1 := hT k (by omega)
    simp only [bestTo]
    by_cases e : left.testBit k = true
    · rw [if_pos e]
      have h2 := hR k (by omega) e
      split
      · constructor
        · omega
        · intro _; omega
      · constructor
        · omega
        · intro _; omega
    · rw [if_neg e]
      refine ⟨ih.1, fun ⟨q, hq, hb⟩ => ih.2 ⟨q, ?_, hb⟩⟩
      rcases Nat.lt_succ_iff_lt_or_eq.1 hq with h | h
      · exact h
      · rw [h] at hb; exact absurd hb e
theorem bestTo_le {T : Nat → Nat → Int} {n : Nat} {R : Nat → Nat → Int} {left frm : Nat} {M C : Int} (hT : ∀ q, q < n → T frm q ≤ C) (hR : ∀ q, q < n → left.testBit q = true → R (left - 2 ^ q) q ≤ M) (h0 : -1 ≤ C + M) : ∀ k, k ≤ n → bestTo T R left frm k ≤ C + M
  | 0, _ => by simpa [bestTo] using h0
  | k + 1, hk => by
    have ih := bestTo_le hT hR h0 k (by omega)
    have h1 := hT k (by omega)
    simp only [bestTo]
    by_cases e : left.testBit k = true
    · rw [if_pos e]
      have h2 := hR k (by omega) e
      split <;> omega
    · rw [if_neg e]; exact ih
theorem bit_of {n x : Nat} (h : x < 2 ^ n) (h0 : x ≠ 0) : ∃ q, q < n ∧ x.testBit q = true := by
  obtain ⟨q, hq⟩ := Nat.exists_testBit_of_ne_zero h0
  refine ⟨q, ?_, hq⟩
  rcases Nat.lt_or_ge q n with h1 | h1
  · exact h1
  · rw [Nat.testBit_lt_two_pow (Nat.lt_of_lt_of_le h (Nat.pow_le_pow_right (by omega) h1))] at hq; cases hq
theorem rstV_bd {T : Nat → Nat → Int} {n : Nat} {C : Int} (hC : 0 ≤ C) (hT : ∀ p q, p < n → q < n → 0 ≤ T p q ∧ T p q ≤ C) : ∀ (m left frm : Nat), left < m → left < 2 ^ n → frm < n → 0 ≤ rstV T n left frm ∧ rstV T n left frm ≤ C * left
  | 0, _, _, h, _, _ => by omega
  | m + 1, left, frm, hm, hl, hf => by
    rw [rstV_eq]
    by_cases h : left.testBit frm = true ∨ left = 0
    · rw [if_pos h]; exact ⟨Int.le_refl _, Int.mul_nonneg hC (by omega)⟩
    · rw [if_neg h]
      have h0 : left ≠ 0 := fun e => h (.inr e)
      have hR : ∀ q, q < n → left.testBit q = true → 0 ≤ rstV T n (left - 2 ^ q) q ∧ rstV T n (left - 2 ^ q) q ≤ C * ((left - 1 : Nat) : Int) := fun q hq hb => by
        have h1 := sub_lt' hb
        have h2 := rstV_bd hC hT m (left - 2 ^ q) q (by omega) (by omega) hq
        refine ⟨h2.1, Int.le_trans h2.2 (Int.mul_le_mul_of_nonneg_left (by omega) hC)⟩
      refine ⟨(bestTo_ge (fun q hq => (hT frm q hf hq).1) (fun q hq hb => (hR q hq hb).1) n (Nat.le_refl _)).2 (bit_of hl h0), ?_⟩
      have hm0 : 0 ≤ C * ((left - 1 : Nat) : Int) := Int.mul_nonneg hC (by omega)
      have := bestTo_le (M := C * ((left - 1 : Nat) : Int)) (C := C) (fun q hq => (hT frm q hf hq).2) (fun q hq hb => (hR q hq hb).2) (by omega) n (Nat.le_refl _)
      have e : C * (left : Int) = C + C * ((left - 1 : Nat) : Int) := by
        have : (left : Int) = 1 + ((left - 1 : Nat) : Int) := by omega
        rw [this, Int.mul_add, Int.mul_one]
      rw [e]; exact this
def rrow (V : Nat → Nat → Int) (n x k : Nat) : List Int := fl n fun q => if q < k then V x q else 0
theorem rrow_len (V : Nat → Nat → Int) (n x k : Nat) : (rrow V n x k).length = n := fl_len _ _
theorem rrow_zero (V : Nat → Nat → Int) (n x : Nat) : rrow V n x 0 = fl n fun _ => 0 := fl_congr _ _ _ fun i _ => if_neg (by omega)
theorem rrow_succ (V : Nat → Nat → Int) (n x k : Nat) (hk : k < n) : (rrow V n x k).set k (V x k) = rrow V n x (k + 1) := by
  refine ext_nth _ _ (by simp [rrow_len]) fun i hi => ?_
  rw [List.length_set, rrow_len] at hi
  rw [nth_set _ _ _ _ (by rw [rrow_len]; exact hi)]
  unfold rrow
  rw [nth_fl _ _ _ hi, nth_fl _ _ _ hi]
  by_cases e : i = k
  · subst e; rw [if_pos rfl, if_pos (by omega)]
  · rw [if_neg e]
    by_cases e2 : i < k
    · rw [if_pos e2, if_pos (by omega)]
    · rw [if_neg e2, if_neg (by omega)]
theorem rrow_nth (V : Nat → Nat → Int) (n x k q : Nat) (hq : q < n) : nth (rrow V n x k) q = if q < k then V x q else 0 := nth_fl _ _ _ hq
theorem rrow_skip (V : Nat → Nat → Int) (n x k : Nat) (h : V x k = 0) : rrow V n x (k + 1) = rrow V n x k := by
  refine fl_congr _ _ _ fun i hi => ?_
  by_cases e : i = k
  · subst e; rw [if_pos (by omega), if_neg (by omega), h]
  · by_cases e2 : i < k
    · rw [if_pos e2, if_pos (by omega)]
    · rw [if_neg e2, if_neg (by omega)]
/-- The rows below x are whole, the row x (if it is made) has its first k numbers. -/
def RestS (V : Nat → Nat → Int) (n N x k : Nat) (made : Bool) (vs : List (Sl Int)) : Prop :=
  vs.length = N ∧ ∀ p, p < N → (vth vs p).xs = if p < x then rrow V n p n else if p = x ∧ made = true then rrow V n x k else []
theorem RestS.skip {V : Nat → Nat → Int} {n N x k : Nat} {vs : List (Sl Int)} (h : RestS V n N x k true vs) (h0 : V x k = 0) : RestS V n N x (k + 1) true vs :=
  ⟨h.1, fun p hp => by rw [h.2 p hp, rrow_skip V n x k h0]⟩
theorem RestS.next {V : Nat → Nat → Int} {n N x : Nat} {vs : List (Sl Int)} (h : RestS V n N x n true vs) : RestS V n N (x + 1) 0 false vs := by
  refine ⟨h.1, fun p hp => ?_⟩
  rw [h.2 p hp]
  by_cases e : p < x
  · rw [if_pos e, if_pos (by omega)]
  · rw [if_neg e]
    by_cases e2 : p = x
    · subst e2; rw [if_pos ⟨rfl, rfl⟩, if_pos (by omega)]
    · rw [if_neg (fun h => e2 h.1), if_neg (by omega), if_neg (by simp)]
theorem RestS.put {V : Nat → Nat → Int} {n N x k : Nat} {vs : List (Sl Int)} (h : RestS V n N x k true vs) (hk : k < n) (hx : x < N) (s : Sl Int) (hs : s.xs = (vth vs x).xs.set k (V x k)) : RestS V n N x (k + 1) true (vs.set x s) := by
  refine ⟨by rw [List.length_set]; exact h.1, fun p hp => ?_⟩
  rw [vth_set _ _ _ _ (by rw [h.1]; exact hp)]
  by_cases e : p = x
  · subst e
    rw [if_pos rfl, if_neg (by omega), if_pos ⟨rfl, rfl⟩, hs, h.2 p hp, if_neg (by omega), if_pos ⟨rfl, rfl⟩, rrow_succ V n p k hk]
  · rw [if_neg e, h.2 p hp]
    by_cases e2 : p < x
    · rw [if_pos e2, if_pos e2]
    · rw [if_neg e2, if_neg e2, if_neg (fun h => e h.1), if_neg (fun h => e h.1)]
/-- A number of one row under the table is written. -/
theorem RowsAt.tab_write {w : World} {B r i k c : Nat} {v : Value} {vs : List (Sl Int)} {xs : List Int} (h : RowsAt w B (tabL v vs)) (hi : i < vs.length) (hx : vth vs i = ⟨some ⟨r, 0, none⟩, xs, c⟩) (z : Int) :
    RowsAt (w.setCell ⟨r, k, none⟩ (.int .i64 z)) B (tabL v (vs.set i ⟨some ⟨r, 0, none⟩, xs.set k z, c⟩)) := by
  have ho := h.tab_row i hi
  rw [hx] at ho
  have h1 := h.written (r' := rwS ⟨some ⟨r, 0, none⟩, xs.set k z, c⟩) (tabL_at v vs i hi) ((ExtX.refl r w).set k (.int .i64 z)) (by rw [hx]; rfl) (by rw [hx]; show Value.slice _ _ _ = Value.slice _ _ _; rw [List.length_set]) (by
    show OwnI _ B (.slice (some ⟨r, 0, none⟩) (xs.set k z).length c) (xs.set k z)
    rw [List.length_set]
    exact ownI_set2 rfl ho z)
  have e1 : (tabL v vs).set (i + 1) (rwS ⟨some ⟨r, 0, none⟩, xs.set k z, c⟩) = tabL v (vs.set i ⟨some ⟨r, 0, none⟩, xs.set k z, c⟩) := by
    unfold tabL
    rw [List.set_cons_succ, ← List.map_set]
    congr 1
    show (⟨31, 1, v, vs.length, rowF vecC vs⟩ : Rw) = ⟨31, 1, v, (vs.set i _).length, rowF vecC (vs.set i _)⟩
    rw [List.length_set, rowV_map, rowV_map, List.map_set]
    congr 1
    apply List.ext_getElem
    · simp
    · intro p hp1 hp2
      rw [List.getElem_set]
      split
      · rename_i e
        subst e
        rw [List.getElem_map, ← vth_eq _ _ hi, hx]
        show Value.slice _ _ _ = Value.slice _ _ _
        rw [List.length_set]
      · rfl
  rw [e1] at h1; exact h1
/-- Numbers as integers. -/
def natI (l : List Nat) : List Int := l.map fun q : Nat => (q : Int)
theorem natI_nil : natI [] = [] := rfl
theorem natI_cons (q : Nat) (l : List Nat) : natI (q :: l) = (q : Int) :: natI l := rfl
theorem natI_len (l : List Nat) : (natI l).length = l.length := by simp [natI]
/-- The first of the cheapest ones below i, and its cost. -/
def firstTo (c : Nat → Int) : Nat → Nat × Int
  | 0 => (0, c 0)
  | i + 1 => if c i < (firstTo c i).2 then (i, c i) else firstTo c i
theorem firstTo_bd {c : Nat → Int} {n : Nat} {M : Int} (hn : 1 ≤ n) (hc : ∀ i, i < n → 0 ≤ c i ∧ c i ≤ M) : ∀ i, i ≤ n → (firstTo c i).1 < n ∧ 0 ≤ (firstTo c i).2 ∧ (firstTo c i).2 ≤ M ∧ (firstTo c i).2 = c (firstTo c i).1
  | 0, _ => ⟨by simp only [firstTo]; omega, (hc 0 (by omega)).1, (hc 0 (by omega)).2, rfl⟩
  | i + 1, hi => by
    have ih := firstTo_bd hn hc i (by omega)
    have := hc i (by omega)
    simp only [firstTo]
    split
    · exact ⟨by simp only; omega, this.1, this.2, rfl⟩
    · exact ih
/-- Whether one goes on to q for the least cost. -/
def fitB (T V : Nat → Nat → Int) (left frm q : Nat) : Bool := left.testBit q && decide (T frm q + V (left - 2 ^ q) q = V left frm)
def wayF (T V : Nat → Nat → Int) (n : Nat) : Nat → Nat → Nat → List Nat
  | 0, _, _ => []
  | f + 1, left, frm => if left = 0 then [] else match fIdx (fitB T V left frm) n with
    | some q => q :: wayF T V n f (left - 2 ^ q) q
    | none => []
theorem wayF_zero (T V : Nat → Nat → Int) (n : Nat) : ∀ f frm, wayF T V n f 0 frm = []
  | 0, _ => rfl
  | f + 1, _ => by simp [wayF]
theorem wayF_step {T V : Nat → Nat → Int} {n f left frm q : Nat} (h0 : left ≠ 0) (hq : q < n) (h : fitB T V left frm q = true) (hf : ∀ j, j < q → fitB T V left frm j = false) : wayF T V n (f + 1) left frm = q :: wayF T V n f (left - 2 ^ q) q := by
  simp only [wayF]; rw [if_neg h0, fIdx_some hq h hf]
theorem bestTo_hit {T R : Nat → Nat → Int} {left frm : Nat} : ∀ k, 0 ≤ bestTo T R left frm k → ∃ q, q < k ∧ left.testBit q = true ∧ T frm q + R (left - 2 ^ q) q = bestTo T R left frm k
  | 0, h => by simp [bestTo] at h
  | k + 1, h => by
    simp only [bestTo] at h ⊢
    by_cases e : left.testBit k = true
    · rw [if_pos e] at h ⊢
      split
      · exact ⟨k, by omega, e, rfl⟩
      · rename_i h2
        rw [if_neg h2] at h
        obtain ⟨q, h3, h4, h5⟩ := bestTo_hit k h
        exact ⟨q, by omega, h4, h5⟩
    · rw [if_neg e] at h ⊢
      obtain ⟨q, h3, h4, h5⟩ := bestTo_hit k h
      exact ⟨q, by omega, h4, h5⟩
theorem fit_some {T : Nat → Nat → Int} {n left frm : Nat} {C : Int} (hC : 0 ≤ C) (hT : ∀ p q, p < n → q < n → 0 ≤ T p q ∧ T p q ≤ C) (hl : left < 2 ^ n) (h0 : left ≠ 0) (hf : frm < n) (hb : left.testBit frm = false) :
    ∃ q, q < n ∧ fitB T (rstV T n) left frm q = true := by
  have e := rstV_eq T n left frm
  rw [if_neg (by simp [hb, h0])] at e
  have hbd := rstV_bd hC hT (left + 1) left frm (by omega) hl hf
  rw [e] at hbd
  obtain ⟨q, h1, h2, h3⟩ := bestTo_hit n hbd.1
  refine ⟨q, h1, ?_⟩
  unfold fitB
  rw [h2, e, h3]; simp
/-- What Cheapest finds: the order and its cost. -/
def cheapF (T : Nat → Nat → Int) (n : Nat) : Nat × Int := firstTo (fun i => rstV T n (2 ^ n - 1 - 2 ^ i) i) n
def cheapW (T : Nat → Nat → Int) (n : Nat) : List Int := natI ((cheapF T n).1 :: wayF T (rstV T n) n (2 ^ n - 1 - 2 ^ (cheapF T n).1) (2 ^ n - 1 - 2 ^ (cheapF T n).1) (cheapF T n).1)
def costM (fs : List Fac) (ss : List Se) (p q : Nat) : Int := costS fs (eth ss p).lv.xs (eth ss q).lv.xs
def RetCheap (T : Nat → Nat → Int) (n : Nat) (w : World) (e : Ending) (w' : World) : Prop :=
  ∃ a c, e = .returned (.tuple #[.slice a (cheapW T n).length c, .int .i64 (cheapF T n).2, .int .i64 0]) ∧ Ext w w' ∧ OwnI w' w.heap.size (.slice a (cheapW T n).length c) (cheapW T n)
theorem own_addr {w : World} {B n c : Nat} {a : Option Addr} {xs : List Int} (h : OwnI w B (.slice a n c) xs) (hx : xs ≠ []) : ∃ r, a = some ⟨r, 0, none⟩ := by
  rcases h.2 with ⟨_, h2⟩ | ⟨g, cap, cur, hv, -⟩
  · exact absurd (List.length_eq_zero_iff.1 h2) hx
  · simp only [Value.slice.injEq] at hv
    exact ⟨g, hv.1⟩
set_option maxRecDepth 100000 in
set_option maxHeartbeats 4000000 in
theorem cheapest_ok (P : Pw) (a : Option Addr) (ss : List Se) (sc : Nat) (w : World) (hp : PlanAt w P) (hb : PlanB P) (hs : SetsAt w a ss) (hn0 : 1 ≤ ss.length) (hn9 : ss.length ≤ 9) (hl : ∀ i, i < ss.length → (eth ss i).lv.xs.length ≤ 9223372036854775807) (hv : checkE P ss = 0) :
    Calls Tryz.prog 18 #[planV P, .slice a ss.length sc] w (RetCheap (costM P.fs ss) ss.length w) := by
  obtain ⟨h1, h2, h3⟩ := checkE_ok hv
  have hck := fun W (e : Ext w W) => check_any P a ss sc W (hp.ext e) hb (hs.ext e) (by omega) hl
  have htb := fun W (e : Ext w W) => newTable_any P a ss sc W (hp.ext e) (planOk h1).1 (fun i hi => (anyFac_off (planOk h1).2.2.1 i hi).2.2) (hs.ext e) h2 (fun i hi => levB_len (setOk (h3 i hi)).1)
  have hcb := fun p q => costTo_bd (eth ss p).lv.xs (eth ss q).lv.xs (fun i hi => (anyFac_off (planOk h1).2.2.1 i hi).2.2) P.fs.length (Nat.le_refl _)
  have hf8 := (planOk h1).1
  rw [hv] at hck
  obtain ⟨fs, fa, fc, fo, ga, gc⟩ := P
  simp only at htb hcb hf8
  have HCK := Lib.hid hck; have HTB := Lib.hid htb
  clear hck htb hp hb hs hl hv h1 h2 h3
  obtain ⟨n, hn⟩ : ∃ n, n = ss.length := ⟨_, rfl⟩
  have HN := Lib.hid hn
  rw [← hn] at hn0 hn9 HCK HTB ⊢
  obtain ⟨N, hN⟩ : ∃ N, N = 2 ^ n := ⟨_, rfl⟩
  have hN512 : N ≤ 512 := by rw [hN]; exact Nat.pow_le_pow_right (by omega) hn9
  have hN2 : 2 ≤ N := by
    rw [hN]
    have := Nat.pow_le_pow_right (n := 2) (by omega) hn0
    simpa using this
  have HNN := Lib.hid hN
  clear hn hN
  go_enter Tryz.func18, Tryz.ntmps18
  go_upto_region 10 with fail
  generalize hw1 : World.alloc _ _ = w1
  obtain ⟨he, o1, hs1⟩ := alloc1 hw1
  obtain ⟨b0, b1⟩ := obj_cells2 o1
  clear hw1 o1
  have HE := Lib.hid he
  clear he
  (with_reducible refine (HCK.out _ HE.out).mono ?_); rintro e w2 ⟨rfl, he2⟩
  have hn9i : ¬ (9 < (n : Int)) := by omega
  have hn0i : ¬ ((n : Int) = 0) := by omega
  go_upto_region 10 with fail
  (with_reducible refine (HTB.out _ (HE.out.trans he2)).mono ?_); rintro e w3 ⟨gt, tc, tvs, rfl, he3, hrt, htl, htx⟩
  rw [← HN.out] at hrt htl htx ⊢
  have HRT := Lib.hid hrt; have HTX := Lib.hid htx
  have hE3 := Lib.hid (HE.out.trans (he2.trans he3))
  obtain ⟨T, hT⟩ : ∃ T : Nat → Nat → Int, T = costM fs ss := ⟨_, rfl⟩
  obtain ⟨V, hV⟩ : ∃ V, V = rstV T n := ⟨_, rfl⟩
  have HT := Lib.hid hT; have HV := Lib.hid hV
  have htbd : ∀ p q, 0 ≤ T p q ∧ T p q ≤ 8000 := fun p q => by
    rw [hT]
    have := hcb p q
    show 0 ≤ costTo fs _ _ fs.length ∧ costTo fs _ _ fs.length ≤ 8000
    omega
  have hvbd : ∀ left f, left < N → f < n → 0 ≤ V left f ∧ V left f ≤ 4096000 := fun left f h1 h2 => by
    rw [hV]
    have := rstV_bd (T := T) (n := n) (C := 8000) (by omega) (fun p q _ _ => htbd p q) (left + 1) left f (by omega) (by rw [← HNN.out]; exact h1) h2
    omega
  have HTBD := Lib.hid htbd; have HVBD := Lib.hid hvbd
  clear hT hV hcb hf8 htbd hvbd
  have hpw : (2 : Int) ^ n = (N : Int) := by rw [HNN.out]; push_cast; rfl
  have hmk := run_madeV 42 Tryz.underlying42 N (by omega)
  clear hrt htx he2 he3 HCK HTB b0 b1
  go_upto_region 12 with fail
  generalize hw4 : madeV w3 N = w4
  obtain ⟨he4, hrows, hsz⟩ := madeV_facts (by omega) hw4
  obtain ⟨g, hg⟩ : ∃ g, g = w3.heap.size := ⟨_, rfl⟩
  rw [← hg] at hrows hsz ⊢
  have HE4 := Lib.hid he4; have HR4 := Lib.hid hrows
  have HG : Hid (g = w3.heap.size ∧ w4.heap.size = g + 1) := ⟨hg, hsz⟩
  clear hw4 he4 hrows hsz hg hmk
  go_loopw [47] (fun i wr => ∃ (x : Nat) (vs : List (Sl Int)), x ≤ N ∧ i = .int .i64 x ∧ Ext w3 wr ∧ Hid (RowsAt wr g (tabL (.slice (some ⟨g, 0, none⟩) N N) vs) ∧ RestS V n N x 0 false vs)) (fun i _ => N - (intOf i).toNat)
  case atStart =>
    refine ⟨0, _, Nat.zero_le _, rfl, HE4.out, HR4.out, by simp, fun p hp => ?_⟩
    rw [vth_rep, if_neg (by omega), if_neg (by simp)]; rfl
  case round =>
    obtain ⟨x, vs0, hx, rfl, hr, hrw⟩ := hrel
    obtain ⟨wo, rfl⟩ : ∃ wo : World, wo = wr := ⟨_, rfl⟩
    by_cases hlt : x < N
    · have hmk := run_madeI n (by omega)
      have hvl : vs0.length = N := hrw.out.2.1
      have hx0 : (0 : Int) ≤ (x : Int) := by omega
      have hxN : (x : Int) < (N : Int) := by omega
      obtain ⟨gn, hgn⟩ : ∃ gn, gn = wo.heap.size := ⟨_, rfl⟩
      generalize hwm : madeI wo n = wm at *
      have hmk1 := hmk wo
      rw [hwm, ← hgn] at hmk1
      obtain ⟨hem, hom, hsm⟩ := madeI_facts (n := n) (by omega) hwm
      rw [← hgn] at hom
      have hro : RowsAt wm g ((tabL (.slice (some ⟨g, 0, none⟩) N N) vs0).set (x + 1) (rwS ⟨some ⟨gn, 0, none⟩, rrow V n x 0, n⟩)) := by
        refine hrw.out.1.put (tabL_at _ vs0 x (by omega)) ?_ (fun k hk _ => Below.block hem k hk) (fun k hk => ?_)
        · show OwnI wm g (.slice (some ⟨gn, 0, none⟩) (rrow V n x 0).length n) (rrow V n x 0)
          rw [rrow_len, rrow_zero]
          exact own_down hom (by have := (hrw.out.1.tab_own.lt g rfl).2; omega)
        · simp only [Value.ownBlock, Option.some.injEq] at hk
          right; omega
      have hov : OwnV wm g (.slice (some ⟨g, 0, none⟩) N N) vs0 := hrw.out.1.tab_own.ext hem
      have hcell := ownV_cell hvl hov x hlt
      have hfree := ownV_free hvl hov x
      have hst := hro.tab_store hvl hlt
      rw [show slV ⟨some ⟨gn, 0, none⟩, rrow V n x 0, n⟩ = .slice (some ⟨gn, 0, none⟩) n n by show Value.slice _ (rrow V n x 0).length n = _; rw [rrow_len]] at hst
      have HST : Hid (RowsAt (wm.setCell ⟨g, x, none⟩ (.slice (some ⟨gn, 0, none⟩) n n)) g (tabL (.slice (some ⟨g, 0, none⟩) N N) (vs0.set x ⟨some ⟨gn, 0, none⟩, rrow V n x 0, n⟩)) ∧ RestS V n N x 0 true (vs0.set x ⟨some ⟨gn, 0, none⟩, rrow V n x 0, n⟩)) := by
        refine ⟨hst, by rw [List.length_set]; exact hvl, fun p hp => ?_⟩
        rw [vth_set _ _ _ _ (by omega)]
        by_cases e : p = x
        · subst e; rw [if_pos rfl, if_neg (by omega), if_pos ⟨rfl, rfl⟩]
        · rw [if_neg e, hrw.out.2.2 p hp]
          by_cases e2 : p < x
          · rw [if_pos e2, if_pos e2]
          · rw [if_neg e2, if_neg e2, if_neg (by simp), if_neg (fun h => e h.1)]
      have HEX : Hid (Ext w3 (wm.setCell ⟨g, x, none⟩ (.slice (some ⟨gn, 0, none⟩) n n))) := (hr.trans hem).set (by have := HG.out.1; simp; omega) _
      clear hro hov hst hmk hom hsm hwm hrw hem hr
      generalize hvs1 : vs0.set x _ = vs1 at HST
      clear hvs1 hgn
      go_upto_region 15 with fail
      generalize World.setCell wm _ _ = w5 at *
      clear hcell hfree hmk1
      go_upto_region 16 with fail
      go_loopw [56] (fun i wr => ∃ (k : Nat) (vs : List (Sl Int)), k ≤ n ∧ i = .int .i64 k ∧ Ext w3 wr ∧ Hid (RowsAt wr g (tabL (.slice (some ⟨g, 0, none⟩) N N) vs) ∧ RestS V n N x k true vs)) (fun i _ => n - (intOf i).toNat)
      case atStart => exact ⟨0, _, Nat.zero_le _, rfl, HEX.out, HST.out⟩
      case round =>
        clear HEX HST
        obtain ⟨k, vs, hk, rfl, hr, hrw⟩ := hrel
        obtain ⟨wo, rfl⟩ : ∃ wo : World, wo = wr := ⟨_, rfl⟩
        by_cases hlt2 : k < n
        · have hx9 : x < 512 := by omega
          have HVZ : Hid ((x.testBit k = true ∨ x = 0) → V x k = 0) := fun h => by
            have := HV.out; subst this
            rw [rstV_eq, if_pos h]
          have HVN : Hid (¬ (x.testBit k = true ∨ x = 0) → V x k = bestTo T V x k n) := fun h => by
            have := HV.out; subst this
            rw [rstV_eq, if_neg h]
          have hsa := shr_and x hx9 k (by omega)
          cases TB : x.testBit k
          · rw [TB] at hsa HVN HVZ
            simp only [Bool.false_eq_true, if_false] at hsa
            by_cases hx00 : x = 0
            · have HSK := Lib.hid (hrw.out.2.skip (HVZ.out (.inr hx00)))
              have hxx : ((x : Int) == 0) = true := by rw [beq_iff_eq]; omega
              have hrw1 := Lib.hid hrw.out.1
              clear hrw HVN HVZ hx00
              go_wp2_with (fail)
              go_roundw
              case rel => exact ⟨k + 1, vs, by omega, by go_num, hr, hrw1.out, HSK.out⟩
              case measure => simp [intOf]; omega
            · have hxx : ((x : Int) == 0) = false := by rw [beq_eq_false_iff_ne]; omega
              have HVE := Lib.hid (HVN.out (by simp [hx00]))
              clear HVN HVZ hx00
              go_upto_region 21 with fail
              go_loopw [13, 69] (fun b i wr => ∃ q : Nat, q ≤ n ∧ i = .int .i64 q ∧ b = .int .i64 (bestTo T V x k q) ∧ Ext wo wr) (fun _ i _ => n - (intOf i).toNat)
              case atStart => exact ⟨0, Nat.zero_le _, rfl, rfl, Ext.refl _⟩
              case round =>
                obtain ⟨q, hq, rfl, rfl, hrq⟩ := hrel
                obtain ⟨wi, rfl⟩ : ∃ wi : World, wi = wr := ⟨_, rfl⟩
                by_cases hlt3 : q < n
                · have hsq := shr_and x hx9 q (by omega)
                  obtain ⟨z, hz⟩ : ∃ z, z = bestTo T V x k q := ⟨_, rfl⟩
                  have hzb : -1 ≤ z ∧ z ≤ 4104000 := by
                    rw [hz]
                    refine ⟨(bestTo_ge (n := n) (fun q _ => (HTBD.out k q).1) (fun q hq hb => (HVBD.out _ q (by have := sub_lt' hb; omega) hq).1) q (by omega)).1, ?_⟩
                    have := bestTo_le (n := n) (C := 8000) (M := 4096000) (R := V) (left := x) (frm := k) (fun q _ => (HTBD.out k q).2) (fun q hq hb => (HVBD.out _ q (by have := sub_lt' hb; omega) hq).2) (by omega) q (by omega)
                    omega
                  have HZ := Lib.hid hz
                  rw [← hz]
                  clear hz
                  cases TQ : x.testBit q
                  · rw [TQ] at hsq
                    simp only [Bool.false_eq_true, if_false] at hsq
                    have HNX : Hid (bestTo T V x k (q + 1) = z) := by rw [Hid, HZ.out]; simp [bestTo, TQ]
                    go_wp2_with (fail)
                    go_roundw
                    case rel => exact ⟨q + 1, by omega, by go_num, by rw [HNX.out], hrq⟩
                    case measure => simp [intOf]; omega
                  · rw [TQ] at hsq
                    simp only [if_true] at hsq
                    obtain ⟨Q, hQ⟩ : ∃ Q, Q = 2 ^ q := ⟨_, rfl⟩
                    have hQx : Q ≤ x := by rw [hQ]; exact Nat.ge_two_pow_of_testBit TQ
                    have hQ1 : 1 ≤ Q := by rw [hQ]; exact Nat.two_pow_pos q
                    have hpq : (2 : Int) ^ q = (Q : Int) := by rw [hQ]; push_cast; rfl
                    rw [hpq] at hsq
                    have han := andNot_bit x hx9 q (by omega) TQ
                    rw [← hQ] at han
                    obtain ⟨p, hp⟩ : ∃ p, p = x - Q := ⟨_, rfl⟩
                    rw [← hp] at han
                    have hpN : p < N := by omega
                    have hpx : p < x := by omega
                    have HP2 : Hid (p = x - 2 ^ q) := by rw [Hid, hp, hQ]
                    clear hp hQ
                    -- the tables
                    have hE3i := hr.trans hrq
                    have t1 := fun W (e : Ext wi W) => ownV_cell htl ((HRT.out.tab_own).ext (hE3i.trans e)) k (by omega)
                    have t2 := HRT.out.tab_row k (by omega)
                    have hxl : (vth tvs k).xs.length = n := by rw [HTX.out k hlt2, crow_len]
                    obtain ⟨tb, hta⟩ := own_addr t2 (fun e => by rw [e] at hxl; simp at hxl; omega)
                    have t3 : ∀ W, Ext wi W → W.cell? ⟨tb, q, none⟩ = some (.int .i64 (T k q)) := fun W e => by
                      have h1 : OwnI w3 w2.heap.size (.slice (some ⟨tb, 0, none⟩) n (vth tvs k).c) (vth tvs k).xs := by rw [← hta, ← hxl]; exact t2
                      rw [ownI_cell hxl (h1.ext (hE3i.trans e)) q hlt3, HTX.out k hlt2, HT.out, HN.out]
                      congr 2
                      unfold crow
                      rw [nth_eq _ _ (by simp; rw [← HN.out]; exact hlt3)]
                      simp [costM]
                    have r1 := fun W (e : Ext wi W) => ownV_cell hrw.out.2.1 (hrw.out.1.tab_own.ext (hrq.trans e)) p hpN
                    have r2 := hrw.out.1.tab_row p (by rw [hrw.out.2.1]; exact hpN)
                    have hrx : (vth vs p).xs = rrow V n p n := by rw [hrw.out.2.2 p hpN, if_pos hpx]
                    have hrl : (vth vs p).xs.length = n := by rw [hrx, rrow_len]
                    obtain ⟨rb, hra⟩ := own_addr r2 (fun e => by rw [e] at hrl; simp at hrl; omega)
                    have r3 : ∀ W, Ext wi W → W.cell? ⟨rb, q, none⟩ = some (.int .i64 (V p q)) := fun W e => by
                      have h1 : OwnI wo g (.slice (some ⟨rb, 0, none⟩) n (vth vs p).c) (vth vs p).xs := by rw [← hra, ← hrl]; exact r2
                      rw [ownI_cell hrl (h1.ext (hrq.trans e)) q hlt3, hrx, rrow_nth _ _ _ _ _ hlt3, if_pos hlt3]
                    simp only [slV] at t1 r1
                    rw [hta, hxl] at t1
                    rw [hra, hrl] at r1
                    have hq0 : (0 : Int) ≤ (q : Int) := by omega
                    have hqn : (q : Int) < (n : Int) := by omega
                    have hk0 : (0 : Int) ≤ (k : Int) := by omega
                    have hkn : (k : Int) < (n : Int) := by omega
                    have hp0 : (0 : Int) ≤ (p : Int) := by omega
                    have hpNi : (p : Int) < (N : Int) := by omega
                    obtain ⟨tv, htv⟩ : ∃ tv, tv = T k q := ⟨_, rfl⟩
                    obtain ⟨rv, hrv⟩ : ∃ rv, rv = V p q := ⟨_, rfl⟩
                    have htb2 := HTBD.out k q
                    have hrb2 := HVBD.out p q hpN hlt3
                    rw [← htv] at t3 htb2; rw [← hrv] at r3 hrb2
                    have HNX : Hid (bestTo T V x k (q + 1) = if z < 0 ∨ tv + rv < z then tv + rv else z) := by
                      rw [Hid, HZ.out, htv, hrv, HP2.out]; simp [bestTo, TQ]
                    clear htv hrv t2 r2 hrx hta hra hxl hrl
                    have hr0 := Ext.refl wi
                    go_upto_region 24 with fail
                    refine wp_region_ext (by kernel_rfl) (by kernel_rfl) hr0 ?_
                    repeat (first | go_big_quiet_step (((fail))) | quiet_step (((fail))))
                    refine wpQuiet_nil ?_
                    rintro _ ⟨nq, rfl⟩
                    have hqq := nq.ok
                    have hrqq := hrq.trans hqq
                    clear t1 t3 r1 r3 hr0
                    cases T1 : decide (z < 0)
                    · cases T2 : decide (tv + rv < z)
                      · have HN2 := Lib.hid (show bestTo T V x k (q + 1) = z by rw [HNX.out, if_neg (by simp at T1 T2; omega)])
                        clear HNX
                        go_wp2_with (fail)
                        go_roundw
                        case rel => exact ⟨q + 1, by omega, by go_num, by rw [HN2.out], hrqq⟩
                        case measure => simp [intOf]; omega
                      · have HN2 := Lib.hid (show bestTo T V x k (q + 1) = tv + rv by rw [HNX.out, if_pos (by simp at T2; omega)])
                        clear HNX
                        go_wp2_with (fail)
                        go_roundw
                        case rel => exact ⟨q + 1, by omega, by go_num, by rw [HN2.out], hrqq⟩
                        case measure => simp [intOf]; omega
                    · have HN2 := Lib.hid (show bestTo T V x k (q + 1) = tv + rv by rw [HNX.out, if_pos (by simp at T1; omega)])
                      clear HNX
                      go_wp2_with (fail)
                      go_roundw
                      case rel => exact ⟨q + 1, by omega, by go_num, by rw [HN2.out], hrqq⟩
                      case measure => simp [intOf]; omega
                · obtain rfl : q = n := by omega
                  have HVE2 := Lib.hid HVE.out.symm
                  rw [HVE2.out]
                  have hrl : (vth vs x).xs.length = q := by rw [hrw.out.2.2 x hlt, if_neg (by omega), if_pos ⟨rfl, rfl⟩, rrow_len]
                  have r2 := (hrw.out.1.tab_row x (by rw [hrw.out.2.1]; exact hlt)).ext hrq
                  obtain ⟨rb, hra⟩ := own_addr r2 (fun e => by rw [e] at hrl; simp at hrl; omega)
                  have HRW := Lib.hid (hrw.out.1.ext hrq)
                  have r1 := ownV_cell hrw.out.2.1 HRW.out.tab_own x hlt
                  simp only [slV] at r1
                  rw [hra, hrl] at r1
                  have r3 : OwnI wi g (.slice (some ⟨rb, 0, none⟩) q (vth vs x).c) (vth vs x).xs := by rw [← hra, ← hrl]; exact r2
                  have r4 := ownI_cell hrl r3 k hlt2
                  have r5 := ownI_free hrl r3 k
                  have hk0 : (0 : Int) ≤ (k : Int) := by omega
                  have hkn : (k : Int) < (q : Int) := by omega
                  have hE4 := hr.trans hrq
                  have HX4 : Hid (Ext w3 (wi.setCell ⟨rb, k, none⟩ (.int .i64 (V x k)))) := hE4.set (by have := (own_lt r3).1; have := HG.out.1; simp; omega) _
                  have hvx : vth vs x = ⟨some ⟨rb, 0, none⟩, (vth vs x).xs, (vth vs x).c⟩ := by rw [← hra]
                  have HW4 := Lib.hid (HRW.out.tab_write (k := k) (by rw [hrw.out.2.1]; exact hlt) hvx (V x k))
                  have HS4 := Lib.hid (hrw.out.2.put hlt2 hlt ⟨some ⟨rb, 0, none⟩, (vth vs x).xs.set k (V x k), (vth vs x).c⟩ rfl)
                  obtain ⟨yy, hyy⟩ : ∃ y, y = V x k := ⟨_, rfl⟩
                  rw [← hyy] at HX4 HW4 HS4 ⊢
                  clear r2 r3 hra hvx hyy hE4 HVE2 HVE
                  go_wp2_with (fail)
                  go_roundw
                  case rel => exact ⟨k + 1, _, by omega, by go_num, HX4.out, HW4.out, HS4.out⟩
                  case measure => simp [intOf]; omega
          · rw [TB] at hsa HVZ
            have HSK := Lib.hid (hrw.out.2.skip (HVZ.out (.inl rfl)))
            have hrw1 := Lib.hid hrw.out.1
            simp only [if_true] at hsa
            clear hrw HVN HVZ
            go_wp2_with (fail)
            go_roundw
            case rel => exact ⟨k + 1, vs, by omega, by go_num, hr, hrw1.out, HSK.out⟩
            case measure => simp [intOf]; omega
        · obtain rfl : k = n := by omega
          have HSN := Lib.hid hrw.out.2.next
          have hrw1 := Lib.hid hrw.out.1
          clear hrw
          go_wp2_with (fail)
          go_roundw
          case rel => exact ⟨x + 1, vs, by omega, by go_num, hr, hrw1.out, HSN.out⟩
          case measure => simp [intOf]; omega
    · obtain rfl : x = N := by omega
      have HRST : Hid (∀ p, p < x → ∃ rb c, (∀ W, Ext wo W → W.cell? ⟨g, p, none⟩ = some (.slice (some ⟨rb, 0, none⟩) n c)) ∧ ∀ q, q < n → ∀ W, Ext wo W → W.cell? ⟨rb, q, none⟩ = some (.int .i64 (V p q))) := fun p hp => by
        have hrx : (vth vs0 p).xs = rrow V n p n := by rw [hrw.out.2.2 p hp, if_pos hp]
        have hrl : (vth vs0 p).xs.length = n := by rw [hrx, rrow_len]
        have r2 := hrw.out.1.tab_row p (by rw [hrw.out.2.1]; exact hp)
        obtain ⟨rb, hra⟩ := own_addr r2 (fun e => by rw [e] at hrl; simp at hrl; omega)
        refine ⟨rb, (vth vs0 p).c, fun W e => ?_, fun q hq W e => ?_⟩
        · have := ownV_cell hrw.out.2.1 (hrw.out.1.tab_own.ext e) p hp
          simp only [slV] at this
          rw [hra, hrl] at this; exact this
        · have h1 : OwnI wo g (.slice (some ⟨rb, 0, none⟩) n (vth vs0 p).c) (vth vs0 p).xs := by rw [← hra, ← hrl]; exact r2
          rw [ownI_cell hrl (h1.ext e) q hq, hrx, rrow_nth _ _ _ _ _ hq, if_pos hq]
      have HTAB : Hid (∀ p, p < n → ∃ tb c, (∀ W, Ext wo W → W.cell? ⟨gt, p, none⟩ = some (.slice (some ⟨tb, 0, none⟩) n c)) ∧ ∀ q, q < n → ∀ W, Ext wo W → W.cell? ⟨tb, q, none⟩ = some (.int .i64 (T p q))) := fun p hp => by
        have hxl : (vth tvs p).xs.length = n := by rw [HTX.out p hp, crow_len]
        have t2 := HRT.out.tab_row p (by omega)
        obtain ⟨tb, hta⟩ := own_addr t2 (fun e => by rw [e] at hxl; simp at hxl; omega)
        refine ⟨tb, (vth tvs p).c, fun W e => ?_, fun q hq W e => ?_⟩
        · have := ownV_cell htl ((HRT.out.tab_own).ext (hr.trans e)) p (by omega)
          simp only [slV] at this
          rw [hta, hxl] at this; exact this
        · have h1 : OwnI w3 w2.heap.size (.slice (some ⟨tb, 0, none⟩) n (vth tvs p).c) (vth tvs p).xs := by rw [← hta, ← hxl]; exact t2
          rw [ownI_cell hxl (h1.ext (hr.trans e)) q hq, HTX.out p hp, HT.out, HN.out]
          congr 2
          unfold crow
          rw [nth_eq _ _ (by simp; rw [← HN.out]; exact hq)]
          simp [costM]
      have HEO : Hid (Ext w wo) := hE3.out.trans hr
      clear hrw HR4 HE4 HG hn9i hn0i hE3 HTX htl HRT hs1 HE hlt hr
      obtain ⟨A, hA⟩ : ∃ A, A = x - 1 := ⟨_, rfl⟩
      have hAx : (x : Int) - 1 = (A : Int) := by omega
      have hA512 : A < 512 := by omega
      have HAB : Hid (∀ i, i < n → A.testBit i = true) := fun i hi => by
        rw [hA, HNN.out, Nat.testBit_two_pow_sub_one]; simp [hi]
      have HA2 : Hid (A + 1 = 2 ^ n) := by rw [Hid, hA, ← HNN.out]; omega
      clear hA
      -- the first one
      have hb0 := HAB.out 0 (by omega)
      have hA1 : 1 ≤ A := by omega
      have han0 : bits .andNot .i64 (A : Int) 1 = ((A - 1 : Nat) : Int) := by
        have := andNot_bit A hA512 0 (by omega) hb0
        simpa using this
      obtain ⟨A0, hA0⟩ : ∃ A0, A0 = A - 1 := ⟨_, rfl⟩
      rw [← hA0] at han0
      have hA0x : A0 < x := by omega
      obtain ⟨rb, rc, q1, q2⟩ := HRST.out A0 hA0x
      have q3 := q2 0 (by omega)
      obtain ⟨v0, hv0⟩ : ∃ v0, v0 = V A0 0 := ⟨_, rfl⟩
      have HV0 : Hid (v0 = V (A - 2 ^ 0) 0) := by rw [Hid, hv0, hA0]
      rw [← hv0] at q3
      have hA0i : (A0 : Int) < (x : Int) := by omega
      have hA00 : (0 : Int) ≤ (A0 : Int) := by omega
      clear hv0 hb0 hA0 q2
      have hr0 := Ext.refl wo
      go_upto_region 32 with fail
      refine wp_region_ext (by kernel_rfl) (by kernel_rfl) hr0 ?_
      repeat (first | go_big_quiet_step (((fail))) | quiet_step (((fail))))
      refine wpQuiet_nil ?_
      rintro _ ⟨nq, rfl⟩
      have HQ1 := Lib.hid nq.ok
      clear q1 q3 han0 hr0
      go_upto_region 34 with fail
      obtain ⟨cF, hcF⟩ : ∃ cF : Nat → Int, cF = fun i => V (A - 2 ^ i) i := ⟨_, rfl⟩
      have HCF := Lib.hid hcF
      clear hcF
      have HFB : Hid (∀ i, i ≤ n → (firstTo cF i).1 < n ∧ 0 ≤ (firstTo cF i).2 ∧ (firstTo cF i).2 ≤ 4096000 ∧ (firstTo cF i).2 = cF (firstTo cF i).1) := firstTo_bd hn0 fun i hi => by
        rw [HCF.out]
        exact HVBD.out (A - 2 ^ i) i (Nat.lt_of_le_of_lt (Nat.sub_le _ _) (by omega)) hi
      go_loopw [17, 18, 124] (fun f t i wr => ∃ k : Nat, k ≤ n ∧ i = .int .i64 k ∧ f = .int .i64 ((firstTo cF k).1 : Nat) ∧ t = .int .i64 (firstTo cF k).2 ∧ Ext wo wr) (fun _ _ i _ => n - (intOf i).toNat)
      case atStart => exact ⟨0, Nat.zero_le _, rfl, rfl, by rw [HV0.out, show (firstTo cF 0).2 = cF 0 from rfl, HCF.out], HQ1.out⟩
      case round =>
        obtain ⟨k, hk, rfl, rfl, rfl, hr⟩ := hrel
        by_cases hlt : k < n
        · have hfb := HFB.out k hk
          obtain ⟨f, hf⟩ : ∃ f, f = (firstTo cF k).1 := ⟨_, rfl⟩
          obtain ⟨t, ht⟩ : ∃ t, t = (firstTo cF k).2 := ⟨_, rfl⟩
          rw [← hf, ← ht] at hfb ⊢
          have hf0 := hfb.1
          have ht0 := hfb.2.1
          have ht1 := hfb.2.2.1
          have hbk := HAB.out k hlt
          obtain ⟨Q, hQ⟩ : ∃ Q, Q = 2 ^ k := ⟨_, rfl⟩
          have hQx : Q ≤ A := by rw [hQ]; exact Nat.ge_two_pow_of_testBit hbk
          have hpq : (2 : Int) ^ k = (Q : Int) := by rw [hQ]; push_cast; rfl
          have han := andNot_bit A hA512 k (by omega) hbk
          rw [← hQ] at han
          obtain ⟨p, hp⟩ : ∃ p, p = A - Q := ⟨_, rfl⟩
          rw [← hp] at han
          have hpx : p < x := by omega
          obtain ⟨rb, rc, q1, q2⟩ := HRST.out p hpx
          have q3 := q2 k hlt
          obtain ⟨v, hv⟩ : ∃ v, v = V p k := ⟨_, rfl⟩
          rw [← hv] at q3
          have HNX : Hid (firstTo cF (k + 1) = if v < t then (k, v) else (f, t)) := by
            have e1 : cF k = v := by rw [HCF.out, hv, hp, hQ]
            show (if cF k < (firstTo cF k).2 then (k, cF k) else firstTo cF k) = _
            rw [e1, hf, ht]
          have hpi : (p : Int) < (x : Int) := by omega
          have hp0 : (0 : Int) ≤ (p : Int) := by omega
          have hk0 : (0 : Int) ≤ (k : Int) := by omega
          have hkn : (k : Int) < (n : Int) := by omega
          have q1' := q1 wr hr
          have q3' := q3 wr hr
          clear hv hp hQ hbk hf ht hfb q1 q2 q3
          cases T1 : decide (v < t)
          · have HN2 := Lib.hid (show firstTo cF (k + 1) = (f, t) by rw [HNX.out, if_neg (by simpa using T1)])
            clear HNX
            go_wp2_with (fail)
            go_roundw
            case rel => exact ⟨k + 1, by omega, by go_num, by rw [HN2.out], by rw [HN2.out], hr⟩
            case measure => simp [intOf]; omega
          · have HN2 := Lib.hid (show firstTo cF (k + 1) = (k, v) by rw [HNX.out, if_pos (by simpa using T1)])
            clear HNX
            go_wp2_with (fail)
            go_roundw
            case rel => exact ⟨k + 1, by omega, by go_num, by rw [HN2.out], by rw [HN2.out], hr⟩
            case measure => simp [intOf]; omega
        · obtain rfl : k = n := by omega
          have hfb := HFB.out k (Nat.le_refl _)
          obtain ⟨f, hf⟩ : ∃ f, f = (firstTo cF k).1 := ⟨_, rfl⟩
          obtain ⟨t, ht⟩ : ∃ t, t = (firstTo cF k).2 := ⟨_, rfl⟩
          rw [← hf, ← ht] at hfb ⊢
          have hf0 := hfb.1
          have hbk := HAB.out f hf0
          obtain ⟨Q, hQ⟩ : ∃ Q, Q = 2 ^ f := ⟨_, rfl⟩
          have hQx : Q ≤ A := by rw [hQ]; exact Nat.ge_two_pow_of_testBit hbk
          have hQ1 : 1 ≤ Q := by rw [hQ]; exact Nat.two_pow_pos f
          have hpq : (2 : Int) ^ f = (Q : Int) := by rw [hQ]; push_cast; rfl
          have han := andNot_bit A hA512 f (by omega) hbk
          rw [← hQ] at han
          obtain ⟨p, hp⟩ : ∃ p, p = A - Q := ⟨_, rfl⟩
          rw [← hp] at han
          have hpx : p < x := by omega
          have HPB : Hid (p.testBit f = false) := by
            rw [Hid, hp, hQ]; exact sub_bit A hA512 f (by omega) hbk
          have HP := Lib.hid (show p = A - 2 ^ f by rw [hp, hQ])
          have HF := Lib.hid hf; have HTT := Lib.hid ht
          have HRR := Lib.hid hr
          clear hp hQ hbk hf ht hfb HFB
          go_upto_region 42 with fail
          generalize hw9 : World.alloc wr _ = w9
          obtain ⟨he9, o9, hs9⟩ := alloc1 hw9
          obtain ⟨Bw, hBw⟩ : ∃ Bw, Bw = wr.heap.size := ⟨_, rfl⟩
          rw [← hBw] at o9 ⊢
          have HW9 : Hid (Ext wo w9 ∧ OwnI w9 Bw (.slice (some ⟨Bw, 0, none⟩) 1 1) [(f : Int)] ∧ w.heap.size ≤ Bw ∧ wo.heap.size ≤ Bw) := by
            refine ⟨hr.trans he9, ?_, ?_, ?_⟩
            · exact ownI_blk (xs := [(f : Int)]) o9 (Nat.le_refl _) (by simp)
            · have := HEO.out.size; have := hr.size; omega
            · have := hr.size; omega
          clear hw9 he9 o9 hs9 hBw hr hpq han
          go_loopw [21, 22] (fun v l wr => ∃ (left fu frm : Nat) (ys : List Int) (vv : Value), l = .int .i64 left ∧ v = vv ∧ Hid (left < x ∧ left ≤ fu ∧ frm < k ∧ ys ≠ [] ∧ nth ys (ys.length - 1) = frm ∧ left.testBit frm = false ∧ ys.length + left ≤ 600 ∧ ys ++ natI (wayF T V k fu left frm) = (f : Int) :: natI (wayF T V k p p f)) ∧ Ext wo wr ∧ Hid (OwnI wr Bw vv ys)) (fun _ l _ => (intOf l).toNat)
          case atStart => exact ⟨p, p, f, [(f : Int)], _, rfl, rfl, ⟨hpx, Nat.le_refl _, hf0, by simp, rfl, HPB.out, by simp; omega, rfl⟩, HW9.out.1, HW9.out.2.1⟩
          case round =>
            obtain ⟨left, fu, frm, ys, vv, rfl, rfl, hh, hr, hown⟩ := hrel
            obtain ⟨wi, rfl⟩ : ∃ wi : World, wi = wr := ⟨_, rfl⟩
            by_cases h0 : left = 0
            · obtain rfl := h0
              have hwy : ys = cheapW T k := by
                have h1 := hh.out.2.2.2.2.2.2.2
                rw [wayF_zero, natI_nil, List.append_nil, ← natI_cons] at h1
                have h2 : f = (cheapF T k).1 := by rw [HF.out, HCF.out, HV.out]; unfold cheapF; rw [← HA2.out]; rfl
                rw [h1, HP.out, HV.out]; unfold cheapW; rw [← h2, ← HA2.out]; rfl
              have htt : t = (cheapF T k).2 := by rw [HTT.out, HCF.out, HV.out]; unfold cheapF; rw [← HA2.out]; rfl
              have HWY := Lib.hid hwy; have HT2 := Lib.hid htt
              obtain ⟨a', n', c', rfl⟩ := own_slice hown.out
              obtain ⟨-, hn', -⟩ := hown.out.ints
              have HN' := Lib.hid hn'
              clear hwy htt hn'
              go_wp2_with (fail)
              go_ret3
              refine ⟨a', c', ?_, HEO.out.trans hr, ?_⟩
              · have := HT.out
                subst this
                rw [← HWY.out, ← HT2.out, ← HN'.out]; rfl
              · have := HT.out
                subst this
                rw [← HWY.out, ← HN'.out]; exact own_down hown.out (by have := HW9.out.2.2.1; exact this)
            · obtain ⟨hlx, hlf, hfk, hyn, hyl, hlb, hy6, hway⟩ := hh.out
              have HWAY := Lib.hid hway; have HYN := Lib.hid hyn; have HYL := Lib.hid hyl
              clear hway hyn hyl hh
              obtain ⟨a', n', c', rfl⟩ := own_slice hown.out
              obtain ⟨-, hn', -⟩ := hown.out.ints
              subst hn'
              obtain ⟨wb, rfl⟩ := own_addr hown.out HYN.out
              obtain ⟨m, hm⟩ : ∃ m, ys.length = m + 1 := ⟨ys.length - 1, by have := HYN.out; have : ys.length ≠ 0 := fun e => this (List.length_eq_zero_iff.1 e); omega⟩
              have HM := Lib.hid hm
              rw [hm] at hown ⊢
              have HOW := hown
              have c1 : ∀ W, Ext wi W → W.cell? ⟨wb, m, none⟩ = some (.int .i64 (frm : Int)) := fun W e => by
                have h1 := ownI_cell hm (hown.out.ext e) m (by omega)
                have h2 := HYL.out
                rw [hm] at h2
                rw [h1]; congr 2
              have hm0 : (0 : Int) ≤ (m : Int) := by omega
              have hm1 : (m : Int) < ((m : Int) + 1) := by omega
              have hl0 : ((left : Int) == 0) = false := by rw [beq_eq_false_iff_ne]; omega
              have hl0' : (left : Int) ≠ 0 := by omega
              have hm6 : m ≤ 600 := by omega
              have c2 := c1 wi (Ext.refl _)
              have hl512 : left < 512 := by omega
              have HEX : Hid (∃ q, q < k ∧ fitB T V left frm q = true) := by
                rw [Hid, HV.out]
                refine fit_some (C := 8000) (by omega) (fun p q _ _ => HTBD.out p q) ?_ h0 hfk hlb
                have := HA2.out; omega
              clear hm c1
              go_upto_region 45 with fail
              go_loopw [21, 22, 158] (fun v l i wr => ∃ q : Nat, q ≤ k ∧ i = .int .i64 q ∧ v = .slice (some ⟨wb, 0, none⟩) (m + 1) c' ∧ l = .int .i64 left ∧ Ext wi wr ∧ Hid (∀ j, j < q → fitB T V left frm j = false)) (fun _ _ i _ => k - (intOf i).toNat)
              case atStart => exact ⟨0, Nat.zero_le _, rfl, rfl, rfl, Ext.refl _, fun j hj => by omega⟩
              case round =>
                obtain ⟨q, hq, rfl, rfl, rfl, hrq, hfa⟩ := hrel
                clear c2
                by_cases hlt3 : q < k
                · have hsq := shr_and left hl512 q (by omega)
                  have hr0 := Ext.refl wr
                  have hri := hr.trans hrq
                  cases TQ : left.testBit q
                  · rw [TQ] at hsq
                    simp only [Bool.false_eq_true, if_false] at hsq
                    have HNO : Hid (∀ j, j < q + 1 → fitB T V left frm j = false) := all_lt_succ hfa.out (by unfold fitB; rw [TQ]; rfl)
                    go_upto_region 47 with fail
                    refine wp_region_ext (by kernel_rfl) (by kernel_rfl) hr0 ?_
                    repeat (first | go_big_quiet_step (((fail))) | quiet_step (((fail))))
                    refine wpQuiet_nil ?_
                    rintro _ ⟨nq, rfl⟩
                    have hqq := hrq.trans nq.ok
                    go_wp2_with (fail)
                    go_roundw
                    case rel => exact ⟨q + 1, by omega, by go_num, rfl, rfl, hqq, HNO.out⟩
                    case measure => simp [intOf]; omega
                  · rw [TQ] at hsq
                    simp only [if_true] at hsq
                    obtain ⟨Q, hQ⟩ : ∃ Q, Q = 2 ^ q := ⟨_, rfl⟩
                    have hQx : Q ≤ left := by rw [hQ]; exact Nat.ge_two_pow_of_testBit TQ
                    have hQ1 : 1 ≤ Q := by rw [hQ]; exact Nat.two_pow_pos q
                    have hpq : (2 : Int) ^ q = (Q : Int) := by rw [hQ]; push_cast; rfl
                    rw [hpq] at hsq
                    have han := andNot_bit left hl512 q (by omega) TQ
                    rw [← hQ] at han
                    obtain ⟨u, hu⟩ : ∃ u, u = left - Q := ⟨_, rfl⟩
                    rw [← hu] at han
                    have hux : u < x := by omega
                    have hul : u < left := by omega
                    have HU := Lib.hid (show u = left - 2 ^ q by rw [hu, hQ])
                    have HUB : Hid (u.testBit q = false) := by rw [Hid, hu, hQ]; exact sub_bit left hl512 q (by omega) TQ
                    obtain ⟨tb, tcc, t1, t2⟩ := HTAB.out frm hfk
                    have t3 := t2 q hlt3
                    obtain ⟨rb, rc, r1, r2⟩ := HRST.out u hux
                    have r3 := r2 q hlt3
                    obtain ⟨rb', rc', s1, s2⟩ := HRST.out left hlx
                    have s3 := s2 frm hfk
                    obtain ⟨tv, htv⟩ : ∃ tv, tv = T frm q := ⟨_, rfl⟩
                    obtain ⟨rv, hrv⟩ : ∃ rv, rv = V u q := ⟨_, rfl⟩
                    obtain ⟨sv, hsv⟩ : ∃ sv, sv = V left frm := ⟨_, rfl⟩
                    have htb2 := HTBD.out frm q
                    have hrb2 := HVBD.out u q hux hlt3
                    rw [← htv] at t3 htb2; rw [← hrv] at r3 hrb2; rw [← hsv] at s3
                    have HFT : Hid (fitB T V left frm q = (tv + rv == sv)) := by
                      rw [Hid, htv, hrv, hsv, HU.out]; unfold fitB; rw [TQ, Bool.true_and]; rfl
                    have t1' := fun W (e : Ext wr W) => t1 W (hri.trans e)
                    have t3' := fun W (e : Ext wr W) => t3 W (hri.trans e)
                    have r1' := fun W (e : Ext wr W) => r1 W (hri.trans e)
                    have r3' := fun W (e : Ext wr W) => r3 W (hri.trans e)
                    have s1' := fun W (e : Ext wr W) => s1 W (hri.trans e)
                    have s3' := fun W (e : Ext wr W) => s3 W (hri.trans e)
                    have i1 : (frm : Int) < (k : Int) := by omega
                    have i2 : (0 : Int) ≤ (frm : Int) := by omega
                    have i3 : (q : Int) < (k : Int) := by omega
                    have i4 : (0 : Int) ≤ (q : Int) := by omega
                    have i5 : (u : Int) < (x : Int) := by omega
                    have i6 : (0 : Int) ≤ (u : Int) := by omega
                    have i7 : (left : Int) < (x : Int) := by omega
                    have i8 : (0 : Int) ≤ (left : Int) := by omega
                    clear hu hQ htv hrv hsv t1 t2 t3 r1 r2 r3 s1 s2 s3
                    go_upto_region 47 with fail
                    refine wp_region_ext (by kernel_rfl) (by kernel_rfl) hr0 ?_
                    repeat (first | go_big_quiet_step (((fail))) | quiet_step (((fail))))
                    refine wpQuiet_nil ?_
                    rintro _ ⟨nq, rfl⟩
                    have hqq := hrq.trans nq.ok
                    clear t1' t3' r1' r3' s1' s3' hr0
                    cases T1 : (tv + rv == sv)
                    · have HNO : Hid (∀ j, j < q + 1 → fitB T V left frm j = false) := all_lt_succ hfa.out (by rw [HFT.out, T1])
                      go_wp2_with (fail)
                      go_roundw
                      case rel => exact ⟨q + 1, by omega, by go_num, rfl, rfl, hqq, HNO.out⟩
                      case measure => simp [intOf]; omega
                    · obtain ⟨fu', rfl⟩ : ∃ f, fu = f + 1 := ⟨fu - 1, by omega⟩
                      have HST := Lib.hid (wayF_step (n := k) (f := fu') h0 hlt3 (by rw [HFT.out, T1]) hfa.out)
                      have HOQ : Hid (OwnI nq.val Bw (.slice (some ⟨wb, 0, none⟩) (m + 1) c') ys) := HOW.out.ext hqq
                      have happ := app_ints (nq.val.alloc (.cells #[.int .i64 (q : Nat)] 3)) Bw 31 _ ys [(q : Int)] (some ⟨nq.val.heap.size, 0, none⟩) 1 (HOQ.out.ext ((Ext.refl _).alloc _)) (ints_one (heap_new _ _))
                        (by rw [HM.out]; simp; omega) (by have := ((HOQ.out).lt wb rfl); rw [heap_size]; omega)
                      have HA := Lib.hid happ
                      have hblk : ∀ j, (Value.slice (some ⟨wb, 0, none⟩) (m + 1) c').ownBlock = some j → wo.heap.size ≤ j := fun j hj => by
                        have := (HOQ.out.lt j hj).1
                        have := HW9.out.2.2.2; omega
                      have HBL := Lib.hid hblk
                      have HRQ := Lib.hid (hr.trans hqq)
                      clear happ hblk
                      go_wp2_with (at_builtin; refine wpList_app _ rfl _ _ 31 rfl _ HA.out ?_; rintro v' w' ⟨hv, hg⟩; have HGR := Lib.hid (grown_ext (HRQ.out.alloc _) hg HBL.out); have HV' := Lib.hid hv; clear HA hg hv)
                      go_roundw
                      case rel =>
                        refine ⟨u, fu', q, ys ++ [(q : Int)], v', rfl, rfl, ⟨hux, by clear han hsq hpq; omega, hlt3, by simp, ?_, HUB.out, ?_, ?_⟩, HGR.out, HV'.out⟩
                        · rw [List.length_append, List.length_singleton, Nat.add_sub_cancel, nth_eq _ _ (by simp)]; simp
                        · clear han hsq hpq; rw [List.length_append, List.length_singleton]; omega
                        · have := HWAY.out
                          rw [HST.out, natI_cons, ← HU.out] at this
                          rw [← this]; simp
                      case measure => simp [intOf]; omega
                · obtain rfl : q = k := by omega
                  exfalso
                  obtain ⟨j, hj, hjt⟩ := HEX.out
                  rw [hfa.out j hj] at hjt; cases hjt
end Go.Proofs.YtplbofhgmflnlaaGreat
end
section
/-
  Walks: Cheapest where it is refused.
-/
set_option linter.unusedVariables false
set_option linter.unusedSimpArgs false
namespace Go.Proofs.YtplbofhgmflnlaaGreat
open Go.RowKit
set_option maxRecDepth 100000 in
set_option maxHeartbeats 2000000 in
theorem cheapest_no (P : Pw) (a : Option Addr) (ss : List Se) (sc : Nat) (w : World) (hp : PlanAt w P) (hb : PlanB P) (hs : SetsAt w a ss) (hn : ss.length ≤ 9223372036854775807) (hl : ∀ i, i < ss.length → (eth ss i).lv.xs.length ≤ 9223372036854775807) (v : Int) (hv : checkE P ss = v) (h0 : v ≠ 0) :
    Calls Tryz.prog 18 #[planV P, .slice a ss.length sc] w (Ret (.tuple #[.slice none 0 0, .int .i64 0, .int .i64 v]) w) := by
  have hck := fun W (e : Ext w W) => check_any P a ss sc W (hp.ext e) hb (hs.ext e) hn hl
  rw [hv] at hck
  obtain ⟨fs, fa, fc, fo, ga, gc⟩ := P
  have HCK := Lib.hid hck
  clear hck hp hb hs hl hv
  go_enter Tryz.func18, Tryz.ntmps18
  go_wp2_with (fail)
  generalize hw1 : World.alloc _ _ = w1
  obtain ⟨he, o1, -⟩ := alloc1 hw1
  obtain ⟨b0, b1⟩ := obj_cells2 o1
  clear hw1 o1
  have HE := Lib.hid he
  clear he
  (with_reducible refine (HCK.out _ HE.out).mono ?_); rintro e w2 ⟨rfl, he2⟩
  have hv0 : (v != 0) = true := by simpa using h0
  go_wp2_with (fail)
  go_ret3
  exact ⟨rfl, HE.out.trans he2⟩
set_option maxRecDepth 100000 in
set_option maxHeartbeats 2000000 in
theorem cheapest_long (P : Pw) (a : Option Addr) (ss : List Se) (sc : Nat) (w : World) (hp : PlanAt w P) (hb : PlanB P) (hs : SetsAt w a ss) (hn : ss.length ≤ 9223372036854775807) (hl : ∀ i, i < ss.length → (eth ss i).lv.xs.length ≤ 9223372036854775807) (hv : checkE P ss = 0) (h9 : 9 < ss.length) :
    Calls Tryz.prog 18 #[planV P, .slice a ss.length sc] w (Ret (.tuple #[.slice none 0 0, .int .i64 0, .int .i64 5]) w) := by
  have hck := fun W (e : Ext w W) => check_any P a ss sc W (hp.ext e) hb (hs.ext e) hn hl
  rw [hv] at hck
  obtain ⟨fs, fa, fc, fo, ga, gc⟩ := P
  have HCK := Lib.hid hck
  clear hck hp hb hs hl hv
  go_enter Tryz.func18, Tryz.ntmps18
  go_wp2_with (fail)
  generalize hw1 : World.alloc _ _ = w1
  obtain ⟨he, o1, -⟩ := alloc1 hw1
  obtain ⟨b0, b1⟩ := obj_cells2 o1
  clear hw1 o1
  have HE := Lib.hid he
  clear he
  (with_reducible refine (HCK.out _ HE.out).mono ?_); rintro e w2 ⟨rfl, he2⟩
  have h9i : 9 < (ss.length : Int) := by omega
  go_wp2_with (fail)
  go_ret3
  exact ⟨rfl, HE.out.trans he2⟩
set_option maxRecDepth 100000 in
set_option maxHeartbeats 2000000 in
theorem cheapest_none (P : Pw) (a : Option Addr) (sc : Nat) (w : World) (hp : PlanAt w P) (hb : PlanB P) (hs : SetsAt w a []) (hv : checkE P [] = 0) :
    Calls Tryz.prog 18 #[planV P, .slice a 0 sc] w (Ret (.tuple #[.slice none 0 0, .int .i64 0, .int .i64 0]) w) := by
  have hck := fun W (e : Ext w W) => check_any P a [] sc W (hp.ext e) hb (hs.ext e) (by simp) (fun i hi => by simp at hi)
  rw [hv] at hck
  simp only [List.length_nil] at hck
  obtain ⟨fs, fa, fc, fo, ga, gc⟩ := P
  have HCK := Lib.hid hck
  clear hck hp hb hs hv
  go_enter Tryz.func18, Tryz.ntmps18
  go_wp2_with (fail)
  generalize hw1 : World.alloc _ _ = w1
  obtain ⟨he, o1, -⟩ := alloc1 hw1
  obtain ⟨b0, b1⟩ := obj_cells2 o1
  clear hw1 o1
  have HE := Lib.hid he
  clear he
  (with_reducible refine (HCK.out _ HE.out).mono ?_); rintro e w2 ⟨rfl, he2⟩
  go_wp2_with (fail)
  go_ret3
  exact ⟨rfl, HE.out.trans he2⟩
end Go.Proofs.YtplbofhgmflnlaaGreat
end
