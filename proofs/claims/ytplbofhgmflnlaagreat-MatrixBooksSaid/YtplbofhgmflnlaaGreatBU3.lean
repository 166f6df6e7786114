/-
  Texts merged: BRB, BRC, BRD.
-/
import Derived.Test.YtplbofhgmflnlaaGreatBRA
section
/-
  Rows of blocks; one element more at the end of an own row, for the reference's NewBook.
-/
set_option linter.unusedVariables false
set_option linter.unusedSimpArgs false
namespace Go.Proofs.YtplbofhgmflnlaaGreat
open Go.RowKit
theorem blC_one (p : Pt) : ∀ u ∈ blC p, u.oneCell' = true := by
  intro u hu
  simp only [blC, List.mem_cons, List.mem_nil_iff, or_false] at hu
  subst hu; rfl
abbrev rwBl (v : Value) (pts : List Pt) : Rw := ⟨3, 1, v, pts.length, rowF blC pts⟩
theorem app_blL (w : World) (B : Nat) (ty : TypeId) (v : Value) (xs ys : List Pt) (a : Addr) (c : Nat) (hv : OwnF 3 1 blC w B v xs) (hx : RowAt 1 blC w (some a) ys) (hn : xs.length + ys.length ≤ 1000000) (hB : B ≤ w.heap.size) :
    ∃ v' w', (Builtin.append_ #[31, 31] ty #[v, .slice (some a) ys.length c]).run Tryz.prog w = .ok v' w' ∧ OwnF 3 1 blC w' B v' (xs ++ ys) ∧ w.grownBy w' v.ownBlock ∧ (v'.ownBlock = v.ownBlock ∨ v'.ownBlock = some w.heap.size) := by
  obtain ⟨i0, hi, hz0, hz1, hz2⟩ := info_parts info3
  obtain ⟨v', w', r1, r2, r3, -, r5⟩ := run_append_own_at (P := Tryz.prog) w B 31 ty 3 i0 _ 1 8 Tryz.underlying31 hi hz0 hz1 hz2 rfl (by omega) v xs.length (rowF blC xs) hv a ys.length c (rowF blC ys) (rowF_len blC_len ys) (by
    rcases hx.src blC_len with h | ⟨ad, h, hc⟩
    · intro j u hj; rw [h] at hj; simp at hj
    · cases h; exact hc) (rowF_one blC_one ys) (by unfold maxLen; omega) (by omega) hB
  refine ⟨v', w', r1, ?_, r3, r5⟩
  unfold OwnF
  rw [List.length_append, rowF_append]
  exact r2
theorem one_row {α : Type} {f : α → List Value} {w : World} {g : Nat} {u : Value} {T : TypeId} {fz : Nat × Nat} {p : α} (h : w.heap[g]? = some (.cells #[u] T fz)) (hf : f p = [u]) : RowAt 1 f w (some ⟨g, 0, none⟩) [p] := by
  have c0 := obj_cells1 h
  refine .inr ⟨g, 0, rfl, fun i hi j hj => ?_⟩
  obtain rfl : i = 0 := by simp at hi; omega
  obtain rfl : j = 0 := by omega
  rw [List.getElem_cons_zero, hf]
  exact c0 w (Ext.refl w)
theorem bx_set0 {W : World} {B b : Nat} {v0 v1 v2 v3 : Value} (h : (rwX b v0 v1 v2 v3).at W B) (u : Value) : (rwX b u v1 v2 v3).at (W.setCell ⟨b, 0, none⟩ u) B := by
  have h0 : OwnF 102 4 bxC W B (.slice (some ⟨b, 0, none⟩) 1 1) [(v0, v1, v2, v3)] := h
  exact OwnF.setCell1 bxC_len h0 0 (by simp) 0 (by omega) u (u, v1, v2, v3) rfl
end Go.Proofs.YtplbofhgmflnlaaGreat
end
section
/-
  What the reference's NewBook has made by now, in one round.
-/
set_option linter.unusedVariables false
set_option linter.unusedSimpArgs false
namespace Go.Proofs.YtplbofhgmflnlaaGreat
open Go.RowKit
/-- One round of NewBook: the box, its three own rows, the three literals. -/
structure NbJ (w0 wz : World) (tb : Nat) (Ov Bv Sv Rv : Value) (pts : List Pt) (p : Pt) (L : List Rw) (l7 l8 l11 l12 l15 l16 l18 l20 l22 : Bool) (v7 v8 v11 v12 v15 v16 : Value) : Prop where
  ext : Ext w0 wz
  rows : RowsAt wz w0.heap.size (rwX tb (if l18 then v8 else Bv) Ov (if l20 then v12 else Sv) (if l22 then v16 else Rv) :: rwBl (if l8 then v8 else Bv) (if l8 then pts ++ [p] else pts) :: rwSt (if l12 then v12 else Sv) (if l12 then pts ++ [p] else pts) :: rwRs (if l16 then v16 else Rv) (if l16 then pts ++ [p] else pts) :: L)
  e7 : l7 = true → l8 = false → ∃ g, v7 = .slice (some ⟨g, 0, none⟩) 1 1 ∧ wz.heap[g]? = some (.cells #[.int .i64 p.blk] 3 (0, 0))
  e11 : l11 = true → l12 = false → ∃ g, v11 = .slice (some ⟨g, 0, none⟩) 1 1 ∧ wz.heap[g]? = some (.cells #[.int .u8 p.st] 115 (0, 0))
  e15 : l15 = true → l16 = false → ∃ g, v15 = .slice (some ⟨g, 0, none⟩) 1 1 ∧ wz.heap[g]? = some (.cells #[.string p.rs] 9 (0, 0))
section
variable {w0 wz : World} {tb : Nat} {Ov Bv Sv Rv : Value} {pts : List Pt} {p : Pt} {L : List Rw} {l7 l8 l11 l12 l15 l16 l18 l20 l22 : Bool} {v7 v8 v11 v12 v15 v16 : Value}
theorem NbJ.put7 (h : NbJ w0 wz tb Ov Bv Sv Rv pts p L l7 l8 l11 l12 l15 l16 l18 l20 l22 v7 v8 v11 v12 v15 v16) :
    NbJ w0 (wz.alloc (.cells #[.int .i64 p.blk] 3)) tb Ov Bv Sv Rv pts p L true l8 l11 l12 l15 l16 l18 l20 l22 (.slice (some ⟨wz.heap.size, 0, none⟩) 1 1) v8 v11 v12 v15 v16 := by
  have hx := (Ext.refl wz).alloc (.cells #[.int .i64 p.blk] 3)
  refine ⟨h.ext.trans hx, h.rows.ext hx, fun _ _ => ⟨_, rfl, heap_new _ _⟩, fun a b => ?_, fun a b => ?_⟩
  · obtain ⟨g, h1, h2⟩ := h.e11 a b; exact ⟨g, h1, hx.block h2⟩
  · obtain ⟨g, h1, h2⟩ := h.e15 a b; exact ⟨g, h1, hx.block h2⟩
theorem NbJ.put11 (h : NbJ w0 wz tb Ov Bv Sv Rv pts p L l7 l8 l11 l12 l15 l16 l18 l20 l22 v7 v8 v11 v12 v15 v16) :
    NbJ w0 (wz.alloc (.cells #[.int .u8 p.st] 115)) tb Ov Bv Sv Rv pts p L l7 l8 true l12 l15 l16 l18 l20 l22 v7 v8 (.slice (some ⟨wz.heap.size, 0, none⟩) 1 1) v12 v15 v16 := by
  have hx := (Ext.refl wz).alloc (.cells #[.int .u8 p.st] 115)
  refine ⟨h.ext.trans hx, h.rows.ext hx, fun a b => ?_, fun _ _ => ⟨_, rfl, heap_new _ _⟩, fun a b => ?_⟩
  · obtain ⟨g, h1, h2⟩ := h.e7 a b; exact ⟨g, h1, hx.block h2⟩
  · obtain ⟨g, h1, h2⟩ := h.e15 a b; exact ⟨g, h1, hx.block h2⟩
theorem NbJ.put15 (h : NbJ w0 wz tb Ov Bv Sv Rv pts p L l7 l8 l11 l12 l15 l16 l18 l20 l22 v7 v8 v11 v12 v15 v16) :
    NbJ w0 (wz.alloc (.cells #[.string p.rs] 9)) tb Ov Bv Sv Rv pts p L l7 l8 l11 l12 true l16 l18 l20 l22 v7 v8 v11 v12 (.slice (some ⟨wz.heap.size, 0, none⟩) 1 1) v16 := by
  have hx := (Ext.refl wz).alloc (.cells #[.string p.rs] 9)
  refine ⟨h.ext.trans hx, h.rows.ext hx, fun a b => ?_, fun a b => ?_, fun _ _ => ⟨_, rfl, heap_new _ _⟩⟩
  · obtain ⟨g, h1, h2⟩ := h.e7 a b; exact ⟨g, h1, hx.block h2⟩
  · obtain ⟨g, h1, h2⟩ := h.e11 a b; exact ⟨g, h1, hx.block h2⟩
theorem NbJ.put8 (h : NbJ w0 wz tb Ov Bv Sv Rv pts p L l7 l8 l11 l12 l15 l16 l18 l20 l22 v7 v8 v11 v12 v15 v16) (h7 : l7 = true) (h8 : l8 = false) (h18 : l18 = false) (hn : pts.length ≤ 100000) :
    ∃ g, v7 = .slice (some ⟨g, 0, none⟩) 1 1 ∧ ∃ v' w', (Builtin.append_ #[31, 31] 31 #[Bv, .slice (some ⟨g, 0, none⟩) 1 1]).run Tryz.prog wz = .ok v' w' ∧ NbJ w0 w' tb Ov Bv Sv Rv pts p L l7 true l11 l12 l15 l16 l18 l20 l22 v7 v' v11 v12 v15 v16 := by
  subst h7 h8 h18
  obtain ⟨g, hv, hg⟩ := h.e7 rfl rfl
  refine ⟨g, hv, ?_⟩
  have hr := h.rows
  simp only [Bool.false_eq_true, if_false] at hr
  have hown : OwnF 3 1 blC wz w0.heap.size Bv pts := hr.get (i := 1) rfl
  obtain ⟨v', w', r1, r2, r3, r4⟩ := app_blL wz w0.heap.size 31 Bv pts [p] ⟨g, 0, none⟩ 1 hown (one_row hg rfl) (by simp; omega) h.ext.size
  refine ⟨v', w', r1, grown_ext h.ext r3 (fun j hj => (hown.lt j hj).1), ?_, fun _ e => (by cases e), fun a b => ?_, fun a b => ?_⟩
  · simp only [Bool.false_eq_true, if_false, if_true]
    exact hr.appended (i := 1) (r' := rwBl v' (pts ++ [p])) rfl r3 r2 r4
  · obtain ⟨g2, h1, h2⟩ := h.e11 a b
    refine ⟨g2, h1, ?_⟩
    rw [r3.block g2 (lt_of_block h2) (fun e => own_type_ne hown h2 (show (3 : TypeId) ≠ 115 by decide) e.symm)]
    exact h2
  · obtain ⟨g2, h1, h2⟩ := h.e15 a b
    refine ⟨g2, h1, ?_⟩
    rw [r3.block g2 (lt_of_block h2) (fun e => own_type_ne hown h2 (show (3 : TypeId) ≠ 9 by decide) e.symm)]
    exact h2
theorem NbJ.put12 (h : NbJ w0 wz tb Ov Bv Sv Rv pts p L l7 l8 l11 l12 l15 l16 l18 l20 l22 v7 v8 v11 v12 v15 v16) (ha : l11 = true) (hb : l12 = false) (hc : l20 = false) (hn : pts.length ≤ 100000) :
    ∃ g, v11 = .slice (some ⟨g, 0, none⟩) 1 1 ∧ ∃ v' w', (Builtin.append_ #[99, 99] 99 #[Sv, .slice (some ⟨g, 0, none⟩) 1 1]).run Tryz.prog wz = .ok v' w' ∧ NbJ w0 w' tb Ov Bv Sv Rv pts p L l7 l8 l11 true l15 l16 l18 l20 l22 v7 v8 v11 v' v15 v16 := by
  subst ha hb hc
  obtain ⟨g, hv, hg⟩ := h.e11 rfl rfl
  refine ⟨g, hv, ?_⟩
  have hr := h.rows
  simp only [Bool.false_eq_true, if_false] at hr
  have hown : OwnF 115 1 stC wz w0.heap.size Sv pts := hr.get (i := 2) rfl
  obtain ⟨v', w', r1, r2, r3, r4⟩ := app_stL wz w0.heap.size 99 Sv pts [p] ⟨g, 0, none⟩ 1 hown (one_row hg rfl) (by simp; omega) h.ext.size
  refine ⟨v', w', r1, grown_ext h.ext r3 (fun j hj => (hown.lt j hj).1), ?_, fun a b => ?_, fun _ x => (by cases x), fun a b => ?_⟩
  · simp only [Bool.false_eq_true, if_false, if_true]
    exact hr.appended (i := 2) (r' := rwSt v' (pts ++ [p])) rfl r3 r2 r4
  · obtain ⟨g2, h1, h2⟩ := h.e7 a b
    refine ⟨g2, h1, ?_⟩
    rw [r3.block g2 (lt_of_block h2) (fun e => own_type_ne hown h2 (show (115 : TypeId) ≠ 3 by decide) e.symm)]
    exact h2
  · obtain ⟨g2, h1, h2⟩ := h.e15 a b
    refine ⟨g2, h1, ?_⟩
    rw [r3.block g2 (lt_of_block h2) (fun e => own_type_ne hown h2 (show (115 : TypeId) ≠ 9 by decide) e.symm)]
    exact h2
theorem NbJ.put16 (h : NbJ w0 wz tb Ov Bv Sv Rv pts p L l7 l8 l11 l12 l15 l16 l18 l20 l22 v7 v8 v11 v12 v15 v16) (ha : l15 = true) (hb : l16 = false) (hc : l22 = false) (hn : pts.length ≤ 100000) :
    ∃ g, v15 = .slice (some ⟨g, 0, none⟩) 1 1 ∧ ∃ v' w', (Builtin.append_ #[100, 100] 100 #[Rv, .slice (some ⟨g, 0, none⟩) 1 1]).run Tryz.prog wz = .ok v' w' ∧ NbJ w0 w' tb Ov Bv Sv Rv pts p L l7 l8 l11 l12 l15 true l18 l20 l22 v7 v8 v11 v12 v15 v' := by
  subst ha hb hc
  obtain ⟨g, hv, hg⟩ := h.e15 rfl rfl
  refine ⟨g, hv, ?_⟩
  have hr := h.rows
  simp only [Bool.false_eq_true, if_false] at hr
  have hown : OwnF 9 1 rsC wz w0.heap.size Rv pts := hr.get (i := 3) rfl
  obtain ⟨v', w', r1, r2, r3, r4⟩ := app_rsL wz w0.heap.size 100 Rv pts [p] ⟨g, 0, none⟩ 1 hown (one_row hg rfl) (by simp; omega) h.ext.size
  refine ⟨v', w', r1, grown_ext h.ext r3 (fun j hj => (hown.lt j hj).1), ?_, fun a b => ?_, fun a b => ?_, fun _ x => (by cases x)⟩
  · simp only [Bool.false_eq_true, if_false, if_true]
    exact hr.appended (i := 3) (r' := rwRs v' (pts ++ [p])) rfl r3 r2 r4
  · obtain ⟨g2, h1, h2⟩ := h.e7 a b
    refine ⟨g2, h1, ?_⟩
    rw [r3.block g2 (lt_of_block h2) (fun e => own_type_ne hown h2 (show (9 : TypeId) ≠ 3 by decide) e.symm)]
    exact h2
  · obtain ⟨g2, h1, h2⟩ := h.e11 a b
    refine ⟨g2, h1, ?_⟩
    rw [r3.block g2 (lt_of_block h2) (fun e => own_type_ne hown h2 (show (9 : TypeId) ≠ 115 by decide) e.symm)]
    exact h2
theorem NbJ.box (h : NbJ w0 wz tb Ov Bv Sv Rv pts p L l7 l8 l11 l12 l15 l16 l18 l20 l22 v7 v8 v11 v12 v15 v16) : (rwX tb (if l18 then v8 else Bv) Ov (if l20 then v12 else Sv) (if l22 then v16 else Rv)).at wz w0.heap.size := h.rows.own _ (List.mem_cons_self)
theorem NbJ.put18 (h : NbJ w0 wz tb Ov Bv Sv Rv pts p L l7 l8 l11 l12 l15 l16 l18 l20 l22 v7 v8 v11 v12 v15 v16) :
    NbJ w0 (wz.setCell ⟨tb, 0, none⟩ v8) tb Ov Bv Sv Rv pts p L l7 l8 l11 l12 l15 l16 true l20 l22 v7 v8 v11 v12 v15 v16 := by
  have hb := (bx_cells h.box).2.2.2.2.2
  have hx : ExtX tb wz (wz.setCell ⟨tb, 0, none⟩ v8) := (ExtX.refl tb wz).set 0 v8
  refine ⟨h.ext.set hb _, h.rows.written (i := 0) (r' := rwX tb v8 Ov (if l20 then v12 else Sv) (if l22 then v16 else Rv)) rfl hx rfl rfl (bx_set0 h.box v8), fun a b => ?_, fun a b => ?_, fun a b => ?_⟩
  · obtain ⟨g, h1, h2⟩ := h.e7 a b
    exact ⟨g, h1, by rw [hx.block g (lt_of_block h2) (fun e => own_type_ne h.box h2 (show (102 : TypeId) ≠ 3 by decide) (by rw [e]; rfl))]; exact h2⟩
  · obtain ⟨g, h1, h2⟩ := h.e11 a b
    exact ⟨g, h1, by rw [hx.block g (lt_of_block h2) (fun e => own_type_ne h.box h2 (show (102 : TypeId) ≠ 115 by decide) (by rw [e]; rfl))]; exact h2⟩
  · obtain ⟨g, h1, h2⟩ := h.e15 a b
    exact ⟨g, h1, by rw [hx.block g (lt_of_block h2) (fun e => own_type_ne h.box h2 (show (102 : TypeId) ≠ 9 by decide) (by rw [e]; rfl))]; exact h2⟩
theorem NbJ.put20 (h : NbJ w0 wz tb Ov Bv Sv Rv pts p L l7 l8 l11 l12 l15 l16 l18 l20 l22 v7 v8 v11 v12 v15 v16) :
    NbJ w0 (wz.setCell ⟨tb, 2, none⟩ v12) tb Ov Bv Sv Rv pts p L l7 l8 l11 l12 l15 l16 l18 true l22 v7 v8 v11 v12 v15 v16 := by
  have hb := (bx_cells h.box).2.2.2.2.2
  have hx : ExtX tb wz (wz.setCell ⟨tb, 2, none⟩ v12) := (ExtX.refl tb wz).set 2 v12
  refine ⟨h.ext.set hb _, h.rows.written (i := 0) (r' := rwX tb (if l18 then v8 else Bv) Ov v12 (if l22 then v16 else Rv)) rfl hx rfl rfl (bx_set2 h.box v12), fun a b => ?_, fun a b => ?_, fun a b => ?_⟩
  · obtain ⟨g, h1, h2⟩ := h.e7 a b
    exact ⟨g, h1, by rw [hx.block g (lt_of_block h2) (fun e => own_type_ne h.box h2 (show (102 : TypeId) ≠ 3 by decide) (by rw [e]; rfl))]; exact h2⟩
  · obtain ⟨g, h1, h2⟩ := h.e11 a b
    exact ⟨g, h1, by rw [hx.block g (lt_of_block h2) (fun e => own_type_ne h.box h2 (show (102 : TypeId) ≠ 115 by decide) (by rw [e]; rfl))]; exact h2⟩
  · obtain ⟨g, h1, h2⟩ := h.e15 a b
    exact ⟨g, h1, by rw [hx.block g (lt_of_block h2) (fun e => own_type_ne h.box h2 (show (102 : TypeId) ≠ 9 by decide) (by rw [e]; rfl))]; exact h2⟩
theorem NbJ.put22 (h : NbJ w0 wz tb Ov Bv Sv Rv pts p L l7 l8 l11 l12 l15 l16 l18 l20 l22 v7 v8 v11 v12 v15 v16) :
    NbJ w0 (wz.setCell ⟨tb, 3, none⟩ v16) tb Ov Bv Sv Rv pts p L l7 l8 l11 l12 l15 l16 l18 l20 true v7 v8 v11 v12 v15 v16 := by
  have hb := (bx_cells h.box).2.2.2.2.2
  have hx : ExtX tb wz (wz.setCell ⟨tb, 3, none⟩ v16) := (ExtX.refl tb wz).set 3 v16
  refine ⟨h.ext.set hb _, h.rows.written (i := 0) (r' := rwX tb (if l18 then v8 else Bv) Ov (if l20 then v12 else Sv) v16) rfl hx rfl rfl (bx_set3 h.box v16), fun a b => ?_, fun a b => ?_, fun a b => ?_⟩
  · obtain ⟨g, h1, h2⟩ := h.e7 a b
    exact ⟨g, h1, by rw [hx.block g (lt_of_block h2) (fun e => own_type_ne h.box h2 (show (102 : TypeId) ≠ 3 by decide) (by rw [e]; rfl))]; exact h2⟩
  · obtain ⟨g, h1, h2⟩ := h.e11 a b
    exact ⟨g, h1, by rw [hx.block g (lt_of_block h2) (fun e => own_type_ne h.box h2 (show (102 : TypeId) ≠ 115 by decide) (by rw [e]; rfl))]; exact h2⟩
  · obtain ⟨g, h1, h2⟩ := h.e15 a b
    exact ⟨g, h1, by rw [hx.block g (lt_of_block h2) (fun e => own_type_ne h.box h2 (show (102 : TypeId) ≠ 9 by decide) (by rw [e]; rfl))]; exact h2⟩
end
end Go.Proofs.YtplbofhgmflnlaaGreat
end
section
/-
  A region of the reference's NewBook: one point more.
-/
set_option linter.unusedVariables false
set_option linter.unusedSimpArgs false
namespace Go.Proofs.YtplbofhgmflnlaaGreat
open Go.RowKit
set_option maxRecDepth 100000 in
set_option maxHeartbeats 4000000 in
theorem rnb_law {tb lb lo n lc k : Nat} {b pl : Int} {Ov Bv Sv Rv : Value} {pts : List Pt} {L : List Rw} {w0 wr : World} (hk0 : (0 : Int) ≤ (k : Int)) (hkn : (k : Int) < (n : Int)) (HR0 : Hid (Ext w0 wr ∧ RowsAt wr w0.heap.size (rwX tb Bv Ov Sv Rv :: rwBl Bv pts :: rwSt Sv pts :: rwRs Rv pts :: L))) (HBK : Hid (∀ W, Ext w0 W → W.cell? ⟨lb, lo + k * 2 + 1, none⟩ = some (.int .i64 b))) (HN : Hid (pts.length ≤ 100000)) {Q : Exit → Act → World → Prop} (aZ : Act) (hsz : aZ.tmps.size = 41) (o1 : aZ.tmps[1]?.getD undef = .slice (some ⟨lb, lo, none⟩) n lc) (o7 : aZ.tmps[7]?.getD undef = .pointer (some ⟨tb, 0, none⟩)) (o8 : aZ.tmps[8]?.getD undef = .int .i64 (k : Int))
    (hend : ∀ (vs : Nat → Value) (w9 : World) (ls9 : Nat → Bool), (∀ j : Nat, j < 23 → ls9 j = true) → (NbJ w0 w9 tb Ov Bv Sv Rv pts ⟨b, pl, 0, ⟨#[]⟩⟩ L (ls9 7) (ls9 8) (ls9 11) (ls9 12) (ls9 15) (ls9 16) (ls9 18) (ls9 20) (ls9 22) (vs 7) (vs 8) (vs 11) (vs 12) (vs 15) (vs 16)) → (vs 0 = .pointer (some ⟨tb, 0, none⟩)) → (vs 1 = Bv) → (vs 2 = .slice (some ⟨lb, lo, none⟩) n lc) → (vs 3 = .int .i64 (k : Int)) → (vs 4 = .pointer (some ⟨lb, lo + k * 2, none⟩)) → (vs 5 = .pointer (some ⟨lb, lo + k * 2 + 1, none⟩)) → (vs 6 = .int .i64 b) → (True) → (True) → (vs 9 = .pointer (some ⟨tb, 2, none⟩)) → (vs 10 = Sv) → (True) → (True) → (vs 13 = .pointer (some ⟨tb, 3, none⟩)) → (vs 14 = Rv) → (True) → (True) → (vs 17 = .pointer (some ⟨tb, 0, none⟩)) → (vs 19 = .pointer (some ⟨tb, 2, none⟩)) → (vs 21 = .pointer (some ⟨tb, 3, none⟩)) → Q .normal ((((((((((((((((((((aZ.put (some 20) (vs 0)).put (some 21) (vs 1)).put (some 22) (vs 2)).put (some 23) (vs 3)).put (some 24) (vs 4)).put (some 25) (vs 5)).put (some 26) (vs 6)).put (some 27) (vs 7)).put (some 28) (vs 8)).put (some 29) (vs 9)).put (some 30) (vs 10)).put (some 31) (vs 11)).put (some 32) (vs 12)).put (some 33) (vs 13)).put (some 34) (vs 14)).put (some 35) (vs 15)).put (some 36) (vs 16)).put (some 37) (vs 17)).put (some 38) (vs 19)).put (some 39) (vs 21)) w9) : (regOf Tryz.f53 5).wp Tryz.prog Q aZ wr := by
  conv => arg 2; whnf
  refine wp_region_said3 (fun i v wz => match i with
    | 0 => v = .pointer (some ⟨tb, 0, none⟩)
    | 1 => v = Bv
    | 2 => v = .slice (some ⟨lb, lo, none⟩) n lc
    | 3 => v = .int .i64 (k : Int)
    | 4 => v = .pointer (some ⟨lb, lo + k * 2, none⟩)
    | 5 => v = .pointer (some ⟨lb, lo + k * 2 + 1, none⟩)
    | 6 => v = .int .i64 b
    | 7 => True
    | 8 => True
    | 9 => v = .pointer (some ⟨tb, 2, none⟩)
    | 10 => v = Sv
    | 11 => True
    | 12 => True
    | 13 => v = .pointer (some ⟨tb, 3, none⟩)
    | 14 => v = Rv
    | 15 => True
    | 16 => True
    | 17 => v = .pointer (some ⟨tb, 0, none⟩)
    | 18 => True
    | 19 => v = .pointer (some ⟨tb, 2, none⟩)
    | 20 => True
    | 21 => v = .pointer (some ⟨tb, 3, none⟩)
    | _ => True) (fun ls vs wz => NbJ w0 wz tb Ov Bv Sv Rv pts ⟨b, pl, 0, ⟨#[]⟩⟩ L (ls 7) (ls 8) (ls 11) (ls 12) (ls 15) (ls 16) (ls 18) (ls 20) (ls 22) (vs 7) (vs 8) (vs 11) (vs 12) (vs 15) (vs 16)) (by kernel_rfl) (by kernel_rfl) (by rw [hsz]; kernel_rfl) ?_ ?_ ?_
  · exact ⟨HR0.out.1.drew, HR0.out.2.ext (Ext.refl _).drew, fun e => (by cases e), fun e => (by cases e), fun e => (by cases e)⟩
  · refine ⟨?_, ?_, ?_, ?_, ?_, ?_, ?_, ?_, ?_, ?_, ?_, ?_, ?_, ?_, ?_, ?_, ?_, ?_, ?_, ?_, ?_, ?_, ?_, trivial⟩
    · intro ls vs a w1 hi hJ hold hdep hdon hcl K hK
      have q7 : a.tmps[7]?.getD undef = .pointer (some ⟨tb, 0, none⟩) := (hold 7 (by kernel_rfl)).trans o7
      rw [if_pos (by rfl)]
      clear hold hdep hend hdon hcl o1 o7 o8
      have HJ := Lib.hid hJ
      clear hJ
      go_simp
      exact hK _ _ (fun _ _ _ h => h) HJ.out rfl
    · intro ls vs a w1 hi hJ hold hdep hdon hcl K hK
      have q20 : a.tmps[20]?.getD undef = .pointer (some ⟨tb, 0, none⟩) := (hdep 0 20 (by kernel_rfl) (by kernel_rfl)).2.1.trans (hdep 0 20 (by kernel_rfl) (by kernel_rfl)).2.2
      have hn18 : ls 18 = false := by
        cases e : ls 18 with
        | false => rfl
        | true =>
          replace e := hcl 18 1 e (by kernel_rfl)
          rw [show ls 1 = false from hi] at e
          cases e
      rw [if_pos (by rfl)]
      clear hold hdep hend hdon hcl o1 o7 o8
      have HJ := Lib.hid hJ
      clear hJ
      have c7 : w1.cell? ⟨tb, 0, none⟩ = some Bv := by
        have := (bx_cells HJ.out.box).1
        simpa [hn18] using this
      go_simp
      exact hK _ _ (fun _ _ _ h => h) HJ.out rfl
    · intro ls vs a w1 hi hJ hold hdep hdon hcl K hK
      have q1 : a.tmps[1]?.getD undef = .slice (some ⟨lb, lo, none⟩) n lc := (hold 1 (by kernel_rfl)).trans o1
      rw [if_pos (by rfl)]
      clear hold hdep hend hdon hcl o1 o7 o8
      have HJ := Lib.hid hJ
      clear hJ
      go_simp
      exact hK _ _ (fun _ _ _ h => h) HJ.out rfl
    · intro ls vs a w1 hi hJ hold hdep hdon hcl K hK
      have q8 : a.tmps[8]?.getD undef = .int .i64 (k : Int) := (hold 8 (by kernel_rfl)).trans o8
      rw [if_pos (by rfl)]
      clear hold hdep hend hdon hcl o1 o7 o8
      have HJ := Lib.hid hJ
      clear hJ
      go_simp
      exact hK _ _ (fun _ _ _ h => h) HJ.out rfl
    · intro ls vs a w1 hi hJ hold hdep hdon hcl K hK
      have q22 : a.tmps[22]?.getD undef = .slice (some ⟨lb, lo, none⟩) n lc := (hdep 2 22 (by kernel_rfl) (by kernel_rfl)).2.1.trans (hdep 2 22 (by kernel_rfl) (by kernel_rfl)).2.2
      have q23 : a.tmps[23]?.getD undef = .int .i64 (k : Int) := (hdep 3 23 (by kernel_rfl) (by kernel_rfl)).2.1.trans (hdep 3 23 (by kernel_rfl) (by kernel_rfl)).2.2
      rw [if_pos (by rfl)]
      clear hold hdep hend hdon hcl o1 o7 o8
      have HJ := Lib.hid hJ
      clear hJ
      go_simp
      exact hK _ _ (fun _ _ _ h => h) HJ.out rfl
    · intro ls vs a w1 hi hJ hold hdep hdon hcl K hK
      have q24 : a.tmps[24]?.getD undef = .pointer (some ⟨lb, lo + k * 2, none⟩) := (hdep 4 24 (by kernel_rfl) (by kernel_rfl)).2.1.trans (hdep 4 24 (by kernel_rfl) (by kernel_rfl)).2.2
      rw [if_pos (by rfl)]
      clear hold hdep hend hdon hcl o1 o7 o8
      have HJ := Lib.hid hJ
      clear hJ
      go_simp
      exact hK _ _ (fun _ _ _ h => h) HJ.out rfl
    · intro ls vs a w1 hi hJ hold hdep hdon hcl K hK
      have q25 : a.tmps[25]?.getD undef = .pointer (some ⟨lb, lo + k * 2 + 1, none⟩) := (hdep 5 25 (by kernel_rfl) (by kernel_rfl)).2.1.trans (hdep 5 25 (by kernel_rfl) (by kernel_rfl)).2.2
      rw [if_pos (by rfl)]
      clear hold hdep hend hdon hcl o1 o7 o8
      have HJ := Lib.hid hJ
      clear hJ
      have c7 := HBK.out w1 HJ.out.ext
      go_simp
      exact hK _ _ (fun _ _ _ h => h) HJ.out rfl
    · intro ls vs a w1 hi hJ hold hdep hdon hcl K hK
      have q26 : a.tmps[26]?.getD undef = .int .i64 b := (hdep 6 26 (by kernel_rfl) (by kernel_rfl)).2.1.trans (hdep 6 26 (by kernel_rfl) (by kernel_rfl)).2.2
      have hn8 : ls 8 = false := by
        cases e : ls 8 with
        | false => rfl
        | true =>
          replace e := hcl 8 7 e (by kernel_rfl)
          rw [show ls 7 = false from hi] at e
          cases e
      have hl6 := hdon 6 (by kernel_rfl)
      rw [if_pos (by rfl)]
      clear hold hdep hend hdon hcl o1 o7 o8
      have HJ := Lib.hid hJ
      clear hJ
      go_simp
      exact hK _ _ (fun _ _ _ h => h) HJ.out.put7 trivial
    · intro ls vs a w1 hi hJ hold hdep hdon hcl K hK
      have q21 : a.tmps[21]?.getD undef = Bv := (hdep 1 21 (by kernel_rfl) (by kernel_rfl)).2.1.trans (hdep 1 21 (by kernel_rfl) (by kernel_rfl)).2.2
      obtain ⟨hl7, q27, p27⟩ := hdep 7 27 (by kernel_rfl) (by kernel_rfl)
      have hn18 : ls 18 = false := by
        cases e : ls 18 with
        | false => rfl
        | true =>
          replace e := hcl 18 8 e (by kernel_rfl)
          rw [show ls 8 = false from hi] at e
          cases e
      have hl1 := hdon 1 (by kernel_rfl)
      have hl7 := hdon 7 (by kernel_rfl)
      clear hold hdep hend hdon o1 o7 o8
      have HJ := Lib.hid hJ
      clear hJ
      obtain ⟨g, hv, v', w', r1, r2⟩ := HJ.out.put8 hl7 hi hn18 HN.out
      rw [hv] at q27
      refine step_app (by rfl) (.tmp 21) (.tmp 27) 31 (by rfl) _ _ (by simpa [Act.eval, Array.getD_eq_getD_getElem?] using q21) (by simpa [Act.eval, Array.getD_eq_getD_getElem?] using q27) (fun v3 w3 => v3 = v' ∧ w3 = w') ⟨_, _, r1, rfl, rfl⟩ ?_
      rintro v3 w3 ⟨rfl, rfl⟩
      exact hK _ _ (fun _ _ _ h => h) r2 trivial
    · intro ls vs a w1 hi hJ hold hdep hdon hcl K hK
      have q7 : a.tmps[7]?.getD undef = .pointer (some ⟨tb, 0, none⟩) := (hold 7 (by kernel_rfl)).trans o7
      rw [if_pos (by rfl)]
      clear hold hdep hend hdon hcl o1 o7 o8
      have HJ := Lib.hid hJ
      clear hJ
      go_simp
      exact hK _ _ (fun _ _ _ h => h) HJ.out rfl
    · intro ls vs a w1 hi hJ hold hdep hdon hcl K hK
      have q29 : a.tmps[29]?.getD undef = .pointer (some ⟨tb, 2, none⟩) := (hdep 9 29 (by kernel_rfl) (by kernel_rfl)).2.1.trans (hdep 9 29 (by kernel_rfl) (by kernel_rfl)).2.2
      have hn20 : ls 20 = false := by
        cases e : ls 20 with
        | false => rfl
        | true =>
          replace e := hcl 20 10 e (by kernel_rfl)
          rw [show ls 10 = false from hi] at e
          cases e
      rw [if_pos (by rfl)]
      clear hold hdep hend hdon hcl o1 o7 o8
      have HJ := Lib.hid hJ
      clear hJ
      have c7 : w1.cell? ⟨tb, 2, none⟩ = some Sv := by
        have := (bx_cells HJ.out.box).2.2.1
        simpa [hn20] using this
      go_simp
      exact hK _ _ (fun _ _ _ h => h) HJ.out rfl
    · intro ls vs a w1 hi hJ hold hdep hdon hcl K hK
      have hn12 : ls 12 = false := by
        cases e : ls 12 with
        | false => rfl
        | true =>
          replace e := hcl 12 11 e (by kernel_rfl)
          rw [show ls 11 = false from hi] at e
          cases e
      rw [if_pos (by rfl)]
      clear hold hdep hend hdon hcl o1 o7 o8
      have HJ := Lib.hid hJ
      clear hJ
      go_simp
      exact hK _ _ (fun _ _ _ h => h) HJ.out.put11 trivial
    · intro ls vs a w1 hi hJ hold hdep hdon hcl K hK
      have q30 : a.tmps[30]?.getD undef = Sv := (hdep 10 30 (by kernel_rfl) (by kernel_rfl)).2.1.trans (hdep 10 30 (by kernel_rfl) (by kernel_rfl)).2.2
      obtain ⟨hl11, q31, p31⟩ := hdep 11 31 (by kernel_rfl) (by kernel_rfl)
      have hn20 : ls 20 = false := by
        cases e : ls 20 with
        | false => rfl
        | true =>
          replace e := hcl 20 12 e (by kernel_rfl)
          rw [show ls 12 = false from hi] at e
          cases e
      have hl10 := hdon 10 (by kernel_rfl)
      have hl11 := hdon 11 (by kernel_rfl)
      clear hold hdep hend hdon o1 o7 o8
      have HJ := Lib.hid hJ
      clear hJ
      obtain ⟨g, hv, v', w', r1, r2⟩ := HJ.out.put12 hl11 hi hn20 HN.out
      rw [hv] at q31
      refine step_app (by rfl) (.tmp 30) (.tmp 31) 99 (by rfl) _ _ (by simpa [Act.eval, Array.getD_eq_getD_getElem?] using q30) (by simpa [Act.eval, Array.getD_eq_getD_getElem?] using q31) (fun v3 w3 => v3 = v' ∧ w3 = w') ⟨_, _, r1, rfl, rfl⟩ ?_
      rintro v3 w3 ⟨rfl, rfl⟩
      exact hK _ _ (fun _ _ _ h => h) r2 trivial
    · intro ls vs a w1 hi hJ hold hdep hdon hcl K hK
      have q7 : a.tmps[7]?.getD undef = .pointer (some ⟨tb, 0, none⟩) := (hold 7 (by kernel_rfl)).trans o7
      rw [if_pos (by rfl)]
      clear hold hdep hend hdon hcl o1 o7 o8
      have HJ := Lib.hid hJ
      clear hJ
      go_simp
      exact hK _ _ (fun _ _ _ h => h) HJ.out rfl
    · intro ls vs a w1 hi hJ hold hdep hdon hcl K hK
      have q33 : a.tmps[33]?.getD undef = .pointer (some ⟨tb, 3, none⟩) := (hdep 13 33 (by kernel_rfl) (by kernel_rfl)).2.1.trans (hdep 13 33 (by kernel_rfl) (by kernel_rfl)).2.2
      have hn22 : ls 22 = false := by
        cases e : ls 22 with
        | false => rfl
        | true =>
          replace e := hcl 22 14 e (by kernel_rfl)
          rw [show ls 14 = false from hi] at e
          cases e
      rw [if_pos (by rfl)]
      clear hold hdep hend hdon hcl o1 o7 o8
      have HJ := Lib.hid hJ
      clear hJ
      have c7 : w1.cell? ⟨tb, 3, none⟩ = some Rv := by
        have := (bx_cells HJ.out.box).2.2.2.1
        simpa [hn22] using this
      go_simp
      exact hK _ _ (fun _ _ _ h => h) HJ.out rfl
    · intro ls vs a w1 hi hJ hold hdep hdon hcl K hK
      have hn16 : ls 16 = false := by
        cases e : ls 16 with
        | false => rfl
        | true =>
          replace e := hcl 16 15 e (by kernel_rfl)
          rw [show ls 15 = false from hi] at e
          cases e
      rw [if_pos (by rfl)]
      clear hold hdep hend hdon hcl o1 o7 o8
      have HJ := Lib.hid hJ
      clear hJ
      go_simp
      exact hK _ _ (fun _ _ _ h => h) HJ.out.put15 trivial
    · intro ls vs a w1 hi hJ hold hdep hdon hcl K hK
      have q34 : a.tmps[34]?.getD undef = Rv := (hdep 14 34 (by kernel_rfl) (by kernel_rfl)).2.1.trans (hdep 14 34 (by kernel_rfl) (by kernel_rfl)).2.2
      obtain ⟨hl15, q35, p35⟩ := hdep 15 35 (by kernel_rfl) (by kernel_rfl)
      have hn22 : ls 22 = false := by
        cases e : ls 22 with
        | false => rfl
        | true =>
          replace e := hcl 22 16 e (by kernel_rfl)
          rw [show ls 16 = false from hi] at e
          cases e
      have hl14 := hdon 14 (by kernel_rfl)
      have hl15 := hdon 15 (by kernel_rfl)
      clear hold hdep hend hdon o1 o7 o8
      have HJ := Lib.hid hJ
      clear hJ
      obtain ⟨g, hv, v', w', r1, r2⟩ := HJ.out.put16 hl15 hi hn22 HN.out
      rw [hv] at q35
      refine step_app (by rfl) (.tmp 34) (.tmp 35) 100 (by rfl) _ _ (by simpa [Act.eval, Array.getD_eq_getD_getElem?] using q34) (by simpa [Act.eval, Array.getD_eq_getD_getElem?] using q35) (fun v3 w3 => v3 = v' ∧ w3 = w') ⟨_, _, r1, rfl, rfl⟩ ?_
      rintro v3 w3 ⟨rfl, rfl⟩
      exact hK _ _ (fun _ _ _ h => h) r2 trivial
    · intro ls vs a w1 hi hJ hold hdep hdon hcl K hK
      have q7 : a.tmps[7]?.getD undef = .pointer (some ⟨tb, 0, none⟩) := (hold 7 (by kernel_rfl)).trans o7
      rw [if_pos (by rfl)]
      clear hold hdep hend hdon hcl o1 o7 o8
      have HJ := Lib.hid hJ
      clear hJ
      go_simp
      exact hK _ _ (fun _ _ _ h => h) HJ.out rfl
    · intro ls vs a w1 hi hJ hold hdep hdon hcl K hK
      obtain ⟨hl8, q28, p28⟩ := hdep 8 28 (by kernel_rfl) (by kernel_rfl)
      have q37 : a.tmps[37]?.getD undef = .pointer (some ⟨tb, 0, none⟩) := (hdep 17 37 (by kernel_rfl) (by kernel_rfl)).2.1.trans (hdep 17 37 (by kernel_rfl) (by kernel_rfl)).2.2
      have hl8 := hdon 8 (by kernel_rfl)
      have hl17 := hdon 17 (by kernel_rfl)
      rw [if_pos (by rfl)]
      clear hold hdep hend hdon hcl o1 o7 o8
      have HJ := Lib.hid hJ
      clear hJ
      have j9 := HJ.out.put18
      have hb := bx_cells HJ.out.box
      have c7 := hb.1
      have f7 := hb.2.2.2.2.1 0
      have hrow : OwnF 3 1 blC w1 w0.heap.size (vs 8) (pts ++ [⟨b, pl, 0, ⟨#[]⟩⟩]) := by
        have := HJ.out.rows
        rw [hl8] at this
        exact this.get (i := 1) rfl
      obtain ⟨a3, c3, hv3⟩ := ownF_slice hrow
      rw [hv3] at q28
      obtain ⟨m3, hm3⟩ : ∃ m3, m3 = (pts ++ [(⟨b, pl, 0, ⟨#[]⟩⟩ : Pt)]).length := ⟨_, rfl⟩
      rw [← hm3] at q28 hv3
      clear hb hrow hm3
      go_simp
      exact hK undef _ (fun _ _ _ h => h) (by rw [← hv3]; exact j9) trivial
    · intro ls vs a w1 hi hJ hold hdep hdon hcl K hK
      have q7 : a.tmps[7]?.getD undef = .pointer (some ⟨tb, 0, none⟩) := (hold 7 (by kernel_rfl)).trans o7
      rw [if_pos (by rfl)]
      clear hold hdep hend hdon hcl o1 o7 o8
      have HJ := Lib.hid hJ
      clear hJ
      go_simp
      exact hK _ _ (fun _ _ _ h => h) HJ.out rfl
    · intro ls vs a w1 hi hJ hold hdep hdon hcl K hK
      obtain ⟨hl12, q32, p32⟩ := hdep 12 32 (by kernel_rfl) (by kernel_rfl)
      have q38 : a.tmps[38]?.getD undef = .pointer (some ⟨tb, 2, none⟩) := (hdep 19 38 (by kernel_rfl) (by kernel_rfl)).2.1.trans (hdep 19 38 (by kernel_rfl) (by kernel_rfl)).2.2
      have hl12 := hdon 12 (by kernel_rfl)
      have hl19 := hdon 19 (by kernel_rfl)
      rw [if_pos (by rfl)]
      clear hold hdep hend hdon hcl o1 o7 o8
      have HJ := Lib.hid hJ
      clear hJ
      have j9 := HJ.out.put20
      have hb := bx_cells HJ.out.box
      have c7 := hb.2.2.1
      have f7 := hb.2.2.2.2.1 2
      have hrow : OwnF 115 1 stC w1 w0.heap.size (vs 12) (pts ++ [⟨b, pl, 0, ⟨#[]⟩⟩]) := by
        have := HJ.out.rows
        rw [hl12] at this
        exact this.get (i := 2) rfl
      obtain ⟨a3, c3, hv3⟩ := ownF_slice hrow
      rw [hv3] at q32
      obtain ⟨m3, hm3⟩ : ∃ m3, m3 = (pts ++ [(⟨b, pl, 0, ⟨#[]⟩⟩ : Pt)]).length := ⟨_, rfl⟩
      rw [← hm3] at q32 hv3
      clear hb hrow hm3
      go_simp
      exact hK undef _ (fun _ _ _ h => h) (by rw [← hv3]; exact j9) trivial
    · intro ls vs a w1 hi hJ hold hdep hdon hcl K hK
      have q7 : a.tmps[7]?.getD undef = .pointer (some ⟨tb, 0, none⟩) := (hold 7 (by kernel_rfl)).trans o7
      rw [if_pos (by rfl)]
      clear hold hdep hend hdon hcl o1 o7 o8
      have HJ := Lib.hid hJ
      clear hJ
      go_simp
      exact hK _ _ (fun _ _ _ h => h) HJ.out rfl
    · intro ls vs a w1 hi hJ hold hdep hdon hcl K hK
      obtain ⟨hl16, q36, p36⟩ := hdep 16 36 (by kernel_rfl) (by kernel_rfl)
      have q39 : a.tmps[39]?.getD undef = .pointer (some ⟨tb, 3, none⟩) := (hdep 21 39 (by kernel_rfl) (by kernel_rfl)).2.1.trans (hdep 21 39 (by kernel_rfl) (by kernel_rfl)).2.2
      have hl16 := hdon 16 (by kernel_rfl)
      have hl21 := hdon 21 (by kernel_rfl)
      rw [if_pos (by rfl)]
      clear hold hdep hend hdon hcl o1 o7 o8
      have HJ := Lib.hid hJ
      clear hJ
      have j9 := HJ.out.put22
      have hb := bx_cells HJ.out.box
      have c7 := hb.2.2.2.1
      have f7 := hb.2.2.2.2.1 3
      have hrow : OwnF 9 1 rsC w1 w0.heap.size (vs 16) (pts ++ [⟨b, pl, 0, ⟨#[]⟩⟩]) := by
        have := HJ.out.rows
        rw [hl16] at this
        exact this.get (i := 3) rfl
      obtain ⟨a3, c3, hv3⟩ := ownF_slice hrow
      rw [hv3] at q36
      obtain ⟨m3, hm3⟩ : ∃ m3, m3 = (pts ++ [(⟨b, pl, 0, ⟨#[]⟩⟩ : Pt)]).length := ⟨_, rfl⟩
      rw [← hm3] at q36 hv3
      clear hb hrow hm3
      go_simp
      exact hK undef _ (fun _ _ _ h => h) (by rw [← hv3]; exact j9) trivial
  · intro vs w9 ls9 hl9 hJ9 hφ
    have e0 := hφ 0 (by kernel_rfl)
    have e1 := hφ 1 (by kernel_rfl)
    have e2 := hφ 2 (by kernel_rfl)
    have e3 := hφ 3 (by kernel_rfl)
    have e4 := hφ 4 (by kernel_rfl)
    have e5 := hφ 5 (by kernel_rfl)
    have e6 := hφ 6 (by kernel_rfl)
    have e7 := hφ 7 (by kernel_rfl)
    have e8 := hφ 8 (by kernel_rfl)
    have e9 := hφ 9 (by kernel_rfl)
    have e10 := hφ 10 (by kernel_rfl)
    have e11 := hφ 11 (by kernel_rfl)
    have e12 := hφ 12 (by kernel_rfl)
    have e13 := hφ 13 (by kernel_rfl)
    have e14 := hφ 14 (by kernel_rfl)
    have e15 := hφ 15 (by kernel_rfl)
    have e16 := hφ 16 (by kernel_rfl)
    have e17 := hφ 17 (by kernel_rfl)
    have e19 := hφ 19 (by kernel_rfl)
    have e21 := hφ 21 (by kernel_rfl)
    have hq := hend vs w9 ls9 hl9 hJ9 e0 e1 e2 e3 e4 e5 e6 e7 e8 e9 e10 e11 e12 e13 e14 e15 e16 e17 e19 e21
    simp only [Act.put] at hq
    simp only [putAll, Act.put]
    exact hq
end Go.Proofs.YtplbofhgmflnlaaGreat
end
