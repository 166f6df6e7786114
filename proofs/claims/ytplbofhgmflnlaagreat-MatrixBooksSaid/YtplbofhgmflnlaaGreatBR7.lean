/-
  Walk: the reference's 'with'.
-/
import Derived.Test.YtplbofhgmflnlaaGreatBT3
set_option linter.unusedVariables false
set_option linter.unusedSimpArgs false
namespace Go.Proofs.YtplbofhgmflnlaaGreat
open Go.RowKit
theorem bx_at {W : World} {B b : Nat} {v0 v1 v2 v3 : Value} (h : W.heap[b]? = some (.cells #[v0, v1, v2, v3] 102 (0, 0))) (hB : B ≤ b) : (rwX b v0 v1 v2 v3).at W B :=
  ⟨by simp [rowF, bxC], .inr ⟨b, 1, #[v0, v1, v2, v3], rfl, hB, h, Nat.le_refl _, by unfold maxLen; omega, rfl, by simp [rowF, bxC]⟩⟩
theorem bl_set {w : World} {a : Option Addr} {pts : List Pt} {k : Nat} {p : Pt} (h : RowAt 1 blC w a pts) (hk : k < pts.length) (hp : p.blk = (qth pts k).blk) : RowAt 1 blC w a (pts.set k p) := by
  rcases h with rfl | ⟨b, o, h1, h2⟩
  · simp at hk
  · refine .inr ⟨b, o, h1, fun i hi j hj => ?_⟩
    rw [List.length_set] at hi
    have := h2 i hi j hj
    rw [List.getElem_set]
    split
    · rename_i e
      subst e
      rw [this, ← qth_eq pts k hk]
      simp [blC, hp]
    · exact this
set_option maxRecDepth 100000 in
set_option maxHeartbeats 4000000 in
theorem rWith_any (x : Rb) (pts : List Pt) (ord : List Int) (k : Nat) (p : Pt) (w : World) (h : RbAt w x pts ord) (hk : k < pts.length) (hn : pts.length ≤ 500000) :
    Calls Tryz.prog 99 #[rbV x pts.length ord.length, .int .i64 (k : Int), .int .u8 p.st, .string p.rs] w (fun e w' => ∃ (ya : Option Addr) (yc : Nat) (za : Option Addr) (zc : Nat), e = .returned (rbV ⟨x.ba, x.bc, x.oa, x.oc, ya, yc, za, zc⟩ pts.length ord.length) ∧ Ext w w' ∧ OwnF 115 1 stC w' w.heap.size (.slice ya pts.length yc) (pts.set k p) ∧ OwnF 9 1 rsC w' w.heap.size (.slice za pts.length zc) (pts.set k p)) := by
  obtain ⟨ba, bc, oa, oc, sa, sc, ra, rc⟩ := x
  obtain ⟨hbl, hord, hst, hrs⟩ := h
  simp only at hbl hord hst hrs
  obtain ⟨sb, so, rfl, -⟩ := st_at hst k hk
  obtain ⟨rb, ro, rfl, -⟩ := rs_at hrs k hk
  have HORD := Lib.hid hord
  have HST : Hid (RowAt 1 stC w (some ⟨sb, so, none⟩) pts ∧ RowAt 1 rsC w (some ⟨rb, ro, none⟩) pts ∧ pts.length ≤ 500000) := ⟨hst, hrs, hn⟩
  have HKP : Hid (k < pts.length) := hk
  have hk0 : (0 : Int) ≤ (k : Int) := by omega
  have hkn : (k : Int) < (pts.length : Int) := by omega
  clear hbl hord hst hrs hk
  go_enter Tryz.func99, Tryz.ntmps99
  go_upto_region 1 with fail
  generalize hw1 : World.alloc _ _ = w1
  obtain ⟨he, o1, o2, -⟩ := alloc2 hw1
  have hrow1 : RowsAt w1 w.heap.size [rwX w.heap.size (.slice ba pts.length bc) (.slice oa ord.length oc) (.slice (some ⟨sb, so, none⟩) pts.length sc) (.slice (some ⟨rb, ro, none⟩) pts.length rc), rwX (w.heap.size + 1) (.slice none 0 0) (.slice none 0 0) (.slice none 0 0) (.slice none 0 0)] := by
    refine ⟨fun r hr => ?_, ?_⟩
    · simp only [List.mem_cons, List.mem_nil_iff, or_false] at hr
      rcases hr with rfl | rfl
      · exact bx_at o1 (Nat.le_refl _)
      · exact bx_at o2 (Nat.le_succ _)
    · refine List.pairwise_cons.2 ⟨fun r hr => ?_, List.pairwise_singleton _ _⟩
      rw [List.mem_singleton] at hr
      subst hr
      intro j hj e
      simp only [Value.ownBlock, Option.some.injEq] at hj e
      omega
  have HR0 : Hid (Ext w w1 ∧ RowsAt w1 w.heap.size (rwX w.heap.size (.slice ba pts.length bc) (.slice oa ord.length oc) (.slice (some ⟨sb, so, none⟩) pts.length sc) (.slice (some ⟨rb, ro, none⟩) pts.length rc) :: [rwX (w.heap.size + 1) (.slice none 0 0) (.slice none 0 0) (.slice none 0 0) (.slice none 0 0)])) := ⟨he, hrow1⟩
  clear hw1 o1 o2 he hrow1
  refine wi_law HR0 HST _ (by rfl) rfl ?_
  intro vs w9 ls9 hl9 hJ9 e0 e1 e2 e3 e4 e5 e6 e7 e8 e10
  simp only [Act.put, List.setIfInBounds_toArray, List.set_cons_zero, List.set_cons_succ]
  rw [e1, e2, e5, e6, e8, e10]
  have hx9 := hJ9.ext
  have hr9 := hJ9.rows
  rw [hl9 3 (by omega), hl9 7 (by omega), hl9 9 (by omega), hl9 11 (by omega)] at hr9
  simp only [stP, rsP, if_true, List.singleton_append] at hr9
  have hown3 : OwnF 115 1 stC w9 w.heap.size (vs 3) pts := hr9.get (i := 1) rfl
  have hown7 : OwnF 9 1 rsC w9 w.heap.size (vs 7) pts := hr9.get (i := 2) rfl
  obtain ⟨a3, c3, hv3⟩ := ownF_slice hown3
  obtain ⟨a7, c7, hv7⟩ := ownF_slice hown7
  rw [hv3] at hown3 hr9
  rw [hv7] at hown7 hr9
  obtain ⟨g3, rfl, -, -, -⟩ := hown3.cell stC_len k HKP.out
  obtain ⟨g7, rfl, -, -, -⟩ := hown7.cell rsC_len k HKP.out
  rw [hv3, hv7]
  have HR2 : Hid (Ext w w9 ∧ RowsAt w9 w.heap.size (rwX w.heap.size (.slice ba pts.length bc) (.slice oa ord.length oc) (.slice (some ⟨g3, 0, none⟩) pts.length c3) (.slice (some ⟨g7, 0, none⟩) pts.length c7) :: rwSt (.slice (some ⟨g3, 0, none⟩) pts.length c3) pts :: rwRs (.slice (some ⟨g7, 0, none⟩) pts.length c7) pts :: [rwX (w.heap.size + 1) (.slice none 0 0) (.slice none 0 0) (.slice none 0 0) (.slice none 0 0)])) := ⟨hx9, hr9⟩
  clear hJ9 hx9 hr9 hown3 hown7 hv3 hv7 hl9 e0 e1 e2 e3 e4 e5 e6 e7 e8 e10 HR0 HST
  generalize vs 0 = u0
  generalize vs 4 = u4
  try generalize vs 9 = u9
  try generalize vs 11 = u11
  go_upto_region 2 with fail
  refine wj_law hk0 hkn HKP HR2 _ (by rfl) rfl rfl rfl rfl ?_
  intro vs w10 ls9 hl9 hJ9 e0 e1 e2 e3 e4 e5 e6 e7 e8 e10
  simp only [Act.put, List.setIfInBounds_toArray, List.set_cons_zero, List.set_cons_succ]
  rw [e0, e1, e2, e3, e4, e5, e6, e7, e8, e10]
  obtain ⟨hx, hr⟩ := hJ9
  rw [hl9 9 (by omega), hl9 11 (by omega)] at hr
  simp only [if_true] at hr
  have HX := Lib.hid hx
  have HR := Lib.hid hr
  clear hx hr hl9 e0 e1 e2 e3 e4 e5 e6 e7 e8 e10 HR2
  try generalize vs 9 = u9
  try generalize vs 11 = u11
  obtain ⟨q0, q1, q2, q3, -, -⟩ := bx_cells (HR.out.get (i := 0) rfl)
  obtain ⟨z0, z1, z2, z3, zf, -⟩ := bx_cells (HR.out.get (i := 3) rfl)
  have f0 := zf 0
  have f1 := zf 1
  have f2 := zf 2
  have f3 := zf 3
  go_wp2_with (fail)
  have hrb := HR.out.get (i := 3) rfl
  have hrs := HR.out.get (i := 1) rfl
  have hrr := HR.out.get (i := 2) rfl
  generalize hwe : World.setCell (World.setCell (World.setCell (World.setCell w10 _ _) _ _) _ _) _ _ = we
  have hxx : ExtX (w.heap.size + 1) w10 we := by rw [← hwe]; exact ((((ExtX.refl _ w10).set 0 _).set 1 _).set 2 _).set 3 _
  have hle : w.heap.size ≤ w.heap.size + 1 := Nat.le_succ _
  have hee : Ext w we := by rw [← hwe]; exact (((HX.out.set hle _).set hle _).set hle _).set hle _
  have hb10 : w10.heap[w.heap.size + 1]? = some (.cells #[.slice none 0 0, .slice none 0 0, .slice none 0 0, .slice none 0 0] 102 (0, 0)) := row_block (sz := 4) (n := 1) hrb
  have hbe : we.heap[w.heap.size + 1]? = some (.cells #[.slice ba pts.length bc, .slice oa ord.length oc, .slice (some ⟨g3, 0, none⟩) pts.length c3, .slice (some ⟨g7, 0, none⟩) pts.length c7] 102 (0, 0)) := by
    rw [← hwe]
    exact block_set (block_set (block_set (block_set hb10 0 (.slice ba pts.length bc)) 1 (.slice oa ord.length oc)) 2 (.slice (some ⟨g3, 0, none⟩) pts.length c3)) 3 (.slice (some ⟨g7, 0, none⟩) pts.length c7)
  obtain ⟨r0, r1, r2, r3⟩ := obj_cells4 hbe
  have E9 := Ext.refl we
  have hse : OwnF 115 1 stC we w.heap.size (.slice (some ⟨g3, 0, none⟩) pts.length c3) (pts.set k p) := own_of_block hrs fun j hj => hxx.block j (hrs.lt j hj).2 (fun e => own_types_ne hrs hrb (show (115 : TypeId) ≠ 102 by decide) j (w.heap.size + 1) hj rfl e)
  have hre : OwnF 9 1 rsC we w.heap.size (.slice (some ⟨g7, 0, none⟩) pts.length c7) (pts.set k p) := own_of_block hrr fun j hj => hxx.block j (hrr.lt j hj).2 (fun e => own_types_ne hrr hrb (show (9 : TypeId) ≠ 102 by decide) j (w.heap.size + 1) hj rfl e)
  refine bodyPost_ret (v := .agg #[.slice ba pts.length bc, .slice oa ord.length oc, .slice (some ⟨g3, 0, none⟩) pts.length c3, .slice (some ⟨g7, 0, none⟩) pts.length c7]) (by simp [results, Tryz.results99, go_sem, r0 _ E9, r1 _ E9, r2 _ E9, r3 _ E9]) rfl ⟨some ⟨g3, 0, none⟩, c3, some ⟨g7, 0, none⟩, c7, rfl, hee, hse, hre⟩
end Go.Proofs.YtplbofhgmflnlaaGreat
