/-
  Walk: sameLinks (of equal chains).
-/
import Derived.Test.YtlahejakcgoheaaTB
import Derived.Test.YtlahejakcgoheaaLD
set_option linter.unusedVariables false
set_option linter.unusedSimpArgs false
namespace Go.Proofs.Ytlahejakcgoheaa
open Go.RowKit
theorem array10 {α : Type} {cs : Array α} (h : cs.size = 10) : ∃ c0 c1 c2 c3 c4 c5 c6 c7 c8 c9, cs = #[c0, c1, c2, c3, c4, c5, c6, c7, c8, c9] := by
  obtain ⟨l⟩ := cs
  match l, h with
  | [c0, c1, c2, c3, c4, c5, c6, c7, c8, c9], _ => exact ⟨c0, c1, c2, c3, c4, c5, c6, c7, c8, c9, rfl⟩
/-- Ten stores into a block of ten cells. -/
theorem sets10 {w w1 : World} {g : Nat} {T : TypeId} {v0 v1 v2 v3 v4 v5 v6 v7 v8 v9 : Value} (hb : w1.heap[g]? = some (.cells #[v0, v1, v2, v3, v4, v5, v6, v7, v8, v9] T (0, 0))) (hg : w.heap.size ≤ g) (e : Ext w w1) (u0 u1 u2 u3 u4 u5 u6 u7 u8 u9 : Value) :
    ((((((((((w1.setCell ⟨g, 0, none⟩ u0).setCell ⟨g, 1, none⟩ u1).setCell ⟨g, 2, none⟩ u2).setCell ⟨g, 3, none⟩ u3).setCell ⟨g, 4, none⟩ u4).setCell ⟨g, 5, none⟩ u5).setCell ⟨g, 6, none⟩ u6).setCell ⟨g, 7, none⟩ u7).setCell ⟨g, 8, none⟩ u8).setCell ⟨g, 9, none⟩ u9).heap[g]? = some (.cells #[u0, u1, u2, u3, u4, u5, u6, u7, u8, u9] T (0, 0)) ∧
    Ext w ((((((((((w1.setCell ⟨g, 0, none⟩ u0).setCell ⟨g, 1, none⟩ u1).setCell ⟨g, 2, none⟩ u2).setCell ⟨g, 3, none⟩ u3).setCell ⟨g, 4, none⟩ u4).setCell ⟨g, 5, none⟩ u5).setCell ⟨g, 6, none⟩ u6).setCell ⟨g, 7, none⟩ u7).setCell ⟨g, 8, none⟩ u8).setCell ⟨g, 9, none⟩ u9) ∧
    ∀ k, k ≠ g → ((((((((((w1.setCell ⟨g, 0, none⟩ u0).setCell ⟨g, 1, none⟩ u1).setCell ⟨g, 2, none⟩ u2).setCell ⟨g, 3, none⟩ u3).setCell ⟨g, 4, none⟩ u4).setCell ⟨g, 5, none⟩ u5).setCell ⟨g, 6, none⟩ u6).setCell ⟨g, 7, none⟩ u7).setCell ⟨g, 8, none⟩ u8).setCell ⟨g, 9, none⟩ u9).heap[k]? = w1.heap[k]? := by
  refine ⟨?_, ?_, fun k q => ?_⟩
  · have b0 := block_set hb 0 u0
    have b1 := block_set b0 1 u1
    have b2 := block_set b1 2 u2
    have b3 := block_set b2 3 u3
    have b4 := block_set b3 4 u4
    have b5 := block_set b4 5 u5
    have b6 := block_set b5 6 u6
    have b7 := block_set b6 7 u7
    have b8 := block_set b7 8 u8
    have b9 := block_set b8 9 u9
    simp only [List.setIfInBounds_toArray, List.set_cons_succ, List.set_cons_zero] at b9
    exact b9
  · exact (((((((((e.set hg _).set hg _).set hg _).set hg _).set hg _).set hg _).set hg _).set hg _).set hg _).set hg _
  · rw [heap_set_ne _ q, heap_set_ne _ q, heap_set_ne _ q, heap_set_ne _ q, heap_set_ne _ q, heap_set_ne _ q, heap_set_ne _ q, heap_set_ne _ q, heap_set_ne _ q, heap_set_ne _ q]
set_option maxRecDepth 100000 in
set_option maxHeartbeats 4000000 in
theorem l28_law {x y : Lv} {ba oa bb ob k n c c' : Nat} {wr : World} (hk0 : (0 : Int) ≤ (k : Int)) (hk1 : (k : Int) < (n : Int)) (HX : Hid (∀ W, Ext wr W → LinkC W ba (oa + k * 10) x)) (HY : Hid (∀ W, Ext wr W → LinkC W bb (ob + k * 10) y)) {Q : Exit → Act → World → Prop} (aZ : Act) (hsz : aZ.tmps.size = 96) (o0 : aZ.tmps[0]?.getD undef = .slice (some ⟨ba, oa, none⟩) n c) (o1 : aZ.tmps[1]?.getD undef = .slice (some ⟨bb, ob, none⟩) n c') (o5 : aZ.tmps[5]?.getD undef = .int .i64 k)
    (hend : ∀ (vs : Nat → Value) (w9 : World) (ls9 : Nat → Bool), (∀ j : Nat, j < 12 → ls9 j = true) → (Ext wr w9 ∧ (ls9 8 = true → ∃ g cs, vs 8 = .pointer (some ⟨g, 0, none⟩) ∧ wr.heap.size ≤ g ∧ w9.heap[g]? = some (.cells cs 59 (0, 0)) ∧ cs.size = 10 ∧ (ls9 10 = true → cs = lcells x)) ∧ (ls9 9 = true → ∃ g cs, vs 9 = .pointer (some ⟨g, 0, none⟩) ∧ wr.heap.size ≤ g ∧ w9.heap[g]? = some (.cells cs 59 (0, 0)) ∧ cs.size = 10 ∧ (ls9 11 = true → cs = lcells y)) ∧ (ls9 8 = true → ls9 9 = true → vs 8 ≠ vs 9) ∧ (ls9 10 = true → ls9 8 = true) ∧ (ls9 11 = true → ls9 9 = true)) → (vs 0 = .slice (some ⟨ba, oa, none⟩) n c) → (vs 1 = .int .i64 k) → (vs 2 = .pointer (some ⟨ba, oa + k * 10, none⟩)) → (vs 3 = lval x) → (vs 4 = .slice (some ⟨bb, ob, none⟩) n c') → (vs 5 = .int .i64 k) → (vs 6 = .pointer (some ⟨bb, ob + k * 10, none⟩)) → (vs 7 = lval y) → (∃ g, vs 8 = .pointer (some ⟨g, 0, none⟩)) → (∃ g, vs 9 = .pointer (some ⟨g, 0, none⟩)) → Q .normal ((((((((((aZ.put (some 19) (vs 0)).put (some 20) (vs 1)).put (some 21) (vs 2)).put (some 22) (vs 3)).put (some 23) (vs 4)).put (some 24) (vs 5)).put (some 25) (vs 6)).put (some 26) (vs 7)).put (some 6) (vs 8)).put (some 7) (vs 9)) w9) : (regOf Try.f28 6).wp Try.prog Q aZ wr := by
  conv => arg 2; whnf
  refine wp_region_said3 (fun i v wz => match i with
    | 0 => v = .slice (some ⟨ba, oa, none⟩) n c
    | 1 => v = .int .i64 k
    | 2 => v = .pointer (some ⟨ba, oa + k * 10, none⟩)
    | 3 => v = lval x
    | 4 => v = .slice (some ⟨bb, ob, none⟩) n c'
    | 5 => v = .int .i64 k
    | 6 => v = .pointer (some ⟨bb, ob + k * 10, none⟩)
    | 7 => v = lval y
    | 8 => ∃ g, v = .pointer (some ⟨g, 0, none⟩)
    | 9 => ∃ g, v = .pointer (some ⟨g, 0, none⟩)
    | 10 => True
    | _ => True) (fun ls vs wz => Ext wr wz ∧ (ls 8 = true → ∃ g cs, vs 8 = .pointer (some ⟨g, 0, none⟩) ∧ wr.heap.size ≤ g ∧ wz.heap[g]? = some (.cells cs 59 (0, 0)) ∧ cs.size = 10 ∧ (ls 10 = true → cs = lcells x)) ∧ (ls 9 = true → ∃ g cs, vs 9 = .pointer (some ⟨g, 0, none⟩) ∧ wr.heap.size ≤ g ∧ wz.heap[g]? = some (.cells cs 59 (0, 0)) ∧ cs.size = 10 ∧ (ls 11 = true → cs = lcells y)) ∧ (ls 8 = true → ls 9 = true → vs 8 ≠ vs 9) ∧ (ls 10 = true → ls 8 = true) ∧ (ls 11 = true → ls 9 = true)) (by kernel_rfl) (by kernel_rfl) (by rw [hsz]; kernel_rfl) ?_ ?_ ?_
  · exact ⟨(Ext.refl _).drew, fun e => (by cases e), fun e => (by cases e), fun e => (by cases e), fun e => (by cases e), fun e => (by cases e)⟩
  · refine ⟨?_, ?_, ?_, ?_, ?_, ?_, ?_, ?_, ?_, ?_, ?_, ?_, trivial⟩
    · intro ls vs a w1 hi hJ hold hdep K hK
      have q0 : a.tmps[0]?.getD undef = .slice (some ⟨ba, oa, none⟩) n c := (hold 0 (by kernel_rfl)).trans o0
      rw [if_pos (by rfl)]
      clear hold hdep hend o0 o1 o5
      have HJ := Lib.hid hJ
      clear hJ
      go_simp
      exact hK _ _ (fun _ _ _ h => h) HJ.out rfl
    · intro ls vs a w1 hi hJ hold hdep K hK
      have q5 : a.tmps[5]?.getD undef = .int .i64 k := (hold 5 (by kernel_rfl)).trans o5
      rw [if_pos (by rfl)]
      clear hold hdep hend o0 o1 o5
      have HJ := Lib.hid hJ
      clear hJ
      go_simp
      exact hK _ _ (fun _ _ _ h => h) HJ.out rfl
    · intro ls vs a w1 hi hJ hold hdep K hK
      have q19 : a.tmps[19]?.getD undef = .slice (some ⟨ba, oa, none⟩) n c := (hdep 0 19 (by kernel_rfl) (by kernel_rfl)).2.1.trans (hdep 0 19 (by kernel_rfl) (by kernel_rfl)).2.2
      have q20 : a.tmps[20]?.getD undef = .int .i64 k := (hdep 1 20 (by kernel_rfl) (by kernel_rfl)).2.1.trans (hdep 1 20 (by kernel_rfl) (by kernel_rfl)).2.2
      rw [if_pos (by rfl)]
      clear hold hdep hend o0 o1 o5
      have HJ := Lib.hid hJ
      clear hJ
      go_simp
      exact hK _ _ (fun _ _ _ h => h) HJ.out rfl
    · intro ls vs a w1 hi hJ hold hdep K hK
      have q21 : a.tmps[21]?.getD undef = .pointer (some ⟨ba, oa + k * 10, none⟩) := (hdep 2 21 (by kernel_rfl) (by kernel_rfl)).2.1.trans (hdep 2 21 (by kernel_rfl) (by kernel_rfl)).2.2
      rw [if_pos (by rfl)]
      clear hold hdep hend o0 o1 o5
      have HJ := Lib.hid hJ
      clear hJ
      have hz1 := HJ.out.1
      obtain ⟨x0, x1, x2, x3, x4, x5, x6, x7, x8, x9⟩ := HX.out _ hz1
      go_simp
      exact hK _ _ (fun _ _ _ h => h) HJ.out rfl
    · intro ls vs a w1 hi hJ hold hdep K hK
      have q1 : a.tmps[1]?.getD undef = .slice (some ⟨bb, ob, none⟩) n c' := (hold 1 (by kernel_rfl)).trans o1
      rw [if_pos (by rfl)]
      clear hold hdep hend o0 o1 o5
      have HJ := Lib.hid hJ
      clear hJ
      go_simp
      exact hK _ _ (fun _ _ _ h => h) HJ.out rfl
    · intro ls vs a w1 hi hJ hold hdep K hK
      have q5 : a.tmps[5]?.getD undef = .int .i64 k := (hold 5 (by kernel_rfl)).trans o5
      rw [if_pos (by rfl)]
      clear hold hdep hend o0 o1 o5
      have HJ := Lib.hid hJ
      clear hJ
      go_simp
      exact hK _ _ (fun _ _ _ h => h) HJ.out rfl
    · intro ls vs a w1 hi hJ hold hdep K hK
      have q23 : a.tmps[23]?.getD undef = .slice (some ⟨bb, ob, none⟩) n c' := (hdep 4 23 (by kernel_rfl) (by kernel_rfl)).2.1.trans (hdep 4 23 (by kernel_rfl) (by kernel_rfl)).2.2
      have q24 : a.tmps[24]?.getD undef = .int .i64 k := (hdep 5 24 (by kernel_rfl) (by kernel_rfl)).2.1.trans (hdep 5 24 (by kernel_rfl) (by kernel_rfl)).2.2
      rw [if_pos (by rfl)]
      clear hold hdep hend o0 o1 o5
      have HJ := Lib.hid hJ
      clear hJ
      go_simp
      exact hK _ _ (fun _ _ _ h => h) HJ.out rfl
    · intro ls vs a w1 hi hJ hold hdep K hK
      have q25 : a.tmps[25]?.getD undef = .pointer (some ⟨bb, ob + k * 10, none⟩) := (hdep 6 25 (by kernel_rfl) (by kernel_rfl)).2.1.trans (hdep 6 25 (by kernel_rfl) (by kernel_rfl)).2.2
      rw [if_pos (by rfl)]
      clear hold hdep hend o0 o1 o5
      have HJ := Lib.hid hJ
      clear hJ
      have hz1 := HJ.out.1
      obtain ⟨x0, x1, x2, x3, x4, x5, x6, x7, x8, x9⟩ := HY.out _ hz1
      go_simp
      exact hK _ _ (fun _ _ _ h => h) HJ.out rfl
    · intro ls vs a w1 hi hJ hold hdep K hK
      rw [if_pos (by rfl)]
      clear hold hdep hend o0 o1 o5
      have HJ := Lib.hid hJ
      clear hJ
      obtain ⟨j1, j2, j3, j4, j5, j6⟩ := HJ.out
      go_simp
      have hi8 : ls 8 = false := hi
      have hx := (Ext.refl w1).alloc (.cells #[.int .u8 0, .string ⟨#[]⟩, .string ⟨#[]⟩, .int .i64 0, .int .i64 0, .int .i64 0, .int .i64 0, .slice none 0 0, .int .u64 0, .int .u64 0] 59)
      exact hK _ _ (fun _ _ _ h => h) ⟨j1.trans hx, fun _ => ⟨_, _, by simp, j1.size, heap_new _ _, rfl, fun e => by have := j5 (by simpa using e); rw [hi8] at this; cases this⟩, fun e => by obtain ⟨g, cs, q1, q2, q3, q4, q5⟩ := j3 (by simpa using e); exact ⟨g, cs, by simpa using q1, q2, hx.block q3, q4, fun e => q5 (by simpa using e)⟩, fun _ e => by obtain ⟨g, cs, q1, q2, q3, q4, q5⟩ := j3 (by simpa using e); have := lt_of_block q3; simp [q1, Nat.ne_of_gt this], fun e => by simp, fun e => by have := j6 (by simpa using e); simpa using this⟩ ⟨_, rfl⟩
    · intro ls vs a w1 hi hJ hold hdep K hK
      rw [if_pos (by rfl)]
      clear hold hdep hend o0 o1 o5
      have HJ := Lib.hid hJ
      clear hJ
      obtain ⟨j1, j2, j3, j4, j5, j6⟩ := HJ.out
      go_simp
      have hi9 : ls 9 = false := hi
      have hx := (Ext.refl w1).alloc (.cells #[.int .u8 0, .string ⟨#[]⟩, .string ⟨#[]⟩, .int .i64 0, .int .i64 0, .int .i64 0, .int .i64 0, .slice none 0 0, .int .u64 0, .int .u64 0] 59)
      exact hK _ _ (fun _ _ _ h => h) ⟨j1.trans hx, fun e => by obtain ⟨g, cs, q1, q2, q3, q4, q5⟩ := j2 (by simpa using e); exact ⟨g, cs, by simpa using q1, q2, hx.block q3, q4, fun e => q5 (by simpa using e)⟩, fun _ => ⟨_, _, by simp, j1.size, heap_new _ _, rfl, fun e => by have := j6 (by simpa using e); rw [hi9] at this; cases this⟩, fun e _ => by obtain ⟨g, cs, q1, q2, q3, q4, q5⟩ := j2 (by simpa using e); have := lt_of_block q3; simp [q1, Nat.ne_of_lt this], fun e => by have := j5 (by simpa using e); simpa using this, fun e => by simp⟩ ⟨_, rfl⟩
    · intro ls vs a w1 hi hJ hold hdep K hK
      obtain ⟨hl8, q6, p6⟩ := hdep 8 6 (by kernel_rfl) (by kernel_rfl)
      have q22 : a.tmps[22]?.getD undef = lval x := (hdep 3 22 (by kernel_rfl) (by kernel_rfl)).2.1.trans (hdep 3 22 (by kernel_rfl) (by kernel_rfl)).2.2
      rw [if_pos (by rfl)]
      clear hold hdep hend o0 o1 o5
      have HJ := Lib.hid hJ
      clear hJ
      obtain ⟨j1, j2, j3, j4, j5, j6⟩ := HJ.out
      have hl8' : ls 8 = true := hl8
      obtain ⟨g, cs, e8, hge, hb, hsz10, hcs⟩ := j2 hl8
      rw [e8] at q6
      obtain ⟨v0, v1, v2, v3, v4, v5, v6, v7, v8, v9, rfl⟩ := array10 hsz10
      obtain ⟨hst, hx, hoth⟩ := sets10 hb hge j1 (.int .u8 x.l.op) (.string x.l.cu) (.string x.l.ki) (.int .i64 x.l.nu) (.int .i64 x.l.ve) (.int .i64 x.l.da) (.int .i64 x.l.un) (.slice x.ba x.l.bo.length x.bc) (.int .u64 x.l.tag) (.int .u64 x.l.ch)
      obtain ⟨d0, d1, d2, d3, d4, d5, d6, d7, d8, d9⟩ := obj_cells10 hb
      have fr := obj_free hb
      have E1 := Ext.refl w1
      go_simp
      clear d0 d1 d2 d3 d4 d5 d6 d7 d8 d9 fr E1 HJ
      exact hK undef _ (fun _ _ _ h => h) ⟨hx, fun _ => ⟨g, _, by simpa using e8, hge, hst, rfl, fun _ => rfl⟩, fun e => by have hh := j3 (by simpa using e); obtain ⟨g', cs', r1, r2, r3, r4, r5⟩ := hh; exact ⟨g', cs', by simpa using r1, r2, (hoth g' (fun q => by subst q; exact j4 hl8 (by simpa using e) (e8.trans r1.symm))).trans r3, r4, fun e => r5 (by simpa using e)⟩, fun e1 e2 => by have := j4 (by simpa using e1) (by simpa using e2); simpa using this, fun e => by simpa using hl8, fun e => by have := j6 (by simpa using e); simpa using this⟩ trivial
    · intro ls vs a w1 hi hJ hold hdep K hK
      obtain ⟨hl9, q7, p7⟩ := hdep 9 7 (by kernel_rfl) (by kernel_rfl)
      have q26 : a.tmps[26]?.getD undef = lval y := (hdep 7 26 (by kernel_rfl) (by kernel_rfl)).2.1.trans (hdep 7 26 (by kernel_rfl) (by kernel_rfl)).2.2
      rw [if_pos (by rfl)]
      clear hold hdep hend o0 o1 o5
      have HJ := Lib.hid hJ
      clear hJ
      obtain ⟨j1, j2, j3, j4, j5, j6⟩ := HJ.out
      have hl9' : ls 9 = true := hl9
      obtain ⟨g, cs, e8, hge, hb, hsz10, hcs⟩ := j3 hl9
      rw [e8] at q7
      obtain ⟨v0, v1, v2, v3, v4, v5, v6, v7, v8, v9, rfl⟩ := array10 hsz10
      obtain ⟨hst, hx, hoth⟩ := sets10 hb hge j1 (.int .u8 y.l.op) (.string y.l.cu) (.string y.l.ki) (.int .i64 y.l.nu) (.int .i64 y.l.ve) (.int .i64 y.l.da) (.int .i64 y.l.un) (.slice y.ba y.l.bo.length y.bc) (.int .u64 y.l.tag) (.int .u64 y.l.ch)
      obtain ⟨d0, d1, d2, d3, d4, d5, d6, d7, d8, d9⟩ := obj_cells10 hb
      have fr := obj_free hb
      have E1 := Ext.refl w1
      go_simp
      clear d0 d1 d2 d3 d4 d5 d6 d7 d8 d9 fr E1 HJ
      exact hK undef _ (fun _ _ _ h => h) ⟨hx, fun e => by have hh := j2 (by simpa using e); obtain ⟨g', cs', r1, r2, r3, r4, r5⟩ := hh; exact ⟨g', cs', by simpa using r1, r2, (hoth g' (fun q => by subst q; exact j4 (by simpa using e) hl9 (r1.trans e8.symm))).trans r3, r4, fun e => r5 (by simpa using e)⟩, fun _ => ⟨g, _, by simpa using e8, hge, hst, rfl, fun _ => rfl⟩, fun e1 e2 => by have := j4 (by simpa using e1) (by simpa using e2); simpa using this, fun e => by have := j5 (by simpa using e); simpa using this, fun e => by simpa using hl9⟩ trivial
  · intro vs w9 ls9 hl9 hJ9 hφ
    have e0 := hφ 0 (by kernel_rfl)
    have e1 := hφ 1 (by kernel_rfl)
    have e2 := hφ 2 (by kernel_rfl)
    have e3 := hφ 3 (by kernel_rfl)
    have e4 := hφ 4 (by kernel_rfl)
    have e5 := hφ 5 (by kernel_rfl)
    have e6 := hφ 6 (by kernel_rfl)
    have e7 := hφ 7 (by kernel_rfl)
    have e8 := hφ 8 (by kernel_rfl)
    have e9 := hφ 9 (by kernel_rfl)
    have hq := hend vs w9 ls9 hl9 hJ9 e0 e1 e2 e3 e4 e5 e6 e7 e8 e9
    simp only [Act.put] at hq
    simp only [putAll, Act.put]
    exact hq
set_option maxRecDepth 100000 in
set_option maxHeartbeats 4000000 in
theorem sameLinks_any (a a' : Option Addr) (xs ys : List Lv) (c c' : Nat) (w : World) (hx : Links w a xs) (hy : Links w a' ys) (he : lks xs = lks ys) (ho : LksOk xs) (hl : xs.length ≤ 9223372036854775807) :
    Calls Try.prog 28 #[.slice a xs.length c, .slice a' ys.length c'] w (Ret (.bool true) w) := by
  have HX := Lib.hid hx; have HY := Lib.hid hy; have HO := Lib.hid ho
  have hlen : ys.length = xs.length := by rw [← lks_len, ← lks_len xs, he]
  have hxy : ∀ i, i < xs.length → (lth ys i).l = (lth xs i).l := fun i hi => by
    have h1 : (lks xs)[i]? = some (lth xs i).l := by rw [lth_eq _ _ hi]; simp [lks, hi]
    have h2 : (lks ys)[i]? = some (lth ys i).l := by rw [lth_eq _ _ (by omega)]; simp [lks, show i < ys.length by omega]
    rw [he, h2] at h1
    exact Option.some.inj h1
  have HXY := Lib.hid hxy
  rw [hlen]
  obtain ⟨n, hn⟩ : ∃ n, n = xs.length := ⟨_, rfl⟩
  have HN := Lib.hid hn; have HL := Lib.hid hlen
  rw [← hn] at hl ⊢
  clear hx hy ho hlen hxy hn he
  go_enter Try.func28, Try.ntmps28
  go_wp2_with (fail)
  go_loopw [5] (fun i wr => ∃ k : Nat, k ≤ n ∧ i = .int .i64 k ∧ Ext w wr) (fun i _ => n - (intOf i).toNat)
  case atStart => exact ⟨0, Nat.zero_le _, rfl, Ext.refl w⟩
  case round =>
    obtain ⟨k, hk, rfl, he⟩ := hrel
    by_cases hlt : k < n
    · have hltx : k < xs.length := by rw [← HN.out]; exact hlt
      obtain ⟨b, o, rfl, hc⟩ := HX.out.at k hltx
      obtain ⟨b', o', rfl, hc'⟩ := HY.out.at k (by rw [HL.out]; exact hltx)
      have hcr := Lib.hid (fun W (e : Ext wr W) => hc W (he.trans e))
      have hcr' := Lib.hid (fun W (e : Ext wr W) => hc' W (he.trans e))
      have hby := HX.out.2 k hltx
      have hby' := HY.out.2 k (by rw [HL.out]; exact hltx)
      have hll := HXY.out k hltx
      have hok := HO.out k hltx
      obtain ⟨x, hxx⟩ : ∃ x, x = lth xs k := ⟨_, rfl⟩
      obtain ⟨y, hyy⟩ : ∃ y, y = lth ys k := ⟨_, rfl⟩
      rw [← hxx] at hcr hby hll hok
      rw [← hyy] at hcr' hby' hll
      have hsm : ∀ W, Ext w W → Calls Try.prog 18 #[.slice x.ba x.l.bo.length x.bc, .slice y.ba x.l.bo.length y.bc] W (Ret (.bool true) W) := fun W e => by
        have h0 := hby'.ext e
        rw [hll] at h0
        have := sameBytes_any x.ba y.ba x.l.bo x.l.bo x.bc y.bc W (hby.ext e) h0 (by have := hok.bo; omega)
        rwa [decide_eq_true rfl] at this
      have HSM := Lib.hid hsm
      have HLL := Lib.hid hll
      have hk0 : (0 : Int) ≤ (k : Int) := by omega
      have hk1 : (k : Int) < (n : Int) := by omega
      clear hc hc' hby hby' hll hok hxx hyy hsm hltx
      go_upto_region 6 with fail
      refine l28_law hk0 hk1 hcr hcr' _ (by rfl) rfl rfl rfl ?_
      intro vs w9 ls9 hl9 hJ9 e0 e1 e2 e3 e4 e5 e6 e7 e8 e9
      obtain ⟨j1, j2, j3, j4, j5, j6⟩ := hJ9
      obtain ⟨g, cs, q1, q2, q3, q4, q5⟩ := j2 (hl9 8 (by omega))
      obtain ⟨g', cs', r1, r2, r3, r4, r5⟩ := j3 (hl9 9 (by omega))
      rw [q5 (hl9 10 (by omega))] at q3
      rw [r5 (hl9 11 (by omega))] at r3
      obtain ⟨c0, c1, c2, c3, c4, c5, c6, c7, c8, c9⟩ := obj_cells10 q3
      obtain ⟨d0, d1, d2, d3, d4, d5, d6, d7, d8, d9⟩ := obj_cells10 r3
      rw [HLL.out] at d0 d1 d2 d3 d4 d5 d6 d7 d8 d9
      have he9 := he.trans j1
      have E9 := Ext.refl w9
      simp only [Act.put, List.setIfInBounds_toArray, List.set_cons_zero, List.set_cons_succ]
      rw [e0, e1, e2, e3, e4, e5, e6, e7, q1, r1]
      clear e0 e1 e2 e3 e4 e5 e6 e7 e8 e9 j1 j2 j3 j4 j5 j6 q1 q2 q3 q4 q5 r1 r2 r3 r4 r5 hl9 hcr hcr'
      go_wp2_with (fail)
      (with_reducible refine (HSM.out _ he9).mono ?_); rintro e w10 ⟨rfl, he10⟩
      have he11 := he9.trans he10
      go_wp2_with (fail)
      go_roundw
      case rel => exact ⟨k + 1, by omega, by go_num, he11⟩
      case measure => simp [intOf]; omega
    · obtain rfl : k = n := by omega
      go_wp2_with (fail)
      go_ret
      exact ⟨rfl, he⟩
end Go.Proofs.Ytlahejakcgoheaa
