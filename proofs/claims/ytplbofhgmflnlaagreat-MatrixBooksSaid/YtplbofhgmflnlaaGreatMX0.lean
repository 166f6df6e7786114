/-
  Rows of settings that are the call's own.
-/
import Derived.Test.YtplbofhgmflnlaaGreatMK8
set_option linter.unusedVariables false
set_option linter.unusedSimpArgs false
namespace Go.Proofs.YtplbofhgmflnlaaGreat
open Go.RowKit
abbrev OwnS (w : World) (B : Nat) (v : Value) (ss : List Se) : Prop := OwnF 49 2 setC w B v ss
theorem info49 : (Tryz.prog.info? 49).map (fun i => (i.zero, i.size, i.bytes)) = some (some (.agg #[.slice none 0 0, .int .i64 0]), 2, 32) := by kernel_rfl
theorem app_set (w : World) (B : Nat) (ty : TypeId) (v : Value) (xs ys : List Se) (a : Option Addr) (c : Nat) (hv : OwnS w B v xs) (hx : Sets w a ys) (hn : xs.length + ys.length ≤ 1000000) (hB : B ≤ w.heap.size) :
    ∃ v' w', (Builtin.append_ #[26, 26] ty #[v, .slice a ys.length c]).run Tryz.prog w = .ok v' w' ∧ OwnS w' B v' (xs ++ ys) ∧ w.grownBy w' v.ownBlock := by
  obtain ⟨i0, hi, hz0, hz1, hz2⟩ := info_parts info49
  exact app_row setC_len setC_one Tryz.underlying26 hi hz0 hz1 hz2 rfl (by omega) (by omega) w B ty v xs ys a c hv hx hn hB
theorem set_one {w : World} {b : Nat} {x : Se} {T : TypeId} {fz : Nat × Nat} (h : w.heap[b]? = some (.cells #[.slice x.lv.a x.lv.xs.length x.lv.c, .int .i64 x.blk] T fz)) : Sets w (some ⟨b, 0, none⟩) [x] := by
  obtain ⟨c0, c1⟩ := obj_cells2 h
  refine .inr ⟨b, 0, rfl, fun i hi j hj => ?_⟩
  obtain rfl : i = 0 := by simp at hi; omega
  match j, hj with
  | 0, _ => exact c0 w (Ext.refl w)
  | 1, _ => exact c1 w (Ext.refl w)
theorem ownS_block {w : World} {B : Nat} {v : Value} {ss : List Se} (h : OwnS w B v ss) : ∀ k, v.ownBlock = some k → B ≤ k := fun k hk => (h.lt k hk).1
theorem ownS_slice {w : World} {B : Nat} {v : Value} {ss : List Se} (h : OwnS w B v ss) : ∃ a n c, v = .slice a n c := by
  rcases h.2 with ⟨h, _⟩ | ⟨g, cap, cur, h, _⟩
  · exact ⟨_, _, _, h⟩
  · exact ⟨_, _, _, h⟩
end Go.Proofs.YtplbofhgmflnlaaGreat
