/-
  Walks: a book's find, some, Open, Next, State, Done.
-/
import Derived.Test.YtplbofhgmflnlaaGreatM23
set_option linter.unusedVariables false
set_option linter.unusedSimpArgs false
set_option linter.unnecessarySimpa false
namespace Go.Proofs.YtplbofhgmflnlaaGreat
open Go.RowKit
/-- A book in memory: where its struct, its points and its order lie. -/
structure Bp where
  gb : Nat
  pa : Option Addr
  pc : Nat
  oa : Option Addr
  oc : Nat
abbrev bkL (x : Bp) (pts : List Pt) (ord : List Int) : List Rw := [rwB x.gb (.slice x.pa pts.length x.pc) (.slice x.oa ord.length x.oc), rwP (.slice x.pa pts.length x.pc) pts, rwI (.slice x.oa ord.length x.oc) ord]
def BkAt (w : World) (B : Nat) (x : Bp) (pts : List Pt) (ord : List Int) : Prop := RowsAt w B (bkL x pts ord)
abbrev bkV (x : Bp) : Value := .pointer (some ⟨x.gb, 0, none⟩)
section
variable {w : World} {B : Nat} {x : Bp} {pts : List Pt} {ord : List Int}
theorem BkAt.ext {w' : World} (h : BkAt w B x pts ord) (e : Ext w w') : BkAt w' B x pts ord := RowsAt.ext h e
theorem BkAt.blk (h : BkAt w B x pts ord) : w.heap[x.gb]? = some (.cells #[.slice x.pa pts.length x.pc, .slice x.oa ord.length x.oc] 155 (0, 0)) := row_block (sz := 2) (n := 1) (RowsAt.own h _ (List.mem_cons_self))
theorem BkAt.opts (h : BkAt w B x pts ord) : OwnP w B (.slice x.pa pts.length x.pc) pts := RowsAt.own h (rwP (.slice x.pa pts.length x.pc) pts) (by simp)
theorem BkAt.oord (h : BkAt w B x pts ord) : OwnI w B (.slice x.oa ord.length x.oc) ord := RowsAt.own h (rwI (.slice x.oa ord.length x.oc) ord) (by simp)
theorem BkAt.ints (h : BkAt w B x pts ord) : Ints w x.oa ord := (OwnI.ints h.oord).1
theorem BkAt.cap (h : BkAt w B x pts ord) : ord.length ≤ x.oc := (OwnI.ints h.oord).2.2
theorem BkAt.pt (h : BkAt w B x pts ord) (i : Nat) (hi : i < pts.length) : ∃ gp, x.pa = some ⟨gp, 0, none⟩ ∧ B ≤ gp ∧ gp < w.heap.size ∧
    (∀ W, Ext w W → W.cell? ⟨gp, i * 4, none⟩ = some (.int .i64 (qth pts i).blk)) ∧ (∀ W, Ext w W → W.cell? ⟨gp, i * 4 + 1, none⟩ = some (.int .i64 (qth pts i).place)) ∧
    (∀ W, Ext w W → W.cell? ⟨gp, i * 4 + 2, none⟩ = some (.int .u8 (qth pts i).st)) ∧ (∀ W, Ext w W → W.cell? ⟨gp, i * 4 + 3, none⟩ = some (.string (qth pts i).rs)) := by
  obtain ⟨g, h1, h2, h3, h4⟩ := h.opts.cell ptC_len i hi
  rw [← qth_eq pts i hi] at h4
  refine ⟨g, h1, h2, h3, fun W e => e.cell ?_, fun W e => e.cell ?_, fun W e => e.cell ?_, fun W e => e.cell ?_⟩
  · simpa [ptC] using h4 0 (by omega)
  · simpa [ptC] using h4 1 (by omega)
  · simpa [ptC] using h4 2 (by omega)
  · simpa [ptC] using h4 3 (by omega)
end
theorem find_nil (k : Int) (w : World) : Calls Tryz.prog 96 #[.pointer none, .int .i64 k] w (Ret (.tuple #[.pointer none, .int .i64 1]) w) := by
  go_enter Tryz.func96, Tryz.ntmps96
  go_wp2_with (fail)
  go_ret2
  exact ⟨rfl, Ext.refl _⟩
set_option maxHeartbeats 1000000 in
theorem find_no (B : Nat) (x : Bp) (pts : List Pt) (ord : List Int) (k : Int) (w : World) (h : BkAt w B x pts ord) (hk : k < 0 ∨ (pts.length : Int) ≤ k) : Calls Tryz.prog 96 #[bkV x, .int .i64 k] w (Ret (.tuple #[.pointer none, .int .i64 3]) w) := by
  obtain ⟨b0, b1⟩ := obj_cells2 h.blk
  have E := Ext.refl w
  obtain ⟨gb, pa, pc, oa, oc⟩ := x
  simp only at b0 b1
  generalize pts.length = n at *
  clear h
  by_cases h0 : k < 0
  · clear hk
    go_enter Tryz.func96, Tryz.ntmps96
    go_wp2_with (fail)
    go_ret2
    exact ⟨rfl, Ext.refl _⟩
  · have hk : (n : Int) ≤ k := by omega
    go_enter Tryz.func96, Tryz.ntmps96
    go_wp2_with (fail)
    go_ret2
    exact ⟨rfl, Ext.refl _⟩
set_option maxHeartbeats 1000000 in
theorem find_ok (B : Nat) (x : Bp) (pts : List Pt) (ord : List Int) (k : Nat) (gp : Nat) (w : World) (h : BkAt w B x pts ord) (hk : k < pts.length) (hp : x.pa = some ⟨gp, 0, none⟩) : Calls Tryz.prog 96 #[bkV x, .int .i64 (k : Int)] w (Ret (.tuple #[.pointer (some ⟨gp, k * 4, none⟩), .int .i64 0]) w) := by
  obtain ⟨b0, b1⟩ := obj_cells2 h.blk
  have E := Ext.refl w
  obtain ⟨gb, pa, pc, oa, oc⟩ := x
  simp only at b0 b1 hp
  subst hp
  generalize pts.length = n at *
  clear h
  have h0 : (0 : Int) ≤ (k : Int) := by omega
  have h1 : (k : Int) < (n : Int) := by omega
  go_enter Tryz.func96, Tryz.ntmps96
  go_wp2_with (fail)
  go_ret2
  exact ⟨rfl, Ext.refl _⟩
end Go.Proofs.YtplbofhgmflnlaaGreat
