/-
  More base words: rows of bytes (what is seen).
-/
import Derived.Test.YtjpgignbjkgjiaaB4
set_option linter.unusedVariables false
set_option linter.unusedSimpArgs false
namespace Go.Proofs.Ytjpgignbjkgjiaa
open Go.RowKit
def rowU (xs : List Int) : List Value := xs.map (Value.int .u8)
theorem rowU_len (xs : List Int) : (rowU xs).length = xs.length := by simp [rowU]
theorem rowU_get (xs : List Int) (i : Nat) (h : i < xs.length) : (rowU xs)[i]? = some (.int .u8 (nth xs i)) := by simp [rowU, nth_eq _ _ h, h]
theorem rowU_set (n : Nat) (f : Nat → Int) (j : Nat) (v : Int) : (rowU (fl n f)).set j (.int .u8 v) = rowU (fl n fun i => if i = j then v else f i) := by
  unfold rowU fl
  apply List.ext_getElem
  · simp
  · intro i h1 h2
    simp only [List.getElem_set, List.getElem_map, List.getElem_range]
    by_cases h : i = j
    · simp [h]
    · have h' : ¬ j = i := fun e => h e.symm
      simp [h, h']
def OwnU (w : World) (B : Nat) (v : Value) (xs : List Int) : Prop := w.ownsRow B 38 1 v xs.length (rowU xs)
theorem ownU_set {w : World} {B g n c j : Nat} {f : Nat → Int} (h : OwnU w B (.slice (some ⟨g, 0, none⟩) n c) (fl n f)) (v : Int) :
    OwnU (w.setCell ⟨g, j, none⟩ (.int .u8 v)) B (.slice (some ⟨g, 0, none⟩) n c) (fl n fun i => if i = j then v else f i) := by
  unfold OwnU at *
  rw [fl_len] at *
  have := (h.stored j (.int .u8 v)).1
  rw [rowU_set] at this
  exact this
theorem ownU_free {w : World} {B g n c : Nat} {xs : List Int} (hn : xs.length = n) (h : OwnU w B (.slice (some ⟨g, 0, none⟩) n c) xs) (j : Nat) : w.frozen? ⟨g, j, none⟩ = false := by
  subst hn; exact h.frozenAt j
theorem ownU_cell {w : World} {B g n c : Nat} {xs : List Int} (hn : xs.length = n) (h : OwnU w B (.slice (some ⟨g, 0, none⟩) n c) xs) (j : Nat) (hj : j < n) : w.cell? ⟨g, j, none⟩ = some (.int .u8 (nth xs j)) := by
  subst hn; rw [h.cellAt j (by omega), rowU_get _ _ hj]
theorem OwnU.ext {w w' : World} {B : Nat} {v : Value} {xs : List Int} (h : OwnU w B v xs) (e : Ext w w') : OwnU w' B v xs := by
  obtain ⟨h1, h2⟩ := h
  refine ⟨h1, ?_⟩
  rcases h2 with h2 | ⟨g, cap, cur, hv, hg, hh, r⟩
  · exact .inl h2
  · exact .inr ⟨g, cap, cur, hv, hg, e.block hh, r⟩
theorem info38 : (Try.prog.info? 38).map (fun i => (i.zero, i.size, i.bytes)) = some (some (.int .u8 0), 1, 1) := by kernel_rfl
/-- The world behind 'make([]api.Seen, n)'. -/
def madeU (W : World) (n : Nat) : World := W.alloc (.cells (madeCells #[.int .u8 0] n) 38)
theorem run_madeU (n : Nat) (hn : n ≤ 1000000) (W : World) : (Instr.makeSlice 30 (.int .i64 (n : Int)) (.int .i64 (n : Int))).run Try.prog W = .ok (.slice (some ⟨W.heap.size, 0, none⟩) n n) (madeU W n) := by
  obtain ⟨i0, hi, hz0, hz1, hz2⟩ := info_parts info38
  have := run_make (P := Try.prog) W 30 38 i0 (.int .u8 0) Try.underlying30 hi hz0 .i64 .i64 n n
  rw [hz1, hz2] at this
  have h := this (by omega) (by omega) (by omega) (by omega)
  rw [Int.toNat_natCast, Nat.mul_one] at h
  exact h
theorem madeU_facts {W w1 : World} {n : Nat} (hn : n ≤ 1000000) (h : madeU W n = w1) : Ext W w1 ∧ OwnU w1 W.heap.size (.slice (some ⟨W.heap.size, 0, none⟩) n n) (fl n fun _ => 0) ∧ w1.heap.size = W.heap.size + 1 := by
  subst h
  refine ⟨(Ext.refl W).alloc _, ?_, heap_size _ _⟩
  unfold OwnU
  rw [fl_len]
  have e : (madeCells #[Value.int .u8 0] n).toList = rowU (fl n fun _ => 0) := by
    rw [toList_madeCells_one]
    unfold rowU fl
    apply List.ext_getElem
    · simp
    · intro i h1 h2; simp
  rw [← e]
  have := World.ownsRow_lit (size := 1) (e := 38) (base := W.heap.size) W (madeCells #[Value.int .u8 0] n) n (Nat.le_refl _) (by unfold maxLen; omega) (by rw [size_madeCells]; omega)
  exact this
@[go_sem] theorem ext_madeU {a w : World} (h : Ext a w) (n : Nat) : Ext a (madeU w n) := h.alloc _
@[go_sem] theorem size_madeU (w : World) (n : Nat) : (madeU w n).heap.size = w.heap.size + 1 := heap_size _ _
/-- Under this head lie these bytes. -/
def Byts (w : World) (a : Option Addr) (xs : List Int) : Prop :=
  xs = [] ∨ ∃ b o, a = some ⟨b, o, none⟩ ∧ ∀ i, i < xs.length → w.cell? ⟨b, o + i, none⟩ = some (.int .u8 (nth xs i))
theorem Byts.ext {w w' : World} {a : Option Addr} {xs : List Int} (h : Byts w a xs) (e : Ext w w') : Byts w' a xs := by
  rcases h with h | ⟨b, o, h1, h2⟩
  · exact .inl h
  · exact .inr ⟨b, o, h1, fun i hi => e.cell (h2 i hi)⟩
theorem Byts.at {w : World} {a : Option Addr} {xs : List Int} (h : Byts w a xs) (i : Nat) (hi : i < xs.length) : ∃ b o, a = some ⟨b, o, none⟩ ∧ ∀ W, Ext w W → W.cell? ⟨b, o + i, none⟩ = some (.int .u8 (nth xs i)) := by
  rcases h with rfl | ⟨b, o, h1, h2⟩
  · simp at hi
  · exact ⟨b, o, h1, fun W e => e.cell (h2 i hi)⟩
theorem OwnU.byts {w : World} {B g n c : Nat} {xs : List Int} (hn : xs.length = n) (h : OwnU w B (.slice (some ⟨g, 0, none⟩) n c) xs) : Byts w (some ⟨g, 0, none⟩) xs :=
  .inr ⟨g, 0, rfl, fun i hi => by rw [Nat.zero_add]; exact ownU_cell hn h i (by omega)⟩
end Go.Proofs.Ytjpgignbjkgjiaa
