/-
  More base words: slices of slices; worlds that differ in one block alone.
-/
import Derived.Test.YtjpgignbjkgjiaaB3
import Derived.Test.YtjpgignbjkgjiaaPlain
set_option linter.unusedVariables false
set_option linter.unusedSimpArgs false
namespace Go.Proofs.Ytjpgignbjkgjiaa
open Go.RowKit
/-- All that was there stands, but for the block X. -/
structure ExtX (X : Nat) (w w' : World) : Prop where
  os : w'.os = w.os
  tape : w'.tape = w.tape
  output : w'.output = w.output
  size : w.heap.size ≤ w'.heap.size
  block : ∀ k, k < w.heap.size → k ≠ X → w'.heap[k]? = w.heap[k]?
theorem Ext.x {X : Nat} {w w' : World} (h : Ext w w') : ExtX X w w' := ⟨h.os, h.tape, h.output, h.size, fun k hk _ => Below.block h k hk⟩
theorem ExtX.refl (X : Nat) (w : World) : ExtX X w w := (Ext.refl w).x
theorem ExtX.trans {X : Nat} {a b c : World} (h : ExtX X a b) (k : ExtX X b c) : ExtX X a c :=
  ⟨k.os.trans h.os, k.tape.trans h.tape, k.output.trans h.output, Nat.le_trans h.size k.size, fun i hi hx => (k.block i (Nat.lt_of_lt_of_le hi h.size) hx).trans (h.block i hi hx)⟩
theorem ExtX.ext {X : Nat} {w w' : World} (h : ExtX X w w') (hX : w.heap.size ≤ X) : Ext w w' := ⟨h.os, h.tape, h.output, h.size, fun k hk => h.block k hk (by omega)⟩
theorem ExtX.set {X : Nat} {w W : World} (h : ExtX X w W) (o : Nat) (u : Value) : ExtX X w (W.setCell ⟨X, o, none⟩ u) :=
  h.trans ⟨rfl, rfl, rfl, by simp [World.setCell], fun k hk hx => Below.heap_setCell _ _ _ _ (by simpa using hx)⟩
theorem lt_of_cell {w : World} {p : Addr} {v : Value} (hc : w.cell? p = some v) : p.block < w.heap.size := by
  rcases Nat.lt_or_ge p.block w.heap.size with h1 | h1
  · exact h1
  · simp [World.cell?, Array.getElem?_eq_none h1] at hc
theorem ExtX.cell {X : Nat} {w w' : World} (h : ExtX X w w') {p : Addr} {v : Value} (hc : w.cell? p = some v) (hx : p.block ≠ X) : w'.cell? p = some v := by
  rw [World.cell?_of_block (w := w) (h.block p.block (lt_of_cell hc) hx)]; exact hc

def IntsX (X : Nat) (w : World) (a : Option Addr) (xs : List Int) : Prop :=
  xs = [] ∨ ∃ b o, a = some ⟨b, o, none⟩ ∧ b ≠ X ∧ ∀ i, i < xs.length → w.cell? ⟨b, o + i, none⟩ = some (.int .i64 (nth xs i))
theorem IntsX.ints {X : Nat} {w : World} {a : Option Addr} {xs : List Int} (h : IntsX X w a xs) : Ints w a xs := by
  rcases h with h | ⟨b, o, h1, _, h2⟩
  · exact .inl h
  · exact .inr ⟨b, o, h1, h2⟩
theorem IntsX.extX {X : Nat} {w w' : World} {a : Option Addr} {xs : List Int} (h : IntsX X w a xs) (e : ExtX X w w') : IntsX X w' a xs := by
  rcases h with h | ⟨b, o, h1, hx, h2⟩
  · exact .inl h
  · exact .inr ⟨b, o, h1, hx, fun i hi => e.cell (h2 i hi) hx⟩
theorem IntsX.ext {X : Nat} {w w' : World} {a : Option Addr} {xs : List Int} (h : IntsX X w a xs) (e : Ext w w') : IntsX X w' a xs := h.extX e.x
theorem Ints.x {X : Nat} {w : World} {a : Option Addr} {xs : List Int} (h : Ints w a xs) (hX : w.heap.size ≤ X) : IntsX X w a xs := by
  rcases h with h | ⟨b, o, h1, h2⟩
  · exact .inl h
  · by_cases he : xs = []
    · exact .inl he
    · have h0 := h2 0 (List.length_pos_iff.2 he)
      have := lt_of_cell h0
      exact .inr ⟨b, o, h1, by simp at this; omega, h2⟩
theorem OwnI.intsX {X B : Nat} {w : World} {a : Option Addr} {n c : Nat} {xs : List Int} (h : OwnI w B (.slice a n c) xs) (hB : X < B) : IntsX X w a xs := by
  rcases h.ints.1 with h1 | ⟨b, o, h1, h2⟩
  · exact .inl h1
  · subst h1
    have : B ≤ b := own_blk h
    exact .inr ⟨b, o, rfl, by omega, h2⟩
where
  own_blk {w : World} {B n c : Nat} {d : Addr} {xs : List Int} (h : OwnI w B (.slice (some d) n c) xs) : B ≤ d.block := (h.lt d.block rfl).1

theorem alloc4 {w w1 : World} {o p q r : Obj} (h : (((w.alloc o).alloc p).alloc q).alloc r = w1) : Ext w w1 ∧ w1.heap[w.heap.size]? = some o ∧ w1.heap[w.heap.size + 1]? = some p ∧ w1.heap[w.heap.size + 2]? = some q ∧ w1.heap[w.heap.size + 3]? = some r := by
  obtain ⟨a, b, c, d, e⟩ := alloc3 (w := w) (o := o) (p := p) (q := q) rfl
  subst h
  refine ⟨a.alloc _, ?_, ?_, ?_, ?_⟩
  · rw [heap_old _ _ _ (by rw [e]; omega)]; exact b
  · rw [heap_old _ _ _ (by rw [e]; omega)]; exact c
  · rw [heap_old _ _ _ (by rw [e]; omega)]; exact d
  · have := heap_new (((w.alloc o).alloc p).alloc q) r; rwa [e] at this
/-- A slice of numbers: where it lies, what it has, its capacity. -/
structure SL where
  a : Option Addr
  xs : List Int
  c : Nat
def SL.val (s : SL) : Value := .slice s.a s.xs.length s.c
def SL.nil : SL := ⟨none, [], 0⟩
def sth (ss : List SL) (i : Nat) : SL := ss.getD i SL.nil
theorem sth_eq (ss : List SL) (i : Nat) (h : i < ss.length) : sth ss i = ss[i] := by simp [sth, h]
def SLsX (X : Nat) (w : World) (a : Option Addr) (ss : List SL) : Prop :=
  (ss = [] ∨ ∃ b o, a = some ⟨b, o, none⟩ ∧ b ≠ X ∧ ∀ i, i < ss.length → w.cell? ⟨b, o + i, none⟩ = some (sth ss i).val) ∧ ∀ i, i < ss.length → IntsX X w (sth ss i).a (sth ss i).xs
theorem SLsX.extX {X : Nat} {w w' : World} {a : Option Addr} {ss : List SL} (h : SLsX X w a ss) (e : ExtX X w w') : SLsX X w' a ss := by
  obtain ⟨h1, h2⟩ := h
  refine ⟨?_, fun i hi => (h2 i hi).extX e⟩
  rcases h1 with h | ⟨b, o, h1, hx, h3⟩
  · exact .inl h
  · exact .inr ⟨b, o, h1, hx, fun i hi => e.cell (h3 i hi) hx⟩
theorem SLsX.ext {X : Nat} {w w' : World} {a : Option Addr} {ss : List SL} (h : SLsX X w a ss) (e : Ext w w') : SLsX X w' a ss := h.extX e.x
theorem SLsX.at {X : Nat} {w : World} {a : Option Addr} {ss : List SL} (h : SLsX X w a ss) (i : Nat) (hi : i < ss.length) :
    ∃ b o, a = some ⟨b, o, none⟩ ∧ (∀ W, Ext w W → W.cell? ⟨b, o + i, none⟩ = some (.slice (sth ss i).a (sth ss i).xs.length (sth ss i).c)) := by
  rcases h.1 with rfl | ⟨b, o, h1, hx, h3⟩
  · simp at hi
  · exact ⟨b, o, h1, fun W e => e.cell (h3 i hi)⟩
def rowS (ss : List SL) : List Value := ss.map SL.val
theorem rowS_len (ss : List SL) : (rowS ss).length = ss.length := by simp [rowS]
theorem rowS_get (ss : List SL) (i : Nat) (h : i < ss.length) : (rowS ss)[i]? = some (sth ss i).val := by simp [rowS, sth_eq _ _ h, h]
theorem rowS_one (ss : List SL) : ∀ u ∈ rowS ss, u.oneCell' = true := by
  intro u hu
  simp only [rowS, List.mem_map] at hu
  obtain ⟨x, _, rfl⟩ := hu
  rfl
theorem info22 : (Try.prog.info? 22).map (fun i => (i.zero, i.size, i.bytes)) = some (some (.slice none 0 0), 1, 24) := by kernel_rfl
theorem app_sls (w : World) (B : Nat) (ty : TypeId) (v : Value) (xs ys : List SL) (a : Option Addr) (c : Nat) (hv : w.ownsRow B 22 1 v xs.length (rowS xs)) (hx : Src w a (rowS ys)) (hn : xs.length + ys.length ≤ 1000000) (hB : B ≤ w.heap.size) :
    ∃ v' w', (Builtin.append_ #[62, 62] ty #[v, .slice a ys.length c]).run Try.prog w = .ok v' w' ∧ w'.ownsRow B 22 1 v' (xs ++ ys).length (rowS (xs ++ ys)) ∧ w.grownBy w' v.ownBlock := by
  obtain ⟨i0, hi, hz0, hz1, hz2⟩ := info_parts info22
  obtain ⟨v', w', h1, h2, h3⟩ := run_app w B 62 ty 22 i0 (.slice none 0 0) 1 24 Try.underlying62 hi hz0 hz1 hz2 rfl (by omega) v xs.length (rowS xs) hv a ys.length c (rowS ys) (by rw [rowS_len]; omega) hx (rowS_one ys) (by unfold maxLen; omega) (by omega) hB
  refine ⟨v', w', h1, ?_, h3⟩
  rw [List.length_append]
  have e : rowS (xs ++ ys) = rowS xs ++ rowS ys := by simp [rowS]
  rw [e]
  exact h2
theorem SLsX.src {X : Nat} {w : World} {a : Option Addr} {ss : List SL} (h : SLsX X w a ss) : Src w a (rowS ss) := by
  rcases h.1 with rfl | ⟨b, o, h1, _, h2⟩
  · exact .inl rfl
  · refine .inr ⟨_, h1, fun j u hj => ?_⟩
    have hlt : j < ss.length := by
      rcases Nat.lt_or_ge j ss.length with h | h
      · exact h
      · rw [List.getElem?_eq_none (by rw [rowS_len]; exact h)] at hj; cases hj
    rw [rowS_get ss j hlt] at hj
    simp only [Option.some.injEq] at hj
    rw [← hj, Addr.add_lit]
    exact h2 j hlt
theorem ownsRow_lit1 (w : World) (v : Value) (e : TypeId) : (w.alloc (.cells #[v] e)).ownsRow w.heap.size e 1 (.slice (some ⟨w.heap.size, 0, none⟩) 1 1) 1 [v] := by
  have := World.ownsRow_lit (size := 1) (e := e) (base := w.heap.size) w #[v] 1 (Nat.le_refl _) (by unfold maxLen; omega) (by simp)
  exact this
end Go.Proofs.Ytjpgignbjkgjiaa
