/-
  Base words: several rows of the call's own, no two in one block.
-/
import Derived.Test.YtplbofhgmflnlaaGreatMM
import Derived.Test.YtplbofhgmflnlaaGreatM6
set_option linter.unusedVariables false
set_option linter.unusedSimpArgs false
namespace Go.Proofs.YtplbofhgmflnlaaGreat
open Go.RowKit
/-- A row of the call's own: its elements' type and size, the slice, how many, the cells. -/
structure Rw where
  e : TypeId
  sz : Nat
  v : Value
  n : Nat
  xs : List Value
abbrev Rw.at (w : World) (B : Nat) (r : Rw) : Prop := w.ownsRow B r.e r.sz r.v r.n r.xs
def Rw.off (r s : Rw) : Prop := ∀ k, r.v.ownBlock = some k → s.v.ownBlock ≠ some k
theorem Rw.off.symm {r s : Rw} (h : r.off s) : s.off r := fun k hk e => h k e hk
/-- These rows lie from block B on, no two in one block. -/
structure RowsAt (w : World) (B : Nat) (L : List Rw) : Prop where
  own : ∀ r ∈ L, r.at w B
  off : L.Pairwise Rw.off
theorem RowsAt.nil (w : World) (B : Nat) : RowsAt w B [] := ⟨fun r h => by simp at h, .nil⟩
theorem RowsAt.perm {w : World} {B : Nat} {L L' : List Rw} (h : RowsAt w B L) (p : L.Perm L') : RowsAt w B L' :=
  ⟨fun r hr => h.own r (p.mem_iff.2 hr), (p.pairwise_iff (fun {x y} h => Rw.off.symm h)).1 h.off⟩
theorem RowsAt.ext {w w' : World} {B : Nat} {L : List Rw} (h : RowsAt w B L) (e : Ext w w') : RowsAt w' B L := ⟨fun r hr => own_ext (h.own r hr) e, h.off⟩
theorem RowsAt.down {w : World} {B B' : Nat} {L : List Rw} (h : RowsAt w B L) (e : B' ≤ B) : RowsAt w B' L := ⟨fun r hr => own_base (h.own r hr) e, h.off⟩
theorem RowsAt.sub {w : World} {B : Nat} {L L' : List Rw} (h : RowsAt w B L) (s : L'.Sublist L) : RowsAt w B L' := ⟨fun r hr => h.own r (s.subset hr), h.off.sublist s⟩
theorem RowsAt.get {w : World} {B : Nat} {L : List Rw} (h : RowsAt w B L) {i : Nat} {r : Rw} (hi : L[i]? = some r) : r.at w B := h.own r (List.mem_of_getElem? hi)
/-- One row changes (its own block, or a new one), the others' blocks stay. -/
theorem RowsAt.put {w w' : World} {B : Nat} {L : List Rw} (h : RowsAt w B L) {i : Nat} {r r' : Rw} (hi : L[i]? = some r) (hw : r'.at w' B)
    (hk : ∀ k, k < w.heap.size → r.v.ownBlock ≠ some k → w'.heap[k]? = w.heap[k]?) (hl : ∀ k, r'.v.ownBlock = some k → r.v.ownBlock = some k ∨ w.heap.size ≤ k) : RowsAt w' B (L.set i r') := by
  obtain ⟨hil, hie⟩ := List.getElem?_eq_some_iff.1 hi
  have hoff : ∀ (j : Nat) (hj : j < L.length), j ≠ i → (L[j]).off r := fun j hj hne => by
    rcases Nat.lt_or_gt_of_ne hne with hlt | hlt
    · rw [← hie]; exact List.pairwise_iff_getElem.1 h.off j i hj hil hlt
    · rw [← hie]; exact (List.pairwise_iff_getElem.1 h.off i j hil hj hlt).symm
  have hnew : ∀ (j : Nat) (hj : j < L.length), j ≠ i → (L[j]).off r' := fun j hj hne k hkj e => by
    rcases hl k e with h1 | h1
    · exact hoff j hj hne k hkj h1
    · have := ((h.own L[j] (List.getElem_mem hj)).lt k hkj).2; omega
  refine ⟨fun x hx => ?_, ?_⟩
  · rw [List.mem_iff_getElem] at hx
    obtain ⟨j, hj, rfl⟩ := hx
    rw [List.length_set] at hj
    rw [List.getElem_set]
    split
    · exact hw
    · rename_i hne
      exact own_of_block (h.own L[j] (List.getElem_mem hj)) fun k hkk => hk k ((h.own L[j] (List.getElem_mem hj)).lt k hkk).2 (fun e => hoff j hj (fun e => hne e.symm) k hkk e)
  · rw [List.pairwise_iff_getElem]
    intro p q hp hq hpq
    rw [List.length_set] at hp hq
    rw [List.getElem_set, List.getElem_set]
    split
    · rename_i e1
      rw [if_neg (by omega)]
      exact (hnew q hq (by omega)).symm
    · rename_i e1
      split
      · exact hnew p hp (fun e => e1 e.symm)
      · exact List.pairwise_iff_getElem.1 h.off p q hp hq hpq
/-- A new row in a new block. -/
theorem RowsAt.push {w w' : World} {B : Nat} {L : List Rw} (h : RowsAt w B L) {r : Rw} (hw : r.at w' B) (hk : ∀ k, k < w.heap.size → w'.heap[k]? = w.heap[k]?) (hl : ∀ k, r.v.ownBlock = some k → w.heap.size ≤ k) : RowsAt w' B (r :: L) := by
  refine ⟨fun x hx => ?_, List.pairwise_cons.2 ⟨fun x hx k hkr e => ?_, h.off⟩⟩
  · rcases List.mem_cons.1 hx with rfl | hx
    · exact hw
    · exact own_of_block (h.own x hx) fun k hkk => hk k ((h.own x hx).lt k hkk).2
  · have := hl k hkr
    have := ((h.own x hx).lt k e).2
    omega
/-- A map's block turns: no row lies in it. -/
theorem RowsAt.turned {w w' : World} {B b : Nat} {L : List Rw} {k : TypeId} {m : List (Value × Value)} (h : RowsAt w B L) (hm : MapAt k w b m) (t : Turned w w' b) : RowsAt w' B L :=
  ⟨fun r hr => own_of_block (h.own r hr) fun j hj => t.block j (fun e => by
    subst e
    obtain ⟨es, clock, hb, -⟩ := hm
    rcases (h.own r hr).2 with ⟨hv, -⟩ | ⟨g, cap, cur, hv, -, hh, -⟩
    · rw [hv] at hj; cases hj
    · rw [hv] at hj
      simp only [Value.ownBlock, Option.some.injEq] at hj
      subst hj
      rw [hb] at hh; cases hh), h.off⟩
theorem map_ne_row {w : World} {B b : Nat} {k : TypeId} {m : List (Value × Value)} {r : Rw} (hm : MapAt k w b m) (h : r.at w B) : ∀ j, r.v.ownBlock = some j → j ≠ b := by
  intro j hj e
  subst e
  obtain ⟨es, clock, hb, -⟩ := hm
  rcases h.2 with ⟨hv, -⟩ | ⟨g, cap, cur, hv, -, hh, -⟩
  · rw [hv] at hj; cases hj
  · rw [hv] at hj
    simp only [Value.ownBlock, Option.some.injEq] at hj
    subst hj
    rw [hb] at hh; cases hh
/-- A row of numbers. -/
abbrev rwI (v : Value) (xs : List Int) : Rw := ⟨3, 1, v, xs.length, rowI xs⟩
theorem rwI_at {w : World} {B : Nat} {v : Value} {xs : List Int} : (rwI v xs).at w B ↔ OwnI w B v xs := Iff.rfl
/-- 'append(v, x...)' at []int, and where the new slice lies. -/
theorem app_intsL (w : World) (B : Nat) (ty : TypeId) (v : Value) (xs ys : List Int) (a : Option Addr) (c : Nat) (hv : OwnI w B v xs) (hx : Ints w a ys) (hy : ys ≠ []) (hn : xs.length + ys.length ≤ 17000000000000) (hB : B ≤ w.heap.size) :
    ∃ v' w', (Builtin.append_ #[31, 31] ty #[v, .slice a ys.length c]).run Tryz.prog w = .ok v' w' ∧ OwnI w' B v' (xs ++ ys) ∧ w.grownBy w' v.ownBlock ∧ (v'.ownBlock = v.ownBlock ∨ v'.ownBlock = some w.heap.size) := by
  obtain ⟨i0, hi, hz0, hz1, hz2⟩ := info_parts info3
  rcases hx.src with h0 | ⟨ad, rfl, hc⟩
  · have := congrArg List.length h0
    rw [rowI_len] at this
    exact absurd (List.length_eq_zero_iff.1 this) hy
  · obtain ⟨v', w', h1, h2, h3, -, h5⟩ := run_append_own_at (P := Tryz.prog) w B 31 ty 3 i0 (.int .i64 0) 1 8 Tryz.underlying31 hi hz0 hz1 hz2 rfl (by omega) v xs.length (rowI xs) hv ad ys.length c (rowI ys) (by rw [rowI_len]; omega) hc (rowI_one ys) (by unfold maxLen; omega) (by omega) hB
    refine ⟨v', w', h1, ?_, h3, h5⟩
    unfold OwnI
    rw [List.length_append]
    have e : rowI (xs ++ ys) = rowI xs ++ rowI ys := by simp [rowI]
    rw [e]
    exact h2
theorem RowsAt.appended {w w' : World} {B : Nat} {L : List Rw} (h : RowsAt w B L) {i : Nat} {r r' : Rw} (hi : L[i]? = some r) (hg : w.grownBy w' r.v.ownBlock) (hw : r'.at w' B) (hl : r'.v.ownBlock = r.v.ownBlock ∨ r'.v.ownBlock = some w.heap.size) : RowsAt w' B (L.set i r') :=
  h.put hi hw (fun k hk hne => hg.block k hk (fun e => hne (by first | exact e | exact e.symm))) (fun k hk => by
    rcases hl with h1 | h1
    · left; rw [← h1]; exact hk
    · right; rw [h1] at hk; cases hk; exact Nat.le_refl _)
theorem RowsAt.written {w w' : World} {B g : Nat} {L : List Rw} (h : RowsAt w B L) {i : Nat} {r r' : Rw} (hi : L[i]? = some r) (hx : ExtX g w w') (hr : r.v.ownBlock = some g) (hv : r'.v = r.v) (hw : r'.at w' B) : RowsAt w' B (L.set i r') :=
  h.put hi hw (fun k hk hne => hx.block k hk (fun e => hne (by rw [e]; exact hr))) (fun k hk => by left; rw [← hv]; exact hk)
theorem RowsAt.same {w w' : World} {B : Nat} {L : List Rw} (h : RowsAt w B L) (hk : ∀ k, B ≤ k → k < w.heap.size → w'.heap[k]? = w.heap[k]?) : RowsAt w' B L :=
  ⟨fun r hr => own_of_block (h.own r hr) fun k hkk => hk k ((h.own r hr).lt k hkk).1 ((h.own r hr).lt k hkk).2, h.off⟩
end Go.Proofs.YtplbofhgmflnlaaGreat
