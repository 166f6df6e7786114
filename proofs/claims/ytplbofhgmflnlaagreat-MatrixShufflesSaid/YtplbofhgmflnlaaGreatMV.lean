/-
  Base words: a map ranged over.
-/
import Derived.Test.YtplbofhgmflnlaaGreatMM
import Derived.Maps.RangeRun
set_option linter.unusedVariables false
set_option linter.unusedSimpArgs false
namespace Go.Proofs.YtplbofhgmflnlaaGreat
open Go.RowKit Go.Maps Go.MapKept Go.ChangeMaps
/-- The iterator r goes over the map b; the entries `done` have come. -/
def RngAt (k : TypeId) (w : World) (b r : Nat) (m done : List (Value × Value)) : Prop :=
  ∃ (es : Array MapEntry) (clock since : Nat) (seen : Array Nat) (c0 : Nat) (ds : List MapEntry), w.heap[b]? = some (.map es clock) ∧ Fits k es clock m ∧
    w.heap[r]? = some (.mapIter (some b) since seen c0) ∧ (∀ x ∈ es.toList, x.born < since) ∧ since ≤ c0 ∧ since ≤ clock ∧ seen.toList = ds.map (·.born) ∧ (∀ d ∈ ds, d ∈ es.toList) ∧ (ds.map (·.born)).Nodup ∧ done = ds.map kv
theorem RngAt.map {k : TypeId} {w : World} {b r : Nat} {m done : List (Value × Value)} (h : RngAt k w b r m done) : MapAt k w b m := by
  obtain ⟨es, clock, since, seen, c0, ds, h1, h2, _⟩ := h
  exact ⟨es, clock, h1, h2⟩
theorem RngAt.of_block {k : TypeId} {w w' : World} {b r : Nat} {m done : List (Value × Value)} (h : RngAt k w b r m done) (e1 : w'.heap[b]? = w.heap[b]?) (e2 : w'.heap[r]? = w.heap[r]?) : RngAt k w' b r m done := by
  obtain ⟨es, clock, since, seen, c0, ds, h1, h2, h3, h4⟩ := h
  exact ⟨es, clock, since, seen, c0, ds, e1.trans h1, h2, e2.trans h3, h4⟩
theorem RngAt.iter_lt {k : TypeId} {w : World} {b r : Nat} {m done : List (Value × Value)} (h : RngAt k w b r m done) : r < w.heap.size := by
  obtain ⟨es, clock, since, seen, c0, ds, h1, h2, h3, h4⟩ := h
  exact lt_of_block h3
theorem RngAt.iter_walk {k : TypeId} {w : World} {b r : Nat} {m done : List (Value × Value)} (h : RngAt k w b r m done) : ∃ o : Obj, w.heap[r]? = some o ∧ (∃ x s sn c, o = .mapIter x s sn c) := by
  obtain ⟨es, clock, since, seen, c0, ds, h1, h2, h3, h4⟩ := h
  exact ⟨_, h3, _, _, _, _, rfl⟩
theorem RngAt.ext {k : TypeId} {w w' : World} {b r : Nat} {m done : List (Value × Value)} (h : RngAt k w b r m done) (e : Ext w w') : RngAt k w' b r m done :=
  h.of_block (Below.block e b h.map.lt) (Below.block e r h.iter_lt)
theorem RngAt.mem {k : TypeId} {w : World} {b r : Nat} {m done : List (Value × Value)} (h : RngAt k w b r m done) : ∀ p ∈ done, p ∈ m := by
  obtain ⟨es, clock, since, seen, c0, ds, h1, h2, h3, h4, h5, h6, h7, h8, h9, rfl⟩ := h
  intro p hp
  obtain ⟨d, hd, rfl⟩ := List.mem_map.1 hp
  rw [← h2.kvs]
  exact List.mem_map.2 ⟨d, h8 d hd, rfl⟩
theorem MapAt.range {k t e : TypeId} {w : World} {b : Nat} {m : List (Value × Value)} (h : MapAt k w b m) (ht : Tryz.prog.underlying t = some (.map k e)) :
    ∃ s c, (Instr.range t (.map (some b))).run Tryz.prog w = .ok (.pointer (some ⟨w.heap.size, 0, none⟩)) (w.alloc (.mapIter (some b) s #[] c)) ∧ RngAt k (w.alloc (.mapIter (some b) s #[] c)) b w.heap.size m [] := by
  have hlt := h.lt
  obtain ⟨es, clock, hb, hf⟩ := h
  exact ⟨clock, clock, run_range_map w t k e b es clock ht hb, es, clock, clock, #[], clock, [], (heap_old _ _ _ hlt).trans hb, hf, heap_new _ _, hf.old, Nat.le_refl _, Nat.le_refl _, rfl, by simp, by simp, rfl⟩
/-- What a step of an iterator leaves. -/
structure Stepped (w w' : World) (r : Nat) : Prop where
  grown : w.grownBy w' (some r)
  size : w'.heap.size = w.heap.size
theorem stepped_set {w w1 : World} (r : Nat) (o : Obj) (h : w1 = w ∨ w1 = w.drew) : Stepped w (setBlock w1 r o) r := by
  have hh : w1.heap = w.heap := by rcases h with rfl | rfl <;> rfl
  refine ⟨⟨?_, ?_, ?_, ?_, ?_⟩, ?_⟩
  · rcases h with rfl | rfl <;> rfl
  · rcases h with rfl | rfl <;> rfl
  · rcases h with rfl | rfl <;> rfl
  · simp [setBlock, hh]
  · intro i hi hne
    have : i ≠ r := fun e => hne (by rw [e])
    simp [setBlock, hh, Array.getElem?_setIfInBounds, Ne.symm this]
  · simp [setBlock, hh]
theorem RngAt.next {k : TypeId} {w : World} {b r : Nat} {m done : List (Value × Value)} (h : RngAt k w b r m done) (ty : TypeId) :
    (done.Perm m ∧ (Instr.next (.pointer (some ⟨r, 0, none⟩)) false ty).run Tryz.prog w = .ok (.tuple #[.bool false]) w) ∨
    ∃ key v w', (key, v) ∈ m ∧ done.length < m.length ∧ (Instr.next (.pointer (some ⟨r, 0, none⟩)) false ty).run Tryz.prog w = .ok (.tuple #[.bool true, key, v]) w' ∧ RngAt k w' b r m (done ++ [(key, v)]) ∧ Stepped w w' r ∧
      (Instr.entry (.pointer (some ⟨r, 0, none⟩))).run Tryz.prog w' = .ok (.tuple #[key, v]) w' := by
  obtain ⟨es, clock, since, seen, c0, ds, h1, h2, h3, h4, h5, h6, h7, h8, h9, rfl⟩ := h
  have hbr : b ≠ r := by rintro rfl; rw [h1] at h3; cases h3
  have hsub : ∀ x ∈ es.toList, (seen.contains x.born = true ↔ x ∈ ds) := by
    intro x hx
    rw [Array.contains_iff_mem, ← Array.mem_toList_iff, h7]
    constructor
    · intro hm
      obtain ⟨d, hd, hde⟩ := List.mem_map.1 hm
      have := born_eq (l := es.toList) h2.born (h8 d hd) hx hde
      exact this ▸ hd
    · intro hm; exact List.mem_map.2 ⟨x, hm, rfl⟩
  rcases run_next_at (P := Tryz.prog) w ty r b since c0 seen es clock h3 h1 h4 h5 with ⟨h0, hrun⟩ | ⟨e, he, w1, hw1, hrun⟩
  · left
    refine ⟨?_, hrun⟩
    have hall : ∀ x ∈ es.toList, x ∈ ds := by
      intro x hx
      cases hc : seen.contains x.born with
      | true => exact (hsub x hx).1 hc
      | false =>
        have : x ∈ (leftOf es seen).toList := by simp only [leftOf, Array.toList_filter, List.mem_filter]; exact ⟨hx, by simp only [hc]; rfl⟩
        rw [Array.eq_empty_of_size_eq_zero h0] at this
        simp at this
    rw [← h2.kvs]
    refine List.Perm.map _ ?_
    have hd : ds.Nodup := List.Pairwise.of_map (·.born) (fun a b hab e => hab (by rw [e])) h9
    have he : es.toList.Nodup := List.Pairwise.of_map (·.born) (fun a b hab e => hab (by rw [e])) h2.born
    exact (List.perm_ext_iff_of_nodup hd he).2 fun x => ⟨h8 x, hall x⟩
  · right
    have he2 : e ∈ es.toList ∧ seen.contains e.born = false := by
      simp only [leftOf, Array.toList_filter, List.mem_filter] at he
      exact ⟨he.1, by simpa using he.2⟩
    have hnot : e ∉ ds := fun hm => by rw [(hsub e he2.1).2 hm] at he2; exact absurd he2.2 (by simp)
    have hnb : e.born ∉ ds.map (·.born) := by
      intro hm
      obtain ⟨d, hd, hde⟩ := List.mem_map.1 hm
      exact hnot (born_eq h2.born (h8 d hd) he2.1 hde ▸ hd)
    have hh : w1.heap = w.heap := by rcases hw1 with rfl | rfl <;> rfl
    have h3' : w1.heap[r]? = some (.mapIter (some b) since seen c0) := by rw [hh]; exact h3
    have hsame : (setBlock w1 r (.mapIter (some b) since (seen.push e.born) clock)).heap[r]? = some (.mapIter (some b) since (seen.push e.born) clock) := by
      have := lt_of_block h3'
      simp [setBlock, Array.getElem?_setIfInBounds, this]
    have hb' : (setBlock w1 r (.mapIter (some b) since (seen.push e.born) clock)).heap[b]? = some (.map es clock) := by
      rw [← h1, ← hh]
      simp [setBlock, Array.getElem?_setIfInBounds, Ne.symm hbr]
    refine ⟨e.key, e.val, _, ?_, ?_, hrun, ⟨es, clock, since, seen.push e.born, clock, ds ++ [e], hb', h2, hsame, h4, h6, h6, by simp [h7], ?_, ?_, by simp⟩, stepped_set _ _ hw1, run_entry_at _ r b since seen es clock e hsame hb' he2.1 h2.born⟩
    · rw [← h2.kvs]; exact List.mem_map.2 ⟨e, he2.1, rfl⟩
    · rw [← h2.kvs, List.length_map, List.length_map]
      have hd : ds.Nodup := List.Pairwise.of_map (·.born) (fun a b hab e => hab (by rw [e])) h9
      have hd' : (e :: ds).Nodup := List.nodup_cons.2 ⟨hnot, hd⟩
      have := List.Nodup.length_le_of_subset hd' (l₂ := es.toList) (fun x hx => by rcases List.mem_cons.1 hx with rfl | hx; exact he2.1; exact h8 x hx)
      rw [List.length_cons] at this; exact this
    · intro d hd
      rcases List.mem_append.1 hd with hd | hd
      · exact h8 d hd
      · simp at hd; exact hd ▸ he2.1
    · rw [List.map_append, List.nodup_append]
      refine ⟨h9, by simp, ?_⟩
      intro a ha c hc
      simp at hc
      subst hc
      intro e'
      exact hnb (e' ▸ ha)
where
  born_eq {l : List MapEntry} (hn : (l.map (·.born)).Nodup) {x y : MapEntry} (hx : x ∈ l) (hy : y ∈ l) (e : x.born = y.born) : x = y := by
    induction l with
    | nil => cases hx
    | cons a l ih =>
      simp only [List.map_cons, List.nodup_cons] at hn
      rcases List.mem_cons.1 hx with rfl | hx2
      · rcases List.mem_cons.1 hy with rfl | hy2
        · rfl
        · exact (hn.1 (List.mem_map.2 ⟨y, hy2, e.symm⟩)).elim
      · rcases List.mem_cons.1 hy with rfl | hy2
        · exact (hn.1 (List.mem_map.2 ⟨x, hx2, e⟩)).elim
        · exact ih hn.2 hx2 hy2
/-- How many entries are still to come: a loop's measure. -/
noncomputable def rngLeft (w : World) (b r : Nat) : Nat := match w.heap[b]?, w.heap[r]? with
  | some (.map es _), some (.mapIter _ _ seen _) => es.size - seen.size
  | _, _ => 0
theorem RngAt.left {k : TypeId} {w : World} {b r : Nat} {m done : List (Value × Value)} (h : RngAt k w b r m done) : rngLeft w b r = m.length - done.length := by
  obtain ⟨es, clock, since, seen, c0, ds, h1, h2, h3, h4, h5, h6, h7, h8, h9, rfl⟩ := h
  have e1 : es.size = m.length := by rw [← h2.kvs]; simp
  have e2 : seen.size = (ds.map kv).length := by rw [← Array.length_toList, h7]; simp
  simp only [rngLeft, h1, h3]
  omega
end Go.Proofs.YtplbofhgmflnlaaGreat
