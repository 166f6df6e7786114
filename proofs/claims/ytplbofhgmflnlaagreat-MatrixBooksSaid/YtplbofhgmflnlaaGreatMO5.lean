/-
  Texts merged: MV, MW, MX, MY, MZ.
-/
import Derived.Test.YtplbofhgmflnlaaGreatMA4
import Derived.Maps.RangeRun
import Derived.RangeFuncNested
import Derived.RangeFuncBound
import Derived.RangeFuncCalls
import Derived.RangeFuncLeaves
import Derived.Shelf.Abstract
import Derived.Shelf.RegionOpen
import Derived.OwnWalkIn
import Derived.TacticsInMore
import Derived.LoopNIn
import Derived.LoopIn
import Derived.Sort.MapsRangeIn
import Derived.Test.YtplbofhgmflnlaaGreatPX2
section
/-
  Base words: a map ranged over.
-/
set_option linter.unusedVariables false
set_option linter.unusedSimpArgs false
namespace Go.Proofs.YtplbofhgmflnlaaGreat
open Go.RowKit Go.Maps Go.MapKept Go.ChangeMaps
/-- The iterator r goes over the map b; the entries `done` have come. -/
def RngAt (k : TypeId) (w : World) (b r : Nat) (m done : List (Value × Value)) : Prop :=
  ∃ (es : Array MapEntry) (clock since : Nat) (seen : Array Nat) (c0 : Nat) (ds : List MapEntry), w.heap[b]? = some (.map es clock) ∧ Fits k es clock m ∧
    w.heap[r]? = some (.mapIter (some b) since seen c0) ∧ (∀ x ∈ es.toList, x.born < since) ∧ since ≤ c0 ∧ since ≤ clock ∧ seen.toList = ds.map (·.born) ∧ (∀ d ∈ ds, d ∈ es.toList) ∧ (ds.map (·.born)).Nodup ∧ done = ds.map kv
theorem RngAt.map {k : TypeId} {w : World} {b r : Nat} {m done : List (Value × Value)} (h : RngAt k w b r m done) : MapAt k w b m := by
  obtain ⟨es, clock, since, seen, c0, ds, h1, h2, _⟩ := h
  exact ⟨es, clock, h1, h2⟩
theorem RngAt.of_block {k : TypeId} {w w' : World} {b r : Nat} {m done : List (Value × Value)} (h : RngAt k w b r m done) (e1 : w'.heap[b]? = w.heap[b]?) (e2 : w'.heap[r]? = w.heap[r]?) : RngAt k w' b r m done := by
  obtain ⟨es, clock, since, seen, c0, ds, h1, h2, h3, h4⟩ := h
  exact ⟨es, clock, since, seen, c0, ds, e1.trans h1, h2, e2.trans h3, h4⟩
theorem RngAt.iter_lt {k : TypeId} {w : World} {b r : Nat} {m done : List (Value × Value)} (h : RngAt k w b r m done) : r < w.heap.size := by
  obtain ⟨es, clock, since, seen, c0, ds, h1, h2, h3, h4⟩ := h
  exact lt_of_block h3
theorem RngAt.iter_walk {k : TypeId} {w : World} {b r : Nat} {m done : List (Value × Value)} (h : RngAt k w b r m done) : ∃ o : Obj, w.heap[r]? = some o ∧ (∃ x s sn c, o = .mapIter x s sn c) := by
  obtain ⟨es, clock, since, seen, c0, ds, h1, h2, h3, h4⟩ := h
  exact ⟨_, h3, _, _, _, _, rfl⟩
theorem RngAt.ext {k : TypeId} {w w' : World} {b r : Nat} {m done : List (Value × Value)} (h : RngAt k w b r m done) (e : Ext w w') : RngAt k w' b r m done :=
  h.of_block (Below.block e b h.map.lt) (Below.block e r h.iter_lt)
theorem RngAt.mem {k : TypeId} {w : World} {b r : Nat} {m done : List (Value × Value)} (h : RngAt k w b r m done) : ∀ p ∈ done, p ∈ m := by
  obtain ⟨es, clock, since, seen, c0, ds, h1, h2, h3, h4, h5, h6, h7, h8, h9, rfl⟩ := h
  intro p hp
  obtain ⟨d, hd, rfl⟩ := List.mem_map.1 hp
  rw [← h2.kvs]
  exact List.mem_map.2 ⟨d, h8 d hd, rfl⟩
theorem MapAt.range {k t e : TypeId} {w : World} {b : Nat} {m : List (Value × Value)} (h : MapAt k w b m) (ht : Tryz.prog.underlying t = some (.map k e)) :
    ∃ s c, (Instr.range t (.map (some b))).run Tryz.prog w = .ok (.pointer (some ⟨w.heap.size, 0, none⟩)) (w.alloc (.mapIter (some b) s #[] c)) ∧ RngAt k (w.alloc (.mapIter (some b) s #[] c)) b w.heap.size m [] := by
  have hlt := h.lt
  obtain ⟨es, clock, hb, hf⟩ := h
  exact ⟨clock, clock, run_range_map w t k e b es clock ht hb, es, clock, clock, #[], clock, [], (heap_old _ _ _ hlt).trans hb, hf, heap_new _ _, hf.old, Nat.le_refl _, Nat.le_refl _, rfl, by simp, by simp, rfl⟩
/-- What a step of an iterator leaves. -/
structure Stepped (w w' : World) (r : Nat) : Prop where
  grown : w.grownBy w' (some r)
  size : w'.heap.size = w.heap.size
theorem stepped_set {w w1 : World} (r : Nat) (o : Obj) (h : w1 = w ∨ w1 = w.drew) : Stepped w (setBlock w1 r o) r := by
  have hh : w1.heap = w.heap := by rcases h with rfl | rfl <;> rfl
  refine ⟨⟨?_, ?_, ?_, ?_, ?_⟩, ?_⟩
  · rcases h with rfl | rfl <;> rfl
  · rcases h with rfl | rfl <;> rfl
  · rcases h with rfl | rfl <;> rfl
  · simp [setBlock, hh]
  · intro i hi hne
    have : i ≠ r := fun e => hne (by rw [e])
    simp [setBlock, hh, Array.getElem?_setIfInBounds, Ne.symm this]
  · simp [setBlock, hh]
theorem RngAt.next {k : TypeId} {w : World} {b r : Nat} {m done : List (Value × Value)} (h : RngAt k w b r m done) (ty : TypeId) :
    (done.Perm m ∧ (Instr.next (.pointer (some ⟨r, 0, none⟩)) false ty).run Tryz.prog w = .ok (.tuple #[.bool false]) w) ∨
    ∃ key v w', (key, v) ∈ m ∧ done.length < m.length ∧ (Instr.next (.pointer (some ⟨r, 0, none⟩)) false ty).run Tryz.prog w = .ok (.tuple #[.bool true, key, v]) w' ∧ RngAt k w' b r m (done ++ [(key, v)]) ∧ Stepped w w' r ∧
      (Instr.entry (.pointer (some ⟨r, 0, none⟩))).run Tryz.prog w' = .ok (.tuple #[key, v]) w' := by
  obtain ⟨es, clock, since, seen, c0, ds, h1, h2, h3, h4, h5, h6, h7, h8, h9, rfl⟩ := h
  have hbr : b ≠ r := by rintro rfl; rw [h1] at h3; cases h3
  have hsub : ∀ x ∈ es.toList, (seen.contains x.born = true ↔ x ∈ ds) := by
    intro x hx
    rw [Array.contains_iff_mem, ← Array.mem_toList_iff, h7]
    constructor
    · intro hm
      obtain ⟨d, hd, hde⟩ := List.mem_map.1 hm
      have := born_eq (l := es.toList) h2.born (h8 d hd) hx hde
      exact this ▸ hd
    · intro hm; exact List.mem_map.2 ⟨x, hm, rfl⟩
  rcases run_next_at (P := Tryz.prog) w ty r b since c0 seen es clock h3 h1 h4 h5 with ⟨h0, hrun⟩ | ⟨e, he, w1, hw1, hrun⟩
  · left
    refine ⟨?_, hrun⟩
    have hall : ∀ x ∈ es.toList, x ∈ ds := by
      intro x hx
      cases hc : seen.contains x.born with
      | true => exact (hsub x hx).1 hc
      | false =>
        have : x ∈ (leftOf es seen).toList := by simp only [leftOf, Array.toList_filter, List.mem_filter]; exact ⟨hx, by simp only [hc]; rfl⟩
        rw [Array.eq_empty_of_size_eq_zero h0] at this
        simp at this
    rw [← h2.kvs]
    refine List.Perm.map _ ?_
    have hd : ds.Nodup := List.Pairwise.of_map (·.born) (fun a b hab e => hab (by rw [e])) h9
    have he : es.toList.Nodup := List.Pairwise.of_map (·.born) (fun a b hab e => hab (by rw [e])) h2.born
    exact (List.perm_ext_iff_of_nodup hd he).2 fun x => ⟨h8 x, hall x⟩
  · right
    have he2 : e ∈ es.toList ∧ seen.contains e.born = false := by
      simp only [leftOf, Array.toList_filter, List.mem_filter] at he
      exact ⟨he.1, by simpa using he.2⟩
    have hnot : e ∉ ds := fun hm => by rw [(hsub e he2.1).2 hm] at he2; exact absurd he2.2 (by simp)
    have hnb : e.born ∉ ds.map (·.born) := by
      intro hm
      obtain ⟨d, hd, hde⟩ := List.mem_map.1 hm
      exact hnot (born_eq h2.born (h8 d hd) he2.1 hde ▸ hd)
    have hh : w1.heap = w.heap := by rcases hw1 with rfl | rfl <;> rfl
    have h3' : w1.heap[r]? = some (.mapIter (some b) since seen c0) := by rw [hh]; exact h3
    have hsame : (setBlock w1 r (.mapIter (some b) since (seen.push e.born) clock)).heap[r]? = some (.mapIter (some b) since (seen.push e.born) clock) := by
      have := lt_of_block h3'
      simp [setBlock, Array.getElem?_setIfInBounds, this]
    have hb' : (setBlock w1 r (.mapIter (some b) since (seen.push e.born) clock)).heap[b]? = some (.map es clock) := by
      rw [← h1, ← hh]
      simp [setBlock, Array.getElem?_setIfInBounds, Ne.symm hbr]
    refine ⟨e.key, e.val, _, ?_, ?_, hrun, ⟨es, clock, since, seen.push e.born, clock, ds ++ [e], hb', h2, hsame, h4, h6, h6, by simp [h7], ?_, ?_, by simp⟩, stepped_set _ _ hw1, run_entry_at _ r b since seen es clock e hsame hb' he2.1 h2.born⟩
    · rw [← h2.kvs]; exact List.mem_map.2 ⟨e, he2.1, rfl⟩
    · rw [← h2.kvs, List.length_map, List.length_map]
      have hd : ds.Nodup := List.Pairwise.of_map (·.born) (fun a b hab e => hab (by rw [e])) h9
      have hd' : (e :: ds).Nodup := List.nodup_cons.2 ⟨hnot, hd⟩
      have := List.Nodup.length_le_of_subset hd' (l₂ := es.toList) (fun x hx => by rcases List.mem_cons.1 hx with rfl | hx; exact he2.1; exact h8 x hx)
      rw [List.length_cons] at this; exact this
    · intro d hd
      rcases List.mem_append.1 hd with hd | hd
      · exact h8 d hd
      · simp at hd; exact hd ▸ he2.1
    · rw [List.map_append, List.nodup_append]
      refine ⟨h9, by simp, ?_⟩
      intro a ha c hc
      simp at hc
      subst hc
      intro e'
      exact hnb (e' ▸ ha)
where
  born_eq {l : List MapEntry} (hn : (l.map (·.born)).Nodup) {x y : MapEntry} (hx : x ∈ l) (hy : y ∈ l) (e : x.born = y.born) : x = y := by
    induction l with
    | nil => cases hx
    | cons a l ih =>
      simp only [List.map_cons, List.nodup_cons] at hn
      rcases List.mem_cons.1 hx with rfl | hx2
      · rcases List.mem_cons.1 hy with rfl | hy2
        · rfl
        · exact (hn.1 (List.mem_map.2 ⟨y, hy2, e.symm⟩)).elim
      · rcases List.mem_cons.1 hy with rfl | hy2
        · exact (hn.1 (List.mem_map.2 ⟨x, hx2, e⟩)).elim
        · exact ih hn.2 hx2 hy2
/-- How many entries are still to come: a loop's measure. -/
noncomputable def rngLeft (w : World) (b r : Nat) : Nat := match w.heap[b]?, w.heap[r]? with
  | some (.map es _), some (.mapIter _ _ seen _) => es.size - seen.size
  | _, _ => 0
theorem RngAt.left {k : TypeId} {w : World} {b r : Nat} {m done : List (Value × Value)} (h : RngAt k w b r m done) : rngLeft w b r = m.length - done.length := by
  obtain ⟨es, clock, since, seen, c0, ds, h1, h2, h3, h4, h5, h6, h7, h8, h9, rfl⟩ := h
  have e1 : es.size = m.length := by rw [← h2.kvs]; simp
  have e2 : seen.size = (ds.map kv).length := by rw [← Array.length_toList, h7]; simp
  simp only [rngLeft, h1, h3]
  omega
end Go.Proofs.YtplbofhgmflnlaaGreat
end
section
/-
  The values of a map of words, collected: maps.Values, its iterator, slices.AppendSeq, slices.Collect.
-/
set_option linter.unusedVariables false
set_option linter.unusedSimpArgs false
namespace Go.Proofs.YtplbofhgmflnlaaGreat
open Go.RowKit Go.Maps Go.MapKept Go.Shelf
attribute [local go_sem] Oper.semAt_some
section
variable {F : Fence} {n : Nat} {P : Program} (w : World) {ops : Array Oper} {rest : List Oper} {o : Oper} {a : Act} {Q : Exit → Act → World → Prop}
theorem wpListIn_range_run (hg : o.guard = none) (m : Operand) (t : TypeId) (hop : o.op = Op.range t m) (v : Value) (w' : World) (hrun : (Instr.range t (a.eval m)).run P w = .ok v w')
    (hK : wpListIn F n P ops Q rest (a.put o.dst v) w') : wpListIn F n P ops Q (o :: rest) a w := by
  refine wpListIn_plain hg fun K' hK' => ?_
  unfold Oper.wpIn
  refine ⟨?_, ?_⟩
  · simp [Oper.about, hop]
  · rw [Oper.semAt_plain F _ _ (by rw [hop]; intro c hc'; cases hc')]
    simp [execOp, hop, hrun, Result.andThen]
    exact hK' _ _ hK
theorem wpListIn_next_run (hg : o.guard = none) (it : Operand) (hop : o.op = Op.next it false) (A : Prop) (B : Value → World → Prop)
    (hrun : (A ∧ (Instr.next (a.eval it) false o.type).run P w = .ok (.tuple #[.bool false]) w) ∨ ∃ v w', (Instr.next (a.eval it) false o.type).run P w = .ok v w' ∧ B v w')
    (hDone : A → wpListIn F n P ops Q rest (a.put o.dst (.tuple #[.bool false])) w) (hMore : ∀ v w', B v w' → wpListIn F n P ops Q rest (a.put o.dst v) w') : wpListIn F n P ops Q (o :: rest) a w := by
  refine wpListIn_plain hg fun K' hK' => ?_
  unfold Oper.wpIn
  refine ⟨by simp [Oper.about, hop], ?_⟩
  rw [Oper.semAt_plain F _ _ (by rw [hop]; intro c hc'; cases hc')]
  rcases hrun with ⟨hA, hr⟩ | ⟨v, w', hr, hB⟩
  · simp [execOp, hop, hr, Result.andThen]
    exact hK' _ _ (hDone hA)
  · simp [execOp, hop, hr, Result.andThen]
    exact hK' _ _ (hMore v w' hB)
end
/-- A word as an entry of a map by masks. -/
def entW (x : Wd) : Value × Value := (.int .u16 (x.mask : Int), wdV x)
theorem Stepped.keep {w w' : World} {r : Nat} (h : Stepped w w' r) (i : Nat) (hi : i < w.heap.size) (hr : i ≠ r) : w'.heap[i]? = w.heap[i]? := h.grown.block i hi (fun e => hr (by cases e; rfl))
theorem RngAt.of_walks {k : TypeId} {w w' : World} {b r : Nat} {m done : List (Value × Value)} (h : RngAt k w b r m done) (hk : KeepsWalks w w') : RngAt k w' b r m done := by
  obtain ⟨es, clock, since, seen, c0, ds, h1, h2, h3, h4⟩ := h
  exact ⟨es, clock, since, seen, c0, ds, hk.same b _ h1 rfl, h2, hk.same r _ h3 rfl, h4⟩
def decW (p : Value × Value) : Wd := match p with
  | (.int _ k, .agg cs) => ⟨k.toNat, match cs[1]? with | some (Value.bool o) => o | _ => false⟩
  | _ => ⟨0, false⟩
theorem dec_ent (x : Wd) : decW (entW x) = x := by
  obtain ⟨k, o⟩ := x
  simp [decW, entW]
theorem perm_ent {xs ys : List Wd} (h : (xs.map entW).Perm (ys.map entW)) : xs.Perm ys := by
  have := h.map decW
  rw [List.map_map, List.map_map] at this
  simpa [Function.comp_def, dec_ent] using this
theorem RngAt.nextW {w : World} {b r : Nat} {xs done : List Wd} (h : RngAt 59 w b r (xs.map entW) (done.map entW)) (ty : TypeId) :
    (done.Perm xs ∧ (Instr.next (.pointer (some ⟨r, 0, none⟩)) false ty).run Tryz.prog w = .ok (.tuple #[.bool false]) w) ∨
    ∃ v w', (Instr.next (.pointer (some ⟨r, 0, none⟩)) false ty).run Tryz.prog w = .ok v w' ∧ Hid (∃ x : Wd, x ∈ xs ∧ v = .tuple #[.bool true, .int .u16 (x.mask : Int), wdV x] ∧ done.length < xs.length ∧
      RngAt 59 w' b r (xs.map entW) ((done ++ [x]).map entW) ∧ Stepped w w' r ∧ (Instr.entry (.pointer (some ⟨r, 0, none⟩))).run Tryz.prog w' = .ok (.tuple #[.int .u16 (x.mask : Int), wdV x]) w') := by
  rcases h.next ty with ⟨hp, hr⟩ | ⟨key, v, w', hm, hl, hr, hg, hs, he⟩
  · exact .inl ⟨perm_ent hp, hr⟩
  · obtain ⟨x, hx, e⟩ := List.mem_map.1 hm
    simp only [entW, Prod.mk.injEq] at e
    obtain ⟨rfl, rfl⟩ := e
    refine .inr ⟨_, w', hr, Lib.hid ⟨x, hx, rfl, by simpa using hl, ?_, hs, he⟩⟩
    rw [List.map_append]
    exact hg
set_option maxRecDepth 100000 in
set_option maxHeartbeats 1000000 in
theorem vals1_in (n : Nat) (hn : 1 ≤ n) (l Bm b : Nat) (xs : List Wd) (J Jx : List Wd → World → Prop)
    (hY : ∀ pre x W, J pre W → pre.length < xs.length → YieldAt Fence.wide (n - 1) Tryz.prog l #[wdV x] W fun e W' =>
      (e = .returned (.bool true) ∧ J (pre ++ [x]) W' ∧ KeepsWalks W W') ∨ (e = .returned (.bool false) ∧ Jx (pre ++ [x]) W'))
    (W : World) (hJ : AbidesFrom W.heap.size J) (hm : W.cell? ⟨Bm, 0, none⟩ = some (.map (some b))) (hown : MapAt 59 W b (xs.map entW)) (h0 : J [] W) :
    CallsIn Fence.wide n Tryz.prog 167 #[.func (.yield l) #[] #[], .pointer (some ⟨Bm, 0, none⟩)] W fun e W' => (∃ v, e = .returned v) ∧
      ((∃ ys, ys.Perm xs ∧ J ys W') ∨ (∃ pre, Jx pre W')) := by
  obtain ⟨s, c, hrun, hrg0⟩ := hown.range Tryz.underlying179
  refine callsIn_of_wp Tryz.func167 rfl trivial ?_ rfl
  simp only [Tryz.ntmps167, List.size_toArray, List.length_cons, List.length_nil, Nat.reduceAdd, Nat.reduceSub, Array.replicate_succ, Array.replicate_zero, List.push_toArray, List.append_toArray, List.nil_append, List.cons_append]
  gi_wp2_with (first
    | (gi_at_range; refine wpListIn_range_run _ rfl _ 179 rfl _ _ hrun ?_)
    | gi_in)
  generalize hw0 : W.alloc (.mapIter (some b) s #[] c) = w0 at hrg0 ⊢
  have hg0 : W.grownBy w0 none := by rw [← hw0]; exact World.grownBy_alloc W _ none
  go_frame
  gi_loopw [4] (fun _ wr => ∃ done : List Wd, RngAt 59 wr b W.heap.size (xs.map entW) (done.map entW) ∧ J done wr) (fun _ wr => rngLeft wr b W.heap.size)
  case atStart =>
    exact ⟨[], hrg0, hJ [] W w0 none h0 hg0 (fun r e => by cases e)⟩
  case round =>
    obtain ⟨done, hrg, hJs⟩ := hrel
    gi_wp2_with (first
      | (gi_at_next; refine wpListIn_next_run _ rfl _ rfl _ _ (hrg.nextW _) ?_ ?_)
      | gi_in)
    · intro hp
      gi_wp2
      go_end0
      exact ⟨⟨_, rfl⟩, .inl ⟨done, hp, hJs⟩⟩
    · intro v w2 hB
      obtain ⟨x, hx, rfl, hlen, hrg2, hst, hen⟩ := hB.out
      have hJ2 : J done w2 := hJ done wr w2 (some W.heap.size) hJs hst.grown (fun r e => by cases e; obtain ⟨o, ho, a1, a2, a3, a4, rfl⟩ := hrg.iter_walk; exact ⟨Nat.le_refl _, _, ho, rfl⟩)
      have hJ4 : J done (w2.alloc (.cells #[.int .u16 (x.mask : Int), .bool x.odd] 75)) := hJ done w2 _ none hJ2 (World.grownBy_alloc w2 _ none) (fun r e => by cases e)
      obtain ⟨fn, tmps, assign, body, hy, hR⟩ := hY done x _ hJ4 hlen
      dsimp only [wdV] at hy
      have hrg4 : RngAt 59 (w2.alloc (.cells #[.int .u16 (x.mask : Int), .bool x.odd] 75)) b W.heap.size (xs.map entW) ((done ++ [x]).map entW) := by rw [List.map_append]; exact hrg2.of_walks (KeepsWalks.alloc _ _)
      clear hB hrg2 hst hJ2
      gi_wp2
      refine hR.mono ?_
      rintro e W3 (⟨rfl, hJ3, hk3⟩ | ⟨rfl, hJx3⟩)
      · gi_wp2
        have hrg3 := hrg4.of_walks hk3
        go_roundw
        case rel => exact ⟨done ++ [x], hrg3, hJ3⟩
        case measure =>
          rw [hrg3.left, hrg.left]
          simp only [List.length_map, List.length_append, List.length_singleton]
          omega
      · gi_wp2
        refine bodyPost_ret (results_none rfl _ _ _) rfl ?_
        exact ⟨⟨_, rfl⟩, .inr ⟨done ++ [x], hJx3⟩⟩
/-- What the iterator gives. -/
theorem vals_stops (n : Nat) (hn : 1 ≤ n) (Bm b : Nat) (xs : List Wd) (w : World) (hBm : Bm < w.heap.size) (hm : w.cell? ⟨Bm, 0, none⟩ = some (.map (some b))) (hown : MapAt 59 w b (xs.map entW)) :
    SeqStopsK Fence.wide n Tryz.prog 167 #[.pointer (some ⟨Bm, 0, none⟩)] (fun x : Wd => #[wdV x]) KeepsWalks (fun ys => ys.Perm xs) (fun _ => True) xs.length w := fun l J Jx W hW hJ _ hY h0 => by
  refine (vals1_in n hn l Bm b xs J Jx hY W hJ ((hW.cell (p := ⟨Bm, 0, none⟩) hBm).trans hm) (hown.ext hW) h0).mono ?_
  rintro e W' ⟨h1, h2 | ⟨pre, h2⟩⟩
  · exact ⟨h1, .inl h2⟩
  · exact ⟨h1, .inr ⟨pre, trivial, h2⟩⟩
set_option maxHeartbeats 1000000 in
/-- maps.Values. -/
theorem values_any (b : Nat) (w : World) : Calls Tryz.prog 148 #[.map (some b)] w fun e w' => e = .returned (.func (.func 167) #[] #[.pointer (some ⟨w.heap.size, 0, none⟩)]) ∧ w' = w.alloc (.cells #[.map (some b)] 179) := by
  go_enter Tryz.func148, Tryz.ntmps148
  go_wp2_with (fail)
  go_ret
  exact ⟨rfl, rfl⟩
theorem info75 : (Tryz.prog.info? 75).map (fun i => (i.zero, i.size, i.bytes)) = some (some (.agg #[.int .u16 0, .bool false]), 2, 4) := by kernel_rfl
theorem cell_two_new (w : World) (x y : Value) (t : TypeId) : ∀ j u, [x, y][j]? = some u → (w.alloc (.cells #[x, y] t)).cell? ((⟨w.heap.size, 0, none⟩ : Addr).add j) = some u := by
  intro j u hj
  have hb := heap_new w (.cells #[x, y] t)
  match j, hj with
  | 0, hj => simp only [List.getElem?_cons_zero, Option.some.injEq] at hj; subst hj; exact (obj_cells2 hb).1 _ (Ext.refl _)
  | 1, hj => simp only [List.getElem?_cons_succ, List.getElem?_cons_zero, Option.some.injEq] at hj; subst hj; exact (obj_cells2 hb).2 _ (Ext.refl _)
theorem walks_of_others {W W' : World} (h : KeepsOthers W W') : KeepsWalks W W' := ⟨h.size, fun k o hk hw => h.same k o hk (Obj.not_cells_of_walk hw)⟩
theorem block_own {β : Type} (B : Nat) (o : Obj) (ho : o.isCells = true) : Own (fun (_ : β) W => W.heap[B]? = some o) := fun s X Y row hs hg hrow =>
  (hg.block B (lt_of_block hs) (fun e' => by obtain ⟨o', h1, h2⟩ := hrow B e'.symm; rw [hs] at h1; cases h1; rw [ho] at h2; cases h2)).trans hs
set_option maxRecDepth 100000 in
set_option maxHeartbeats 2000000 in
theorem appendSeq_any (Bm b : Nat) (xs : List Wd) (w : World) (hxs : xs.length ≤ 1000000) (hBm : Bm < w.heap.size) (hm : w.cell? ⟨Bm, 0, none⟩ = some (.map (some b))) (hown : MapAt 59 w b (xs.map entW)) :
    Calls Tryz.prog 166 #[.slice none 0 0, .func (.func 167) #[] #[.pointer (some ⟨Bm, 0, none⟩)]] w fun e w' => ∃ (v : Value) (ys : List Wd), e = .returned v ∧ ys.Perm xs ∧ OwnF 75 2 wdC w' w.heap.size v ys ∧ Ext w w' := by
  obtain ⟨i0, hi, hz0, hz1, hz2⟩ := info_parts info75
  refine (callsIn_wide (n := 3)).1 ?_
  have h1 : 1 ≤ 3 := by omega
  refine callsIn_of_wp_marks Tryz.func166 rfl trivial ?_ rfl
  simp only [Tryz.ntmps166, List.size_toArray, List.length_cons, List.length_nil, Nat.reduceAdd, Nat.reduceSub, Array.replicate_succ, Array.replicate_zero, List.push_toArray, List.append_toArray, List.nil_append, List.cons_append]
  gi_wp2
  have bS := Boxed.new w 56 (.slice none 0 0)
  have hB0 : Below w.heap.size w (w.alloc (.cells #[.slice none 0 0] 56)) := (Below.refl _ w).alloc (Nat.le_refl _) _
  have hsz : (w.alloc (.cells #[.slice none 0 0] 56)).heap.size = w.heap.size + 1 := heap_size _ _
  obtain ⟨W0, hW0⟩ : ∃ W0, w.alloc (.cells #[.slice none 0 0] 56) = W0 := ⟨_, rfl⟩
  rw [hW0] at bS hB0 hsz ⊢
  clear hW0
  have hst := vals_stops 2 (by omega) Bm b xs W0 (by omega) ((hB0.cell (p := ⟨Bm, 0, none⟩) hBm).trans hm) (hown.ext hB0)
  refine wpIn_rangeFunc_ownH rfl h1 (gf := 167) (lb := #[.pointer (some ⟨Bm, 0, none⟩)]) rfl trivial (enters_of Tryz.func167 (by kernel_rfl) rfl)
    hst walksK_t (fun W l o o' h2 h3 h4 h5 => walksK_b (w := W0) W l o o' h2 h3 h4 h5) (Below.refl _ _) (fun _ => rfl)
    (fun pre W => (∃ v, Boxed W w.heap.size 56 v ∧ W.ownsRow w.heap.size 75 2 v pre.length (rowF wdC pre) ∧ True) ∧ Below w.heap.size w W)
    (fun _ _ _ => False)
    (OwnFrom.and (Own.from (holdsRow_own w.heap.size w.heap.size 56 75 2 (fun pre => pre.length) (fun pre => rowF wdC pre) (fun _ _ => True)) _) (ownFrom_below (Nat.le_refl _) (by omega)))
    (fun _ _ _ _ _ hs _ _ => hs)
    ⟨⟨_, bS, World.ownsRow_nil _ _ _ _, trivial⟩, hB0⟩
    (fun x a' W => ∃ Bx, w.heap.size < Bx ∧ W.heap[Bx]? = some (.cells #[.int .u16 (x.mask : Int), .bool x.odd] 75 (0, 0)) ∧ a' = { tmps := #[.slice none 0 0, .func (.func 167) #[] #[.pointer (some ⟨Bm, 0, none⟩)], .pointer (some ⟨w.heap.size, 0, none⟩), undef, .slice none 0 0, .pointer (some ⟨Bx, 0, none⟩), .func (.func 167) #[] #[.pointer (some ⟨Bm, 0, none⟩)], wdV x, undef, undef, undef, undef, undef], defers := [] })
    (fun x a' u X Y row hs hg hr => by obtain ⟨Bx, h1, h2, h3⟩ := hs; exact ⟨Bx, h1, block_own (β := Unit) Bx _ rfl () X Y row h2 hg (fun r e => (hr r e).2), h3⟩)
    ?assign ?body ?done ?stop
  case assign =>
    rintro l pre x W K ⟨⟨v, hv, hrow, -⟩, hB⟩ hK
    gi_wp2
    exact hK _ _ ((KeepsOthers.alloc _ _).from _) (KeepsWalks.alloc _ _) ⟨⟨v, hv.alloc _, hrow.alloc _, trivial⟩, hB.alloc hB.size _⟩ ⟨W.heap.size, hv.lt, heap_new _ _, rfl⟩
  case body =>
    rintro l pre x a' W hl ⟨r, hr⟩ ⟨⟨v, hv, hrow, -⟩, hB⟩ ⟨Bx, hBx, bX, rfl⟩ hlt
    have hc := hv.cell
    obtain ⟨c0, c1⟩ := obj_cells2 bX
    have d0 := c0 W (Ext.refl W)
    have d1 := c1 W (Ext.refl W)
    gi_wp2_with (gi_at_builtin; refine wpListIn_append_own _ rfl _ _ 56 rfl w.heap.size 75 i0 (.agg #[.int .u16 0, .bool false]) 2 4 Tryz.underlying56 hi hz0 hz1 hz2 rfl (by decide) _ _ _ rfl (hrow.alloc _) ⟨W.heap.size, 0, none⟩ 1 1 [.int .u16 (x.mask : Int), .bool x.odd] rfl rfl (cell_two_new _ _ _ _) (by simp [Value.oneCell']) (by unfold maxLen; omega) (by omega) (by have := hB.size; simp; omega) ?_; intro v' w1 hown' hgrow _; obtain ⟨g', cap', rfl⟩ := ownsRow_succ hown'; obtain ⟨hv1, hv2, hr2, hk2, hb2⟩ := hv.appended (by decide) hrow hB.size (Nat.le_refl _) hown' hgrow; have hc1 := hv1.cell; have hf1 := hv1.frozen)
    refine ⟨hk2.from _, walks_of_others hk2, ⟨_, hv2, ?_, trivial⟩, hB.trans hb2⟩
    rw [rowF_append, List.length_append]
    exact hr2
  case done =>
    rintro D ys W hD hp ⟨⟨v, hv, hrow, -⟩, hB⟩ hK
    have hc := hv.cell
    gi_wp2
    refine ⟨by simp, .inl ⟨_, _, rfl, run_takeDeferred hK, ?_⟩⟩
    exact ⟨_, results_tmp rfl _ _ _, v, ys, rfl, hp, ownsRow_putObj hrow _ hK rfl, hB.trans (belowK_b (w := w) (Nat.le_refl _) W D _ _ (by omega) hK rfl rfl)⟩
  case stop =>
    rintro D c pre W _ _ h _
    exact h.elim
set_option maxHeartbeats 1000000 in
/-- slices.Collect over maps.Values of a map of words: its words, in some order, in a row of their own. -/
theorem collect_any (Bm b : Nat) (xs : List Wd) (w : World) (hxs : xs.length ≤ 1000000) (hBm : Bm < w.heap.size) (hm : w.cell? ⟨Bm, 0, none⟩ = some (.map (some b))) (hown : MapAt 59 w b (xs.map entW)) :
    Calls Tryz.prog 147 #[.func (.func 167) #[] #[.pointer (some ⟨Bm, 0, none⟩)]] w fun e w' => ∃ (v : Value) (ys : List Wd), e = .returned v ∧ ys.Perm xs ∧ OwnF 75 2 wdC w' w.heap.size v ys ∧ Ext w w' := by
  have H := Lib.hid (appendSeq_any Bm b xs w hxs hBm hm hown)
  go_enter Tryz.func147, Tryz.ntmps147
  go_wp2_with (go_at_call 166; refine H.out.mono ?_; rintro e w1 ⟨v, ys, rfl, hp, ho, he⟩)
  refine bodyPost_ret (v := v) (by simp [results, Tryz.results147, go_sem]) rfl ⟨v, ys, rfl, hp, ho, he⟩
end Go.Proofs.YtplbofhgmflnlaaGreat
end
section
/-
  Walks: products.
-/
set_option linter.unusedVariables false
set_option linter.unusedSimpArgs false
namespace Go.Proofs.YtplbofhgmflnlaaGreat
open Go.RowKit Go.Maps
theorem key59 {x : Nat} (h : x < 65536) : ∃ l, keyOf Tryz.prog 59 (.int .u16 (x : Int)) = some l :=
  ⟨_, keyOf_int_mk Tryz.underlying59 (by simp [Lit.wf, IntKind.min, IntKind.max, IntKind.signed, IntKind.bits]; omega)⟩
theorem zero75 (w : World) : (zeroValue 75).run Tryz.prog w = .ok (.agg #[.int .u16 0, .bool false]) w := by kernel_rfl
/-- What products answers. -/
def RetProd (ws : List Wd) (w : World) (e : Ending) (w' : World) : Prop := Ext w w' ∧ ((clashW ws = true ∧ e = .returned (.tuple #[.map none, .int .i64 60])) ∨
  ∃ b xs, e = .returned (.tuple #[.map (some b), .int .i64 0]) ∧ w.heap.size ≤ b ∧ MapAt 59 w' b (xs.map entW) ∧ Spans ws xs)
theorem ent_mem {xs : List Wd} {x : Wd} (h : x ∈ xs) : (Value.int .u16 (x.mask : Int), wdV x) ∈ xs.map entW := List.mem_map.2 ⟨x, h, rfl⟩
theorem ent_ne {xs : List Wd} {k : Nat} (h : ∀ x ∈ xs, x.mask ≠ k) : ∀ p ∈ xs.map entW, p.1 ≠ Value.int .u16 (k : Int) := by
  intro p hp e
  obtain ⟨x, hx, rfl⟩ := List.mem_map.1 hp
  simp only [entW, Value.int.injEq, true_and] at e
  exact h x hx (by omega)
theorem ent_len (xs : List Wd) : (xs.map entW).length = xs.length := List.length_map _
theorem one_map (w : World) : ∃ w1, (Instr.mapUpdate 179 (.map (some w.heap.size)) (.int .u16 0) (.agg #[.int .u16 0, .bool false])).run Tryz.prog (w.alloc (.map #[] 0)) = .ok () w1 ∧ MapAt 59 w1 w.heap.size ([oneW].map entW) ∧ Ext w w1 := by
  obtain ⟨w1, h1, h2, h3⟩ := (MapAt.made 59 w).store_new keyed59 Tryz.underlying179 (key := .int .u16 ((0 : Nat) : Int)) (val := wdV oneW) (key59 (by omega)) (by simp) (by simp [maxLen])
  exact ⟨w1, h1, h2, ((Ext.refl w).alloc _).turned h3 (Nat.le_refl _)⟩
theorem wd_mem {ws : List Wd} {k : Nat} (hk : k < ws.length) : wth ws k ∈ ws := by rw [wth_eq _ _ hk]; exact List.getElem_mem hk
theorem take_wth {ws : List Wd} {k : Nat} (hk : k < ws.length) : ws.take (k + 1) = ws.take k ++ [wth ws k] := by rw [List.take_succ_eq_append_getElem hk, wth_eq _ _ hk]
theorem drop_wth {ws : List Wd} {k : Nat} (hk : k < ws.length) : ws = ws.take k ++ wth ws k :: ws.drop (k + 1) := by
  conv => lhs; rw [← List.take_append_drop k ws, List.drop_eq_getElem_cons hk, ← wth_eq _ _ hk]
set_option maxRecDepth 100000 in
set_option maxHeartbeats 4000000 in
theorem products_any (a : Option Addr) (ws : List Wd) (c : Nat) (w : World) (h : Wds w a ws) (hn : ws.length ≤ 12) (hm : ∀ x ∈ ws, x.mask < 65536) : Calls Tryz.prog 120 #[.slice a ws.length c] w (RetProd ws w) := by
  have HH := Lib.hid h
  have HM := Lib.hid hm
  obtain ⟨w1, hup, hm1, he1⟩ := one_map w
  obtain ⟨b, hb⟩ : ∃ b, b = w.heap.size := ⟨_, rfl⟩
  rw [← hb] at hup hm1
  have hmm := @run_makeMap Tryz.prog
  clear h hm
  go_enter Tryz.func120, Tryz.ntmps120
  rw [hb] at hup hm1
  go_wp2_with (fail)
  rw [← hb] at hm1 ⊢
  have HB := Lib.hid hb
  have HS0 : Hid (Spans [] [oneW]) := Lib.hid Spans.nil
  have HE1 := Lib.hid he1
  clear hup hmm hb he1
  go_loopw [17] (fun i wr => ∃ (k : Nat) (xs : List Wd), k ≤ ws.length ∧ i = .int .i64 k ∧ Hid (MapAt 59 wr b (xs.map entW) ∧ Spans (ws.take k) xs ∧ Ext w wr)) (fun i _ => ws.length - (intOf i).toNat)
  case atStart => exact ⟨0, [oneW], Nat.zero_le _, rfl, Lib.hid ⟨hm1, HS0.out, HE1.out⟩⟩
  case round =>
    obtain ⟨k, xs, hk, rfl, hst⟩ := hrel
    clear hm1 HS0 HE1
    obtain ⟨hmr, hsp, her⟩ := hst.out
    clear hst
    have HSP := Lib.hid hsp
    have HER := Lib.hid her
    have HMR := Lib.hid hmr
    by_cases hlt : k < ws.length
    · obtain ⟨sb, so, rfl, d0, d1⟩ := wd_at (HH.out.ext wdC_len her) k hlt
      have Er := Ext.refl wr
      have hym := HM.out _ (wd_mem hlt)
      obtain ⟨y, hy⟩ : ∃ y, y = wth ws k := ⟨_, rfl⟩
      rw [← hy] at d0 d1 hym
      have HY := Lib.hid hy
      obtain ⟨ym, yo⟩ := y
      have HXM : Hid (∀ x ∈ xs, x.mask < 65536) := fun x hx => by
        have := gens_lt (m := 16) (ws.take k) (fun z hz => HM.out z (List.mem_of_mem_take hz)) x ((hsp.mem x).1 hx)
        exact this
      have HYM : Hid (ym < 65536) := hym
      clear hy hsp her hym
      by_cases hex : ∃ x, x ∈ xs ∧ x.mask = ym
      · obtain ⟨x, hx, hxm⟩ := hex
        have HX := Lib.hid hx
        obtain ⟨xm, xo⟩ := x
        simp only at hxm
        subst hxm
        have hlk : ∀ W, Ext wr W → (Instr.lookup 179 (.map (some b)) (.int .u16 (xm : Int)) true).run Tryz.prog W = .ok (.tuple #[.agg #[.int .u16 (xm : Int), .bool xo], .bool true]) W := fun W e => by
          have := (HMR.out.ext e).look_yes keyed59 Tryz.underlying179 (key59 HYM.out) (ent_mem HX.out) true
          simpa using this
        clear hx hmr
        by_cases ho : xo = yo
        · subst ho
          go_wp2_with (fail)
          refine ⟨⟨k + 1, xs, hlt, by simp, Lib.hid ⟨HMR.out.ext ((Er.alloc _).alloc _), ?_, HER.out.trans ((Er.alloc _).alloc _)⟩⟩, ?_⟩
          · rw [take_wth hlt, ← HY.out]; exact HSP.out.old HX.out
          · show ws.length - ((k : Int) + 1).toNat < ws.length - ((k : Int)).toNat; omega
        · go_wp2_with (fail)
          go_ret2
          refine ⟨HER.out.trans ((Er.alloc _).alloc _), .inl ⟨?_, rfl⟩⟩
          have := HSP.out.clash (ws.drop (k + 1)) HX.out (w := ⟨xm, yo⟩) rfl (fun e => ho (by cases e; rfl))
          rwa [HY.out, ← drop_wth hlt] at this
      · have hlk : ∀ W, Ext wr W → (Instr.lookup 179 (.map (some b)) (.int .u16 (ym : Int)) true).run Tryz.prog W = .ok (.tuple #[.agg #[.int .u16 0, .bool false], .bool false]) W := fun W e => by
          have := (HMR.out.ext e).look_no keyed59 Tryz.underlying179 (zero75 W) (key59 HYM.out) (ent_ne fun x hx e => hex ⟨x, hx, e⟩) true
          simpa using this
        have HEX := Lib.hid hex
        have HC : Hid (∀ W n, Ext wr W → W.heap.size = n → Calls Tryz.prog 147 #[.func (.func 167) #[] #[.pointer (some ⟨n, 0, none⟩)]] (W.alloc (.cells #[.map (some b)] 179)) (fun e w' => ∃ (v : Value) (ys : List Wd), e = .returned v ∧ ys.Perm xs ∧ OwnF 75 2 wdC w' (n + 1) v ys ∧ Ext (W.alloc (.cells #[.map (some b)] 179)) w')) := fun W n e hn' => by
          subst hn'
          have := collect_any W.heap.size b xs (W.alloc (.cells #[.map (some b)] 179)) (by have := HSP.out.len; have : 2 ^ (ws.take k).length ≤ 2 ^ 12 := Nat.pow_le_pow_right (by omega) (by rw [List.length_take]; omega); omega) (by rw [heap_size]; omega) ((obj_cells1 (heap_new W _)) _ (Ext.refl _)) ((HMR.out.ext e).ext ((Ext.refl _).alloc _))
          rwa [heap_size] at this
        clear hex hmr
        go_wp2_with (first
          | (go_at_call 148; (with_reducible refine (values_any b _).mono ?_); rintro e w' ⟨rfl, rfl⟩)
          | (go_at_call 147; (with_reducible refine (HC.out _ _ ((Er.alloc _).alloc _) (by rw [heap_size, heap_size])).mono ?_); rintro e w3 ⟨v, ys, rfl, hp, ho, he3⟩; obtain ⟨ya, yc, rfl⟩ := ownF_slice ho))
        have hC : Hid (Ext wr w3) := (((Er.alloc _).alloc _).alloc _).trans he3
        have hc6 := (obj_cells2 ((((Ext.refl (wr.alloc (.cells #[.int .u16 (ym : Int), .bool yo] 75))).alloc _).alloc _).trans he3 |>.block (heap_new wr _)))
        obtain ⟨c0, c1⟩ := hc6
        have hbl := HMR.out.lt
        have hyl : ys.length = xs.length := hp.length_eq
        have hxl : xs.length ≤ 4096 := by have := HSP.out.len; have : 2 ^ (ws.take k).length ≤ 2 ^ 12 := Nat.pow_le_pow_right (by omega) (by rw [List.length_take]; omega); omega
        obtain ⟨bv, hbv⟩ : ∃ bv, bv = wr.heap.size := ⟨_, rfl⟩
        rw [← hbv] at c0 c1 ho hbl ⊢
        have HO := Lib.hid ho
        have HP := Lib.hid hp
        have HYL := Lib.hid hyl
        have HNEW : Hid (Spans (ws.take (k + 1)) (xs ++ ys.map fun x => mulW x ⟨ym, yo⟩)) := by
          rw [Hid, take_wth hlt, ← HY.out]
          exact HSP.out.new (fun x hx e => HEX.out ⟨x, hx, e⟩) hp
        have d0' := c0 w3 (Ext.refl w3)
        have d1' := c1 w3 (Ext.refl w3)
        have HM3 := Lib.hid (HMR.out.ext hC.out)
        clear he3 ho hp hyl c0 c1 d0 d1 hbv
        obtain ⟨w4, hw4⟩ : ∃ w4 : World, w4 = w3 := ⟨_, rfl⟩
        have H0 : Hid (MapAt 59 w3 b ((xs ++ (ys.take 0).map fun x => mulW x ⟨ym, yo⟩).map entW) ∧ ExtX b w4 w3) := by
          rw [List.take_zero, List.map_nil, List.append_nil, hw4]
          exact ⟨HM3.out, ExtX.refl _ _⟩
        rw [← hw4] at d0' d1' HO HM3 hC
        clear hw4
        go_loopw [36] (fun i wi => ∃ j : Nat, j ≤ ys.length ∧ i = .int .i64 j ∧ Hid (MapAt 59 wi b ((xs ++ (ys.take j).map fun x => mulW x ⟨ym, yo⟩).map entW) ∧ ExtX b w4 wi)) (fun i _ => ys.length - (intOf i).toNat)
        case atStart => exact ⟨0, Nat.zero_le _, rfl, H0⟩
        case round =>
          obtain ⟨j, hj, rfl, hst⟩ := hrel
          clear H0
          obtain ⟨hmi, hxi⟩ := hst.out
          clear hst
          by_cases hjl : j < ys.length
          · obtain ⟨g, rfl, hgB, hgl, hcc⟩ := HO.out.cell wdC_len j hjl
            have hgb : g ≠ b := by omega
            have q0 := hxi.cell (hcc 0 (by omega)) hgb
            have q1 := hxi.cell (hcc 1 (by omega)) hgb
            have p0 := hxi.cell d0' (show bv ≠ b by omega)
            have p1 := hxi.cell d1' (show bv ≠ b by omega)
            have Ei := Ext.refl wr
            obtain ⟨x, hx⟩ : ∃ x, x = ys[j] := ⟨_, rfl⟩
            rw [← hx] at q0 q1
            obtain ⟨xm, xo⟩ := x
            have r0 : ∀ W, Ext wr W → W.cell? ⟨g, j * 2, none⟩ = some (.int .u16 (xm : Int)) := fun W e => e.cell q0
            have r1 : ∀ W, Ext wr W → W.cell? ⟨g, j * 2 + 1, none⟩ = some (.bool xo) := fun W e => e.cell q1
            have s0 : ∀ W, Ext wr W → W.cell? ⟨bv, 0, none⟩ = some (.int .u16 (ym : Int)) := fun W e => e.cell p0
            have s1 : ∀ W, Ext wr W → W.cell? ⟨bv, 1, none⟩ = some (.bool yo) := fun W e => e.cell p1
            have hxm : xm < 65536 := HXM.out ⟨xm, xo⟩ (HP.out.mem_iff.1 (by rw [hx]; exact List.getElem_mem hjl))
            obtain ⟨z, hz⟩ : ∃ z, z = mulW ⟨xm, xo⟩ ⟨ym, yo⟩ := ⟨_, rfl⟩
            have HT : Hid (∀ W, Calls Tryz.prog 121 #[.agg #[.int .u16 (xm : Int), .bool xo], .agg #[.int .u16 (ym : Int), .bool yo]] W (Ret (wdV z) W)) := fun W => by
              rw [hz]; exact times_any ⟨xm, xo⟩ ⟨ym, yo⟩ W hxm HYM.out
            have hzm : z.mask < 65536 := by rw [hz]; exact mulW_lt hxm HYM.out
            have hsplit : (xs ++ ys.map fun x => mulW x ⟨ym, yo⟩) = (xs ++ (ys.take j).map fun x => mulW x ⟨ym, yo⟩) ++ z :: (ys.drop (j + 1)).map fun x => mulW x ⟨ym, yo⟩ := by
              rw [hz, hx, List.append_assoc]
              congr 1
              conv => lhs; rw [← List.take_append_drop j ys, List.drop_eq_getElem_cons hjl, List.map_append, List.map_cons]
            have hnew : ∀ x ∈ xs ++ (ys.take j).map (fun x => mulW x ⟨ym, yo⟩), x.mask ≠ z.mask := by
              have hnd := HNEW.out.nodup
              rw [hsplit, List.map_append, List.nodup_append] at hnd
              intro x hx2
              exact hnd.2.2 _ (List.mem_map.2 ⟨x, hx2, rfl⟩) _ (by simp)
            have hsnoc : (xs ++ (ys.take (j + 1)).map fun x => mulW x ⟨ym, yo⟩) = (xs ++ (ys.take j).map fun x => mulW x ⟨ym, yo⟩) ++ [z] := by
              rw [hz, hx, List.append_assoc, List.take_succ_eq_append_getElem hjl, List.map_append]
              rfl
            obtain ⟨zm, zo⟩ := z
            have HUP : Hid (∀ W, Ext wr W → (Instr.mapUpdate 179 (.map (some b)) (.int .u16 (zm : Int)) (.agg #[.int .u16 (zm : Int), .bool zo])).run Tryz.prog W = .ok () (mapW 179 W b (.int .u16 (zm : Int)) (.agg #[.int .u16 (zm : Int), .bool zo])) ∧
                (MapAt 59 (mapW 179 W b (.int .u16 (zm : Int)) (.agg #[.int .u16 (zm : Int), .bool zo])) b ((xs ++ (ys.take (j + 1)).map fun x => mulW x ⟨ym, yo⟩).map entW) ∧ Turned W (mapW 179 W b (.int .u16 (zm : Int)) (.agg #[.int .u16 (zm : Int), .bool zo])) b)) := fun W e => by
              refine run_mapW (R := fun w' => MapAt 59 w' b ((xs ++ (ys.take (j + 1)).map fun x => mulW x ⟨ym, yo⟩).map entW) ∧ Turned W w' b) ?_
              obtain ⟨w', h1, h2, h3⟩ := (hmi.ext e).store_new keyed59 Tryz.underlying179 (key := .int .u16 (zm : Int)) (val := wdV ⟨zm, zo⟩) (key59 hzm) (ent_ne hnew) (by rw [ent_len, List.length_append, List.length_map, List.length_take]; have := HYL.out; unfold maxLen; omega)
              rw [hsnoc, List.map_append]
              exact ⟨w', h1, h2, h3⟩
            have hup := fun W (e : Ext wr W) => (HUP.out W e).1
            have HXI := Lib.hid hxi
            have hj4 : j ≤ 4096 := by have := HYL.out; omega
            clear hcc q0 q1 p0 p1 d0' d1' hx hxm hz hzm hsplit hnew hsnoc hmi hxi hgB hgl
            go_wp2_with (go_at_call 121; (with_reducible refine (HT.out _).mono ?_); rintro e w5 ⟨rfl, he5⟩; have he6 := (Ei.alloc _).trans he5)
            refine ⟨⟨j + 1, hjl, by simp, Lib.hid ⟨(HUP.out _ (he6.alloc _)).2.1, (HXI.out.trans (he6.alloc _).x).trans ((ExtX.refl b _).turned (HUP.out _ (he6.alloc _)).2.2)⟩⟩, ?_⟩
            show ys.length - ((j : Int) + 1).toNat < ys.length - ((j : Int)).toNat; omega
          · obtain rfl : j = ys.length := by omega
            have HMI := Lib.hid hmi
            have HXI := Lib.hid hxi
            clear hmi hxi d0' d1'
            go_wp2_with (fail)
            refine ⟨⟨k + 1, _, hlt, by simp, Lib.hid ⟨HMI.out, ?_, ?_⟩⟩, ?_⟩
            · rw [List.take_length]; exact HNEW.out
            · exact ((HER.out.trans hC.out).x.trans HXI.out).ext (Nat.le_of_eq HB.out.symm)
            · show ws.length - ((k : Int) + 1).toNat < ws.length - ((k : Int)).toNat; omega
    · obtain rfl : k = ws.length := by omega
      go_wp2_with (fail)
      go_ret2
      exact ⟨HER.out, .inr ⟨b, xs, rfl, Nat.le_of_eq HB.out.symm, HMR.out, by have := HSP.out; rwa [List.take_length] at this⟩⟩
end Go.Proofs.YtplbofhgmflnlaaGreat
end
section
/-
  Walks: related, and the relation, the resolution, the aliases.
-/
set_option linter.unusedVariables false
set_option linter.unusedSimpArgs false
namespace Go.Proofs.YtplbofhgmflnlaaGreat
open Go.RowKit Go.Maps Go.MapKept Go.ChangeMaps
section
variable {P : Program} (w : World) {ops : Array Oper} {rest : List Oper} {o : Oper} {a : Act} {Q : Exit → Act → World → Prop}
theorem wpList_range_run (hg : o.guard = none) (m : Operand) (t : TypeId) (hop : o.op = Op.range t m) (v : Value) (w' : World) (hrun : (Instr.range t (a.eval m)).run P w = .ok v w')
    (hK : wpList P ops Q rest (a.put o.dst v) w') : wpList P ops Q (o :: rest) a w := by
  refine wpList_plain hg fun K' hK' => ?_
  unfold Oper.wp
  simp [execOp, hop, hrun, Result.andThen]
  exact hK' _ _ hK
theorem wpList_next_run (hg : o.guard = none) (it : Operand) (hop : o.op = Op.next it false) (A : Prop) (B : Value → World → Prop)
    (hrun : (A ∧ (Instr.next (a.eval it) false o.type).run P w = .ok (.tuple #[.bool false]) w) ∨ ∃ v w', (Instr.next (a.eval it) false o.type).run P w = .ok v w' ∧ B v w')
    (hDone : A → wpList P ops Q rest (a.put o.dst (.tuple #[.bool false])) w) (hMore : ∀ v w', B v w' → wpList P ops Q rest (a.put o.dst v) w') : wpList P ops Q (o :: rest) a w := by
  refine wpList_plain hg fun K' hK' => ?_
  unfold Oper.wp
  rcases hrun with ⟨hA, hr⟩ | ⟨v, w', hr, hB⟩
  · simp [execOp, hop, hr, Result.andThen]
    exact hK' _ _ (hDone hA)
  · simp [execOp, hop, hr, Result.andThen]
    exact hK' _ _ (hMore v w' hB)
theorem wpList_delete_run (hg : o.guard = none) (m x : Operand) (t k : TypeId) (hop : o.op = Op.call { callee := Callee.builtin Builtin.delete, args := #[m, x], argTypes := #[t, k] }) (w' : World)
    (hrun : (Builtin.delete_ #[t, k] o.type #[a.eval m, a.eval x]).run P w = .ok (.tuple #[]) w') (hK : wpList P ops Q rest (a.put o.dst (.tuple #[])) w') : wpList P ops Q (o :: rest) a w := by
  refine wpList_plain hg fun K' hK' => ?_
  unfold Oper.wp
  simp [execOp, hop, resolve, invoke, builtin, hrun, Result.andThen]
  exact hK' _ _ hK
end
theorem map_erase {α β : Type} (f : α → β) : ∀ (l : List α) (j : Nat), (l.eraseIdx j).map f = (l.map f).eraseIdx j
  | [], j => by simp
  | a :: l, 0 => by simp
  | a :: l, j + 1 => by simp [map_erase f l j]
theorem Fits.erase {k : TypeId} {es : Array MapEntry} {clock : Nat} {m : List (Value × Value)} (h : Fits k es clock m) (j : Nat) : Fits k (es.eraseIdxIfInBounds j) clock (m.eraseIdx j) := by
  have hl : (es.eraseIdxIfInBounds j).toList = es.toList.eraseIdx j := by
    unfold Array.eraseIdxIfInBounds
    split
    · simp
    · rename_i hlt
      rw [List.eraseIdx_of_length_le (by simpa using hlt)]
  have hsub : (es.toList.eraseIdx j).Sublist es.toList := List.eraseIdx_sublist _ _
  refine ⟨?_, ?_, ?_, ?_, ?_, ?_⟩
  · rw [hl, ← h.kvs, map_erase]
  · intro e he; rw [hl] at he; exact h.keys e (hsub.mem he)
  · exact ((List.eraseIdx_sublist m j).map _).nodup h.nodup
  · exact Nat.lt_of_le_of_lt (List.eraseIdx_sublist m j).length_le h.len
  · rw [hl]; exact (hsub.map _).nodup h.born
  · intro e he; rw [hl] at he; exact h.old e (hsub.mem he)
theorem MapAt.drop {k t e : TypeId} {w : World} {b : Nat} {m : List (Value × Value)} (h : MapAt k w b m) (K : Keyed Tryz.prog k) (ht : Tryz.prog.underlying t = some (.map k e)) {key v0 : Value} (hk : ∃ l, keyOf Tryz.prog k key = some l) {j : Nat} (hj : m[j]? = some (key, v0)) :
    ∃ w', (∀ ty, (Builtin.delete_ #[t, k] ty #[.map (some b), key]).run Tryz.prog w = .ok (.tuple #[]) w') ∧ MapAt k w' b (m.eraseIdx j) ∧ Turned w w' b := by
  obtain ⟨es, clock, hb, hf⟩ := h
  obtain ⟨l, hk⟩ := hk
  rcases K.find w hk es.toList hf.keys with ⟨h1, h2⟩ | ⟨i, e0, h1, h2, h3⟩
  · have hx : (key, v0) ∈ m := List.mem_of_getElem? hj
    rw [← hf.kvs, List.mem_map] at hx
    obtain ⟨x, hx, hxe⟩ := hx
    exact absurd (congrArg Prod.fst hxe) (h2 x hx)
  · obtain ⟨rfl, -⟩ := hf.at_key hj h2 h3
    refine ⟨setBlock w b (.map (es.eraseIdxIfInBounds i) clock), ?_, ⟨_, clock, heap_setBlock_same hb _, hf.erase i⟩, turned_set _ _ _⟩
    intro ty
    simp [Builtin.delete_, run_underlying ht, MapKept.run_getObj_map hb, K.check w _ hk, h1, MapKept.run_setObj_map _ hb, Result.andThen, setBlock]
theorem app_wd (w : World) (B : Nat) (ty : TypeId) (v : Value) (xs ys : List Wd) (a : Option Addr) (c : Nat) (hv : OwnW w B v xs) (hx : Wds w a ys) (hn : xs.length + ys.length ≤ 1000000) (hB : B ≤ w.heap.size) :
    ∃ v' w', (Builtin.append_ #[56, 56] ty #[v, .slice a ys.length c]).run Tryz.prog w = .ok v' w' ∧ OwnW w' B v' (xs ++ ys) ∧ w.grownBy w' v.ownBlock := by
  obtain ⟨i0, hi, hz0, hz1, hz2⟩ := info_parts info75
  exact app_row wdC_len wdC_one Tryz.underlying56 hi hz0 hz1 hz2 rfl (by omega) (by omega) w B ty v xs ys a c hv hx hn hB
theorem wd_one {w : World} {b : Nat} {x : Wd} {T : TypeId} {fz : Nat × Nat} (h : w.heap[b]? = some (.cells #[.int .u16 (x.mask : Int), .bool x.odd] T fz)) : Wds w (some ⟨b, 0, none⟩) [x] := by
  obtain ⟨c0, c1⟩ := obj_cells2 h
  refine .inr ⟨b, 0, rfl, fun i hi j hj => ?_⟩
  obtain rfl : i = 0 := by simp at hi; omega
  match j, hj with
  | 0, _ => exact c0 w (Ext.refl w)
  | 1, _ => exact c1 w (Ext.refl w)
theorem drop_one {ws xs : List Wd} (h : Spans ws xs) {j : Nat} (hj : j < xs.length) (h0 : xs[j] = oneW) : xs.eraseIdx j = xs.filter fun x => x.mask != 0 := by
  have hn := h.nodup
  rw [List.eraseIdx_eq_take_drop_succ]
  conv => rhs; rw [← List.take_append_drop j xs, List.drop_eq_getElem_cons hj, h0]
  have hsplit : xs = xs.take j ++ oneW :: xs.drop (j + 1) := by
    conv => lhs; rw [← List.take_append_drop j xs, List.drop_eq_getElem_cons hj, h0]
  rw [hsplit, List.map_append, List.map_cons, List.nodup_append, List.nodup_cons] at hn
  rw [List.filter_append, List.filter_cons_of_neg (by simp [oneW])]
  rw [List.filter_eq_self.2, List.filter_eq_self.2]
  · intro x hx
    have := hn.2.1.1
    simp only [bne_iff_ne, ne_eq]
    intro e
    exact this (List.mem_map.2 ⟨x, hx, e⟩)
  · intro x hx
    simp only [bne_iff_ne, ne_eq]
    intro e
    exact hn.2.2 _ (List.mem_map.2 ⟨x, hx, rfl⟩) _ (List.mem_cons_self) e
/-- What related answers. -/
def RetRel (ws : List Wd) (u : Wd) (w : World) (e : Ending) (w' : World) : Prop := Ext w w' ∧ ((clashW ws = true ∧ e = .returned (.tuple #[.slice none 0 0, .int .i64 60])) ∨
  (clashW ws = false ∧ ∃ a c l, e = .returned (.tuple #[.slice a l.length c, .int .i64 0]) ∧ RelOf ws u l ∧ OwnW w' w.heap.size (.slice a l.length c) l))
theorem products_clash (a : Option Addr) (ws : List Wd) (c : Nat) (w : World) (h : Wds w a ws) (hn : ws.length ≤ 12) (hm : ∀ x ∈ ws, x.mask < 65536) (hc : clashW ws = true) : Calls Tryz.prog 120 #[.slice a ws.length c] w (Ret (.tuple #[.map none, .int .i64 60]) w) := by
  refine (products_any a ws c w h hn hm).mono ?_
  rintro e w' ⟨he, ⟨-, rfl⟩ | ⟨b, xs, rfl, -, -, hs⟩⟩
  · exact ⟨rfl, he⟩
  · rw [hs.free] at hc; cases hc
theorem products_free (a : Option Addr) (ws : List Wd) (c : Nat) (w : World) (h : Wds w a ws) (hn : ws.length ≤ 12) (hm : ∀ x ∈ ws, x.mask < 65536) (hc : clashW ws = false) :
    Calls Tryz.prog 120 #[.slice a ws.length c] w (fun e w' => ∃ b w3 s cc xs j, e = .returned (.tuple #[.map (some b), .int .i64 0]) ∧ (∀ ty, (Builtin.delete_ #[179, 59] ty #[.map (some b), .int .u16 0]).run Tryz.prog w' = .ok (.tuple #[]) w3) ∧
      (Instr.range 179 (.map (some b))).run Tryz.prog w3 = .ok (.pointer (some ⟨w3.heap.size, 0, none⟩)) (w3.alloc (.mapIter (some b) s #[] cc)) ∧
      Hid (Ext w w3 ∧ Spans ws xs ∧ (∃ h : j < xs.length, xs[j] = oneW) ∧ RngAt 59 (w3.alloc (.mapIter (some b) s #[] cc)) b w3.heap.size ((xs.eraseIdx j).map entW) [])) := by
  refine (products_any a ws c w h hn hm).mono ?_
  rintro e w' ⟨he, ⟨h1, -⟩ | ⟨b, xs, rfl, hb, hmp, hs⟩⟩
  · rw [hc] at h1; cases h1
  · obtain ⟨j, hj, hje⟩ := List.getElem_of_mem ((hs.mem _).2 (one_gens ws))
    obtain ⟨w3, h1, h2, h3⟩ := hmp.drop keyed59 Tryz.underlying179 (key := .int .u16 ((0 : Nat) : Int)) (v0 := wdV oneW) (j := j) (key59 (by omega)) (by rw [List.getElem?_map, List.getElem?_eq_getElem hj, hje]; rfl)
    rw [← map_erase] at h2
    obtain ⟨s, cc, h4, h5⟩ := h2.range Tryz.underlying179
    exact ⟨b, w3, s, cc, xs, j, rfl, h1, h4, Lib.hid ⟨he.turned h3 hb, hs, ⟨hj, hje⟩, h5⟩⟩
theorem Stepped.ext {w w' w0 : World} {r : Nat} (h : Stepped w w' r) (e : Ext w0 w) (hr : w0.heap.size ≤ r) : Ext w0 w' :=
  ⟨h.grown.os.trans e.os, h.grown.tape.trans e.tape, h.grown.output.trans e.output, by rw [h.size]; exact e.size, fun k hk => (h.keep k (by have := e.size; omega) (by omega)).trans (Below.block e k hk)⟩
theorem Stepped.own {α : Type} {w w' : World} {r e sz : Nat} {f : α → List Value} {B : Nat} {v : Value} {xs : List α} (h : Stepped w w' r) (hr : ∃ o : Obj, w.heap[r]? = some o ∧ (∃ x s sn c, o = .mapIter x s sn c)) (ho : OwnF e sz f w B v xs) : OwnF e sz f w' B v xs := by
  refine World.ownsRow.kept ho h.grown ?_
  rcases ho.2 with ⟨rfl, _⟩ | ⟨g, cap, cur, rfl, _, hgb, _⟩
  · exact .inl rfl
  · refine .inr fun e' => ?_
    obtain ⟨o, h1, x, s, sn, c, rfl⟩ := hr
    have : g = r := by simpa [Value.ownBlock] using e'
    rw [← this, hgb] at h1
    cases h1
theorem RngAt.grown {k : TypeId} {w w' : World} {b r : Nat} {m done : List (Value × Value)} {v : Value} {e sz B n : Nat} {xs : List Value} (h : RngAt k w b r m done) (hv : w.ownsRow B e sz v n xs) (hg : w.grownBy w' v.ownBlock) : RngAt k w' b r m done := by
  have hm := h.map
  have hi := h.iter_walk
  have hne : ∀ (j : Nat) (o : Obj), w.heap[j]? = some o → o.isCells = false → some j ≠ v.ownBlock := by
    intro j o hj hc e'
    rcases hv.2 with ⟨rfl, _⟩ | ⟨g, cap, cur, rfl, _, hgb, _⟩
    · simp [Value.ownBlock] at e'
    · have : j = g := by simpa [Value.ownBlock] using e'
      rw [this, hgb] at hj
      cases hj; cases hc
  obtain ⟨o, h1, x, s, sn, c, rfl⟩ := hi
  obtain ⟨es, cl, h2, -⟩ := hm
  exact h.of_block (hg.block b (lt_of_block h2) (hne b _ h2 rfl)) (hg.block r (lt_of_block h1) (hne r _ h1 rfl))
theorem sort_own (w : World) (B : Nat) (v : Value) (xs : List Wd) (hx : ∀ x ∈ xs, x.mask < 65536) (hn : xs.length ≤ 1000000) (h : OwnW w B v xs) :
    Calls Tryz.prog 122 #[v, .func (.func 123) #[] #[]] w (fun e w' => ∃ ys a c, e = .returned (.tuple #[]) ∧ v = .slice a ys.length c ∧ ys.Perm xs ∧ ys.Pairwise (fun x y => ltW y x = false) ∧ OwnW w' B v ys ∧ ∀ w0, Ext w0 w → w0.heap.size ≤ B → Ext w0 w') := by
  rcases h.2 with ⟨rfl, hl⟩ | ⟨g, cap, cur, rfl, hg, _⟩
  · obtain rfl : xs = [] := List.length_eq_zero_iff.1 hl
    refine (sort_words_none w).mono ?_
    rintro e w' ⟨rfl, rfl⟩
    exact ⟨[], none, 0, rfl, rfl, .refl _, .nil, h, fun w0 e _ => e⟩
  · refine (sort_words B g cap xs w hx h hn).mono ?_
    rintro e w' ⟨rfl, ys, hp, hs, he, ho⟩
    exact ⟨ys, _, cap, rfl, by rw [hp.length_eq], hp, hs, ho, fun w0 e hb => (e.x.trans he).ext (by omega)⟩
set_option maxRecDepth 100000 in
set_option maxHeartbeats 4000000 in
theorem related_any (F : Fr) (u : Wd) (w : World) (h : FrAt w F) (hn : F.ws.length ≤ 12) (hm : ∀ x ∈ F.ws, x.mask < 65536) (hu : u.mask < 65536) : Calls Tryz.prog 87 #[frV F, wdV u] w (RetRel F.ws u w) := by
  obtain ⟨fn, ws, wa, wc⟩ := F
  obtain ⟨um, uo⟩ := u
  simp only at hn hm hu h
  show Calls Tryz.prog 87 #[frV ⟨fn, ws, wa, wc⟩, wdV ⟨um, uo⟩] w (RetRel ws ⟨um, uo⟩ w)
  cases HCL : clashW ws with
  | true =>
    have HP := Lib.hid (fun W (e : Ext w W) => products_clash wa ws wc W (RowAt.ext wdC_len h e) hn hm HCL)
    have HC := Lib.hid HCL
    clear h hm hu HCL
    go_enter Tryz.func87, Tryz.ntmps87
    go_wp2_with (fail)
    generalize hw1 : World.alloc (World.alloc _ _) _ = w1
    obtain ⟨he, o1, o2, -⟩ := alloc2 hw1
    clear hw1
    go_wp2_with (go_at_call 120; (with_reducible refine (HP.out _ he).mono ?_); rintro e w2 ⟨rfl, he2⟩)
    go_ret2
    exact ⟨he.trans he2, .inl ⟨HC.out, rfl⟩⟩
  | false =>
    have HP := Lib.hid (fun W (e : Ext w W) => products_free wa ws wc W (RowAt.ext wdC_len h e) hn hm HCL)
    have HM := Lib.hid hm
    have HU : Hid (um < 65536) := hu
    have HC := Lib.hid HCL
    clear h hm hu HCL
    go_enter Tryz.func87, Tryz.ntmps87
    go_wp2_with (fail)
    generalize hw1 : World.alloc (World.alloc _ _) _ = w1
    obtain ⟨he, o1, o2, -⟩ := alloc2 hw1
    obtain ⟨ub, hub⟩ : ∃ ub, ub = w.heap.size + 1 := ⟨_, rfl⟩
    rw [← hub] at o2 ⊢
    obtain ⟨c0, c1⟩ := obj_cells2 o2
    have HE := Lib.hid he
    clear hw1 hub o1 o2 he
    go_wp2_with (first
      | (go_at_call 120; (with_reducible refine (HP.out _ HE.out).mono ?_); rintro e w2 ⟨b, w3, s, cc, xs, j, rfl, hdel, hrng, hR⟩; obtain ⟨b', hb'⟩ : ∃ b', b' = b := ⟨_, rfl⟩)
      | (at_delete; refine wpList_delete_run _ rfl _ _ 179 59 rfl w3 (hdel _) ?_)
      | (at_range; refine wpList_range_run _ rfl _ 179 rfl _ _ hrng ?_))
    go_frame
    obtain ⟨he3, hsp, hj, hrg⟩ := hR.out
    have HJ := Lib.hid hj
    have HSP := Lib.hid hsp
    obtain ⟨ys, hys⟩ : ∃ ys, ys = xs.eraseIdx j := ⟨_, rfl⟩
    have HYS := Lib.hid hys
    rw [← hys] at hrg
    have HYM : Hid (∀ x ∈ ys, x.mask < 65536 ) := fun x hx => by
      rw [hys] at hx
      exact gens_lt (m := 16) ws HM.out x ((hsp.mem x).1 ((List.eraseIdx_sublist _ _).mem hx))
    have hyl : ys.length ≤ 4096 := by
      have h1 := hsp.len
      have h2 : 2 ^ ws.length ≤ 2 ^ 12 := Nat.pow_le_pow_right (by omega) hn
      have h3 := (List.eraseIdx_sublist xs j).length_le
      rw [← hys] at h3
      omega
    obtain ⟨r, hr⟩ : ∃ r, r = w3.heap.size := ⟨_, rfl⟩
    rw [← hr] at hrg ⊢
    have HRW : Hid (w1.heap.size ≤ r) := by rw [Hid, hr]; exact he3.size
    generalize hw4 : World.alloc _ _ = w4 at hrg ⊢
    have H0 : Hid (RngAt 59 w4 b r (ys.map entW) (([] : List Wd).map entW) ∧ OwnW w4 w1.heap.size (.slice none 0 0) (([] : List Wd).map fun x => mulW x ⟨um, uo⟩) ∧ Ext w1 w4) :=
      Lib.hid ⟨hrg, OwnF.nil _ _ _ _ _, by rw [← hw4]; exact he3.alloc _⟩
    clear hdel hrng hR he3 hsp hj hys hr hw4 hrg hb'
    go_loopw [8, 10] (fun v _ wr => ∃ done : List Wd, Hid (RngAt 59 wr b r (ys.map entW) (done.map entW) ∧ OwnW wr w1.heap.size v (done.map fun x => mulW x ⟨um, uo⟩) ∧ Ext w1 wr)) (fun _ _ wr => rngLeft wr b r)
    case atStart => exact ⟨[], H0⟩
    case round =>
      obtain ⟨done, hst⟩ := hrel
      clear H0
      have hnx := Lib.hid (fun ty => hst.out.1.nextW ty)
      go_wp2_with (at_next; refine wpList_next_run _ rfl _ rfl _ _ (hnx.out _) ?_ ?_)
      · intro hp
        have HP2 := Lib.hid hp
        have HS := Lib.hid (sort_own wr w1.heap.size u8 (done.map fun x => mulW x ⟨um, uo⟩) (fun y hy => by
          obtain ⟨x, hx, rfl⟩ := List.mem_map.1 hy
          exact mulW_lt (HYM.out x (hp.mem_iff.1 hx)) HU.out) (by rw [List.length_map, hp.length_eq]; omega) hst.out.2.1)
        clear hp hnx
        go_wp2_with (go_at_call 122; (with_reducible refine HS.out.mono ?_); rintro e w5 ⟨zs, a, c, rfl, rfl, hq, hs, ho, he⟩)
        go_ret2
        obtain ⟨hj1, hj2⟩ := HJ.out
        refine ⟨HE.out.trans (he w1 hst.out.2.2 (Nat.le_refl _)), .inr ⟨HC.out, a, c, zs, rfl, HSP.out.rel (HP2.out.trans ?_) hq hs, own_base ho HE.out.size⟩⟩
        rw [HYS.out, drop_one HSP.out hj1 hj2]
      · intro v w2 hB
        obtain ⟨x, hx, rfl, hlen, hrg2, hst2, hen⟩ := hB.out
        have ho2 := hst2.own hst.out.1.iter_walk hst.out.2.1
        have he2 := hst2.ext hst.out.2.2 HRW.out
        have hleft := hst.out.1.left
        have hxm := HYM.out x hx
        obtain ⟨xm, xo⟩ := x
        obtain ⟨z, hz⟩ : ∃ z, z = mulW ⟨xm, xo⟩ ⟨um, uo⟩ := ⟨_, rfl⟩
        have HT : Hid (∀ W, Calls Tryz.prog 121 #[.agg #[.int .u16 (xm : Int), .bool xo], .agg #[.int .u16 (um : Int), .bool uo]] W (Ret (wdV z) W)) := fun W => by
          rw [hz]; exact times_any ⟨xm, xo⟩ ⟨um, uo⟩ W hxm HU.out
        have hsn : ((done ++ [(⟨xm, xo⟩ : Wd)]).map fun x => mulW x ⟨um, uo⟩) = (done.map fun x => mulW x ⟨um, uo⟩) ++ [z] := by rw [List.map_append, hz]; rfl
        obtain ⟨zm, zo⟩ := z
        have HAPP : Hid (∀ W, Ext w2 W → ∃ v' w', (Builtin.append_ #[56, 56] 56 #[u8, .slice (some ⟨W.heap.size, 0, none⟩) 1 1]).run Tryz.prog (W.alloc (.cells #[.int .u16 (zm : Int), .bool zo] 75)) = .ok v' w' ∧
            Hid (RngAt 59 w' b r (ys.map entW) ((done ++ [(⟨xm, xo⟩ : Wd)]).map entW) ∧ OwnW w' w1.heap.size v' ((done ++ [(⟨xm, xo⟩ : Wd)]).map fun x => mulW x ⟨um, uo⟩) ∧ Ext w1 w')) := fun W e => by
          have hx := (Ext.refl W).alloc (.cells #[.int .u16 (zm : Int), .bool zo] 75)
          have hown := (ho2.ext e).ext hx
          obtain ⟨v', w', r1, r2, r3⟩ := app_wd (W.alloc (.cells #[.int .u16 (zm : Int), .bool zo] 75)) w1.heap.size 56 u8 _ [⟨zm, zo⟩] (some ⟨W.heap.size, 0, none⟩) 1 hown (wd_one (heap_new _ _)) (by simp; omega) (by rw [heap_size]; have := (he2.trans e).size; omega)
          refine ⟨v', w', r1, Lib.hid ⟨?_, by rw [hsn]; exact r2, grown_ext ((he2.trans e).alloc _) r3 (fun j hj => (hown.lt j hj).1)⟩⟩
          rw [List.map_append]
          exact ((hrg2.ext e).ext hx).grown hown r3
        have E2 := Ext.refl w2
        clear hB hnx hst hx hxm hz hsn hrg2 hst2 ho2
        go_wp2_with (first
          | (go_at_call 121; (with_reducible refine (HT.out _).mono ?_); rintro e w5 ⟨rfl, he5⟩; have he6 := (E2.alloc _).trans he5)
          | (at_builtin; refine wpList_app _ rfl _ _ 56 rfl _ (HAPP.out _ he6) ?_; rintro v' w6 hv1; have hv2 := Lib.hid hv1; clear hv1))
        refine ⟨⟨_, hv2.out⟩, ?_⟩
        rw [hv2.out.out.1.left, hleft]
        simp only [List.length_map, List.length_append, List.length_singleton]
        omega
end Go.Proofs.YtplbofhgmflnlaaGreat
end
section
/-
  Walks: Relation, Resolution, Aliases.
-/
set_option linter.unusedVariables false
set_option linter.unusedSimpArgs false
namespace Go.Proofs.YtplbofhgmflnlaaGreat
open Go.RowKit Go.Maps
theorem checkF_ok {F : Fr} (h : checkF F = 0) : ∃ m : Nat, F.n = (m : Int) ∧ 1 ≤ m ∧ m ≤ 12 ∧ F.ws.length ≤ 12 ∧ ∀ x ∈ F.ws, x.mask < 2 ^ m := by
  unfold checkF at h
  split at h
  · simp at h
  · rename_i h1
    split at h
    · simp at h
    · rename_i h2
      refine ⟨F.n.toNat, by omega, by omega, by omega, by omega, fun x hx => ?_⟩
      have h3 : outW F.n.toNat x = false := by
        cases T : outW F.n.toNat x with
        | false => rfl
        | true => exact absurd (List.any_eq_true.2 ⟨x, hx, T⟩) h2
      unfold outW at h3
      rw [bne_eq_false_iff_eq] at h3
      rcases (Nat.div_eq_zero_iff).1 h3 with h4 | h4
      · exact absurd h4 (Nat.ne_of_gt (Nat.two_pow_pos _))
      · exact h4
theorem checkF_small {F : Fr} (h : checkF F = 0) : ∀ x ∈ F.ws, x.mask < 65536 := by
  obtain ⟨m, _, _, hm, _, hx⟩ := checkF_ok h
  intro x hx'
  have h1 := hx x hx'
  have h2 : 2 ^ m ≤ 2 ^ 12 := Nat.pow_le_pow_right (by omega) hm
  omega
theorem checkF_two {F : Fr} (h : checkF F ≠ 0) : checkF F = 2 := by
  unfold checkF at *
  split
  · rfl
  · rename_i h1
    rw [if_neg h1] at h
    split
    · rfl
    · rename_i h2; rw [if_neg h2] at h; exact absurd rfl h
theorem RetRel.two {ws : List Wd} {u : Wd} {w w' : World} {e : Ending} (h : RetRel ws u w e w') : ∃ p q, e = .returned (.tuple #[p, q]) ∧ Hid (RetRel ws u w (.returned (.tuple #[p, q])) w') ∧ Ext w w' := by
  have h0 := h
  obtain ⟨h1, ⟨h2, rfl⟩ | ⟨h2, a, c, l, rfl, h3⟩⟩ := h
  · exact ⟨_, _, rfl, Lib.hid h0, h1⟩
  · exact ⟨_, _, rfl, Lib.hid h0, h1⟩
theorem RetRel.back {ws : List Wd} {u : Wd} {w w1 w' : World} {e : Ending} (h : RetRel ws u w1 e w') (k : Ext w w1) : RetRel ws u w e w' := by
  obtain ⟨h1, ⟨h2, rfl⟩ | ⟨h2, a, c, l, rfl, h3, h4⟩⟩ := h
  · exact ⟨k.trans h1, .inl ⟨h2, rfl⟩⟩
  · exact ⟨k.trans h1, .inr ⟨h2, a, c, l, rfl, h3, own_base h4 k.size⟩⟩
set_option maxHeartbeats 1000000 in
theorem Relation_no (F : Fr) (w : World) (h : FrAt w F) (hb : FrB F) (hv : checkF F ≠ 0) : Calls Tryz.prog 29 #[frV F] w (Ret (.tuple #[.slice none 0 0, .int .i64 2]) w) := by
  have hck := fun W (e : Ext w W) => checkF_any F W (h.ext e) hb
  rw [checkF_two hv] at hck
  have HCK := Lib.hid hck
  obtain ⟨fn, ws, wa, wc⟩ := F
  clear h hb hv hck
  go_enter Tryz.func29, Tryz.ntmps29
  go_wp2_with (fail)
  generalize hw1 : World.alloc _ _ = w1
  obtain ⟨he, o1, -⟩ := alloc1 hw1
  have HE := Lib.hid he
  clear hw1 o1 he
  go_wp2_with (go_at_call 33; (with_reducible refine (HCK.out _ HE.out).mono ?_); rintro e w2 ⟨rfl, he2⟩)
  go_ret2
  exact ⟨rfl, HE.out.trans he2⟩
set_option maxHeartbeats 1000000 in
theorem Relation_ok (F : Fr) (w : World) (h : FrAt w F) (hb : FrB F) (hv : checkF F = 0) : Calls Tryz.prog 29 #[frV F] w (RetRel F.ws oneW w) := by
  have hck := fun W (e : Ext w W) => checkF_any F W (h.ext e) hb
  rw [hv] at hck
  obtain ⟨m, -, -, -, hn, -⟩ := checkF_ok hv
  have hre : ∀ W, Ext w W → Calls Tryz.prog 87 #[frV F, .agg #[.int .u16 0, .bool false]] W (RetRel F.ws oneW W) := fun W (e : Ext w W) => related_any F oneW W (h.ext e) hn (checkF_small hv) (by decide)
  have HCK := Lib.hid hck
  have HRE := Lib.hid hre
  obtain ⟨fn, ws, wa, wc⟩ := F
  clear h hb hv hck hre
  go_enter Tryz.func29, Tryz.ntmps29
  go_wp2_with (fail)
  generalize hw1 : World.alloc _ _ = w1
  obtain ⟨he, o1, -⟩ := alloc1 hw1
  have HE := Lib.hid he
  obtain ⟨b0, b1⟩ := obj_cells2 o1
  clear hw1 o1 he
  go_wp2_with (first
    | (go_at_call 33; (with_reducible refine (HCK.out _ HE.out).mono ?_); rintro e w2 ⟨rfl, he2⟩)
    | (go_at_call 87; (with_reducible refine (HRE.out _ (HE.out.trans he2)).mono ?_); rintro e w3 hR; obtain ⟨p, q, rfl, HR, -⟩ := hR.two; clear hR))
  go_ret2
  exact HR.out.back (HE.out.trans he2)
/-- The least number of factors. -/
def resL (l : List Wd) : Nat := match l with | [] => 0 | x :: _ => ones x.mask
/-- What Resolution answers. -/
def RetRes (ws : List Wd) (w : World) (e : Ending) (w' : World) : Prop := Ext w w' ∧ ((clashW ws = true ∧ e = .returned (.tuple #[.int .i64 0, .int .i64 60])) ∨
  (clashW ws = false ∧ ∃ l, e = .returned (.tuple #[.int .i64 (resL l : Nat), .int .i64 0]) ∧ RelOf ws oneW l))
set_option maxHeartbeats 1000000 in
theorem Resolution_no (F : Fr) (w : World) (h : FrAt w F) (hb : FrB F) (hv : checkF F ≠ 0) : Calls Tryz.prog 30 #[frV F] w (Ret (.tuple #[.int .i64 0, .int .i64 2]) w) := by
  have HCK := Lib.hid (fun W (e : Ext w W) => Relation_no F W (h.ext e) hb hv)
  obtain ⟨fn, ws, wa, wc⟩ := F
  clear h hb hv
  go_enter Tryz.func30, Tryz.ntmps30
  go_wp2_with (fail)
  generalize hw1 : World.alloc _ _ = w1
  obtain ⟨he, o1, -⟩ := alloc1 hw1
  have HE := Lib.hid he
  clear hw1 o1 he
  go_wp2_with (go_at_call 29; (with_reducible refine (HCK.out _ HE.out).mono ?_); rintro e w2 ⟨rfl, he2⟩)
  go_ret2
  exact ⟨rfl, HE.out.trans he2⟩
theorem ownW_first {w : World} {B c : Nat} {a : Option Addr} {x : Wd} {l : List Wd} (h : OwnW w B (.slice a (x :: l).length c) (x :: l)) : ∃ g, a = some ⟨g, 0, none⟩ ∧ (∀ W, Ext w W → W.cell? ⟨g, 0, none⟩ = some (.int .u16 (x.mask : Int))) ∧ (∀ W, Ext w W → W.cell? ⟨g, 1, none⟩ = some (.bool x.odd)) := by
  obtain ⟨g, hg, -, -, hc⟩ := OwnF.cell wdC_len h 0 (by simp)
  exact ⟨g, hg, fun W e => e.cell (hc 0 (by omega)), fun W e => e.cell (hc 1 (by omega))⟩
set_option maxHeartbeats 2000000 in
theorem Resolution_ok (F : Fr) (w : World) (h : FrAt w F) (hb : FrB F) (hv : checkF F = 0) : Calls Tryz.prog 30 #[frV F] w (RetRes F.ws w) := by
  have hre := fun W (e : Ext w W) => Relation_ok F W (h.ext e) hb hv
  obtain ⟨m, hm0, hm1, hm2, hn, hm⟩ := checkF_ok hv
  have hsm := checkF_small hv
  obtain ⟨fn, ws, wa, wc⟩ := F
  simp only at hn hsm
  clear h hb hv hm0 hm1 hm2 hm
  show Calls Tryz.prog 30 #[frV ⟨fn, ws, wa, wc⟩] w (RetRes ws w)
  have HSM := Lib.hid hsm
  clear hsm
  cases T : clashW ws with
  | true =>
    have HRE : Hid (∀ W, Ext w W → Calls Tryz.prog 29 #[frV ⟨fn, ws, wa, wc⟩] W (Ret (.tuple #[.slice none 0 0, .int .i64 60]) W)) := fun W e => (hre W e).mono (by
      rintro e w' ⟨h1, ⟨h2, rfl⟩ | ⟨h2, r⟩⟩
      · exact ⟨rfl, h1⟩
      · simp only at h2; rw [T] at h2; cases h2)
    have HT := Lib.hid T
    clear hre T
    go_enter Tryz.func30, Tryz.ntmps30
    go_wp2_with (fail)
    generalize hw1 : World.alloc _ _ = w1
    obtain ⟨he, o1, -⟩ := alloc1 hw1
    have HE := Lib.hid he
    obtain ⟨b0, b1⟩ := obj_cells2 o1
    clear hw1 o1 he
    go_wp2_with (go_at_call 29; (with_reducible refine (HRE.out _ HE.out).mono ?_); rintro e w2 ⟨rfl, he2⟩)
    go_ret2
    exact ⟨HE.out.trans he2, .inl ⟨HT.out, rfl⟩⟩
  | false =>
    have HRE : Hid (∀ W, Ext w W → Calls Tryz.prog 29 #[frV ⟨fn, ws, wa, wc⟩] W (fun e w' => ∃ a c l, e = .returned (.tuple #[.slice a l.length c, .int .i64 0]) ∧ Ext W w' ∧ RelOf ws oneW l ∧ OwnW w' W.heap.size (.slice a l.length c) l)) := fun W e => (hre W e).mono (by
      rintro e w' ⟨h1, ⟨h2, rfl⟩ | ⟨h2, a, c, l, rfl, h3, h4⟩⟩
      · simp only at h2; rw [T] at h2; cases h2
      · exact ⟨a, c, l, rfl, h1, h3, h4⟩)
    have HT := Lib.hid T
    clear hre T
    have HO : Hid (∀ k : Nat, k < 65536 → ∀ W, Calls Tryz.prog 86 #[.int .u16 (k : Int)] W (Ret (.int .i64 (ones k : Int)) W)) := fun k hk W => ones_any k W hk
    go_enter Tryz.func30, Tryz.ntmps30
    go_wp2_with (fail)
    generalize hw1 : World.alloc _ _ = w1
    obtain ⟨he, o1, -⟩ := alloc1 hw1
    have HE := Lib.hid he
    obtain ⟨b0, b1⟩ := obj_cells2 o1
    clear hw1 o1 he
    obtain ⟨W3, hW3⟩ : ∃ W3 : World, W3 = w1 := ⟨_, rfl⟩
    go_upto_region 2 with (go_at_call 29; (with_reducible refine (HRE.out _ HE.out).mono ?_); rintro e w2 ⟨a, c, l, rfl, he2, hrel, hown⟩; clear hW3)
    have HREL := Lib.hid hrel
    have E2 := Ext.refl w2
    cases l with
    | nil =>
      clear hrel hown
      go_wp2_with (fail)
      go_ret2
      exact ⟨HE.out.trans he2, .inr ⟨HT.out, [], rfl, HREL.out⟩⟩
    | cons x l =>
      obtain ⟨g, rfl, q0, q1⟩ := ownW_first hown
      obtain ⟨n, hn'⟩ : ∃ n, n = (x :: l).length := ⟨_, rfl⟩
      rw [← hn']
      have hn1 : 1 ≤ n := by rw [hn']; simp
      have hxm : x.mask < 65536 := by
        obtain ⟨y, hy, -, e⟩ := (hrel.mem x).1 (by simp)
        rw [e, mulW_one]
        exact gens_lt (m := 16) ws HSM.out y hy
      clear hrel hown hn'
      go_wp2_with (go_at_call 86; (with_reducible refine (HO.out _ hxm _).mono ?_); rintro e w3 ⟨rfl, he3⟩)
      go_ret2
      exact ⟨HE.out.trans (he2.trans he3), .inr ⟨HT.out, x :: l, rfl, HREL.out⟩⟩
/-! ### Aliases -/
theorem shr_zero (k m : Nat) : ((k : Int) / 2 ^ m != 0) = (k / 2 ^ m != 0) := by
  have e : ((k : Int) / 2 ^ m) = ((k / 2 ^ m : Nat) : Int) := by rw [Int.natCast_ediv, Int.natCast_pow]; rfl
  rw [e]
  generalize k / 2 ^ m = z
  cases z with
  | zero => rfl
  | succ z => rw [show ((z + 1 : Nat) != 0) = true by simp, show (((z + 1 : Nat) : Int) != 0) = true by rw [bne_iff_ne]; omega]
set_option maxHeartbeats 1000000 in
theorem Aliases_no (F : Fr) (k : Nat) (w : World) (h : FrAt w F) (hb : FrB F) (hv : checkF F ≠ 0) : Calls Tryz.prog 31 #[frV F, .int .u16 (k : Int)] w (Ret (.tuple #[.slice none 0 0, .int .i64 2]) w) := by
  have hck := fun W (e : Ext w W) => checkF_any F W (h.ext e) hb
  rw [checkF_two hv] at hck
  have HCK := Lib.hid hck
  obtain ⟨fn, ws, wa, wc⟩ := F
  clear h hb hv hck
  go_enter Tryz.func31, Tryz.ntmps31
  go_wp2_with (fail)
  generalize hw1 : World.alloc _ _ = w1
  obtain ⟨he, o1, -⟩ := alloc1 hw1
  have HE := Lib.hid he
  obtain ⟨b0, b1⟩ := obj_cells2 o1
  clear hw1 o1 he
  go_wp2_with (go_at_call 33; (with_reducible refine (HCK.out _ HE.out).mono ?_); rintro e w2 ⟨rfl, he2⟩)
  go_ret2
  exact ⟨rfl, HE.out.trans he2⟩
set_option maxHeartbeats 1000000 in
theorem Aliases_out (F : Fr) (k m : Nat) (w : World) (h : FrAt w F) (hb : FrB F) (hv : checkF F = 0) (hm : F.n = (m : Int)) (hk : 2 ^ m ≤ k) : Calls Tryz.prog 31 #[frV F, .int .u16 (k : Int)] w (Ret (.tuple #[.slice none 0 0, .int .i64 2]) w) := by
  have hck := fun W (e : Ext w W) => checkF_any F W (h.ext e) hb
  rw [hv] at hck
  have HCK := Lib.hid hck
  obtain ⟨m', hm', -, hm2, -, -⟩ := checkF_ok hv
  obtain ⟨fn, ws, wa, wc⟩ := F
  simp only at hm hm'
  subst hm
  have h0 : (0 : Int) ≤ (m : Int) := by omega
  have hsh : ((k : Int) / 2 ^ min m 16 != 0) = true := by
    rw [Nat.min_eq_left (by omega), shr_zero, bne_iff_ne]
    have := Nat.div_pos hk (Nat.two_pow_pos m)
    omega
  clear h hb hv hck hk hm' hm2
  go_enter Tryz.func31, Tryz.ntmps31
  go_wp2_with (fail)
  generalize hw1 : World.alloc _ _ = w1
  obtain ⟨he, o1, -⟩ := alloc1 hw1
  have HE := Lib.hid he
  obtain ⟨b0, b1⟩ := obj_cells2 o1
  clear hw1 o1 he
  go_wp2_with (go_at_call 33; (with_reducible refine (HCK.out _ HE.out).mono ?_); rintro e w2 ⟨rfl, he2⟩)
  go_ret2
  exact ⟨rfl, HE.out.trans he2⟩
set_option maxHeartbeats 1000000 in
theorem Aliases_ok (F : Fr) (k m : Nat) (w : World) (h : FrAt w F) (hb : FrB F) (hv : checkF F = 0) (hm : F.n = (m : Int)) (hk : k < 2 ^ m) : Calls Tryz.prog 31 #[frV F, .int .u16 (k : Int)] w (RetRel F.ws ⟨k, false⟩ w) := by
  have hck := fun W (e : Ext w W) => checkF_any F W (h.ext e) hb
  rw [hv] at hck
  obtain ⟨m', hm', -, hm2, hn, -⟩ := checkF_ok hv
  have hk16 : k < 65536 := by
    have : m' = m := by omega
    subst this
    have : 2 ^ m' ≤ 2 ^ 12 := Nat.pow_le_pow_right (by omega) hm2
    omega
  have hre : ∀ W, Ext w W → Calls Tryz.prog 87 #[frV F, .agg #[.int .u16 (k : Int), .bool false]] W (RetRel F.ws ⟨k, false⟩ W) := fun W (e : Ext w W) => related_any F ⟨k, false⟩ W (h.ext e) hn (checkF_small hv) hk16
  have HCK := Lib.hid hck
  have HRE := Lib.hid hre
  obtain ⟨fn, ws, wa, wc⟩ := F
  simp only at hm hm'
  subst hm
  have h0 : (0 : Int) ≤ (m : Int) := by omega
  have hsh : ((k : Int) / 2 ^ min m 16 != 0) = false := by
    rw [Nat.min_eq_left (by omega), shr_zero, Nat.div_eq_of_lt hk]; rfl
  clear h hb hv hck hre hm' hm2 hn hk16 hk
  go_enter Tryz.func31, Tryz.ntmps31
  go_wp2_with (fail)
  generalize hw1 : World.alloc _ _ = w1
  obtain ⟨he, o1, -⟩ := alloc1 hw1
  have HE := Lib.hid he
  obtain ⟨b0, b1⟩ := obj_cells2 o1
  clear hw1 o1 he
  go_wp2_with (first
    | (go_at_call 33; (with_reducible refine (HCK.out _ HE.out).mono ?_); rintro e w2 ⟨rfl, he2⟩)
    | (go_at_call 87; (with_reducible refine (HRE.out _ (HE.out.trans he2)).mono ?_); rintro e w3 hR; obtain ⟨p, q, rfl, HR, -⟩ := hR.two; clear hR))
  go_ret2
  exact HR.out.back (HE.out.trans he2)
end Go.Proofs.YtplbofhgmflnlaaGreat
end
