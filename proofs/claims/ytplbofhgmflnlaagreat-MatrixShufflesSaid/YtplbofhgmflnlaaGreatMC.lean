/-
  Rows of numbers (printed by genmc.py out of this repo's own texts of the hall).
-/
import Derived.Test.YtplbofhgmflnlaaGreatMB
set_option linter.unusedVariables false
set_option linter.unusedSimpArgs false
namespace Go.Proofs.YtplbofhgmflnlaaGreat
open Go.RowKit
def fl (n : Nat) (f : Nat → Int) : List Int := (List.range n).map f
theorem fl_len (n : Nat) (f : Nat → Int) : (fl n f).length = n := by simp [fl]
theorem nth_fl (n : Nat) (f : Nat → Int) (i : Nat) (h : i < n) : nth (fl n f) i = f i := by simp [fl, nth, h]
theorem fl_congr (n : Nat) (f g : Nat → Int) (h : ∀ i, i < n → f i = g i) : fl n f = fl n g := by
  unfold fl; exact List.map_congr_left fun i hi => h i (by simpa using hi)
theorem ext_nth (xs ys : List Int) (hl : xs.length = ys.length) (h : ∀ i, i < xs.length → nth xs i = nth ys i) : xs = ys := by
  apply List.ext_getElem hl
  intro i h1 h2
  have := h i h1
  rwa [nth_eq _ _ h1, nth_eq _ _ h2] at this
def rowI (xs : List Int) : List Value := xs.map (Value.int .i64)
theorem rowI_len (xs : List Int) : (rowI xs).length = xs.length := by simp [rowI]
theorem rowI_get (xs : List Int) (i : Nat) (h : i < xs.length) : (rowI xs)[i]? = some (.int .i64 (nth xs i)) := by simp [rowI, nth_eq _ _ h, h]
theorem rowI_set (n : Nat) (f : Nat → Int) (j : Nat) (v : Int) : (rowI (fl n f)).set j (.int .i64 v) = rowI (fl n fun i => if i = j then v else f i) := by
  unfold rowI fl
  apply List.ext_getElem
  · simp
  · intro i h1 h2
    simp only [List.getElem_set, List.getElem_map, List.getElem_range]
    by_cases h : i = j
    · simp [h]
    · have h' : ¬ j = i := fun e => h e.symm
      simp [h, h']
def OwnI (w : World) (B : Nat) (v : Value) (xs : List Int) : Prop := w.ownsRow B 3 1 v xs.length (rowI xs)
theorem OwnI.ints {w : World} {B : Nat} {a : Option Addr} {n c : Nat} {xs : List Int} (h : OwnI w B (.slice a n c) xs) : Ints w a xs ∧ n = xs.length ∧ n ≤ c := by
  obtain ⟨h1, h2⟩ := h
  rcases h2 with ⟨hv, hn⟩ | ⟨g, cap, cur, hv, hg, hh, hnc, hcm, hs, ht⟩
  · simp only [Value.slice.injEq] at hv
    have : xs = [] := List.length_eq_zero_iff.1 hn
    exact ⟨.inl this, by omega, by omega⟩
  · simp only [Value.slice.injEq] at hv
    obtain ⟨rfl, rfl, rfl⟩ := hv
    refine ⟨.inr ⟨g, 0, rfl, fun i hi => ?_⟩, rfl, hnc⟩
    have hi' : i < cur.toList.length := by rw [Array.length_toList, hs]; omega
    have h3 : (cur.toList.take (xs.length * 1))[i]? = cur.toList[i]? := by rw [List.getElem?_take]; simp [hi]
    rw [ht, rowI_get xs i hi] at h3
    simp only [World.cell?, hh, Option.isSome_none, Bool.false_eq_true, if_false, Nat.zero_add]
    rw [← Array.getElem?_toList, ← h3]
theorem OwnI.ext {w w' : World} {B : Nat} {v : Value} {xs : List Int} (h : OwnI w B v xs) (e : Ext w w') : OwnI w' B v xs := by
  obtain ⟨h1, h2⟩ := h
  refine ⟨h1, ?_⟩
  rcases h2 with h2 | ⟨g, cap, cur, hv, hg, hh, r⟩
  · exact .inl h2
  · exact .inr ⟨g, cap, cur, hv, hg, e.block hh, r⟩
def RetI (xs : List Int) (w : World) (e : Ending) (w' : World) : Prop := ∃ a c, e = .returned (.slice a xs.length c) ∧ Ext w w' ∧ OwnI w' w.heap.size (.slice a xs.length c) xs
theorem info3 : (Tryz.prog.info? 3).map (fun i => (i.zero, i.size, i.bytes)) = some (some (.int .i64 0), 1, 8) := by kernel_rfl
theorem make_ints (w : World) (n : Nat) (hn : n ≤ 1000000) : ∃ w', (Instr.makeSlice 31 (.int .i64 (n : Int)) (.int .i64 (n : Int))).run Tryz.prog w = .ok (.slice (some ⟨w.heap.size, 0, none⟩) n n) w' ∧
    OwnI w' w.heap.size (.slice (some ⟨w.heap.size, 0, none⟩) n n) (fl n fun _ => 0) ∧ Ext w w' ∧ w.heap.size < w'.heap.size := by
  obtain ⟨i0, hi, hz0, hz1, hz2⟩ := info_parts info3
  obtain ⟨w', h1, h2, h3⟩ := run_make_full (P := Tryz.prog) w w.heap.size 31 3 i0 (.int .i64 0) 1 Tryz.underlying31 hi hz0 hz1 .i64 .i64 n (by rw [hz2]; omega) (by unfold maxLen; omega) (Nat.le_refl _)
  refine ⟨w', h1, ?_, ⟨h3.os, h3.tape, h3.output, h3.size, fun k hk => h3.block k hk (by simp)⟩, ?_⟩
  · unfold OwnI
    rw [fl_len]
    have : (madeCells (Value.int IntKind.i64 0).cells (n * 1)).toList = rowI (fl n fun _ => 0) := by
      show (madeCells #[Value.int IntKind.i64 0] (n * 1)).toList = _
      rw [Nat.mul_one, toList_madeCells_one]
      unfold rowI fl
      apply List.ext_getElem
      · simp
      · intro i h1 h2; simp
    rw [← this]
    exact h2
  · exact (h2.lt w.heap.size rfl).2
def madeI (W : World) (n : Nat) : World := W.alloc (.cells (madeCells #[.int .i64 0] n) 3)
theorem run_madeI (n : Nat) (hn : n ≤ 1000000) (W : World) : (Instr.makeSlice 31 (.int .i64 (n : Int)) (.int .i64 (n : Int))).run Tryz.prog W = .ok (.slice (some ⟨W.heap.size, 0, none⟩) n n) (madeI W n) := by
  obtain ⟨i0, hi, hz0, hz1, hz2⟩ := info_parts info3
  have := run_make (P := Tryz.prog) W 31 3 i0 (.int .i64 0) Tryz.underlying31 hi hz0 .i64 .i64 n n
  rw [hz1, hz2] at this
  have h := this (by omega) (by omega) (by omega) (by omega)
  rw [Int.toNat_natCast, Nat.mul_one] at h
  exact h
theorem madeI_facts {W w1 : World} {n : Nat} (hn : n ≤ 1000000) (h : madeI W n = w1) : Ext W w1 ∧ OwnI w1 W.heap.size (.slice (some ⟨W.heap.size, 0, none⟩) n n) (fl n fun _ => 0) ∧ w1.heap.size = W.heap.size + 1 := by
  subst h
  obtain ⟨w', h1, h2, h3, h4⟩ := make_ints W n hn
  rw [run_madeI n hn W] at h1
  simp only [Result.ok.injEq, true_and] at h1
  subst h1
  exact ⟨h3, h2, heap_size _ _⟩
theorem rowI_one (xs : List Int) : ∀ u ∈ rowI xs, u.oneCell' = true := by
  intro u hu
  simp only [rowI, List.mem_map] at hu
  obtain ⟨x, _, rfl⟩ := hu
  rfl
theorem Ints.src {w : World} {a : Option Addr} {xs : List Int} (h : Ints w a xs) : Src w a (rowI xs) := by
  rcases h with rfl | ⟨b, o, h1, h2⟩
  · exact .inl rfl
  · refine .inr ⟨_, h1, fun j u hj => ?_⟩
    have hlt : j < xs.length := by
      rcases Nat.lt_or_ge j xs.length with h | h
      · exact h
      · rw [List.getElem?_eq_none (by rw [rowI_len]; exact h)] at hj; cases hj
    rw [rowI_get xs j hlt] at hj
    simp only [Option.some.injEq] at hj
    rw [← hj, Addr.add_lit]
    exact h2 j hlt
theorem app_ints (w : World) (B : Nat) (ty : TypeId) (v : Value) (xs ys : List Int) (a : Option Addr) (c : Nat) (hv : OwnI w B v xs) (hx : Ints w a ys) (hn : xs.length + ys.length ≤ 17000000000000) (hB : B ≤ w.heap.size) :
    ∃ v' w', (Builtin.append_ #[31, 31] ty #[v, .slice a ys.length c]).run Tryz.prog w = .ok v' w' ∧ OwnI w' B v' (xs ++ ys) ∧ w.grownBy w' v.ownBlock := by
  obtain ⟨i0, hi, hz0, hz1, hz2⟩ := info_parts info3
  obtain ⟨v', w', h1, h2, h3⟩ := run_app w B 31 ty 3 i0 (.int .i64 0) 1 8 Tryz.underlying31 hi hz0 hz1 hz2 rfl (by omega) v xs.length (rowI xs) hv a ys.length c (rowI ys) (by rw [rowI_len]; omega) hx.src (rowI_one ys) (by unfold maxLen; omega) (by omega) hB
  refine ⟨v', w', h1, ?_, h3⟩
  unfold OwnI
  rw [List.length_append]
  have e : rowI (xs ++ ys) = rowI xs ++ rowI ys := by simp [rowI]
  rw [e]
  exact h2
theorem app_ints0 (W : World) (g B : Nat) (ty : TypeId) (ys : List Int) (a : Option Addr) (c : Nat) (hb : W.heap[g]? = some (.cells #[] 3 (0, 0))) (hB : B ≤ g) (hx : Ints W a ys) (hn : ys.length ≤ 1000000) :
    ∃ v' w', (Builtin.append_ #[31, 31] ty #[.slice (some ⟨g, 0, none⟩) 0 0, .slice a ys.length c]).run Tryz.prog W = .ok v' w' ∧ Lies W g v' ys.length ∧ OwnI w' B v' ys ∧ W.grownBy w' (some g) := by
  obtain ⟨i0, hi, hz0, hz1, hz2⟩ := info_parts info3
  exact run_app0 W g B 31 ty 3 i0 (.int .i64 0) 1 8 Tryz.underlying31 hi hz0 hz1 hz2 rfl (by omega) hb hB a ys.length c (rowI ys) (by rw [rowI_len]; omega) hx.src (rowI_one ys) (by unfold maxLen; omega) (by omega)
theorem ownI_set {w : World} {B g n c j : Nat} {f : Nat → Int} (h : OwnI w B (.slice (some ⟨g, 0, none⟩) n c) (fl n f)) (v : Int) :
    OwnI (w.setCell ⟨g, j, none⟩ (.int .i64 v)) B (.slice (some ⟨g, 0, none⟩) n c) (fl n fun i => if i = j then v else f i) := by
  unfold OwnI at *
  rw [fl_len] at *
  have := (h.stored j (.int .i64 v)).1
  rw [rowI_set] at this
  exact this
theorem ownI_free {w : World} {B g n c : Nat} {xs : List Int} (hn : xs.length = n) (h : OwnI w B (.slice (some ⟨g, 0, none⟩) n c) xs) (j : Nat) : w.frozen? ⟨g, j, none⟩ = false := by
  subst hn; exact h.frozenAt j
theorem ownI_cell {w : World} {B g n c : Nat} {xs : List Int} (hn : xs.length = n) (h : OwnI w B (.slice (some ⟨g, 0, none⟩) n c) xs) (j : Nat) (hj : j < n) : w.cell? ⟨g, j, none⟩ = some (.int .i64 (nth xs j)) := by
  subst hn; rw [h.cellAt j (by omega), rowI_get _ _ hj]
theorem ints_none {w : World} {xs : List Int} (h : Ints w none xs) : xs = [] := by
  rcases h with h | ⟨b, o, h1, _⟩
  · exact h
  · cases h1
theorem grown_ext {w w1 w' : World} {v : Value} (he : Ext w w1) (hg : w1.grownBy w' v.ownBlock) (hb : ∀ k, v.ownBlock = some k → w.heap.size ≤ k) : Ext w w' := Below.grown he hg he.size hb
theorem own_block {w : World} {B : Nat} {v : Value} {xs : List Int} (h : OwnI w B v xs) : ∀ k, v.ownBlock = some k → B ≤ k := fun k hk => (h.lt k hk).1
theorem own_slice {w : World} {B : Nat} {v : Value} {xs : List Int} (h : OwnI w B v xs) : ∃ a n c, v = .slice a n c := by
  rcases h.2 with ⟨h, _⟩ | ⟨g, cap, cur, h, _⟩
  · exact ⟨_, _, _, h⟩
  · exact ⟨_, _, _, h⟩
theorem ints_one {w : World} {b : Nat} {x : Int} {fz : Nat × Nat} (h : w.heap[b]? = some (.cells #[.int .i64 x] 3 fz)) : Ints w (some ⟨b, 0, none⟩) [x] := by
  have c0 := obj_cells1 h
  refine .inr ⟨b, 0, rfl, fun i hi => ?_⟩
  obtain rfl : i = 0 := by simp at hi; omega
  exact c0 w (Ext.refl w)
theorem own_down {w : World} {B B' : Nat} {v : Value} {xs : List Int} (h : OwnI w B v xs) (hb : B' ≤ B) : OwnI w B' v xs := by
  obtain ⟨h1, h2⟩ := h
  refine ⟨h1, ?_⟩
  rcases h2 with h2 | ⟨g, cap, cur, hv, hg, r⟩
  · exact .inl h2
  · exact .inr ⟨g, cap, cur, hv, by omega, r⟩
theorem own_lit0 (w : World) : OwnI (w.alloc (.cells #[] 3)) w.heap.size (.slice (some ⟨w.heap.size, 0, none⟩) 0 0) [] := own_empty w 3 1
theorem ownI_blk {w : World} {b B : Nat} {xs : List Int} (h : w.heap[b]? = some (.cells (rowI xs).toArray 3 (0, 0))) (hB : B ≤ b) (hn : xs.length ≤ 1000000) : OwnI w B (.slice (some ⟨b, 0, none⟩) xs.length xs.length) xs :=
  ⟨by rw [rowI_len]; omega, .inr ⟨b, xs.length, _, rfl, hB, h, Nat.le_refl _, by unfold maxLen; omega, by simp [rowI_len], by show (rowI xs).take (xs.length * 1) = _; exact List.take_of_length_le (by rw [rowI_len]; omega)⟩⟩
theorem ints_blk {w : World} {b : Nat} {xs : List Int} (h : w.heap[b]? = some (.cells (rowI xs).toArray 3 (0, 0))) (hn : xs.length ≤ 1000000) : Ints w (some ⟨b, 0, none⟩) xs := (ownI_blk h (Nat.zero_le _) hn).ints.1
theorem nth_set (xs : List Int) (k i : Nat) (v : Int) (hi : i < xs.length) : nth (xs.set k v) i = if i = k then v else nth xs i := by
  rw [nth_eq _ _ (by simpa using hi), nth_eq _ _ hi, List.getElem_set]
  by_cases h : k = i
  · rw [if_pos h, if_pos h.symm]
  · rw [if_neg h, if_neg (fun e => h e.symm)]
theorem ownI_set2 {w : World} {B g n c j : Nat} {xs : List Int} (hn : xs.length = n) (h : OwnI w B (.slice (some ⟨g, 0, none⟩) n c) xs) (v : Int) : OwnI (w.setCell ⟨g, j, none⟩ (.int .i64 v)) B (.slice (some ⟨g, 0, none⟩) n c) (xs.set j v) := by
  subst hn
  unfold OwnI at *
  have := (h.stored j (.int .i64 v)).1
  rw [List.length_set]
  have e : (rowI xs).set j (.int .i64 v) = rowI (xs.set j v) := by
    unfold rowI; rw [List.map_set]
  rw [e] at this
  exact this
def IntsX (X : Nat) (w : World) (a : Option Addr) (xs : List Int) : Prop :=
  xs = [] ∨ ∃ b o, a = some ⟨b, o, none⟩ ∧ b ≠ X ∧ ∀ i, i < xs.length → w.cell? ⟨b, o + i, none⟩ = some (.int .i64 (nth xs i))
theorem IntsX.ints {X : Nat} {w : World} {a : Option Addr} {xs : List Int} (h : IntsX X w a xs) : Ints w a xs := by
  rcases h with h | ⟨b, o, h1, _, h2⟩
  · exact .inl h
  · exact .inr ⟨b, o, h1, h2⟩
theorem IntsX.extX {X : Nat} {w w' : World} {a : Option Addr} {xs : List Int} (h : IntsX X w a xs) (e : ExtX X w w') : IntsX X w' a xs := by
  rcases h with h | ⟨b, o, h1, hx, h2⟩
  · exact .inl h
  · exact .inr ⟨b, o, h1, hx, fun i hi => e.cell (h2 i hi) hx⟩
theorem IntsX.ext {X : Nat} {w w' : World} {a : Option Addr} {xs : List Int} (h : IntsX X w a xs) (e : Ext w w') : IntsX X w' a xs := h.extX e.x
theorem Ints.x {X : Nat} {w : World} {a : Option Addr} {xs : List Int} (h : Ints w a xs) (hX : w.heap.size ≤ X) : IntsX X w a xs := by
  rcases h with h | ⟨b, o, h1, h2⟩
  · exact .inl h
  · by_cases he : xs = []
    · exact .inl he
    · have h0 := h2 0 (List.length_pos_iff.2 he)
      have := lt_of_cell h0
      exact .inr ⟨b, o, h1, by simp at this; omega, h2⟩
end Go.Proofs.YtplbofhgmflnlaaGreat
