/-
  The library's sorts at an own row: edges, words, numbers.
-/
import Derived.Test.YtplbofhgmflnlaaGreatSH
import Derived.Shelf.SlSortFuncK.RowK2
import Derived.Test.YtplbofhgmflnlaaGreatM12
set_option linter.unusedVariables false
set_option linter.unusedSimpArgs false
namespace Go.Proofs.YtplbofhgmflnlaaGreat
open Go.RowKit Go.Sort
section
variable {β : Type} [Inhabited β]
theorem heap_put {w : World} {g m : Nat} {os : Array Obj} {cur : Array Value} {e : TypeId} {fr : Nat × Nat} (enc : β → Value) (d : Array β) (hb : w.heap[g]? = some (.cells cur e fr)) :
    (grow (putRow enc (Sort.ahead w m) g 0 d) os).heap[g]? = some (.cells (putCells enc 0 d cur) e fr) := by
  have hg : g < w.heap.size := (Array.getElem?_eq_some_iff.1 hb).1
  rw [heap_grow_old _ _ (by simpa using hg)]
  simp [putRow, mapBlock, Sort.ahead, Array.getElem?_modify, hb, onCells]
theorem extX_put {w : World} {g m : Nat} {os : Array Obj} (enc : β → Value) (d : Array β) : ExtX g w (grow (putRow enc (Sort.ahead w m) g 0 d) os) := by
  refine ⟨rfl, rfl, rfl, by simp [grow, putRow, mapBlock, Sort.ahead], fun k hk hne => ?_⟩
  rw [heap_grow_old _ _ (by simpa using hk)]
  have : g ≠ k := fun e => hne e.symm
  simp [putRow, mapBlock, Sort.ahead, Array.getElem?_modify, this]
theorem own_put {w : World} {B g cap n m e sz : Nat} {os : Array Obj} {xs ys : List Value} (enc : β → Value) (d : Array β) (h : w.ownsRow B e sz (.slice (some ⟨g, 0, none⟩) n cap) n xs) (hl : d.size = n * sz) (hy : d.toList.map enc = ys) :
    (grow (putRow enc (Sort.ahead w m) g 0 d) os).ownsRow B e sz (.slice (some ⟨g, 0, none⟩) n cap) n ys := by
  obtain ⟨h0, h1⟩ := h
  refine ⟨by rw [← hy]; simp [hl], ?_⟩
  rcases h1 with ⟨hv, -⟩ | ⟨g', cap', cur, hv, hg, hh, hnc, hcm, hs, ht⟩
  · cases hv
  · cases hv
    refine .inr ⟨g, cap, _, rfl, hg, heap_put enc d hh, hnc, hcm, by simp [putCells, hs], ?_⟩
    have hle : n * sz ≤ cap * sz := Nat.mul_le_mul_right _ hnc
    rw [← hy]
    apply List.ext_getElem?
    intro j
    by_cases hj : j < n * sz
    · rw [List.getElem?_take_of_lt hj, Array.getElem?_toList]
      simp [putCells, hl, hj, show j < cur.size by omega]
    · rw [List.getElem?_take_eq_none (by omega), List.getElem?_eq_none (by simp; omega)]
theorem holds_own {w : World} {B g cap n e sz : Nat} {xs : List Value} (enc : β → Value) (d : Array β) (h : w.ownsRow B e sz (.slice (some ⟨g, 0, none⟩) n cap) n xs) (hl : d.size = n * sz) (hy : d.toList.map enc = xs) : Holds enc w g 0 d := by
  obtain ⟨h0, h1⟩ := h
  rcases h1 with ⟨hv, -⟩ | ⟨g', cap', cur, hv, hg, hh, hnc, hcm, hs, ht⟩
  · cases hv
  · cases hv
    intro j hj
    refine ⟨?_, by simp [World.frozen?, hh]⟩
    have h1 : (cur.toList.take (n * sz))[j]? = (d.toList.map enc)[j]? := by rw [ht, hy]
    rw [List.getElem?_take_of_lt (by omega)] at h1
    simp only [World.cell?, hh, Nat.zero_add]
    simp only [Option.isSome_none, Bool.false_eq_true, if_false]
    rw [← Array.getElem?_toList, h1]
    simp [hj]
theorem own_slice_lt {w : World} {B g cap n e sz : Nat} {xs : List Value} (h : w.ownsRow B e sz (.slice (some ⟨g, 0, none⟩) n cap) n xs) : g < w.heap.size := (h.lt g rfl).2
end
section
variable {α : Type} [Inhabited α]
theorem flatK_rowF {f : α → List Value} {sz : Nat} (hf : ∀ x, (f x).length = sz) (d : Array α) : (flatK f sz d).toList = rowF f d.toList := by
  apply List.ext_getElem?
  intro t
  by_cases ht : t < d.size * sz
  · have k0 : 0 < sz := by
      rcases Nat.eq_zero_or_pos sz with h | h
      · subst h; simp at ht
      · exact h
    have hq : t / sz < d.toList.length := by
      rw [Array.length_toList]
      exact (Nat.div_lt_iff_lt_mul k0).2 ht
    have hm : t % sz < sz := Nat.mod_lt _ k0
    have e : t / sz * sz + t % sz = t := by rw [Nat.mul_comm]; exact Nat.div_add_mod t sz
    have h1 := rowF_at hf d.toList (t / sz) (t % sz) hq hm
    rw [e] at h1
    rw [h1]
    have hq' : t / sz < d.size := by simpa using hq
    simp only [flatK, Array.getElem?_toList, Array.getElem?_map, Array.getElem?_range, ht, if_true, Option.map_some]
    rw [List.getElem?_eq_getElem (by rw [hf]; exact hm)]
    have e2 : d[t / sz]! = d.toList[t / sz] := by rw [getElem!_pos d _ hq']; simp
    rw [e2, getElem!_pos _ _ (by rw [hf]; exact hm)]
  · rw [List.getElem?_eq_none (by simp; omega), List.getElem?_eq_none (by rw [rowF_len hf]; simp; omega)]
theorem own_sortK {w : World} {B g cap e sz : Nat} {f : α → List Value} (hf : ∀ x, (f x).length = sz) {xs ys : List α} (h : OwnF e sz f w B (.slice (some ⟨g, 0, none⟩) xs.length cap) xs) (hl : ys.length = xs.length) (m : Nat) (os : Array Obj) :
    OwnF e sz f (sortWorldK f sz w g 0 m ys.toArray os) B (.slice (some ⟨g, 0, none⟩) xs.length cap) ys := by
  unfold OwnF
  rw [hl]
  refine own_put id (flatK f sz ys.toArray) h (by simp [hl]) ?_
  rw [List.map_id, flatK_rowF hf]
theorem holdsK_own {w : World} {B g cap e sz : Nat} {f : α → List Value} (hf : ∀ x, (f x).length = sz) {xs : List α} (h : OwnF e sz f w B (.slice (some ⟨g, 0, none⟩) xs.length cap) xs) : HoldsK f sz w g 0 xs.toArray := by
  refine holds_own id (flatK f sz xs.toArray) h (by simp) ?_
  rw [List.map_id, flatK_rowF hf]
theorem perm_of_in {d d' : Array α} (h : PermIn 0 d.size d d') : d'.toList.Perm d.toList := by
  obtain ⟨h1, -, h3⟩ := h
  rw [← h1] at h3
  have e1 : d'.extract 0 d'.size = d' := by simp
  have e2 : d.extract 0 d'.size = d := by rw [h1]; simp
  rw [e1, e2] at h3
  exact h3
theorem pairwise_of_in {lt : α → α → Bool} {d : Array α} (h : SortedIn lt 0 d.size d) : d.toList.Pairwise (fun x y => lt y x = false) := by
  rw [List.pairwise_iff_getElem]
  intro i j hi hj hij
  have := h i j (Nat.zero_le _) hij (by simpa using hj)
  rw [getElem!_pos d j (by simpa using hj), getElem!_pos d i (by simpa using hi)] at this
  simpa using this
end
/-! ### cmp.Compare -/
theorem isnan_int (x : Int) (w : World) : Calls Tryz.prog 113 #[.int .i64 x] w (fun e w' => e = .returned (.bool false) ∧ w' = w) := by
  go_enter Tryz.func113, Tryz.ntmps113
  go_wp2
  go_ret
  simp
set_option maxHeartbeats 2000000 in
theorem compare_int (x y : Int) (w : World) : Calls Tryz.prog 78 #[.int .i64 x, .int .i64 y] w (fun e w' => e = .returned (.int .i64 (Lib.compareInt x y)) ∧ w' = w) := by
  have hn := fun z w => isnan_int z w
  go_enter Tryz.func78, Tryz.ntmps78
  go_wp2_with (first | (go_at_call 113; refine (hn _ _).mono ?_; rintro e w' ⟨rfl, hw⟩; rw [hw]))
  all_goals (go_ret; refine ⟨?_, rfl⟩; unfold Lib.compareInt; (repeat' split) <;> first | rfl | (exfalso; omega))
instance : Inhabited Ed := ⟨⟨0, 0, 0⟩⟩
def edF (x y : Ed) : Int := Lib.compareInt x.c y.c
set_option maxHeartbeats 1000000 in
theorem closure77 (x y : Ed) (W : World) : Calls Tryz.prog 77 #[.agg (edC x).toArray, .agg (edC y).toArray] W fun e w' => e = .returned (.int .i64 (edF x y)) ∧ ∃ q os', w' = grow (W.drewN q) os' := by
  have hcon := fun W' => compare_int x.c y.c W'
  show Calls Tryz.prog 77 #[.agg #[.int .i64 (x.a : Int), .int .i64 (x.b : Int), .int .i64 x.c], .agg #[.int .i64 (y.a : Int), .int .i64 (y.b : Int), .int .i64 y.c]] W _
  unfold edF
  generalize Lib.compareInt x.c y.c = r at hcon ⊢
  obtain ⟨xa, xb, xc⟩ := x
  obtain ⟨ya, yb, yc⟩ := y
  simp only at hcon ⊢
  generalize (xa : Int) = xa at *; generalize (xb : Int) = xb at *; generalize (ya : Int) = ya at *; generalize (yb : Int) = yb at *
  go_enter Tryz.func77, Tryz.ntmps77
  go_wp2_with (go_at_call 78; refine (hcon _).mono ?_; rintro e w' ⟨rfl, rfl⟩)
  go_ret
  exact ⟨rfl, 0, _, by rw [alloc_eq_grow, alloc_eq_grow, grow_grow]; rfl⟩
theorem edF_lt (x y : Ed) : ltOf edF x y = decide (x.c < y.c) := by
  unfold ltOf edF Lib.compareInt
  by_cases h1 : x.c < y.c
  · simp [h1]
  · by_cases h2 : y.c < x.c <;> simp [h1, h2]
theorem edF_swo : SWO (ltOf edF) where
  irrefl x := by rw [edF_lt]; simp
  trans x y z h1 h2 := by rw [edF_lt] at *; simp at *; omega
  ntrans x y z h1 h2 := by rw [edF_lt] at *; simp at *; omega
theorem sortEd : SortEd := by
  intro B g c es w h hn
  have eg : ∀ args w, (callFunc 77 args).run Tryz.prog w = .ok (.enter 77 args) w := enters_of Tryz.func77 (by kernel_rfl) rfl
  have hcon := AnyQ.slices_SortFunc sortE 3 (fun w => Tryz.isAgg138 w) (fun w => Tryz.sizeOf138 w) edC edC_len edC_one edF edF_swo 77 #[] g 0 c es.toArray w eg (fun _ _ _ _ x y => closure77 x y _) (holdsK_own edC_len h) (own_slice_lt h) (by simp; omega)
  change Calls Tryz.prog 76 _ _ _ at hcon
  rw [List.size_toArray] at hcon
  refine hcon.mono ?_
  rintro e w' ⟨rfl, d', n, os, hp, hs, rfl⟩
  have hl : d'.size = es.length := by have := hp.1; simpa using this
  refine ⟨rfl, d'.toList, by simpa using perm_of_in (d := es.toArray) (by simpa using hp), ?_, extX_put _ _, ?_⟩
  · rw [← hl] at hs
    refine (pairwise_of_in hs).imp ?_
    intro x y hxy
    rw [edF_lt] at hxy
    simp at hxy; omega
  · have := own_sortK edC_len h (ys := d'.toList) (by simp [hl]) n os
    simpa using this
theorem sortEdN : SortEdN := fun w => AnyF.slices_SortFunc_none sortE none 0 _ w
/-- slices.Sort of own numbers. -/
def srt (xs : List Int) : List Int := xs.mergeSort fun x y => decide (x ≤ y)
theorem srt_len (xs : List Int) : (srt xs).length = xs.length := List.length_mergeSort _
theorem sort_ints (B g c : Nat) (xs : List Int) (w : World) (h : OwnI w B (.slice (some ⟨g, 0, none⟩) xs.length c) xs) (hn : xs.length ≤ 1000000) :
    Calls Tryz.prog 109 #[.slice (some ⟨g, 0, none⟩) xs.length c] w (fun e w' => e = .returned (.tuple #[]) ∧ ExtX g w w' ∧ OwnI w' B (.slice (some ⟨g, 0, none⟩) xs.length c) (srt xs)) := by
  have hH : Holds (Value.int .i64) w g 0 xs.toArray := holds_own (Value.int .i64) xs.toArray h (by simp) rfl
  have hcon := AnyM.slices_Sort_int sortI g 0 c xs w hH (own_slice_lt h) (by omega)
  change Calls Tryz.prog 109 _ _ _ at hcon
  refine hcon.mono ?_
  rintro e w' ⟨rfl, n, os, rfl⟩
  refine ⟨rfl, extX_put _ _, ?_⟩
  have := own_put (m := n) (os := os) (Value.int .i64) (srt xs).toArray h (by simp [srt_len]) rfl
  unfold OwnI; rw [srt_len]
  exact this
theorem sort_none (a : Option Addr) (c : Nat) (w : World) : Calls Tryz.prog 109 #[.slice a 0 c] w (fun e w' => e = .returned (.tuple #[]) ∧ w' = w) := AnyM.slices_Sort_int_none sortI a c w
end Go.Proofs.YtplbofhgmflnlaaGreat
