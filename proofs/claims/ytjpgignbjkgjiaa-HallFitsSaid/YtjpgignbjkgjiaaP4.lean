/-
  Plain words of chapter 10 (hall), the fourth part: what the search does to its lists. No program in sight.
-/
import Derived.Test.YtjpgignbjkgjiaaP3
namespace Go.Proofs.Ytjpgignbjkgjiaa
/-- All hours are hours of a hall, and not too many. -/
def Bd (left : List (List Int)) : Prop := ∀ j, j < left.length → (lth left j).length ≤ 1000 ∧ ∀ q, q < (lth left j).length → 0 ≤ nth (lth left j) q ∧ nth (lth left j) q ≤ 96
theorem nth_mem {xs : List Int} {i : Nat} (h : i < xs.length) : nth xs i ∈ xs := by rw [nth_eq _ _ h]; exact List.getElem_mem h
theorem nextTo_len (ha : Hal) (l : List Camp) (left : List (List Int)) (i : Nat) (t : Int) (k : Nat) : (nextTo ha l left i t k).length = left.length := by simp [nextTo]
theorem lth_nextTo (ha : Hal) (l : List Camp) (left : List (List Int)) (i : Nat) (t : Int) (k j : Nat) (hj : j < left.length) :
    lth (nextTo ha l left i t k) j = if j = i then [t] else if j < k then keepS ha l i j t (lth left j) else lth left j := by
  rw [lth_eq _ _ (by rw [nextTo_len]; exact hj)]
  simp [nextTo]
theorem ext_lth (as bs : List (List Int)) (hl : as.length = bs.length) (h : ∀ i, i < as.length → lth as i = lth bs i) : as = bs := by
  apply List.ext_getElem hl
  intro i h1 h2
  have := h i h1
  rwa [lth_eq _ _ h1, lth_eq _ _ h2] at this
theorem lth_set (as : List (List Int)) (k j : Nat) (v : List Int) (hj : j < as.length) : lth (as.set k v) j = if j = k then v else lth as j := by
  rw [lth_eq _ _ (by simpa using hj), lth_eq _ _ hj, List.getElem_set]
  by_cases h : k = j
  · simp [h]
  · rw [if_neg h, if_neg (fun e => h e.symm)]
theorem nextTo_zero (ha : Hal) (l : List Camp) (left : List (List Int)) (i : Nat) (t : Int) : left.set i [t] = nextTo ha l left i t 0 := by
  refine ext_lth _ _ (by simp [nextTo_len]) fun j hj => ?_
  simp only [List.length_set] at hj
  rw [lth_set _ _ _ _ hj, lth_nextTo _ _ _ _ _ _ _ hj]
  simp
theorem nextTo_same (ha : Hal) (l : List Camp) (left : List (List Int)) (i : Nat) (t : Int) : nextTo ha l left i t i = nextTo ha l left i t (i + 1) := by
  refine ext_lth _ _ (by simp [nextTo_len]) fun j hj => ?_
  rw [nextTo_len] at hj
  rw [lth_nextTo _ _ _ _ _ _ _ hj, lth_nextTo _ _ _ _ _ _ _ hj]
  by_cases h : j = i
  · simp [h]
  · rw [if_neg h, if_neg h]
    by_cases h2 : j < i
    · rw [if_pos h2, if_pos (by omega)]
    · rw [if_neg h2, if_neg (by omega)]
theorem nextTo_succ (ha : Hal) (l : List Camp) (left : List (List Int)) (i : Nat) (t : Int) (k : Nat) (hk : k < left.length) (hki : k ≠ i) :
    (nextTo ha l left i t k).set k (keepS ha l i k t (lth (nextTo ha l left i t k) k)) = nextTo ha l left i t (k + 1) := by
  refine ext_lth _ _ (by simp [nextTo_len]) fun j hj => ?_
  simp only [List.length_set, nextTo_len] at hj
  rw [lth_set _ _ _ _ (by rw [nextTo_len]; exact hj), lth_nextTo _ _ _ _ _ (k + 1) _ hj, lth_nextTo _ _ _ _ _ _ _ hj, lth_nextTo _ _ _ _ _ _ _ hk]
  by_cases h : j = k
  · subst h
    rw [if_pos rfl, if_neg hki, if_neg hki, if_neg (by omega), if_pos (by omega)]
  · rw [if_neg h]
    by_cases h1 : j = i
    · rw [if_pos h1, if_pos h1]
    · rw [if_neg h1, if_neg h1]
      by_cases h2 : j < k
      · rw [if_pos h2, if_pos (by omega)]
      · rw [if_neg h2, if_neg (by omega)]
theorem nextTo_bd {ha : Hal} {l : List Camp} {left : List (List Int)} {i : Nat} {t : Int} (k : Nat) (h : Bd left) (ht : 0 ≤ t ∧ t ≤ 96) : Bd (nextTo ha l left i t k) := by
  intro j hj
  rw [nextTo_len] at hj
  rw [lth_nextTo _ _ _ _ _ _ _ hj]
  have h1 := h j hj
  have hall : ∀ y ∈ lth left j, 0 ≤ y ∧ y ≤ 96 := fun y hy => by
    obtain ⟨q, hq, rfl⟩ := List.getElem_of_mem hy
    have := h1.2 q hq
    rwa [nth_eq _ _ hq] at this
  split
  · refine ⟨by simp, fun q hq => ?_⟩
    obtain rfl : q = 0 := by simp at hq; omega
    exact ht
  · split
    · refine ⟨?_, fun q hq => ?_⟩
      · have := List.length_filter_le (fun u => apartB ha (cth l i) (cth l j) t u) (lth left j)
        unfold keepS; omega
      · have := nth_mem hq
        unfold keepS at this
        exact hall _ (List.mem_filter.1 this).1
    · exact h1
theorem planOf_fl (left : List (List Int)) : planOf left = fl left.length fun i => nth (lth left i) 0 := by
  apply List.ext_getElem
  · simp [planOf, fl]
  · intro i h1 h2
    simp only [planOf, List.length_map] at h1
    simp [planOf, fl, lth, h1]
theorem planOf_len (left : List (List Int)) : (planOf left).length = left.length := by simp [planOf]
theorem nth_planOf (left : List (List Int)) (i : Nat) (h : i < left.length) : nth (planOf left) i = nth (lth left i) 0 := by rw [planOf_fl, nth_fl _ _ _ h]
theorem notEmpty {left : List (List Int)} (h : anyEmpty left = false) : ∀ i, i < left.length → 0 < (lth left i).length := fun i hi => by
  simp only [anyEmpty, isNone0, List.any_eq_false] at h
  have := h _ (List.getElem_mem hi)
  rw [lth_eq _ _ hi]
  simp at this
  exact List.length_pos_iff.2 this
/-- The states while the hours of the campaign i are tried. -/
def foldTo (ha : Hal) (l : List Camp) (d : Nat) (left : List (List Int)) (i : Nat) (st : St) : Nat → St
  | 0 => st
  | k + 1 => placeS ha l d (nextS ha l left i (nth (lth left i) k)) (foldTo ha l d left i st k)
theorem foldTo_eq (ha : Hal) (l : List Camp) (d : Nat) (left : List (List Int)) (i : Nat) (st : St) : ∀ k, k ≤ (lth left i).length → foldTo ha l d left i st k = ((lth left i).take k).foldl (fun st t => placeS ha l d (nextS ha l left i t) st) st
  | 0, _ => rfl
  | k + 1, h => by
    rw [foldTo, foldTo_eq ha l d left i st k (by omega), List.take_succ_eq_append_getElem (by omega), List.foldl_append, nth_eq _ _ (by omega)]
    rfl
theorem placeS_zero_no (ha : Hal) (l : List Camp) (d : Nat) (left : List (List Int)) (st : St) (h : pruned l left st = true) : placeS ha l d left st = st := by
  cases d <;> simp [placeS, h]
theorem placeS_end (ha : Hal) (l : List Camp) (left : List (List Int)) (st : St) (h : pruned l left st = false) : placeS ha l 0 left st = if (breachS ha l (planOf left)).ru = 0 then some (planOf left, costTo l (planOf left) l.length) else st := by
  simp [placeS, h]
theorem placeS_step (ha : Hal) (l : List Camp) (d i : Nat) (hi : i + (d + 1) = l.length) (left : List (List Int)) (st : St) (h : pruned l left st = false) : placeS ha l (d + 1) left st = foldTo ha l d left i st (lth left i).length := by
  have e : l.length - (d + 1) = i := by omega
  rw [foldTo_eq _ _ _ _ _ _ _ (Nat.le_refl _), List.take_length]
  simp [placeS, h, e]
end Go.Proofs.Ytjpgignbjkgjiaa
