/-
  Plain words of chapter 10 (hall), the third part: the search. No program in sight.
-/
import Derived.Test.YtjpgignbjkgjiaaP2
namespace Go.Proofs.Ytjpgignbjkgjiaa
def lth (left : List (List Int)) (i : Nat) : List Int := left.getD i []
theorem lth_eq (left : List (List Int)) (i : Nat) (h : i < left.length) : lth left i = left[i] := by simp [lth, h]
def leastTo (l : List Camp) (left : List (List Int)) : Nat → Int
  | 0 => 0
  | k + 1 => leastTo l left k + (cth l k).we * (nth (lth left k) 0 + (cth l k).ho)
abbrev St := Option (List Int × Int)
def isNone0 (xs : List Int) : Bool := xs.length == 0
def anyEmpty (left : List (List Int)) : Bool := left.any isNone0
def stCost (st : St) : Int := match st with | some (_, c) => c | none => 0
def stFound (st : St) : Bool := st.isSome
def pruned (l : List Camp) (left : List (List Int)) (st : St) : Bool := anyEmpty left || (stFound st && decide (stCost st ≤ leastTo l left l.length))
def keepS (ha : Hal) (l : List Camp) (i k : Nat) (t : Int) (xs : List Int) : List Int := xs.filter fun u => apartB ha (cth l i) (cth l k) t u
/-- The lists when the campaign i has the hour t, the first k of the others being looked at. -/
def nextTo (ha : Hal) (l : List Camp) (left : List (List Int)) (i : Nat) (t : Int) (k : Nat) : List (List Int) :=
  (List.range left.length).map fun j => if j = i then [t] else if j < k then keepS ha l i j t (lth left j) else lth left j
def nextS (ha : Hal) (l : List Camp) (left : List (List Int)) (i : Nat) (t : Int) : List (List Int) := nextTo ha l left i t left.length
def planOf (left : List (List Int)) : List Int := left.map (nth · 0)
def placeS (ha : Hal) (l : List Camp) : Nat → List (List Int) → St → St
  | 0, left, st => if pruned l left st then st else if (breachS ha l (planOf left)).ru = 0 then some (planOf left, costTo l (planOf left) l.length) else st
  | d + 1, left, st => if pruned l left st then st else (lth left (l.length - (d + 1))).foldl (fun st t => placeS ha l d (nextS ha l left (l.length - (d + 1)) t) st) st
theorem leastTo_bd {n : Int} {l : List Camp} {left : List (List Int)} (hc : ∀ i, i < l.length → CB n (cth l i)) (ht : ∀ i, i < l.length → 0 ≤ nth (lth left i) 0 ∧ nth (lth left i) 0 ≤ 96) : ∀ k, k ≤ l.length → 0 ≤ leastTo l left k ∧ leastTo l left k ≤ 12000 * k
  | 0, _ => by simp [leastTo]
  | k + 1, h => by
    have h1 := leastTo_bd hc ht k (by omega)
    have h2 := we_bd (hc k (by omega)) (ht k (by omega)).1 (ht k (by omega)).2
    simp only [leastTo]
    omega
theorem filter_take_succ (q : Int → Bool) (xs : List Int) (j : Nat) (h : j < xs.length) : (xs.take (j + 1)).filter q = if q (nth xs j) then (xs.take j).filter q ++ [nth xs j] else (xs.take j).filter q := by
  rw [List.take_succ_eq_append_getElem h, List.filter_append, nth_eq _ _ h]
  simp only [List.filter_cons, List.filter_nil]
  split <;> simp
theorem filter_len_le (q : Int → Bool) (xs : List Int) (j : Nat) (h : j ≤ xs.length) : ((xs.take j).filter q).length ≤ j := by
  have := List.length_filter_le q (xs.take j)
  rw [List.length_take] at this
  omega
theorem nth_snoc (ys : List Int) (v : Int) (i : Nat) : nth (ys ++ [v]) i = if i = ys.length then v else nth ys i := by
  unfold nth
  by_cases h : i = ys.length
  · simp [h]
  · rw [if_neg h]
    rcases Nat.lt_or_ge i ys.length with h1 | h1
    · simp [List.getElem?_append_left h1]
    · simp [List.getElem?_eq_none (show (ys ++ [v]).length ≤ i by simp; omega), List.getElem?_eq_none h1]
theorem ext_nth (xs ys : List Int) (hl : xs.length = ys.length) (h : ∀ i, i < xs.length → nth xs i = nth ys i) : xs = ys := by
  apply List.ext_getElem hl
  intro i h1 h2
  have := h i h1
  rwa [nth_eq _ _ h1, nth_eq _ _ h2] at this
end Go.Proofs.Ytjpgignbjkgjiaa
