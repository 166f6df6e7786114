/-
  Plain words of chapter 10 (hall): a stable sort by insertion. No program in sight.
-/
import Derived.Test.YtjpgignbjkgjiaaP17
namespace Go.Proofs.Ytjpgignbjkgjiaa
/-- Two neighbours change places. -/
def swapJ (xs : List Int) (j : Nat) : List Int := (xs.set (j + 1) (nth xs j)).set j (nth xs (j + 1))
theorem swapJ_len (xs : List Int) (j : Nat) : (swapJ xs j).length = xs.length := by simp [swapJ]
def innerS (key : Int → Int) : Nat → List Int → List Int
  | 0, xs => xs
  | j + 1, xs => if key (nth xs (j + 1)) < key (nth xs j) then innerS key j (swapJ xs j) else xs
def outerS (key : Int → Int) : Nat → List Int → List Int
  | 0, xs => xs
  | i + 1, xs => innerS key (i + 1) (outerS key i xs)
theorem innerS_len (key : Int → Int) : ∀ j xs, (innerS key j xs).length = xs.length
  | 0, xs => rfl
  | j + 1, xs => by
    simp only [innerS]; split
    · rw [innerS_len key j, swapJ_len]
    · rfl
theorem outerS_len (key : Int → Int) : ∀ i xs, (outerS key i xs).length = xs.length
  | 0, xs => rfl
  | i + 1, xs => by simp only [outerS]; rw [innerS_len, outerS_len key i]
theorem nth_at (a b : List Int) (x : Int) : nth (a ++ x :: b) a.length = x := by simp [nth]
theorem swapJ_at (a b : List Int) (y x : Int) : swapJ (a ++ y :: x :: b) a.length = a ++ x :: y :: b := by
  have h1 : nth (a ++ y :: x :: b) a.length = y := nth_at _ _ _
  have h2 : nth (a ++ y :: x :: b) (a.length + 1) = x := by
    have := nth_at (a ++ [y]) b x
    simpa using this
  unfold swapJ
  rw [h1, h2]
  simp
theorem innerS_at (key : Int → Int) (x : Int) : ∀ (n : Nat) (pre suf : List Int), pre.length = n → ∃ a b, pre = a ++ b ∧ innerS key n (pre ++ x :: suf) = a ++ x :: (b ++ suf) ∧ (∀ y ∈ b, key x < key y) ∧ (∀ c y, a = c ++ [y] → ¬ key x < key y)
  | 0, pre, suf, h => by
    obtain rfl := List.length_eq_zero_iff.1 h
    exact ⟨[], [], rfl, rfl, by simp, fun c y h => by simp at h⟩
  | n + 1, pre, suf, h => by
    rcases List.eq_nil_or_concat pre with rfl | ⟨c, y, rfl⟩
    · simp at h
    rw [List.concat_eq_append] at *
    have hc : c.length = n := by simpa using h
    have h1 : nth (c ++ [y] ++ x :: suf) n = y := by rw [← hc]; simpa using nth_at c (x :: suf) y
    have h2 : nth (c ++ [y] ++ x :: suf) (n + 1) = x := by
      have := nth_at (c ++ [y]) suf x
      rw [List.length_append, hc] at this
      exact this
    simp only [innerS]
    rw [h1, h2]
    by_cases hk : key x < key y
    · rw [if_pos hk]
      have h3 : swapJ (c ++ [y] ++ x :: suf) n = c ++ x :: (y :: suf) := by
        have := swapJ_at c suf y x
        rw [hc] at this
        simpa using this
      rw [h3]
      obtain ⟨a, b, e1, e2, e3, e4⟩ := innerS_at key x n c (y :: suf) hc
      refine ⟨a, b ++ [y], by rw [e1]; simp, by rw [e2]; simp, fun z hz => ?_, e4⟩
      rw [List.mem_append] at hz
      rcases hz with hz | hz
      · exact e3 z hz
      · simp at hz; subst hz; exact hk
    · rw [if_neg hk]
      refine ⟨c ++ [y], [], by simp, by simp, by simp, fun c' y' e => ?_⟩
      have := List.append_inj_right' e rfl
      simp at this
      subst this; exact hk
/-- By the key, and by the number where keys are equal. -/
def lexP (key : Int → Int) (u v : Int) : Prop := key u < key v ∨ (key u = key v ∧ u < v)
theorem outerS_at (key : Int → Int) (xs : List Int) (hx : xs.Pairwise (· < ·)) : ∀ i, i < xs.length → ∃ s, outerS key i xs = s ++ xs.drop (i + 1) ∧ s.Perm (xs.take (i + 1)) ∧ s.Pairwise (lexP key)
  | 0, h => by
    obtain ⟨x, ys, rfl⟩ : ∃ x ys, xs = x :: ys := by
      cases xs with
      | nil => simp at h
      | cons x ys => exact ⟨x, ys, rfl⟩
    exact ⟨[x], by simp [outerS], by simp, List.pairwise_singleton _ _⟩
  | i + 1, h => by
    obtain ⟨s, h1, h2, h3⟩ := outerS_at key xs hx i (by omega)
    have hd : xs.drop (i + 1) = xs[i + 1] :: xs.drop (i + 2) := List.drop_eq_getElem_cons h
    have hsl : s.length = i + 1 := by rw [h2.length_eq, List.length_take]; omega
    obtain ⟨a, b, e1, e2, e3, e4⟩ := innerS_at key xs[i + 1] (i + 1) s (xs.drop (i + 2)) hsl
    have hlt : ∀ y ∈ s, y < xs[i + 1] := fun y hy => by
      have hy' := h2.mem_iff.1 hy
      obtain ⟨j, hj, rfl⟩ := List.getElem_of_mem hy'
      rw [List.length_take] at hj
      rw [List.getElem_take]
      exact List.pairwise_iff_getElem.1 hx j (i + 1) (by omega) h (by omega)
    refine ⟨a ++ xs[i + 1] :: b, ?_, ?_, ?_⟩
    · rw [outerS, h1, hd, e2]; simp
    · rw [List.take_succ_eq_append_getElem h]
      have p1 : (a ++ xs[i + 1] :: b).Perm (xs[i + 1] :: (a ++ b)) := List.perm_middle
      have p2 : (xs[i + 1] :: (a ++ b)).Perm ((a ++ b) ++ [xs[i + 1]]) := (List.perm_append_singleton _ _).symm
      refine (p1.trans p2).trans ?_
      rw [← e1]
      exact h2.append_right _
    · rw [e1] at h3 hlt
      rw [List.pairwise_append] at h3
      obtain ⟨s1, s2, s3⟩ := h3
      have hax : ∀ y ∈ a, lexP key y xs[i + 1] := fun y hy => by
        have hyx := hlt y (by simp [hy])
        rcases List.eq_nil_or_concat a with rfl | ⟨c, z, rfl⟩
        · simp at hy
        rw [List.concat_eq_append] at *
        have hz := e4 c z rfl
        rw [List.mem_append] at hy
        rcases hy with hy | hy
        · have := (List.pairwise_append.1 s1).2.2 y hy z (by simp)
          unfold lexP at *
          omega
        · simp at hy; subst hy
          unfold lexP; omega
      rw [List.pairwise_append]
      refine ⟨s1, ?_, fun u hu v hv => ?_⟩
      · rw [List.pairwise_cons]
        exact ⟨fun y hy => .inl (e3 y hy), s2⟩
      · rw [List.mem_cons] at hv
        rcases hv with rfl | hv
        · exact hax u hu
        · exact s3 u hu v hv
theorem lex_ext {key : Int → Int} : ∀ {xs ys : List Int}, xs.Pairwise (lexP key) → ys.Pairwise (lexP key) → (∀ a, a ∈ xs ↔ a ∈ ys) → xs = ys
  | [], [], _, _, _ => rfl
  | [], y :: ys, _, _, h => absurd ((h y).2 (by simp)) (by simp)
  | x :: xs, [], _, _, h => absurd ((h x).1 (by simp)) (by simp)
  | x :: xs, y :: ys, hx, hy, h => by
    rw [List.pairwise_cons] at hx hy
    have e : x = y := by
      have h1 := (h x).1 (by simp)
      have h2 := (h y).2 (by simp)
      rw [List.mem_cons] at h1 h2
      rcases h1 with h1 | h1
      · exact h1
      · rcases h2 with h2 | h2
        · exact h2.symm
        · have := hx.1 _ h2; have := hy.1 _ h1
          unfold lexP at *; omega
    subst e
    rw [lex_ext hx.2 hy.2 fun a => ?_]
    constructor
    · intro ha
      have := (h a).1 (by simp [ha])
      rw [List.mem_cons] at this
      rcases this with rfl | h'
      · have := hx.1 _ ha; unfold lexP at *; omega
      · exact h'
    · intro ha
      have := (h a).2 (by simp [ha])
      rw [List.mem_cons] at this
      rcases this with rfl | h'
      · have := hy.1 _ ha; unfold lexP at *; omega
      · exact h'
/-- What the sort leaves: it is the list, by the key and the number. -/
def sortS (key : Int → Int) (xs : List Int) : List Int := outerS key (xs.length - 1) xs
theorem sortS_len (key : Int → Int) (xs : List Int) : (sortS key xs).length = xs.length := outerS_len _ _ _
theorem sortS_is {key : Int → Int} {xs : List Int} (hx : xs.Pairwise (· < ·)) {ys : List Int} (hy : ys.Pairwise (lexP key)) (hm : ∀ a, a ∈ xs ↔ a ∈ ys) : sortS key xs = ys := by
  rcases Nat.eq_zero_or_pos xs.length with h0 | h0
  · obtain rfl := List.length_eq_zero_iff.1 h0
    have : ys = [] := List.eq_nil_iff_forall_not_mem.2 fun a ha => by simpa using (hm a).2 ha
    subst this
    rfl
  · obtain ⟨s, h1, h2, h3⟩ := outerS_at key xs hx (xs.length - 1) (by omega)
    have e : xs.length - 1 + 1 = xs.length := by omega
    rw [e, List.drop_length, List.append_nil] at h1
    rw [e, List.take_length] at h2
    unfold sortS
    rw [h1]
    exact lex_ext h3 hy fun a => (h2.mem_iff).trans (hm a)
end Go.Proofs.Ytjpgignbjkgjiaa
