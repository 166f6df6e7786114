/-
  Plain laws: settings as digits, their order.
-/
import Derived.Test.YtplbofhgmflnlaaGreatMF6
set_option linter.unusedVariables false
set_option linter.unusedSimpArgs false
namespace Go.Proofs.YtplbofhgmflnlaaGreat
/-- The i-th digit of m, the last factor's levels first. -/
def dg (fs : List Fac) : Nat → Nat → Nat → Nat
  | 0, _, _ => 0
  | k + 1, m, i => if i = k then m % levN (fth fs k) else dg fs k (m / levN (fth fs k)) i
theorem dg_zero (fs : List Fac) : ∀ k i, dg fs k 0 i = 0
  | 0, _ => rfl
  | k + 1, i => by
    unfold dg
    split
    · exact Nat.zero_mod _
    · rw [Nat.zero_div]; exact dg_zero fs k i
theorem dg_nxt {fs : List Fac} (h : ∀ i, i < fs.length → 1 ≤ (fth fs i).lev) : ∀ k (l : List Int) m, k ≤ fs.length → l.length = fs.length → (∀ i, i < k → nth l i = (dg fs k m i : Nat)) →
    (∀ i, i < k → nth (nxtK fs k l) i = (dg fs k (m + 1) i : Nat)) ∧ ∀ i, k ≤ i → i < fs.length → nth (nxtK fs k l) i = nth l i
  | 0, l, m, _, _, _ => ⟨fun i hi => by omega, fun i _ _ => rfl⟩
  | k + 1, l, m, hk, hl, hd => by
    have hlev := h k (by omega)
    have h1 : 1 ≤ levN (fth fs k) := by unfold levN; omega
    have hlv : (levN (fth fs k) : Int) = (fth fs k).lev := by unfold levN; omega
    have hdk := hd k (by omega)
    unfold dg at hdk
    rw [if_pos rfl] at hdk
    have hdv := Nat.div_add_mod m (levN (fth fs k))
    have hmd := Nat.mod_lt m (show 0 < levN (fth fs k) by omega)
    unfold nxtK
    by_cases hlt : m % levN (fth fs k) + 1 < levN (fth fs k)
    · rw [if_pos (by rw [hdk]; omega)]
      have e1 : (m + 1) % levN (fth fs k) = m % levN (fth fs k) + 1 := by
        rw [show m + 1 = (m % levN (fth fs k) + 1) + levN (fth fs k) * (m / levN (fth fs k)) by omega, Nat.add_mul_mod_self_left, Nat.mod_eq_of_lt hlt]
      have e2 : (m + 1) / levN (fth fs k) = m / levN (fth fs k) := by
        rw [show m + 1 = (m % levN (fth fs k) + 1) + levN (fth fs k) * (m / levN (fth fs k)) by omega, Nat.add_mul_div_left _ _ (by omega), Nat.div_eq_of_lt hlt, Nat.zero_add]
      refine ⟨fun i hi => ?_, fun i h2 h3 => ?_⟩
      · rw [nth_set _ _ _ _ (by omega)]
        unfold dg
        by_cases e : i = k
        · rw [if_pos e, if_pos e, e1, hdk]; push_cast; rfl
        · rw [if_neg e, if_neg e, e2]
          have := hd i hi
          unfold dg at this
          rw [if_neg e] at this
          exact this
      · rw [nth_set _ _ _ _ (by omega), if_neg (by omega)]
    · rw [if_neg (by rw [hdk]; omega)]
      have e0 : m % levN (fth fs k) + 1 = levN (fth fs k) := by omega
      have e3 : m + 1 = levN (fth fs k) * (m / levN (fth fs k) + 1) := by rw [Nat.mul_add, Nat.mul_one]; omega
      have e1 : (m + 1) % levN (fth fs k) = 0 := by rw [e3]; exact Nat.mul_mod_right _ _
      have e2 : (m + 1) / levN (fth fs k) = m / levN (fth fs k) + 1 := by
        conv => lhs; rw [e3]
        exact Nat.mul_div_cancel_left _ (by omega)
      obtain ⟨i1, i2⟩ := dg_nxt h k (l.set k 0) (m / levN (fth fs k)) (by omega) (by rw [List.length_set]; exact hl) (fun i hi => by
        rw [nth_set _ _ _ _ (by omega), if_neg (by omega)]
        have := hd i (by omega)
        unfold dg at this
        rw [if_neg (by omega)] at this
        exact this)
      refine ⟨fun i hi => ?_, fun i h2 h3 => ?_⟩
      · unfold dg
        by_cases e : i = k
        · rw [if_pos e, e1, e, i2 k (Nat.le_refl _) (by omega), nth_set _ _ _ _ (by omega), if_pos rfl]; rfl
        · rw [if_neg e, e2]
          exact i1 i (by omega)
      · rw [i2 i (by omega) h3, nth_set _ _ _ _ (by omega), if_neg (by omega)]
theorem atK_nth {fs : List Fac} (h : ∀ i, i < fs.length → 1 ≤ (fth fs i).lev) : ∀ j i, i < fs.length → nth (atK fs j) i = (dg fs fs.length j i : Nat)
  | 0, i, hi => by
    simp only [atK]
    rw [nth_fl _ _ _ hi, dg_zero]; rfl
  | j + 1, i, hi => (dg_nxt h fs.length (atK fs j) j (Nat.le_refl _) (atK_len fs j) (fun i hi => atK_nth h j i hi)).1 i hi
theorem atK_dg {fs : List Fac} (h : ∀ i, i < fs.length → 1 ≤ (fth fs i).lev) (j : Nat) : atK fs j = fl fs.length fun i => (dg fs fs.length j i : Nat) := by
  refine List.ext_getElem (by rw [atK_len, fl_len]) fun i h1 h2 => ?_
  have hi : i < fs.length := by rw [atK_len] at h1; exact h1
  rw [← nth_eq _ _ h1, ← nth_eq _ _ h2, atK_nth h j i hi, nth_fl _ _ _ hi]
/-- a comes before b: smaller at the first place where they differ. -/
def lexN (n : Nat) (a b : List Int) : Prop := ∃ i, i < n ∧ nth a i < nth b i ∧ ∀ t, t < i → nth a t = nth b t
theorem dg_lex (fs : List Fac) : ∀ k m m', m < m' → m' < prodTo fs k → ∃ i, i < k ∧ dg fs k m i < dg fs k m' i ∧ ∀ t, t < i → dg fs k m t = dg fs k m' t
  | 0, m, m', h1, h2 => by simp [prodTo] at h2; omega
  | k + 1, m, m', h1, h2 => by
    have hL : 0 < levN (fth fs k) := by
      rcases Nat.eq_zero_or_pos (levN (fth fs k)) with h | h
      · simp [prodTo, h] at h2
      · exact h
    by_cases e : m / levN (fth fs k) = m' / levN (fth fs k)
    · have a1 := Nat.div_add_mod m (levN (fth fs k))
      have a2 := Nat.div_add_mod m' (levN (fth fs k))
      rw [e] at a1
      refine ⟨k, by omega, ?_, fun t ht => ?_⟩
      · simp only [dg, if_true]; omega
      · simp only [dg]; rw [if_neg (by omega), if_neg (by omega), e]
    · have hle : m / levN (fth fs k) ≤ m' / levN (fth fs k) := Nat.div_le_div_right (Nat.le_of_lt h1)
      have hlt : m' / levN (fth fs k) < prodTo fs k := Nat.div_lt_of_lt_mul (by rw [Nat.mul_comm]; exact h2)
      obtain ⟨i, b1, b2, b3⟩ := dg_lex fs k _ _ (Nat.lt_of_le_of_ne hle e) hlt
      refine ⟨i, by omega, ?_, fun t ht => ?_⟩
      · simp only [dg]; rw [if_neg (by omega), if_neg (by omega)]; exact b2
      · simp only [dg]; rw [if_neg (by omega), if_neg (by omega)]; exact b3 t ht
theorem atK_lex {fs : List Fac} (h : ∀ i, i < fs.length → 1 ≤ (fth fs i).lev) {m m' : Nat} (h1 : m < m') (h2 : m' < prodTo fs fs.length) : lexN fs.length (atK fs m) (atK fs m') := by
  obtain ⟨i, b1, b2, b3⟩ := dg_lex fs fs.length m m' h1 h2
  refine ⟨i, b1, ?_, fun t ht => ?_⟩
  · rw [atK_nth h _ _ b1, atK_nth h _ _ b1]; omega
  · rw [atK_nth h _ _ (by omega), atK_nth h _ _ (by omega), b3 t ht]
theorem outK_lex {fs : List Fac} (fo : List (Sl Pr)) (h : ∀ i, i < fs.length → 1 ≤ (fth fs i).lev) {p : Nat} (hp : p ≤ prodTo fs fs.length) : (outK fs fo p).Pairwise (lexN fs.length) := by
  unfold outK
  refine List.Pairwise.filter _ ?_
  rw [List.pairwise_map]
  refine List.Pairwise.imp_of_mem ?_ List.pairwise_lt_range
  intro a b _ hb hab
  rw [List.mem_range] at hb
  exact atK_lex h hab (by omega)
theorem outK_mem {fs : List Fac} {fo : List (Sl Pr)} (h : ∀ i, i < fs.length → 1 ≤ (fth fs i).lev) {p : Nat} {l : List Int} (hl : l ∈ outK fs fo p) : levB fs l = true ∧ alwB fo l = true := by
  unfold outK at hl
  rw [List.mem_filter, List.mem_map] at hl
  obtain ⟨⟨j, -, rfl⟩, h2⟩ := hl
  refine ⟨?_, h2⟩
  unfold levB
  rw [Bool.and_eq_true, decide_eq_true_eq]
  refine ⟨atK_len _ _, ?_⟩
  rw [Bool.not_eq_true']
  rw [fIdx_none fun i hi => ?_]
  · rfl
  · have hb := atK_bd h j i hi
    simp only [levBad, Bool.or_eq_false_iff, decide_eq_false_iff_not]
    omega
end Go.Proofs.YtplbofhgmflnlaaGreat
