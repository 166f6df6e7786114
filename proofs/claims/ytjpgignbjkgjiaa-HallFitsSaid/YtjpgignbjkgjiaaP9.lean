/-
  Plain words of chapter 10 (hall), the ninth part: what is seen of an hour. No program in sight.
-/
import Derived.Test.YtjpgignbjkgjiaaP8
namespace Go.Proofs.Ytjpgignbjkgjiaa
/-- Whether it is so for one of the first. -/
def orTo (q : Nat → Bool) : Nat → Bool
  | 0 => false
  | e + 1 => orTo q e || q e
theorem orTo_iff (q : Nat → Bool) : ∀ e, orTo q e = true ↔ ∃ j, j < e ∧ q j = true
  | 0 => by simp [orTo]
  | e + 1 => by
    simp only [orTo, Bool.or_eq_true, orTo_iff q e]
    constructor
    · rintro (⟨j, h1, h2⟩ | h)
      · exact ⟨j, by omega, h2⟩
      · exact ⟨e, by omega, h⟩
    · rintro ⟨j, h1, h2⟩
      by_cases h : j = e
      · subst h; exact .inr h2
      · exact .inl ⟨j, by omega, h2⟩
def seenD (c : Camp) (t hour cl prev : Int) (e : Nat) : Int := if orTo (fun j => runB c t (hour + (-cl + (j : Nat)))) e then 3 else prev
theorem seenD_zero (c : Camp) (t hour cl prev : Int) : seenD c t hour cl prev 0 = prev := rfl
theorem seenD_yes {c : Camp} {t hour cl prev : Int} {e : Nat} (h : runB c t (hour + (-cl + (e : Nat))) = true) : seenD c t hour cl prev (e + 1) = 3 := by
  simp [seenD, orTo, h]
theorem seenD_no {c : Camp} {t hour cl prev : Int} {e : Nat} (h : runB c t (hour + (-cl + (e : Nat))) = false) : seenD c t hour cl prev (e + 1) = seenD c t hour cl prev e := by
  simp [seenD, orTo, h]
theorem seenD_end {c : Camp} {t cl : Int} {F : Nat → Int} {hour m : Nat} (hm : (m : Int) = 2 * cl + 1) (_h0 : 0 ≤ cl) (h1 : 1 ≤ c.ho) : seenD c t hour cl (F hour) m = markF (t - cl) (t + c.ho + cl) 3 F hour := by
  have e : orTo (fun j => runB c t ((hour : Int) + (-cl + (j : Nat)))) m = true ↔ t - cl ≤ (hour : Int) ∧ (hour : Int) < t + c.ho + cl := by
    rw [orTo_iff]
    constructor
    · rintro ⟨j, h1, h2⟩
      rw [runB_iff] at h2
      omega
    · rintro ⟨h1, h2⟩
      rcases Int.le_total ((hour : Int) - cl) t with h | h
      · exact ⟨(t - (hour : Int) + cl).toNat, by omega, by rw [runB_iff]; omega⟩
      · exact ⟨0, by omega, by rw [runB_iff]; omega⟩
  unfold seenD markF
  by_cases h : t - cl ≤ (hour : Int) ∧ (hour : Int) < t + c.ho + cl
  · rw [if_pos (e.2 h), if_pos h]
  · rw [if_neg (fun q => h (e.1 q)), if_neg h]
theorem vOther_same {ha : Hal} {l : List Camp} {p : List Int} {cu : Int} {k : Nat} (h : (cth l k).cu = cu) : vOther ha l p cu (k + 1) = vOther ha l p cu k := by simp [vOther, h]
theorem vOther_mark {ha : Hal} {l : List Camp} {p : List Int} {cu : Int} {k : Nat} (h : ¬ (cth l k).cu = cu) : vOther ha l p cu (k + 1) = markF (nth p k - ha.cl) (nth p k + (cth l k).ho + ha.cl) 3 (vOther ha l p cu k) := by simp [vOther, h]
theorem own2_step {l : List Camp} {p : List Int} {cu : Int} {F : Nat → Int} {k hour : Nat} : vOwn l p cu 2 F (k + 1) hour = if ((cth l k).cu == cu) && prepB (cth l k) (nth p k) hour then 2 else vOwn l p cu 2 F k hour := by
  simp only [vOwn]
  by_cases h : (cth l k).cu = cu
  · rw [if_pos h, if_neg (by omega)]
    simp only [h, beq_self_eq_true, Bool.true_and, markF, prepB, Bool.and_eq_true, decide_eq_true_eq]
    by_cases h2 : nth p k - (cth l k).pr ≤ (hour : Int) ∧ (hour : Int) < nth p k
    · rw [if_pos h2, if_pos (by omega)]
    · rw [if_neg h2, if_neg (by omega)]
  · have : ((cth l k).cu == cu) = false := by simpa using h
    rw [if_neg h, this]; rfl
theorem own1_step {l : List Camp} {p : List Int} {cu : Int} {F : Nat → Int} {k hour : Nat} : vOwn l p cu 1 F (k + 1) hour = if ((cth l k).cu == cu) && runB (cth l k) (nth p k) hour then 1 else vOwn l p cu 1 F k hour := by
  simp only [vOwn]
  by_cases h : (cth l k).cu = cu
  · rw [if_pos h, if_pos trivial]
    simp only [h, beq_self_eq_true, Bool.true_and, markF, runB, Bool.and_eq_true, decide_eq_true_eq]
    by_cases h2 : nth p k ≤ (hour : Int) ∧ (hour : Int) < nth p k + (cth l k).ho
    · rw [if_pos h2, if_pos (by omega)]
    · rw [if_neg h2, if_neg (by omega)]
  · have : ((cth l k).cu == cu) = false := by simpa using h
    rw [if_neg h, this]; rfl
end Go.Proofs.Ytjpgignbjkgjiaa
