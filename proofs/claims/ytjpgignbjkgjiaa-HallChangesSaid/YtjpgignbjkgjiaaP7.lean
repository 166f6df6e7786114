/-
  Texts merged: P7, P8, P9.
-/
import Derived.Test.YtjpgignbjkgjiaaPlain
section
/-
  Plain words of chapter 10 (hall), the seventh part: what the document's answer computes. No program in sight.
-/
namespace Go.Proofs.Ytjpgignbjkgjiaa
def runB (c : Camp) (t hour : Int) : Bool := decide (t ≤ hour) && decide (hour - t < c.ho)
theorem all_nth_false {α : Type} (get : List α → Nat → α) (hg : ∀ (l : List α) (i : Nat) (h : i < l.length), get l i = l[i]) (q : α → Bool) (xs : List α) (k : Nat) (hk : k < xs.length) (h : q (get xs k) = false) : xs.all q = false := by
  rw [hg xs k hk] at h
  rw [List.all_eq_false]
  exact ⟨_, List.getElem_mem hk, by simp [h]⟩
theorem all_nth_true {α : Type} (get : List α → Nat → α) (hg : ∀ (l : List α) (i : Nat) (h : i < l.length), get l i = l[i]) (q : α → Bool) (xs : List α) (h : ∀ j, j < xs.length → q (get xs j) = true) : xs.all q = true := by
  rw [List.all_eq_true]
  intro x hx
  obtain ⟨j, hj, rfl⟩ := List.getElem_of_mem hx
  rw [← hg xs j hj]; exact h j hj
/-- Whether two runs are too near, hour by hour. -/
def nearG (ha : Hal) (a b : Camp) (s t : Int) (hour : Nat) : Bool :=
  (runB { a with ho := a.ho + gapS ha a b } s hour && runB b t hour) || (runB a s hour && runB { b with ho := b.ho + gapS ha a b } t hour)
def nearB (ha : Hal) (a b : Camp) (s t : Int) : Bool := (fIdx (nearG ha a b s t) ha.st.length).isSome
end Go.Proofs.Ytjpgignbjkgjiaa
end
section
/-
  Plain words of chapter 10 (hall), the eighth part: the document's breach is the program's. No program in sight.
-/
namespace Go.Proofs.Ytjpgignbjkgjiaa
theorem hourS_some {q : Int → Bool} {t : Int} {m : Nat} {h : Int} (h1 : t ≤ h) (h2 : h < t + m) (hq : q h = true) (hf : ∀ h', t ≤ h' → h' < h → q h' = false) : hourS q t m = h := by
  have e : fIdx (fun d => q (t + (d : Nat))) m = some (h - t).toNat := by
    refine fIdx_some (by omega) ?_ fun j hj => hf _ (by omega) (by omega)
    have : t + ((h - t).toNat : Int) = h := by omega
    rw [this]; exact hq
  rw [hourS, e]
  show t + ((h - t).toNat : Int) = h
  omega
theorem hourS_none {q : Int → Bool} {t : Int} {m : Nat} (hf : ∀ h', t ≤ h' → h' < t + m → q h' = false) : hourS q t m = -1 := by
  have e : fIdx (fun d => q (t + (d : Nat))) m = none := fIdx_none fun j hj => hf _ (by omega) (by omega)
  rw [hourS, e]
theorem runB_iff {c : Camp} {t h : Int} : runB c t h = true ↔ t ≤ h ∧ h < t + c.ho := by simp [runB]; omega
theorem runB_not {c : Camp} {t h : Int} : runB c t h = false ↔ ¬ (t ≤ h ∧ h < t + c.ho) := by rw [← runB_iff]; simp
theorem hStaff_found {ha : Hal} {c : Camp} {t : Int} (h0 : 0 ≤ t) (h2 : 0 ≤ c.ho) {h : Nat} (hr : runB c t h = true) (hq : (nth ha.st h == 0) = true) (hf : ∀ j, j < h → (runB c t (j : Nat) && (nth ha.st j == 0)) = false) : hStaff ha c t = h := by
  obtain ⟨a, b⟩ := runB_iff.1 hr
  refine hourS_some a (by omega) (by exact hq) fun h' a' b' => ?_
  have := hf h'.toNat (by omega)
  rw [runB_iff.2 (by omega), Bool.true_and] at this
  exact this
theorem hEnergy_found {ha : Hal} {c : Camp} {t : Int} (h0 : 0 ≤ t) (h2 : 0 ≤ c.ho) {h : Nat} (hr : runB c t h = true) (hq : decide (nth ha.en h < c.en) = true) (hf : ∀ j, j < h → (runB c t (j : Nat) && decide (nth ha.en j < c.en)) = false) : hEnergy ha c t = h := by
  obtain ⟨a, b⟩ := runB_iff.1 hr
  refine hourS_some a (by omega) (by exact hq) fun h' a' b' => ?_
  have := hf h'.toNat (by omega)
  rw [runB_iff.2 (by omega), Bool.true_and] at this
  exact this
theorem hStaff_no {ha : Hal} {c : Camp} {t : Int} (h0 : 0 ≤ t) (h1 : t + c.ho ≤ ha.st.length) (_h2 : 0 ≤ c.ho) (hf : ∀ j, j < ha.st.length → (runB c t (j : Nat) && (nth ha.st j == 0)) = false) : hStaff ha c t = -1 := by
  refine hourS_none fun h' a' b' => ?_
  have := hf h'.toNat (by omega)
  rw [runB_iff.2 (by omega), Bool.true_and] at this
  exact this
theorem hEnergy_no {ha : Hal} {c : Camp} {t : Int} (h0 : 0 ≤ t) (h1 : t + c.ho ≤ ha.st.length) (_h2 : 0 ≤ c.ho) (hf : ∀ j, j < ha.st.length → (runB c t (j : Nat) && decide (nth ha.en j < c.en)) = false) : hEnergy ha c t = -1 := by
  refine hourS_none fun h' a' b' => ?_
  have := hf h'.toNat (by omega)
  rw [runB_iff.2 (by omega), Bool.true_and] at this
  exact this
theorem near_apart {ha : Hal} {a b : Camp} {s t : Int} (hs0 : 0 ≤ s) (hs1 : s + a.ho ≤ ha.st.length) (ht0 : 0 ≤ t) (ht1 : t + b.ho ≤ ha.st.length) (ha0 : 1 ≤ a.ho) (hb0 : 1 ≤ b.ho) (hg : 0 ≤ gapS ha a b) : nearB ha a b s t = !apartB ha a b s t := by
  have hN : nearB ha a b s t = true ↔ ∃ hour : Nat, hour < ha.st.length ∧ nearG ha a b s t hour = true := by
    unfold nearB
    rcases fIdx_cases (nearG ha a b s t) ha.st.length with ⟨k, h1, h2, h3, h4⟩ | ⟨h1, h2⟩
    · rw [h4]; simp; exact ⟨k, h1, h2⟩
    · rw [h2]; simp; exact h1
  have hG : ∀ hour : Nat, nearG ha a b s t hour = true ↔ ((s ≤ hour ∧ hour < s + (a.ho + gapS ha a b)) ∧ (t ≤ hour ∧ hour < t + b.ho)) ∨ ((s ≤ hour ∧ hour < s + a.ho) ∧ (t ≤ hour ∧ hour < t + (b.ho + gapS ha a b))) := fun hour => by
    unfold nearG
    rw [Bool.or_eq_true, Bool.and_eq_true, Bool.and_eq_true, runB_iff, runB_iff, runB_iff, runB_iff]
  have hA : apartB ha a b s t = true ↔ s + a.ho + gapS ha a b ≤ t ∨ t + b.ho + gapS ha a b ≤ s := by simp [apartB]
  rw [Bool.eq_iff_iff, hN]
  simp only [Bool.not_eq_true']
  rw [← Bool.not_eq_true, hA]
  generalize gapS ha a b = g at *
  constructor
  · rintro ⟨hour, h1, h2⟩
    rw [hG] at h2
    omega
  · intro h
    rcases Int.le_total s t with hst | hst
    · refine ⟨t.toNat, by omega, ?_⟩
      rw [hG]; left; omega
    · refine ⟨s.toNat, by omega, ?_⟩
      rw [hG]; right; omega
end Go.Proofs.Ytjpgignbjkgjiaa
end
section
/-
  Plain words of chapter 10 (hall), the ninth part: what is seen of an hour. No program in sight.
-/
namespace Go.Proofs.Ytjpgignbjkgjiaa
/-- Whether it is so for one of the first. -/
def orTo (q : Nat → Bool) : Nat → Bool
  | 0 => false
  | e + 1 => orTo q e || q e
theorem orTo_iff (q : Nat → Bool) : ∀ e, orTo q e = true ↔ ∃ j, j < e ∧ q j = true
  | 0 => by simp [orTo]
  | e + 1 => by
    simp only [orTo, Bool.or_eq_true, orTo_iff q e]
    constructor
    · rintro (⟨j, h1, h2⟩ | h)
      · exact ⟨j, by omega, h2⟩
      · exact ⟨e, by omega, h⟩
    · rintro ⟨j, h1, h2⟩
      by_cases h : j = e
      · subst h; exact .inr h2
      · exact .inl ⟨j, by omega, h2⟩
def seenD (c : Camp) (t hour cl prev : Int) (e : Nat) : Int := if orTo (fun j => runB c t (hour + (-cl + (j : Nat)))) e then 3 else prev
theorem seenD_zero (c : Camp) (t hour cl prev : Int) : seenD c t hour cl prev 0 = prev := rfl
theorem seenD_yes {c : Camp} {t hour cl prev : Int} {e : Nat} (h : runB c t (hour + (-cl + (e : Nat))) = true) : seenD c t hour cl prev (e + 1) = 3 := by
  simp [seenD, orTo, h]
theorem seenD_no {c : Camp} {t hour cl prev : Int} {e : Nat} (h : runB c t (hour + (-cl + (e : Nat))) = false) : seenD c t hour cl prev (e + 1) = seenD c t hour cl prev e := by
  simp [seenD, orTo, h]
theorem seenD_end {c : Camp} {t cl : Int} {F : Nat → Int} {hour m : Nat} (hm : (m : Int) = 2 * cl + 1) (_h0 : 0 ≤ cl) (h1 : 1 ≤ c.ho) : seenD c t hour cl (F hour) m = markF (t - cl) (t + c.ho + cl) 3 F hour := by
  have e : orTo (fun j => runB c t ((hour : Int) + (-cl + (j : Nat)))) m = true ↔ t - cl ≤ (hour : Int) ∧ (hour : Int) < t + c.ho + cl := by
    rw [orTo_iff]
    constructor
    · rintro ⟨j, h1, h2⟩
      rw [runB_iff] at h2
      omega
    · rintro ⟨h1, h2⟩
      rcases Int.le_total ((hour : Int) - cl) t with h | h
      · exact ⟨(t - (hour : Int) + cl).toNat, by omega, by rw [runB_iff]; omega⟩
      · exact ⟨0, by omega, by rw [runB_iff]; omega⟩
  unfold seenD markF
  by_cases h : t - cl ≤ (hour : Int) ∧ (hour : Int) < t + c.ho + cl
  · rw [if_pos (e.2 h), if_pos h]
  · rw [if_neg (fun q => h (e.1 q)), if_neg h]
theorem vOther_same {ha : Hal} {l : List Camp} {p : List Int} {cu : Int} {k : Nat} (h : (cth l k).cu = cu) : vOther ha l p cu (k + 1) = vOther ha l p cu k := by simp [vOther, h]
theorem vOther_mark {ha : Hal} {l : List Camp} {p : List Int} {cu : Int} {k : Nat} (h : ¬ (cth l k).cu = cu) : vOther ha l p cu (k + 1) = markF (nth p k - ha.cl) (nth p k + (cth l k).ho + ha.cl) 3 (vOther ha l p cu k) := by simp [vOther, h]
theorem own2_step {l : List Camp} {p : List Int} {cu : Int} {F : Nat → Int} {k hour : Nat} : vOwn l p cu 2 F (k + 1) hour = if ((cth l k).cu == cu) && prepB (cth l k) (nth p k) hour then 2 else vOwn l p cu 2 F k hour := by
  simp only [vOwn]
  by_cases h : (cth l k).cu = cu
  · rw [if_pos h, if_neg (by omega)]
    simp only [h, beq_self_eq_true, Bool.true_and, markF, prepB, Bool.and_eq_true, decide_eq_true_eq]
    by_cases h2 : nth p k - (cth l k).pr ≤ (hour : Int) ∧ (hour : Int) < nth p k
    · rw [if_pos h2, if_pos (by omega)]
    · rw [if_neg h2, if_neg (by omega)]
  · have : ((cth l k).cu == cu) = false := by simpa using h
    rw [if_neg h, this]; rfl
theorem own1_step {l : List Camp} {p : List Int} {cu : Int} {F : Nat → Int} {k hour : Nat} : vOwn l p cu 1 F (k + 1) hour = if ((cth l k).cu == cu) && runB (cth l k) (nth p k) hour then 1 else vOwn l p cu 1 F k hour := by
  simp only [vOwn]
  by_cases h : (cth l k).cu = cu
  · rw [if_pos h, if_pos trivial]
    simp only [h, beq_self_eq_true, Bool.true_and, markF, runB, Bool.and_eq_true, decide_eq_true_eq]
    by_cases h2 : nth p k ≤ (hour : Int) ∧ (hour : Int) < nth p k + (cth l k).ho
    · rw [if_pos h2, if_pos (by omega)]
    · rw [if_neg h2, if_neg (by omega)]
  · have : ((cth l k).cu == cu) = false := by simpa using h
    rw [if_neg h, this]; rfl
end Go.Proofs.Ytjpgignbjkgjiaa
end
