/-
  Plain words of chapter 10 (hall), the eighth part: the document's breach is the program's. No program in sight.
-/
import Derived.Test.YtjpgignbjkgjiaaP7
namespace Go.Proofs.Ytjpgignbjkgjiaa
theorem hourS_some {q : Int → Bool} {t : Int} {m : Nat} {h : Int} (h1 : t ≤ h) (h2 : h < t + m) (hq : q h = true) (hf : ∀ h', t ≤ h' → h' < h → q h' = false) : hourS q t m = h := by
  have e : fIdx (fun d => q (t + (d : Nat))) m = some (h - t).toNat := by
    refine fIdx_some (by omega) ?_ fun j hj => hf _ (by omega) (by omega)
    have : t + ((h - t).toNat : Int) = h := by omega
    rw [this]; exact hq
  rw [hourS, e]
  show t + ((h - t).toNat : Int) = h
  omega
theorem hourS_none {q : Int → Bool} {t : Int} {m : Nat} (hf : ∀ h', t ≤ h' → h' < t + m → q h' = false) : hourS q t m = -1 := by
  have e : fIdx (fun d => q (t + (d : Nat))) m = none := fIdx_none fun j hj => hf _ (by omega) (by omega)
  rw [hourS, e]
theorem runB_iff {c : Camp} {t h : Int} : runB c t h = true ↔ t ≤ h ∧ h < t + c.ho := by simp [runB]; omega
theorem runB_not {c : Camp} {t h : Int} : runB c t h = false ↔ ¬ (t ≤ h ∧ h < t + c.ho) := by rw [← runB_iff]; simp
theorem hStaff_found {ha : Hal} {c : Camp} {t : Int} (h0 : 0 ≤ t) (h2 : 0 ≤ c.ho) {h : Nat} (hr : runB c t h = true) (hq : (nth ha.st h == 0) = true) (hf : ∀ j, j < h → (runB c t (j : Nat) && (nth ha.st j == 0)) = false) : hStaff ha c t = h := by
  obtain ⟨a, b⟩ := runB_iff.1 hr
  refine hourS_some a (by omega) (by exact hq) fun h' a' b' => ?_
  have := hf h'.toNat (by omega)
  rw [runB_iff.2 (by omega), Bool.true_and] at this
  exact this
theorem hEnergy_found {ha : Hal} {c : Camp} {t : Int} (h0 : 0 ≤ t) (h2 : 0 ≤ c.ho) {h : Nat} (hr : runB c t h = true) (hq : decide (nth ha.en h < c.en) = true) (hf : ∀ j, j < h → (runB c t (j : Nat) && decide (nth ha.en j < c.en)) = false) : hEnergy ha c t = h := by
  obtain ⟨a, b⟩ := runB_iff.1 hr
  refine hourS_some a (by omega) (by exact hq) fun h' a' b' => ?_
  have := hf h'.toNat (by omega)
  rw [runB_iff.2 (by omega), Bool.true_and] at this
  exact this
theorem hStaff_no {ha : Hal} {c : Camp} {t : Int} (h0 : 0 ≤ t) (h1 : t + c.ho ≤ ha.st.length) (_h2 : 0 ≤ c.ho) (hf : ∀ j, j < ha.st.length → (runB c t (j : Nat) && (nth ha.st j == 0)) = false) : hStaff ha c t = -1 := by
  refine hourS_none fun h' a' b' => ?_
  have := hf h'.toNat (by omega)
  rw [runB_iff.2 (by omega), Bool.true_and] at this
  exact this
theorem hEnergy_no {ha : Hal} {c : Camp} {t : Int} (h0 : 0 ≤ t) (h1 : t + c.ho ≤ ha.st.length) (_h2 : 0 ≤ c.ho) (hf : ∀ j, j < ha.st.length → (runB c t (j : Nat) && decide (nth ha.en j < c.en)) = false) : hEnergy ha c t = -1 := by
  refine hourS_none fun h' a' b' => ?_
  have := hf h'.toNat (by omega)
  rw [runB_iff.2 (by omega), Bool.true_and] at this
  exact this
theorem near_apart {ha : Hal} {a b : Camp} {s t : Int} (hs0 : 0 ≤ s) (hs1 : s + a.ho ≤ ha.st.length) (ht0 : 0 ≤ t) (ht1 : t + b.ho ≤ ha.st.length) (ha0 : 1 ≤ a.ho) (hb0 : 1 ≤ b.ho) (hg : 0 ≤ gapS ha a b) : nearB ha a b s t = !apartB ha a b s t := by
  have hN : nearB ha a b s t = true ↔ ∃ hour : Nat, hour < ha.st.length ∧ nearG ha a b s t hour = true := by
    unfold nearB
    rcases fIdx_cases (nearG ha a b s t) ha.st.length with ⟨k, h1, h2, h3, h4⟩ | ⟨h1, h2⟩
    · rw [h4]; simp; exact ⟨k, h1, h2⟩
    · rw [h2]; simp; exact h1
  have hG : ∀ hour : Nat, nearG ha a b s t hour = true ↔ ((s ≤ hour ∧ hour < s + (a.ho + gapS ha a b)) ∧ (t ≤ hour ∧ hour < t + b.ho)) ∨ ((s ≤ hour ∧ hour < s + a.ho) ∧ (t ≤ hour ∧ hour < t + (b.ho + gapS ha a b))) := fun hour => by
    unfold nearG
    rw [Bool.or_eq_true, Bool.and_eq_true, Bool.and_eq_true, runB_iff, runB_iff, runB_iff, runB_iff]
  have hA : apartB ha a b s t = true ↔ s + a.ho + gapS ha a b ≤ t ∨ t + b.ho + gapS ha a b ≤ s := by simp [apartB]
  rw [Bool.eq_iff_iff, hN]
  simp only [Bool.not_eq_true']
  rw [← Bool.not_eq_true, hA]
  generalize gapS ha a b = g at *
  constructor
  · rintro ⟨hour, h1, h2⟩
    rw [hG] at h2
    omega
  · intro h
    rcases Int.le_total s t with hst | hst
    · refine ⟨t.toNat, by omega, ?_⟩
      rw [hG]; left; omega
    · refine ⟨s.toNat, by omega, ?_⟩
      rw [hG]; right; omega
end Go.Proofs.Ytjpgignbjkgjiaa
