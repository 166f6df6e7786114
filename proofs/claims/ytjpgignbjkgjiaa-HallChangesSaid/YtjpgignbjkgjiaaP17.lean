/-
  Plain words of chapter 10 (hall), the seventeenth part: where hours are crowded no plan keeps the rules; a richer hall and later ends cost no more. No program in sight.
-/
import Derived.Test.YtjpgignbjkgjiaaP16
namespace Go.Proofs.Ytjpgignbjkgjiaa
def one01 (b : Bool) : Int := if b then 1 else 0
theorem one01_bd (b : Bool) : 0 ≤ one01 b ∧ one01 b ≤ 1 := by cases b <;> simp [one01]
/-- How many of the first k campaigns that lie in a range run in an hour. -/
def colN (l : List Camp) (p : List Int) (a b : Int) : Nat → Int → Int
  | 0, _ => 0
  | k + 1, h => colN l p a b k h + one01 (inB (cth l k) a b && runB (cth l k) (nth p k) h)
/-- How many of d hours from a on a campaign runs in. -/
def runN (c : Camp) (t : Int) (a : Nat) : Nat → Int
  | 0 => 0
  | d + 1 => runN c t a d + one01 (runB c t ((a + d : Nat) : Int))
/-- The hours of all of the first k campaigns that lie in a range. -/
def cntN (l : List Camp) (p : List Int) (a : Nat) (b : Int) (d : Nat) : Nat → Int
  | 0 => 0
  | k + 1 => cntN l p a b d k + if inB (cth l k) a b then runN (cth l k) (nth p k) a d else 0
theorem cntN_succ (l : List Camp) (p : List Int) (a : Nat) (b : Int) (d : Nat) : ∀ k, cntN l p a b (d + 1) k = cntN l p a b d k + colN l p a b k ((a + d : Nat) : Int)
  | 0 => by simp [cntN, colN]
  | k + 1 => by
    simp only [cntN, colN, cntN_succ l p a b d k]
    cases inB (cth l k) a b
    · simp only [Bool.false_eq_true, if_false, Bool.false_and, one01]; omega
    · simp only [if_true, Bool.true_and, runN]; omega
theorem cntN_zero (l : List Camp) (p : List Int) (a : Nat) (b : Int) : ∀ k, cntN l p a b 0 k = 0
  | 0 => rfl
  | k + 1 => by simp only [cntN, cntN_zero l p a b k, runN]; split <;> rfl
theorem runN_full (c : Camp) (t : Int) (a : Nat) (h0 : (a : Int) ≤ t) (h1 : 0 ≤ c.ho) : ∀ d : Nat, runN c t a d = if (a : Int) + d ≤ t then 0 else if (a : Int) + d ≤ t + c.ho then a + d - t else c.ho
  | 0 => by simp only [runN]; split <;> omega
  | d + 1 => by
    simp only [runN, runN_full c t a h0 h1 d, one01]
    by_cases h : runB c t ((a + d : Nat) : Int) = true
    · rw [if_pos h]
      rw [runB_iff] at h
      rw [if_neg (show ¬ (a : Int) + (d + 1 : Nat) ≤ t by omega)]
      rw [if_pos (show (a : Int) + (d + 1 : Nat) ≤ t + c.ho by omega)]
      by_cases h2 : (a : Int) + d ≤ t
      · rw [if_pos h2]; omega
      · rw [if_neg h2, if_pos (by omega)]; omega
    · rw [if_neg h]
      have h := runB_not.1 (by simpa using h)
      by_cases h2 : (a : Int) + d ≤ t
      · rw [if_pos h2]
        by_cases h3 : (a : Int) + (d + 1 : Nat) ≤ t
        · rw [if_pos h3]; rfl
        · rw [if_neg h3]
          have h4 : c.ho = 0 := by omega
          by_cases h5 : (a : Int) + (d + 1 : Nat) ≤ t + c.ho
          · omega
          · rw [if_neg h5]; omega
      · rw [if_neg h2, if_neg (show ¬ (a : Int) + (d + 1 : Nat) ≤ t by omega)]
        by_cases h5 : (a : Int) + d ≤ t + c.ho
        · rw [if_pos h5]
          by_cases h6 : (a : Int) + (d + 1 : Nat) ≤ t + c.ho
          · omega
          · rw [if_neg h6]; omega
        · rw [if_neg h5, if_neg (by omega)]; omega
theorem colN_pos {l : List Camp} {p : List Int} {a b h : Int} : ∀ k, 0 ≤ colN l p a b k h ∧ (0 < colN l p a b k h → ∃ i, i < k ∧ runB (cth l i) (nth p i) h = true)
  | 0 => ⟨by simp [colN], fun h => by simp [colN] at h⟩
  | k + 1 => by
    obtain ⟨h1, h2⟩ := colN_pos (l := l) (p := p) (a := a) (b := b) (h := h) k
    have h3 := one01_bd (inB (cth l k) a b && runB (cth l k) (nth p k) h)
    refine ⟨by simp only [colN]; omega, fun hp => ?_⟩
    by_cases hk : 0 < colN l p a b k h
    · obtain ⟨i, hi, hr⟩ := h2 hk; exact ⟨i, by omega, hr⟩
    · simp only [colN] at hp
      refine ⟨k, by omega, ?_⟩
      cases hb : (inB (cth l k) a b && runB (cth l k) (nth p k) h) with
      | false => rw [hb] at hp; simp only [one01, Bool.false_eq_true, if_false] at hp; omega
      | true => rw [Bool.and_eq_true] at hb; exact hb.2
theorem run_once {ha : Hal} {l : List Camp} {p : List Int} (hv : VH ha l) (hb : (breachS ha l p).ru = 0) {i k : Nat} (hik : i < k) (hk : k < l.length) {h : Int} (h1 : runB (cth l i) (nth p i) h = true) (h2 : runB (cth l k) (nth p k) h = true) : False := by
  have h3 := breach_near hb hik hk
  rw [runB_iff] at h1 h2
  have hg : 0 ≤ gapS ha (cth l i) (cth l k) := by have := hv.c0; unfold gapS; split <;> omega
  simp only [apartB, Bool.or_eq_true, decide_eq_true_eq] at h3
  omega
theorem colN_le {ha : Hal} {l : List Camp} {p : List Int} (hv : VH ha l) (hb : (breachS ha l p).ru = 0) (a b h : Int) : ∀ k, k ≤ l.length → colN l p a b k h ≤ 1
  | 0, _ => by simp [colN]
  | k + 1, hk => by
    have h1 := colN_le hv hb a b h k (by omega)
    obtain ⟨h2, h3⟩ := colN_pos (l := l) (p := p) (a := a) (b := b) (h := h) k
    simp only [colN]
    cases hq : (inB (cth l k) a b && runB (cth l k) (nth p k) h) with
    | false => simp only [one01, Bool.false_eq_true, if_false]; omega
    | true =>
      rw [Bool.and_eq_true] at hq
      have : ¬ 0 < colN l p a b k h := fun hp => by
        obtain ⟨i, hi, hr⟩ := h3 hp
        exact run_once hv hb hi (by omega) hr hq.2
      simp only [one01, if_true]; omega
theorem run_staffed {ha : Hal} {l : List Camp} {p : List Int} (hv : VH ha l) (hb : (breachS ha l p).ru = 0) {i : Nat} (hi : i < l.length) {h : Nat} (h1 : runB (cth l i) (nth p i) h = true) : ¬ nth ha.st h = 0 := by
  intro h0
  obtain ⟨q1, q2, _⟩ := single_ok (breach_single hb)
  have ht := inTimeB_hour (hv.cb i hi) (q1 i hi)
  have hs := q2 i hi
  rcases fIdx_cases (fun j : Nat => runB (cth l i) (nth p i) (j : Nat) && (nth ha.st j == 0)) (h + 1) with ⟨k, k1, k2, k3, k4⟩ | ⟨k1, k2⟩
  · rw [Bool.and_eq_true] at k2
    have := hStaff_found (ha := ha) ht.1 (by omega) k2.1 k2.2 k3
    omega
  · have := k1 h (by omega)
    rw [h1, h0] at this
    simp at this
where
  inTimeB_hour {n : Int} {c : Camp} {t : Int} (hc : CB n c) (h : inTimeB c t = true) : 0 ≤ t ∧ 0 ≤ c.ho := by
    simp only [inTimeB, Bool.and_eq_true, decide_eq_true_eq] at h
    have := hc.ea0; have := hc.pr0; have := hc.ho0
    omega
theorem crowd_no {ha : Hal} {l : List Camp} {p : List Int} (hv : VH ha l) (hb : (breachS ha l p).ru = 0) {a e : Nat} (hae : a ≤ e) : crowdQ ha l a e = false := by
  have h1 : ∀ k, k ≤ l.length → needTo l a ((e : Int) + 1) k = cntN l p a ((e : Int) + 1) (e + 1 - a) k := by
    intro k
    induction k with
    | zero => intro _; rfl
    | succ k ih =>
      intro hk
      simp only [needTo, cntN, ih (by omega)]
      cases hq : inB (cth l k) a ((e : Int) + 1) with
      | false => rfl
      | true =>
        simp only [if_true]
        have hcb := hv.cb k (by omega)
        have ht := (single_ok (breach_single hb)).1 k (by omega)
        simp only [inTimeB, Bool.and_eq_true, decide_eq_true_eq] at ht
        rw [in_split'] at hq
        simp only [Bool.and_eq_true, decide_eq_true_eq] at hq
        have := hcb.ho0
        rw [runN_full _ _ _ (by omega) (by omega), if_neg (by omega)]
        by_cases h5 : (a : Int) + ((e + 1 - a : Nat) : Int) ≤ nth p k + (cth l k).ho
        · rw [if_pos h5]; omega
        · rw [if_neg h5]
  have h2 : ∀ d, cntN l p a ((e : Int) + 1) d l.length ≤ haveTo ha a d := by
    intro d
    induction d with
    | zero => rw [cntN_zero]; exact Int.le_refl _
    | succ d ih =>
      rw [cntN_succ]
      simp only [haveTo]
      have h3 := colN_le hv hb a ((e : Int) + 1) ((a + d : Nat) : Int) l.length (Nat.le_refl _)
      obtain ⟨h4, h5⟩ := colN_pos (l := l) (p := p) (a := (a : Int)) (b := (e : Int) + 1) (h := ((a + d : Nat) : Int)) l.length
      by_cases h0 : nth ha.st (a + d) = 0
      · rw [if_pos h0]
        have : ¬ 0 < colN l p a ((e : Int) + 1) l.length ((a + d : Nat) : Int) := fun hp => by
          obtain ⟨i, hi, hr⟩ := h5 hp
          exact run_staffed hv hb hi hr h0
        omega
      · rw [if_neg h0]; omega
  have h3 := h2 (e + 1 - a)
  rw [← h1 l.length (Nat.le_refl _)] at h3
  unfold crowdQ
  exact decide_eq_false (by omega)
where
  in_split' {c : Camp} {a b : Int} : inB c a b = (decide (a ≤ c.ea + c.pr) && decide (c.la ≤ b)) := rfl
theorem crowdB_no {ha : Hal} {l : List Camp} {p : List Int} (hv : VH ha l) (hb : (breachS ha l p).ru = 0) : crowdB ha l = false :=
  (crowd_none fun j _ => by rw [crowdIn_none fun i hi _ => crowd_no hv hb hi]; rfl).2
theorem crowd_more {ha : Hal} {l : List Camp} (h : crowdB ha l = true) : (crowdR ha l).hv < (crowdR ha l).ne := by
  unfold crowdB crowdO at h
  rcases fIdx_cases (fun a => (crowdIn ha l a).isSome) ha.st.length with ⟨a, h1, h2, h3, h4⟩ | ⟨h1, h2⟩
  · have h2' : (crowdIn ha l a).isSome = true := h2
    unfold crowdR crowdO
    rw [h4]
    simp only []
    unfold crowdIn at h2' ⊢
    rcases fIdx_cases (fun d => crowdQ ha l a (a + d)) (ha.st.length - a) with ⟨d, d1, d2, d3, d4⟩ | ⟨d1, d2⟩
    · rw [d4]
      simp only [Option.getD_some]
      have : crowdQ ha l a (a + d) = true := d2
      unfold crowdQ at this
      exact of_decide_eq_true this
    · rw [d2] at h2'; cases h2'
  · rw [h2] at h; cases h
end Go.Proofs.Ytjpgignbjkgjiaa
