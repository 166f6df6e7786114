/-
  Plain words of chapter 10 (hall), the tenth part: the first place of one campaign more. No program in sight.
-/
import Derived.Test.YtjpgignbjkgjiaaP9
namespace Go.Proofs.Ytjpgignbjkgjiaa
theorem cth_snoc (l : List Camp) (c : Camp) : cth (l ++ [c]) l.length = c := by simp [cth]
theorem cth_old (l : List Camp) (c : Camp) (i : Nat) (h : i < l.length) : cth (l ++ [c]) i = cth l i := by simp [cth, List.getElem?_append_left h]
theorem nth_snoc_at (p : List Int) (t : Int) : nth (p ++ [t]) p.length = t := by rw [nth_snoc, if_pos rfl]
theorem nth_one (t : Int) : nth [t] 0 = t := rfl
theorem cth_one (c : Camp) : cth [c] 0 = c := rfl
/-- The rules 1 to 3 for one campaign. -/
theorem okAt_iff {ha : Hal} {c : Camp} {t : Int} : okAt ha c t = true ↔ inTimeB c t = true ∧ hStaff ha c t < 0 ∧ hEnergy ha c t < 0 := by
  unfold okAt
  rw [beq_iff_eq]
  constructor
  · intro h
    obtain ⟨h1, h2, h3⟩ := single_ok h
    exact ⟨h1 0 (by simp), h2 0 (by simp), h3 0 (by simp)⟩
  · rintro ⟨h1, h2, h3⟩
    have e : ∀ j, j < [c].length → j = 0 := fun j hj => by simp at hj; omega
    have q1 : fIdx (fun i => !inTimeB (cth [c] i) (nth [t] i)) [c].length = none := fIdx_none fun j hj => by rw [e j hj, cth_one, nth_one, h1]; rfl
    have q2 : fIdx (fun i => decide (0 ≤ hStaff ha (cth [c] i) (nth [t] i))) [c].length = none := fIdx_none fun j hj => by rw [e j hj, cth_one, nth_one]; exact decide_eq_false (by omega)
    have q3 : fIdx (fun i => decide (0 ≤ hEnergy ha (cth [c] i) (nth [t] i))) [c].length = none := fIdx_none fun j hj => by rw [e j hj, cth_one, nth_one]; exact decide_eq_false (by omega)
    simp only [singleS, sgl2, sgl3, q1, q2, q3]; rfl
/-- Where a plan breaks no rule, each campaign keeps the rules 1 to 3. -/
theorem okAt_of_breach {ha : Hal} {l : List Camp} {p : List Int} (h : (breachS ha l p).ru = 0) {i : Nat} (hi : i < l.length) : okAt ha (cth l i) (nth p i) = true := by
  obtain ⟨h1, h2, h3⟩ := single_ok (breach_single h)
  exact okAt_iff.2 ⟨h1 i hi, h2 i hi, h3 i hi⟩
theorem mem_startsS {ha : Hal} {c : Camp} {t now : Int} : t ∈ startsS ha c now ↔ starts0 c now ≤ t ∧ t ≤ c.la - c.ho ∧ okAt ha c t = true := by
  unfold startsS
  rw [startsTo_mem]
  constructor
  · rintro ⟨h1, h2, h3⟩; exact ⟨h1, by omega, h3⟩
  · rintro ⟨h1, h2, h3⟩; exact ⟨h1, by omega, h3⟩
theorem startsTo_asc (ha : Hal) (c : Camp) (t0 : Int) : ∀ d, (startsTo ha c t0 d).Pairwise (· < ·)
  | 0 => List.Pairwise.nil
  | d + 1 => by
    have ih := startsTo_asc ha c t0 d
    simp only [startsTo]
    split
    · rw [List.pairwise_append]
      refine ⟨ih, List.pairwise_singleton _ _, fun a h b hb => ?_⟩
      rw [List.mem_singleton] at hb
      have := (startsTo_mem ha c t0 d a).1 h
      omega
    · exact ih
theorem startsS_asc (ha : Hal) (c : Camp) (now : Int) : (startsS ha c now).Pairwise (· < ·) := startsTo_asc _ _ _ _
theorem nth_lt_of_asc {xs : List Int} (h : xs.Pairwise (· < ·)) {i j : Nat} (hij : i < j) (hj : j < xs.length) : nth xs i < nth xs j := by
  rw [nth_eq _ _ (by omega), nth_eq _ _ hj]
  exact (List.pairwise_iff_getElem.1 h) i j (by omega) hj hij
theorem mem_nth {xs : List Int} {x : Int} (h : x ∈ xs) : ∃ j, j < xs.length ∧ nth xs j = x := by
  obtain ⟨j, hj, e⟩ := List.getElem_of_mem h
  exact ⟨j, hj, by rw [nth_eq _ _ hj]; exact e⟩
def fitQ (ha : Hal) (l : List Camp) (p : List Int) (c : Camp) (t : Int) : Bool := (breachS ha (l ++ [c]) (p ++ [t])).ru == 0
/-- The first place of one campaign more. -/
def fitO (ha : Hal) (l : List Camp) (p : List Int) (c : Camp) : Option Nat := fIdx (fun i => fitQ ha l p c i) ha.st.length
theorem fit_starts {ha : Hal} {l : List Camp} {p : List Int} {c : Camp} {t : Int} (hl : p.length = l.length) (h0 : 0 ≤ c.ea) (h : fitQ ha l p c t = true) : t ∈ startsS ha c 0 := by
  have h1 : (breachS ha (l ++ [c]) (p ++ [t])).ru = 0 := by simpa [fitQ] using h
  have h2 := okAt_of_breach h1 (i := l.length) (by simp)
  rw [cth_snoc, ← hl, nth_snoc_at] at h2
  have h3 := (okAt_iff.1 h2).1
  simp only [inTimeB, Bool.and_eq_true, decide_eq_true_eq] at h3
  refine mem_startsS.2 ⟨?_, h3.2, h2⟩
  unfold starts0
  split <;> omega
theorem startsS_hour {ha : Hal} {c : Camp} {t now : Int} (hc : CB ha.st.length c) (h : t ∈ startsS ha c now) : 0 ≤ t ∧ t < ha.st.length := by
  have h1 := mem_startsS.1 h
  have h2 := starts0_ge c now
  have := hc.ea0; have := hc.pr0; have := hc.la1; have := hc.ho0
  omega
theorem fit_some {ha : Hal} {l : List Camp} {p : List Int} {c : Camp} (hl : p.length = l.length) (hc : CB ha.st.length c) {k : Nat} (hk : k < (startsS ha c 0).length) (hq : fitQ ha l p c (nth (startsS ha c 0) k) = true)
    (hf : ∀ j, j < k → fitQ ha l p c (nth (startsS ha c 0) j) = false) : ∃ i : Nat, fitO ha l p c = some i ∧ nth (startsS ha c 0) k = i := by
  have hm := startsS_hour hc (nth_mem hk)
  obtain ⟨i, hi⟩ := Int.eq_ofNat_of_zero_le hm.1
  refine ⟨i, fIdx_some (by omega) (by show fitQ ha l p c (i : Int) = true; rw [← hi]; exact hq) fun j hj => ?_, hi⟩
  cases h : fitQ ha l p c (j : Int) with
  | false => rfl
  | true =>
    obtain ⟨q, hq1, hq2⟩ := mem_nth (fit_starts hl hc.ea0 h)
    have hqk : q < k := by
      rcases Nat.lt_trichotomy q k with h1 | h1 | h1
      · exact h1
      · subst h1; omega
      · have := nth_lt_of_asc (startsS_asc ha c 0) h1 hq1; omega
    have := hf q hqk
    rw [hq2, h] at this
    cases this
theorem fit_none {ha : Hal} {l : List Camp} {p : List Int} {c : Camp} (hl : p.length = l.length) (hc : CB ha.st.length c) (hf : ∀ j, j < (startsS ha c 0).length → fitQ ha l p c (nth (startsS ha c 0) j) = false) : fitO ha l p c = none := by
  refine fIdx_none fun j hj => ?_
  cases h : fitQ ha l p c (j : Int) with
  | false => rfl
  | true =>
    obtain ⟨q, hq1, hq2⟩ := mem_nth (fit_starts hl hc.ea0 h)
    have := hf q hq1
    rw [hq2, h] at this
    cases this
/-- What Fit answers: the hour and the error. -/
def fitE (ha : Hal) (l : List Camp) (p : List Int) (c : Camp) : Int := if errS ha l p = 0 then (if campsB ha (l ++ [c]) then (if (fitO ha l p c).isSome then 0 else 102) else 2) else errS ha l p
def idxZ (o : Option Nat) : Int := match o with | some i => i | none => 0
def fitT (ha : Hal) (l : List Camp) (p : List Int) (c : Camp) : Int := if errS ha l p = 0 then (if campsB ha (l ++ [c]) then idxZ (fitO ha l p c) else 0) else 0
end Go.Proofs.Ytjpgignbjkgjiaa
