/-
  Plain words of chapter 10 (hall), the second part: no program in sight.
-/
import Derived.Test.YtjpgignbjkgjiaaPlain
namespace Go.Proofs.Ytjpgignbjkgjiaa
theorem fIdx_cases (q : Nat → Bool) (n : Nat) : (∃ k, k < n ∧ q k = true ∧ (∀ j, j < k → q j = false) ∧ fIdx q n = some k) ∨ ((∀ j, j < n → q j = false) ∧ fIdx q n = none) := by
  cases h : fIdx q n with
  | none =>
    right
    unfold fIdx at h
    rw [List.find?_range_eq_none] at h
    exact ⟨fun j hj => by simpa using h j (by simpa using hj), rfl⟩
  | some k =>
    left
    unfold fIdx at h
    rw [List.find?_range_eq_some] at h
    exact ⟨k, by simpa using h.2.1, h.1, fun j hj => by simpa using h.2.2 j hj, rfl⟩
theorem findIdx_fl (q : Int → Bool) (n : Nat) (f : Nat → Int) : (fl n f).findIdx? q = fIdx (fun i => q (f i)) n := by
  rcases fIdx_cases (fun i => q (f i)) n with ⟨k, h1, h2, h3, h4⟩ | ⟨h1, h2⟩
  · rw [h4]
    exact findIdx_some nth nth_eq q _ k (by rw [fl_len]; exact h1) (by rw [nth_fl _ _ _ h1]; exact h2) fun j hj => by rw [nth_fl _ _ _ (by omega)]; exact h3 j hj
  · rw [h2]
    exact findIdx_none nth nth_eq q _ fun j hj => by rw [fl_len] at hj; rw [nth_fl _ _ _ hj]; exact h1 j hj
theorem hourS_ge (q : Int → Bool) (t : Int) (m : Nat) (ht : 0 ≤ t) : -1 ≤ hourS q t m := by
  unfold hourS; split <;> omega
/-- Where the rules 1 to 3 are kept. -/
theorem single_ok {ha : Hal} {l : List Camp} {p : List Int} (h : (singleS ha l p).ru = 0) :
    (∀ i, i < l.length → inTimeB (cth l i) (nth p i) = true) ∧ (∀ i, i < l.length → hStaff ha (cth l i) (nth p i) < 0) ∧ (∀ i, i < l.length → hEnergy ha (cth l i) (nth p i) < 0) := by
  unfold singleS at h
  rcases fIdx_cases (fun i => !inTimeB (cth l i) (nth p i)) l.length with ⟨k, h1, h2, h3, h4⟩ | ⟨h1, h2⟩
  · rw [h4] at h; simp at h
  · rw [h2] at h
    simp only [sgl2] at h
    rcases fIdx_cases (fun i => decide (0 ≤ hStaff ha (cth l i) (nth p i))) l.length with ⟨k, g1, g2, g3, g4⟩ | ⟨g1, g2⟩
    · rw [g4] at h; simp at h
    · rw [g2] at h
      simp only [sgl3] at h
      rcases fIdx_cases (fun i => decide (0 ≤ hEnergy ha (cth l i) (nth p i))) l.length with ⟨k, k1, k2, k3, k4⟩ | ⟨k1, k2⟩
      · rw [k4] at h; simp at h
      · exact ⟨fun i hi => by simpa using h1 i hi, fun i hi => by simpa using g1 i hi, fun i hi => by simpa using k1 i hi⟩
theorem brRooms_eq (ha : Hal) (l : List Camp) (p : List Int) (k : Nat) (hk : fIdx (fun hour => decide (ha.ro < cntTo l p l.length hour)) ha.st.length = some k) : brRooms ha l p = ⟨5, 0, 0, k⟩ := by
  simp [brRooms, hk]
def errS (ha : Hal) (l : List Camp) (p : List Int) : Int := if checkE ha l p.length = 0 then (if (breachS ha l p).ru = 0 then 0 else 100) else checkE ha l p.length
def chkB (ha : Hal) (l : List Camp) (p : List Int) : Br := if checkE ha l p.length = 0 then (if (breachS ha l p).ru = 0 then Br.zero else breachS ha l p) else Br.zero
theorem checkE_zero {ha : Hal} {l : List Camp} {n : Nat} (h : checkE ha l n = 0) : VH ha l ∧ n = l.length := by
  unfold checkE at h
  split at h
  · split at h
    · exact ⟨campsB_vh (by assumption), by assumption⟩
    · omega
  · omega
theorem errS_zero {ha : Hal} {l : List Camp} {p : List Int} (h : errS ha l p = 0) : VH ha l ∧ p.length = l.length ∧ (breachS ha l p).ru = 0 := by
  unfold errS at h
  split at h
  · split at h
    · exact ⟨(checkE_zero (by assumption)).1, (checkE_zero (by assumption)).2, by assumption⟩
    · omega
  · omega
theorem breach_single {ha : Hal} {l : List Camp} {p : List Int} (h : (breachS ha l p).ru = 0) : (singleS ha l p).ru = 0 := by
  unfold breachS at h
  split at h
  · assumption
  · exact h
/-- The cost of the first k campaigns. -/
def costTo (l : List Camp) (p : List Int) : Nat → Int
  | 0 => 0
  | k + 1 => costTo l p k + (cth l k).we * (nth p k + (cth l k).ho)
theorem we_bd {n t : Int} {c : Camp} (hc : CB n c) (ht0 : 0 ≤ t) (ht : t ≤ 96) : 0 ≤ c.we * (t + c.ho) ∧ c.we * (t + c.ho) ≤ 12000 := by
  have h1 := hc.we0; have h2 := hc.we1; have h3 := hc.ho0; have h4 := hc.ho1
  constructor
  · exact Int.mul_nonneg h1 (by omega)
  · calc c.we * (t + c.ho) ≤ 100 * (t + c.ho) := Int.mul_le_mul_of_nonneg_right h2 (by omega)
      _ ≤ 12000 := by omega
theorem costTo_bd {n : Int} {l : List Camp} {p : List Int} (hc : ∀ i, i < l.length → CB n (cth l i)) (ht : ∀ i, i < l.length → 0 ≤ nth p i ∧ nth p i ≤ 96) : ∀ k, k ≤ l.length → 0 ≤ costTo l p k ∧ costTo l p k ≤ 12000 * k
  | 0, _ => by simp [costTo]
  | k + 1, h => by
    have h1 := costTo_bd hc ht k (by omega)
    have h2 := we_bd (hc k (by omega)) (ht k (by omega)).1 (ht k (by omega)).2
    simp only [costTo]
    omega
theorem VH.one {ha : Hal} {l : List Camp} {c : Camp} (h : VH ha l) (hc : CB ha.st.length c) : VH ha [c] :=
  ⟨h.n1, h.n2, h.en, h.st, h.ee, h.r0, h.r1, h.c0, h.c1, by simp, fun i hi => by
    have : i = 0 := by simp at hi; omega
    subst this; exact hc⟩
def okAt (ha : Hal) (c : Camp) (t : Int) : Bool := (singleS ha [c] [t]).ru == 0
/-- The first hours from t0 on, of d that are tried, with which a campaign keeps the rules 1 to 3. -/
def startsTo (ha : Hal) (c : Camp) (t0 : Int) : Nat → List Int
  | 0 => []
  | d + 1 => if okAt ha c (t0 + d) then startsTo ha c t0 d ++ [t0 + (d : Nat)] else startsTo ha c t0 d
theorem startsTo_len (ha : Hal) (c : Camp) (t0 : Int) : ∀ d, (startsTo ha c t0 d).length ≤ d
  | 0 => by simp [startsTo]
  | d + 1 => by
    have := startsTo_len ha c t0 d
    simp only [startsTo]; split <;> simp <;> omega
def starts0 (c : Camp) (now : Int) : Int := (if now > c.ea then now else c.ea) + c.pr
def startsS (ha : Hal) (c : Camp) (now : Int) : List Int := startsTo ha c (starts0 c now) (c.la - c.ho - starts0 c now + 1).toNat
end Go.Proofs.Ytjpgignbjkgjiaa
