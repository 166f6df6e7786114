/-
  Plain words of chapter 10 (hall), the sixteenth part: a new plan that keeps what has begun. No program in sight.
-/
import Derived.Test.YtjpgignbjkgjiaaP10
namespace Go.Proofs.Ytjpgignbjkgjiaa
/-- Whether a campaign has not begun. -/
def freeB (c : Camp) (t now : Int) : Bool := decide (now + c.pr ≤ t)
def freeTo (l : List Camp) (p : List Int) (now : Int) : Nat → Int
  | 0 => 0
  | k + 1 => freeTo l p now k + if freeB (cth l k) (nth p k) now then 1 else 0
theorem freeTo_bd (l : List Camp) (p : List Int) (now : Int) : ∀ k, 0 ≤ freeTo l p now k ∧ freeTo l p now k ≤ k
  | 0 => by simp [freeTo]
  | k + 1 => by
    have := freeTo_bd l p now k
    simp only [freeTo]; split <;> omega
theorem freeTo_yes {l : List Camp} {p : List Int} {now : Int} {k : Nat} (h : freeB (cth l k) (nth p k) now = true) : freeTo l p now (k + 1) = freeTo l p now k + 1 := by simp [freeTo, h]
theorem freeTo_no {l : List Camp} {p : List Int} {now : Int} {k : Nat} (h : freeB (cth l k) (nth p k) now = false) : freeTo l p now (k + 1) = freeTo l p now k := by simp [freeTo, h]
/-- The hours that are left for the campaign j, and those that are tried for it. -/
def rpL (ha : Hal) (l : List Camp) (p : List Int) (now : Int) (j : Nat) : List Int :=
  if freeB (cth l j) (nth p j) now then startsS ha (cth l j) now else if okAt ha (cth l j) (nth p j) then [nth p j] else []
def rpH (ha : Hal) (l : List Camp) (p : List Int) (now : Int) (j : Nat) : List Int :=
  if freeB (cth l j) (nth p j) now then hoursS ha.st.length (now + (cth l j).pr) else [nth p j]
theorem rpL_filter {ha : Hal} {l : List Camp} {p : List Int} {now : Int} (hv : VH ha l) {j : Nat} (hj : j < l.length) : rpL ha l p now j = (rpH ha l p now j).filter (okAt ha (cth l j)) := by
  unfold rpL rpH
  by_cases h : freeB (cth l j) (nth p j) now = true
  · rw [if_pos h, if_pos h]; exact starts_hours (hv.cb j hj)
  · rw [if_neg h, if_neg h, List.filter_cons, List.filter_nil]
def rpLeft (ha : Hal) (l : List Camp) (p : List Int) (now : Int) : List (List Int) := (List.range l.length).map (rpL ha l p now)
theorem rpLeft_len (ha : Hal) (l : List Camp) (p : List Int) (now : Int) : (rpLeft ha l p now).length = l.length := by simp [rpLeft]
theorem lth_rpLeft (ha : Hal) (l : List Camp) (p : List Int) (now : Int) (j : Nat) (h : j < l.length) : lth (rpLeft ha l p now) j = rpL ha l p now j := by
  rw [lth_eq _ _ (by rw [rpLeft_len]; exact h)]; simp [rpLeft]
theorem rpLeft_take (ha : Hal) (l : List Camp) (p : List Int) (now : Int) (k : Nat) (h : k < l.length) : (rpLeft ha l p now).take (k + 1) = (rpLeft ha l p now).take k ++ [rpL ha l p now k] := by
  rw [lth_take _ _ (by rw [rpLeft_len]; exact h), lth_rpLeft _ _ _ _ _ h]
theorem okAt_hour {ha : Hal} {c : Camp} {t : Int} (hc : CB ha.st.length c) (h : okAt ha c t = true) : 0 ≤ t ∧ t + c.ho ≤ ha.st.length ∧ 1 ≤ c.ho := by
  have h1 := (okAt_iff.1 h).1
  simp only [inTimeB, Bool.and_eq_true, decide_eq_true_eq] at h1
  have := hc.ea0; have := hc.pr0; have := hc.la1; have := hc.ho0
  omega
theorem rpL_bd {ha : Hal} {l : List Camp} {p : List Int} {now : Int} (hv : VH ha l) {j : Nat} (hj : j < l.length) : (rpL ha l p now j).length ≤ 1000 ∧ ∀ y ∈ rpL ha l p now j, 0 ≤ y ∧ y ≤ 96 := by
  have hb := startsS_bd hv (hv.cb j hj) now
  have hn := hv.n2
  unfold rpL
  split
  · exact hb
  · split
    · rename_i h
      have := okAt_hour (hv.cb j hj) h
      refine ⟨by simp, fun y hy => ?_⟩
      rw [List.mem_singleton] at hy
      omega
    · exact ⟨by simp, fun y hy => by simp at hy⟩
theorem rpLeft_bd {ha : Hal} {l : List Camp} {p : List Int} {now : Int} (hv : VH ha l) : Bd (rpLeft ha l p now) := by
  intro j hj
  rw [rpLeft_len] at hj
  rw [lth_rpLeft _ _ _ _ _ hj]
  have := rpL_bd (p := p) (now := now) hv hj
  exact ⟨this.1, fun q hq => this.2 _ (nth_mem hq)⟩
theorem rpL_asc {ha : Hal} {l : List Camp} {p : List Int} {now : Int} (j : Nat) : (rpL ha l p now j).Pairwise (· < ·) := by
  unfold rpL
  split
  · exact startsS_asc _ _ _
  · split
    · exact List.pairwise_singleton _ _
    · exact List.Pairwise.nil
/-- The best new plan is the best of all that are tried. -/
def rpSt (ha : Hal) (l : List Camp) (p : List Int) (now : Int) : St := placeS ha l l.length (rpLeft ha l p now) none
theorem rpSt_all {ha : Hal} {l : List Camp} {p : List Int} {now : Int} (hv : VH ha l) : rpSt ha l p now = allSt ha l (rpH ha l p now) := by
  unfold rpSt
  rw [placeS_all (fun i hi => (hv.cb i hi).we0) (rpLeft_len _ _ _ _) fun j hj => by rw [lth_rpLeft _ _ _ _ _ hj]; exact rpL_asc j]
  exact allSt_filter fun j hj => by rw [lth_rpLeft _ _ _ _ _ hj]; exact rpL_filter hv hj
/-- What Replan answers. -/
def rpOk (ha : Hal) (l : List Camp) (p : List Int) (now : Int) : Bool := decide (checkE ha l p.length = 0) && wi now 0 ha.st.length && decide (freeTo l p now l.length ≤ 4)
def rpE (ha : Hal) (l : List Camp) (p : List Int) (now : Int) : Int :=
  if checkE ha l p.length = 0 then (if wi now 0 ha.st.length then (if freeTo l p now l.length ≤ 4 then (if stFound (rpSt ha l p now) then 0 else 101) else 5) else 3) else checkE ha l p.length
def rpP (ha : Hal) (l : List Camp) (p : List Int) (now : Int) : List Int :=
  if checkE ha l p.length = 0 then (if wi now 0 ha.st.length then (if freeTo l p now l.length ≤ 4 then stP (rpSt ha l p now) else []) else []) else []
def rpK (ha : Hal) (l : List Camp) (p : List Int) (now : Int) : Int :=
  if checkE ha l p.length = 0 then (if wi now 0 ha.st.length then (if freeTo l p now l.length ≤ 4 then stCost (rpSt ha l p now) else 0) else 0) else 0
/-- How many plans are tried. -/
theorem rpH_len {ha : Hal} {l : List Camp} {p : List Int} {now : Int} (hn : ha.st.length ≤ 14) (h0 : 0 ≤ now) {j : Nat} (hp : 0 ≤ (cth l j).pr) : (rpH ha l p now j).length ≤ if freeB (cth l j) (nth p j) now then 14 else 1 := by
  unfold rpH
  split
  · rw [hoursS_len]; omega
  · simp
theorem rpH_count {ha : Hal} {l : List Camp} {p : List Int} {now : Int} (hn : ha.st.length ≤ 14) (h0 : 0 ≤ now) (hp : ∀ j, j < l.length → 0 ≤ (cth l j).pr) : ∀ k, k ≤ l.length → (prodN (rpH ha l p now) k).length ≤ 14 ^ (freeTo l p now k).toNat
  | 0, _ => by simp [prodN, freeTo]
  | k + 1, hk => by
    rw [prodN_len]
    have h1 := rpH_count (p := p) hn h0 hp k (by omega)
    have h2 := rpH_len (p := p) hn h0 (hp k (by omega))
    have h3 := (freeTo_bd l p now k).1
    cases hf : freeB (cth l k) (nth p k) now with
    | true =>
      rw [freeTo_yes hf]
      rw [if_pos hf] at h2
      rw [show (freeTo l p now k + 1).toNat = (freeTo l p now k).toNat + 1 by omega, Nat.pow_succ]
      exact Nat.mul_le_mul h1 h2
    | false =>
      rw [freeTo_no hf]
      rw [if_neg (by simp [hf])] at h2
      have := Nat.mul_le_mul h1 h2
      rwa [Nat.mul_one] at this
theorem freeTo_mono (l : List Camp) (p : List Int) (now : Int) (k : Nat) : ∀ n, k ≤ n → freeTo l p now k ≤ freeTo l p now n
  | 0, h => by obtain rfl : k = 0 := by omega
               exact Int.le_refl _
  | n + 1, h => by
    by_cases e : k = n + 1
    · subst e; exact Int.le_refl _
    · have := freeTo_mono l p now k n (by omega)
      simp only [freeTo]; split <;> omega
theorem rpH_count3 {ha : Hal} {l : List Camp} {p : List Int} {now : Int} (hn : ha.st.length ≤ 14) (h0 : 0 ≤ now) (hp : ∀ j, j < l.length → 0 ≤ (cth l j).pr) (hf : freeTo l p now l.length ≤ 3) {k : Nat} (hk : k ≤ l.length) : (prodN (rpH ha l p now) k).length ≤ 100000 := by
  have h1 := rpH_count (p := p) hn h0 hp k hk
  have h2 := freeTo_mono l p now k l.length hk
  have h3 : 14 ^ (freeTo l p now k).toNat ≤ 14 ^ 3 := Nat.pow_le_pow_right (by omega) (by omega)
  omega
end Go.Proofs.Ytjpgignbjkgjiaa
