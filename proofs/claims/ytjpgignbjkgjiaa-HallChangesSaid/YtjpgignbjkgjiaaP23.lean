/-
  Plain words of chapter 10 (hall): what is seen depends on the hours of the others alone. No program in sight.
-/
import Derived.Test.YtjpgignbjkgjiaaP22
namespace Go.Proofs.Ytjpgignbjkgjiaa
theorem inTimeB_iff (c : Camp) (t : Int) : inTimeB c t = true ↔ c.ea + c.pr ≤ t ∧ t ≤ c.la - c.ho := by simp [inTimeB]
theorem apartB_iff (ha : Hal) (a b : Camp) (s t : Int) : apartB ha a b s t = true ↔ s + a.ho + gapS ha a b ≤ t ∨ t + b.ho + gapS ha a b ≤ s := by simp [apartB]
theorem prepB_no (c : Camp) (t h : Int) (h0 : c.pr ≤ 0) : prepB c t h = false := by
  cases e : prepB c t h
  · rfl
  · simp [prepB] at e; omega
theorem vOther_same2 {ha ha' : Hal} {l l' : List Camp} {p : List Int} {cu : Int} (hst : ha'.st = ha.st) (hcl : ha'.cl = ha.cl) : ∀ k, (∀ j, j < k → ((cth l' j).cu = cu ↔ (cth l j).cu = cu) ∧ (cth l' j).ho = (cth l j).ho) → vOther ha' l' p cu k = vOther ha l p cu k
  | 0, _ => by unfold vOther vBase; rw [hst]
  | k + 1, h => by
    have ih := vOther_same2 (p := p) hst hcl k fun j hj => h j (by omega)
    obtain ⟨h1, h2⟩ := h k (by omega)
    simp only [vOther, ih, hcl, h2]
    by_cases e : (cth l k).cu = cu
    · rw [if_pos e, if_pos (h1.2 e)]
    · rw [if_neg e, if_neg (fun q => e (h1.1 q))]
theorem vOwn_same {l l' : List Camp} {p p' : List Int} {cu own : Int} {F : Nat → Int} : ∀ k, (∀ j, j < k → ((cth l' j).cu = cu ↔ (cth l j).cu = cu) ∧ ((cth l j).cu = cu → (cth l' j).ho = (cth l j).ho ∧ (cth l' j).pr = (cth l j).pr ∧ nth p' j = nth p j)) → vOwn l' p' cu own F k = vOwn l p cu own F k
  | 0, _ => rfl
  | k + 1, h => by
    have ih := vOwn_same (own := own) (F := F) k fun j hj => h j (by omega)
    obtain ⟨h1, h2⟩ := h k (by omega)
    simp only [vOwn, ih]
    by_cases e : (cth l k).cu = cu
    · obtain ⟨h3, h4, h5⟩ := h2 e
      rw [if_pos e, if_pos (h1.2 e), h3, h4, h5]
    · rw [if_neg e, if_neg (fun q => e (h1.1 q))]
/-- The view depends on whose each campaign is, on its hours, and on one's own preparations. -/
theorem view_same {ha ha' : Hal} {l l' : List Camp} {p : List Int} {cu : Int} (hst : ha'.st = ha.st) (hcl : ha'.cl = ha.cl) (hlen : l'.length = l.length)
    (h : ∀ j, j < l.length → ((cth l' j).cu = cu ↔ (cth l j).cu = cu) ∧ (cth l' j).ho = (cth l j).ho ∧ ((cth l j).cu = cu → (cth l' j).pr = (cth l j).pr)) : viewF ha' l' p cu = viewF ha l p cu := by
  unfold viewF
  rw [hlen, vOther_same2 hst hcl l.length fun j hj => ⟨(h j hj).1, (h j hj).2.1⟩]
  have hv : ∀ own F, vOwn l' p cu own F l.length = vOwn l p cu own F l.length := fun own F => vOwn_same l.length fun j hj => ⟨(h j hj).1, fun e => ⟨(h j hj).2.1, (h j hj).2.2 e, rfl⟩⟩
  rw [hv, hv]
/-- What is closed, said at once. -/
def closedB (ha : Hal) (l : List Camp) (p : List Int) (cu : Int) (k i : Nat) : Prop := nth ha.st i = 0 ∨ ∃ j, j < k ∧ ¬ (cth l j).cu = cu ∧ nth p j - ha.cl ≤ (i : Int) ∧ (i : Int) < nth p j + (cth l j).ho + ha.cl
theorem vOther_iff (ha : Hal) (l : List Camp) (p : List Int) (cu : Int) (i : Nat) : ∀ k, (closedB ha l p cu k i → vOther ha l p cu k i = 3) ∧ (¬ closedB ha l p cu k i → vOther ha l p cu k i = 0)
  | 0 => by
    unfold closedB
    simp only [vOther, vBase]
    constructor
    · rintro (h | ⟨j, hj, _⟩)
      · rw [if_pos h]
      · omega
    · intro h
      rw [if_neg (fun e => h (.inl e))]
  | k + 1 => by
    obtain ⟨ih1, ih2⟩ := vOther_iff ha l p cu i k
    have hs : closedB ha l p cu (k + 1) i ↔ closedB ha l p cu k i ∨ (¬ (cth l k).cu = cu ∧ nth p k - ha.cl ≤ (i : Int) ∧ (i : Int) < nth p k + (cth l k).ho + ha.cl) := by
      unfold closedB
      constructor
      · rintro (h | ⟨j, hj, h⟩)
        · exact .inl (.inl h)
        · by_cases e : j = k
          · subst e; exact .inr h
          · exact .inl (.inr ⟨j, by omega, h⟩)
      · rintro ((h | ⟨j, hj, h⟩) | h)
        · exact .inl h
        · exact .inr ⟨j, by omega, h⟩
        · exact .inr ⟨k, by omega, h⟩
    rw [hs]
    simp only [vOther]
    by_cases e : (cth l k).cu = cu
    · rw [if_pos e]
      refine ⟨fun h => ?_, fun h => ih2 fun q => h (.inl q)⟩
      rcases h with h | h
      · exact ih1 h
      · exact absurd e h.1
    · rw [if_neg e]
      unfold markF
      by_cases hm : nth p k - ha.cl ≤ (i : Int) ∧ (i : Int) < nth p k + (cth l k).ho + ha.cl
      · rw [if_pos hm]
        exact ⟨fun _ => rfl, fun h => absurd (.inr ⟨e, hm⟩) h⟩
      · rw [if_neg hm]
        refine ⟨fun h => ?_, fun h => ih2 fun q => h (.inl q)⟩
        rcases h with h | h
        · exact ih1 h
        · exact absurd h.2 hm
theorem vOther_eq {ha ha' : Hal} {l l' : List Camp} {p p' : List Int} {cu : Int} {k k' : Nat} (h : ∀ i, closedB ha l p cu k i ↔ closedB ha' l' p' cu k' i) : vOther ha l p cu k = vOther ha' l' p' cu k' := by
  funext i
  by_cases hc : closedB ha l p cu k i
  · rw [(vOther_iff ha l p cu i k).1 hc, (vOther_iff ha' l' p' cu i k').1 ((h i).1 hc)]
  · rw [(vOther_iff ha l p cu i k).2 hc, (vOther_iff ha' l' p' cu i k').2 fun q => hc ((h i).2 q)]
/-- A campaign cut in two: the first n hours, and the rest behind it. -/
def firstC (N : Int) (c : Camp) (n : Int) : Camp := { c with ho := n, la := N }
def restC (c : Camp) (n : Int) : Camp := { c with pr := 0, ho := c.ho - n }
def cutL (N : Int) (l : List Camp) (i : Nat) (n : Int) : List Camp := l.set i (firstC N (cth l i) n) ++ [restC (cth l i) n]
def cutP (p : List Int) (i : Nat) (n : Int) : List Int := p ++ [nth p i + n]
theorem firstC_ho (N : Int) (c : Camp) (n : Int) : (firstC N c n).ho = n := rfl
theorem firstC_la (N : Int) (c : Camp) (n : Int) : (firstC N c n).la = N := rfl
theorem firstC_ea (N : Int) (c : Camp) (n : Int) : (firstC N c n).ea = c.ea := rfl
theorem firstC_pr (N : Int) (c : Camp) (n : Int) : (firstC N c n).pr = c.pr := rfl
theorem firstC_cu (N : Int) (c : Camp) (n : Int) : (firstC N c n).cu = c.cu := rfl
theorem restC_ho (c : Camp) (n : Int) : (restC c n).ho = c.ho - n := rfl
theorem restC_la (c : Camp) (n : Int) : (restC c n).la = c.la := rfl
theorem restC_ea (c : Camp) (n : Int) : (restC c n).ea = c.ea := rfl
theorem restC_pr (c : Camp) (n : Int) : (restC c n).pr = 0 := rfl
theorem restC_cu (c : Camp) (n : Int) : (restC c n).cu = c.cu := rfl
theorem cutL_len (N : Int) (l : List Camp) (i : Nat) (n : Int) : (cutL N l i n).length = l.length + 1 := by simp [cutL]
theorem cth_set' (cs : List Camp) (i k : Nat) (c : Camp) (hk : k < cs.length) : cth (cs.set i c) k = if k = i then c else cth cs k := by
  rw [cth_eq _ _ (by simpa using hk), cth_eq _ _ hk, List.getElem_set]
  by_cases h : i = k
  · rw [if_pos h, if_pos h.symm]
  · rw [if_neg h, if_neg (fun e => h e.symm)]
theorem cth_cut (N : Int) (l : List Camp) (i : Nat) (n : Int) (j : Nat) (hj : j < l.length) : cth (cutL N l i n) j = if j = i then firstC N (cth l i) n else cth l j := by
  unfold cutL
  rw [cth_old _ _ _ (by simpa using hj), cth_set' _ _ _ _ hj]
theorem cth_cut_last (N : Int) (l : List Camp) (i : Nat) (n : Int) : cth (cutL N l i n) l.length = restC (cth l i) n := by
  have := cth_snoc (l.set i (firstC N (cth l i) n)) (restC (cth l i) n)
  simpa [cutL] using this
theorem nth_cut (p : List Int) (i : Nat) (n : Int) (j : Nat) (hj : j < p.length) : nth (cutP p i n) j = nth p j := by
  unfold cutP; rw [nth_snoc, if_neg (by omega)]
theorem nth_cut_last (p : List Int) (i : Nat) (n : Int) : nth (cutP p i n) p.length = nth p i + n := by
  unfold cutP; rw [nth_snoc, if_pos rfl]
section
variable {ha : Hal} {l : List Camp} {p : List Int} {i : Nat} {n : Int}
theorem cut_vh (hv : VH ha l) (hl15 : l.length ≤ 15) (hi : i < l.length) (h1 : 1 ≤ n) (h2 : n < (cth l i).ho) (hN : (cth l i).la ≤ ha.st.length) : VH ha (cutL ha.st.length l i n) := by
  refine ⟨hv.n1, hv.n2, hv.en, hv.st, hv.ee, hv.r0, hv.r1, hv.c0, hv.c1, by rw [cutL_len]; omega, fun j hj => ?_⟩
  rw [cutL_len] at hj
  obtain ⟨a, b, d, e, f, g, k, m, o, q, r, s, t⟩ := hv.cb i hi
  by_cases hjl : j < l.length
  · rw [cth_cut _ _ _ _ _ hjl]
    by_cases hji : j = i
    · rw [if_pos hji]
      refine ⟨a, b, d, e, h1, ?_, k, m, o, ?_, ?_, s, t⟩ <;> simp only [firstC] <;> omega
    · rw [if_neg hji]; exact hv.cb j hjl
  · obtain rfl : j = l.length := by omega
    rw [cth_cut_last]
    refine ⟨a, b, ?_, ?_, ?_, ?_, k, m, o, q, r, s, t⟩ <;> simp only [restC] <;> omega
theorem cut_keeps (hv : VH ha l) (hpl : p.length = l.length) (hb : (breachS ha l p).ru = 0) (hi : i < l.length) (h1 : 1 ≤ n) (h2 : n < (cth l i).ho) : (breachS ha (cutL ha.st.length l i n) (cutP p i n)).ru = 0 := by
  have hci := hv.cb i hi
  have hoi := okAt_of_breach hb hi
  have hti := okAt_nonneg hci.ea0 hci.pr0 hoi
  have hoi2 := (okAt_hours hti).1 hoi
  have hit := hoi2.1
  rw [inTimeB_iff] at hit
  refine breach_zero (fun j hj => ?_) (fun j k hjk hk => ?_) (fun h hh => ?_)
  · rw [cutL_len] at hj
    by_cases hjl : j < l.length
    · rw [cth_cut _ _ _ _ _ hjl, nth_cut _ _ _ _ (by omega)]
      by_cases hji : j = i
      · subst hji
        rw [if_pos rfl, okAt_hours hti]
        refine ⟨?_, fun d hd => ?_⟩
        · rw [inTimeB_iff, firstC_ea, firstC_pr, firstC_la, firstC_ho]
          have := hci.la1
          omega
        · have : d < (cth l j).ho.toNat := by rw [firstC_ho] at hd; omega
          exact hoi2.2 d this
      · rw [if_neg hji]; exact okAt_of_breach hb hjl
    · obtain rfl : j = l.length := by omega
      rw [cth_cut_last, ← hpl, nth_cut_last, okAt_hours (by omega)]
      refine ⟨?_, fun d hd => ?_⟩
      · rw [inTimeB_iff, restC_ea, restC_pr, restC_la, restC_ho]
        have := hci.pr0
        omega
      · have hd' : n.toNat + d < (cth l i).ho.toNat := by rw [restC_ho] at hd; omega
        have := hoi2.2 (n.toNat + d) hd'
        rw [show nth p i + ((n.toNat + d : Nat) : Int) = nth p i + n + d by omega] at this
        exact this
  · rw [cutL_len] at hk
    have hA : ∀ a b : Nat, a < l.length → b < l.length → a ≠ b → apartB ha (cth l a) (cth l b) (nth p a) (nth p b) = true := fun a b ha' hb' hab => breach_apart hb hab ha' hb'
    by_cases hkl : k < l.length
    · have hjl : j < l.length := by omega
      rw [cth_cut _ _ _ _ _ hjl, cth_cut _ _ _ _ _ hkl, nth_cut _ _ _ _ (by omega), nth_cut _ _ _ _ (by omega)]
      have h3 := hA j k hjl hkl (by omega)
      by_cases hji : j = i
      · subst hji
        rw [if_pos rfl, if_neg (by omega)]
        have : gapS ha (firstC ha.st.length (cth l j) n) (cth l k) = gapS ha (cth l j) (cth l k) := rfl
        rw [apartB_iff] at h3 ⊢
        rw [this, firstC_ho]
        omega
      · by_cases hki : k = i
        · subst hki
          rw [if_neg hji, if_pos rfl]
          have : gapS ha (cth l j) (firstC ha.st.length (cth l k) n) = gapS ha (cth l j) (cth l k) := rfl
          rw [apartB_iff] at h3 ⊢
          rw [this, firstC_ho]
          omega
        · rw [if_neg hji, if_neg hki]; exact h3
    · obtain rfl : k = l.length := by omega
      have hjl : j < l.length := by omega
      rw [cth_cut _ _ _ _ _ hjl, cth_cut_last, nth_cut _ _ _ _ (by omega), ← hpl, nth_cut_last]
      by_cases hji : j = i
      · subst hji
        rw [if_pos rfl]
        rw [apartB_iff, firstC_ho]
        have : gapS ha (firstC ha.st.length (cth l j) n) (restC (cth l j) n) = 0 := if_pos rfl
        rw [this]; omega
      · rw [if_neg hji]
        have h3 := hA j i hjl hi hji
        have : gapS ha (cth l j) (restC (cth l i) n) = gapS ha (cth l j) (cth l i) := rfl
        rw [apartB_iff] at h3 ⊢
        rw [this, restC_ho]
        omega
  · have e : ∀ k, k ≤ l.length → cntTo (cutL ha.st.length l i n) (cutP p i n) k h = cntTo l p k h := fun k => by
      induction k with
      | zero => intro _; rfl
      | succ k ih =>
        intro hk
        simp only [cntTo]
        rw [ih (by omega), cth_cut _ _ _ _ _ (by omega), nth_cut _ _ _ _ (by omega)]
        by_cases hki : k = i
        · subst hki; rw [if_pos rfl]; rfl
        · rw [if_neg hki]
    rw [cutL_len]
    simp only [cntTo]
    rw [e _ (Nat.le_refl _), cth_cut_last, ← hpl, nth_cut_last, hpl]
    rw [prepB_no _ _ _ (by rw [restC_pr]; exact Int.le_refl 0)]
    have := breach_rooms hb hh
    simpa using this
theorem cut_view (hv : VH ha l) (hpl : p.length = l.length) (hi : i < l.length) (h1 : 1 ≤ n) (h2 : n < (cth l i).ho) {cu : Int} (hcu : ¬ (cth l i).cu = cu) : viewF ha (cutL ha.st.length l i n) (cutP p i n) cu = viewF ha l p cu := by
  unfold viewF
  rw [cutL_len]
  have hO : vOther ha (cutL ha.st.length l i n) (cutP p i n) cu (l.length + 1) = vOther ha l p cu l.length := vOther_eq fun h => by
    have hc0 := hv.c0
    unfold closedB
    constructor
    · rintro (q | ⟨j, hj, q1, q2, q3⟩)
      · exact .inl q
      · by_cases hjl : j < l.length
        · rw [cth_cut _ _ _ _ _ hjl] at q1 q3
          rw [nth_cut _ _ _ _ (by omega)] at q2 q3
          by_cases hji : j = i
          · subst hji
            rw [if_pos rfl] at q1 q3
            exact .inr ⟨j, hjl, q1, q2, by rw [firstC_ho] at q3; omega⟩
          · rw [if_neg hji] at q1 q3
            exact .inr ⟨j, hjl, q1, q2, q3⟩
        · obtain rfl : j = l.length := by omega
          rw [cth_cut_last] at q3
          rw [← hpl, nth_cut_last] at q2 q3
          exact .inr ⟨i, hi, hcu, by omega, by rw [restC_ho] at q3; omega⟩
    · rintro (q | ⟨j, hj, q1, q2, q3⟩)
      · exact .inl q
      · by_cases hji : j = i
        · subst hji
          by_cases hlo : (h : Int) < nth p j + n + ha.cl
          · refine .inr ⟨j, by omega, ?_, ?_, ?_⟩
            · rw [cth_cut _ _ _ _ _ hj, if_pos rfl]; exact q1
            · rw [nth_cut _ _ _ _ (by omega)]; exact q2
            · rw [cth_cut _ _ _ _ _ hj, if_pos rfl, nth_cut _ _ _ _ (by omega)]; exact hlo
          · refine .inr ⟨l.length, by omega, ?_, ?_, ?_⟩
            · rw [cth_cut_last]; exact q1
            · rw [← hpl, nth_cut_last]; omega
            · rw [cth_cut_last, ← hpl, nth_cut_last]; rw [restC_ho]; omega
        · refine .inr ⟨j, by omega, ?_, ?_, ?_⟩
          · rw [cth_cut _ _ _ _ _ hj, if_neg hji]; exact q1
          · rw [nth_cut _ _ _ _ (by omega)]; exact q2
          · rw [cth_cut _ _ _ _ _ hj, if_neg hji, nth_cut _ _ _ _ (by omega)]; exact q3
  have hW : ∀ own F, vOwn (cutL ha.st.length l i n) (cutP p i n) cu own F (l.length + 1) = vOwn l p cu own F l.length := fun own F => by
    have e1 : vOwn (cutL ha.st.length l i n) (cutP p i n) cu own F (l.length + 1) = vOwn (cutL ha.st.length l i n) (cutP p i n) cu own F l.length := by
      have : ¬ (cth (cutL ha.st.length l i n) l.length).cu = cu := by rw [cth_cut_last]; exact hcu
      simp only [vOwn]
      rw [if_neg this]
    rw [e1]
    refine vOwn_same l.length fun j hj => ?_
    rw [cth_cut _ _ _ _ _ hj]
    by_cases hji : j = i
    · subst hji
      rw [if_pos rfl]
      exact ⟨Iff.rfl, fun q => absurd q hcu⟩
    · rw [if_neg hji]
      exact ⟨Iff.rfl, fun _ => ⟨rfl, rfl, nth_cut _ _ _ _ (by omega)⟩⟩
  rw [hO, hW, hW]
end
end Go.Proofs.Ytjpgignbjkgjiaa
