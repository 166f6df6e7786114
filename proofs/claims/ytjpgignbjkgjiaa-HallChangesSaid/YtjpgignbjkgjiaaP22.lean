/-
  Plain words of chapter 10 (hall): when a plan keeps the rules; a richer hall. No program in sight.
-/
import Derived.Test.YtjpgignbjkgjiaaP21
import Derived.Test.YtjpgignbjkgjiaaP18
namespace Go.Proofs.Ytjpgignbjkgjiaa
theorem hourS_neg {q : Int → Bool} {t : Int} {m : Nat} (h0 : 0 ≤ t) : hourS q t m < 0 ↔ ∀ d, d < m → q (t + (d : Nat)) = false := by
  unfold hourS
  rcases fIdx_cases (fun d : Nat => q (t + (d : Int))) m with ⟨k, h1, h2, h3, h4⟩ | ⟨h1, h2⟩
  · rw [h4]
    constructor
    · intro h; simp at h; omega
    · intro h; rw [h k h1] at h2; cases h2
  · rw [h2]
    exact ⟨fun _ => h1, fun _ => by simp⟩
/-- The rules 1 to 3, hour by hour. -/
theorem okAt_hours {ha : Hal} {c : Camp} {t : Int} (h0 : 0 ≤ t) : okAt ha c t = true ↔ inTimeB c t = true ∧ ∀ d : Nat, d < c.ho.toNat → ¬ nthZ ha.st (t + d) = 0 ∧ c.en ≤ nthZ ha.en (t + d) := by
  rw [okAt_iff]
  unfold hStaff hEnergy
  rw [hourS_neg h0, hourS_neg h0]
  constructor
  · rintro ⟨h1, h2, h3⟩
    refine ⟨h1, fun d hd => ⟨by simpa using h2 d hd, ?_⟩⟩
    have := h3 d hd
    simp at this
    exact this
  · rintro ⟨h1, h2⟩
    refine ⟨h1, fun d hd => by simpa using (h2 d hd).1, fun d hd => ?_⟩
    have := (h2 d hd).2
    simp
    exact this
theorem okAt_nonneg {ha : Hal} {c : Camp} {t : Int} (he : 0 ≤ c.ea) (hp : 0 ≤ c.pr) (h : okAt ha c t = true) : 0 ≤ t := by
  have := (okAt_iff.1 h).1
  simp only [inTimeB, Bool.and_eq_true, decide_eq_true_eq] at this
  omega
/-- Where a plan keeps the rules. -/
theorem breach_zero {ha : Hal} {l : List Camp} {p : List Int} (h1 : ∀ i, i < l.length → okAt ha (cth l i) (nth p i) = true) (h2 : ∀ i k, i < k → k < l.length → apartB ha (cth l i) (cth l k) (nth p i) (nth p k) = true)
    (h3 : ∀ h : Nat, h < ha.st.length → cntTo l p l.length h ≤ ha.ro) : (breachS ha l p).ru = 0 := by
  have hs : (singleS ha l p).ru = 0 := by
    have e1 : fIdx (fun i => !inTimeB (cth l i) (nth p i)) l.length = none := fIdx_none fun j hj => by simp [(okAt_iff.1 (h1 j hj)).1]
    have e2 : fIdx (fun i => decide (0 ≤ hStaff ha (cth l i) (nth p i))) l.length = none := fIdx_none fun j hj => by have := (okAt_iff.1 (h1 j hj)).2.1; simp; omega
    have e3 : fIdx (fun i => decide (0 ≤ hEnergy ha (cth l i) (nth p i))) l.length = none := fIdx_none fun j hj => by have := (okAt_iff.1 (h1 j hj)).2.2; simp; omega
    simp [singleS, e1, sgl2, e2, sgl3, e3, Br.zero]
  have e4 : fIdx (fun i => (nearOf ha l p i).isSome) l.length = none := fIdx_none fun i hi => by
    have : nearOf ha l p i = none := fIdx_none fun k hk => by
      by_cases hik : i < k
      · simp [hik, h2 i k hik hk]
      · simp [hik]
    simp [this]
  have e5 : fIdx (fun hour : Nat => decide (ha.ro < cntTo l p l.length hour)) ha.st.length = none := fIdx_none fun h hh => by have := h3 h hh; simp; omega
  unfold breachS
  rw [if_pos hs]
  simp [brTunnel, e4, brRooms, e5, Br.zero]
theorem plan_in_starts {ha : Hal} {l : List Camp} {p : List Int} (hv : VH ha l) (hb : (breachS ha l p).ru = 0) {i : Nat} (hi : i < l.length) : nth p i ∈ startsS ha (cth l i) 0 := by
  have h1 := okAt_of_breach hb hi
  have h2 := (okAt_iff.1 h1).1
  simp only [inTimeB, Bool.and_eq_true, decide_eq_true_eq] at h2
  rw [mem_startsS]
  have := (hv.cb i hi).ea0
  refine ⟨?_, by omega, h1⟩
  unfold starts0; split <;> omega
theorem best_any_plan {ha : Hal} {l : List Camp} {q : List Int} (hv : VH ha l) (hl : q.length = l.length) (hb : (breachS ha l q).ru = 0) : ∃ r c, bestSt ha l = some (r, c) ∧ c ≤ costTo l q l.length := by
  rw [bestSt_all hv]
  refine allSt_best ?_ hb
  rw [prodN_mem]
  refine ⟨hl, fun j hj => ?_⟩
  have := hour_lt hv hb hj
  rw [mem_hoursS]
  exact this
theorem best_some {ha : Hal} {l : List Camp} (hv : VH ha l) {q : List Int} {c : Int} (h : bestSt ha l = some (q, c)) : q.length = l.length ∧ (breachS ha l q).ru = 0 ∧ c = costTo l q l.length := by
  rw [bestSt_all hv] at h
  obtain ⟨h1, h2, h3⟩ := allSt_some h
  rw [prodN_mem] at h1
  exact ⟨h1.1, h2, h3⟩
/-- No plan is below the bound. -/
theorem bound_le {ha : Hal} {l : List Camp} {q : List Int} (hv : VH ha l) (hb : (breachS ha l q).ru = 0) : anyEmpty (leftS ha l 0) = false ∧ leastTo l (leftS ha l 0) l.length ≤ costTo l q l.length := by
  refine ⟨anyEmpty_no fun k hk => ?_, costTo_ge (fun i hi => (hv.cb i hi).we0) (fun i hi => ?_) _ (Nat.le_refl _)⟩
  · rw [leftS_len] at hk
    rw [lth_leftS _ _ _ _ hk]
    exact List.length_pos_of_mem (plan_in_starts hv hb hk)
  · rw [lth_leftS _ _ _ _ hi]
    exact asc_head (startsS_asc _ _ _) (plan_in_starts hv hb hi)
/-- More rooms, less time to sweep; later ends, less energy. -/
def richH (ha : Hal) : Hal := { ha with ro := (if ha.ro + 1 ≤ 4 then ha.ro + 1 else 4), cl := (if ha.cl - 1 ≤ 0 then 0 else ha.cl - 1) }
def lateC (n : Nat) (c : Camp) : Camp := { c with la := (if c.la + 2 ≤ n then c.la + 2 else n), en := (if c.en - 1 ≤ 0 then 0 else c.en - 1) }
def lateL (n : Nat) (l : List Camp) : List Camp := l.map (lateC n)
theorem lateL_len (n : Nat) (l : List Camp) : (lateL n l).length = l.length := by simp [lateL]
theorem cth_lateL (n : Nat) (l : List Camp) (i : Nat) (h : i < l.length) : cth (lateL n l) i = lateC n (cth l i) := by
  rw [cth_eq _ _ (by rw [lateL_len]; exact h), cth_eq _ _ h]; simp [lateL]
theorem campB_of {n : Int} {c : Camp} (h : CB n c) : campB n c = true := by
  simp only [campB, Bool.and_eq_true, decide_eq_true_eq, wi_iff]
  obtain ⟨a, b, d, e, f, g, i, j, k, m, o, q, r⟩ := h
  exact ⟨⟨⟨⟨⟨⟨⟨⟨a, b⟩, d, e⟩, f, g⟩, i, j⟩, k⟩, m⟩, o⟩, q, r⟩
theorem halB_of {ha : Hal} {l : List Camp} (h : VH ha l) : halB ha = true := by
  simp only [halB, Bool.and_eq_true, wi_iff, List.all_eq_true, beq_iff_eq]
  refine ⟨⟨⟨⟨⟨⟨by have := h.n1; omega, by have := h.n2; omega⟩, h.en⟩, fun x hx => ?_⟩, fun x hx => ?_⟩, h.r0, h.r1⟩, h.c0, h.c1⟩
  · obtain ⟨j, hj, rfl⟩ := List.getElem_of_mem hx
    rw [← nth_eq _ _ hj]; exact h.st j hj
  · obtain ⟨j, hj, rfl⟩ := List.getElem_of_mem hx
    rw [← nth_eq _ _ hj]; exact h.ee j (by rw [← h.en]; exact hj)
theorem campsB_of {ha : Hal} {l : List Camp} (h : VH ha l) : campsB ha l = true := by
  simp only [campsB, Bool.and_eq_true, decide_eq_true_eq, List.all_eq_true]
  refine ⟨⟨halB_of h, h.ll⟩, fun x hx => ?_⟩
  obtain ⟨j, hj, rfl⟩ := List.getElem_of_mem hx
  rw [← cth_eq _ _ hj]; exact campB_of (h.cb j hj)
theorem rich_vh {ha : Hal} {l : List Camp} (h : VH ha l) : VH (richH ha) (lateL ha.st.length l) := by
  refine ⟨h.n1, h.n2, h.en, h.st, h.ee, ?_, ?_, ?_, ?_, by rw [lateL_len]; exact h.ll, fun i hi => ?_⟩
  · have := h.r0; have := h.r1; simp only [richH]; split <;> omega
  · have := h.r0; have := h.r1; simp only [richH]; split <;> omega
  · have := h.c0; have := h.c1; simp only [richH]; split <;> omega
  · have := h.c0; have := h.c1; simp only [richH]; split <;> omega
  · rw [lateL_len] at hi
    rw [cth_lateL _ _ _ hi]
    obtain ⟨a, b, d, e, f, g, i, j, k, m, o, q, r⟩ := h.cb i hi
    refine ⟨a, b, d, e, f, g, ?_, ?_, k, ?_, ?_, q, r⟩ <;> simp only [lateC, richH] <;> split <;> omega
theorem rich_keeps {ha : Hal} {l : List Camp} {q : List Int} (h : VH ha l) (hb : (breachS ha l q).ru = 0) : (breachS (richH ha) (lateL ha.st.length l) q).ru = 0 := by
  refine breach_zero (fun i hi => ?_) (fun i k hik hk => ?_) (fun hr hh => ?_)
  · rw [lateL_len] at hi
    rw [cth_lateL _ _ _ hi]
    have h1 := okAt_of_breach hb hi
    have hc := h.cb i hi
    have h0 := okAt_nonneg hc.ea0 hc.pr0 h1
    rw [okAt_hours h0] at h1 ⊢
    refine ⟨?_, fun d hd => ⟨(h1.2 d hd).1, ?_⟩⟩
    · have h2 := h1.1
      simp only [inTimeB, Bool.and_eq_true, decide_eq_true_eq] at h2 ⊢
      have := hc.la1
      refine ⟨h2.1, ?_⟩
      simp only [lateC]; split <;> omega
    · have h2 := (h1.2 d hd).2
      have := hc.en0
      show (lateC ha.st.length (cth l i)).en ≤ nthZ ha.en (nth q i + d)
      simp only [lateC]; split <;> omega
  · rw [lateL_len] at hk
    rw [cth_lateL _ _ _ (by omega), cth_lateL _ _ _ hk]
    have h1 := breach_near hb hik hk
    simp only [apartB, Bool.or_eq_true, decide_eq_true_eq] at h1 ⊢
    have hg : gapS (richH ha) (lateC ha.st.length (cth l i)) (lateC ha.st.length (cth l k)) ≤ gapS ha (cth l i) (cth l k) := by
      have := h.c0
      unfold gapS
      show (if (cth l i).cu = (cth l k).cu then (0 : Int) else (richH ha).cl) ≤ (if (cth l i).cu = (cth l k).cu then (0 : Int) else ha.cl)
      by_cases e : (cth l i).cu = (cth l k).cu
      · rw [if_pos e, if_pos e]; exact Int.le_refl _
      · rw [if_neg e, if_neg e]; simp only [richH]; split <;> omega
    have hg2 : gapS (richH ha) (lateC ha.st.length (cth l i)) (lateC ha.st.length (cth l k)) ≤ gapS ha (cth l i) (cth l k) := hg
    have e1 : (lateC ha.st.length (cth l i)).ho = (cth l i).ho := rfl
    have e2 : (lateC ha.st.length (cth l k)).ho = (cth l k).ho := rfl
    rw [e1, e2]
    omega
  · have e : ∀ k, k ≤ l.length → cntTo (lateL ha.st.length l) q k hr = cntTo l q k hr := fun k => by
      induction k with
      | zero => intro _; rfl
      | succ k ih =>
        intro hk
        simp only [cntTo]
        rw [ih (by omega), cth_lateL _ _ _ (by omega)]
        rfl
    rw [lateL_len, e _ (Nat.le_refl _)]
    have h1 := breach_rooms hb (h := hr) hh
    have := h.r1
    have h2 := cntTo_bd l q l.length hr
    show _ ≤ (richH ha).ro
    simp only [richH]; split <;> omega
theorem rich_cost (n : Nat) (l : List Camp) (q : List Int) : ∀ k, k ≤ l.length → costTo (lateL n l) q k = costTo l q k
  | 0, _ => rfl
  | k + 1, hk => by
    simp only [costTo]
    rw [rich_cost n l q k (by omega), cth_lateL _ _ _ (by omega)]
    rfl
theorem rich_best {ha : Hal} {l : List Camp} (hv : VH ha l) {q : List Int} {c : Int} (h : bestSt ha l = some (q, c)) : ∃ r d, bestSt (richH ha) (lateL ha.st.length l) = some (r, d) ∧ d ≤ c := by
  obtain ⟨h1, h2, h3⟩ := best_some hv h
  obtain ⟨r, d, e1, e2⟩ := best_any_plan (rich_vh hv) (by rw [lateL_len]; exact h1) (rich_keeps hv h2)
  refine ⟨r, d, e1, ?_⟩
  rw [lateL_len, rich_cost _ _ _ _ (Nat.le_refl _)] at e2
  omega
end Go.Proofs.Ytjpgignbjkgjiaa
