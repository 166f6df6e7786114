/-
  Texts merged: P10, P11, P12, P13, P14, P15.
-/
import Derived.Test.YtjpgignbjkgjiaaP7
section
/-
  Plain words of chapter 10 (hall), the tenth part: the first place of one campaign more. No program in sight.
-/
namespace Go.Proofs.Ytjpgignbjkgjiaa
theorem cth_snoc (l : List Camp) (c : Camp) : cth (l ++ [c]) l.length = c := by simp [cth]
theorem cth_old (l : List Camp) (c : Camp) (i : Nat) (h : i < l.length) : cth (l ++ [c]) i = cth l i := by simp [cth, List.getElem?_append_left h]
theorem nth_snoc_at (p : List Int) (t : Int) : nth (p ++ [t]) p.length = t := by rw [nth_snoc, if_pos rfl]
theorem nth_one (t : Int) : nth [t] 0 = t := rfl
theorem cth_one (c : Camp) : cth [c] 0 = c := rfl
/-- The rules 1 to 3 for one campaign. -/
theorem okAt_iff {ha : Hal} {c : Camp} {t : Int} : okAt ha c t = true ↔ inTimeB c t = true ∧ hStaff ha c t < 0 ∧ hEnergy ha c t < 0 := by
  unfold okAt
  rw [beq_iff_eq]
  constructor
  · intro h
    obtain ⟨h1, h2, h3⟩ := single_ok h
    exact ⟨h1 0 (by simp), h2 0 (by simp), h3 0 (by simp)⟩
  · rintro ⟨h1, h2, h3⟩
    have e : ∀ j, j < [c].length → j = 0 := fun j hj => by simp at hj; omega
    have q1 : fIdx (fun i => !inTimeB (cth [c] i) (nth [t] i)) [c].length = none := fIdx_none fun j hj => by rw [e j hj, cth_one, nth_one, h1]; rfl
    have q2 : fIdx (fun i => decide (0 ≤ hStaff ha (cth [c] i) (nth [t] i))) [c].length = none := fIdx_none fun j hj => by rw [e j hj, cth_one, nth_one]; exact decide_eq_false (by omega)
    have q3 : fIdx (fun i => decide (0 ≤ hEnergy ha (cth [c] i) (nth [t] i))) [c].length = none := fIdx_none fun j hj => by rw [e j hj, cth_one, nth_one]; exact decide_eq_false (by omega)
    simp only [singleS, sgl2, sgl3, q1, q2, q3]; rfl
/-- Where a plan breaks no rule, each campaign keeps the rules 1 to 3. -/
theorem okAt_of_breach {ha : Hal} {l : List Camp} {p : List Int} (h : (breachS ha l p).ru = 0) {i : Nat} (hi : i < l.length) : okAt ha (cth l i) (nth p i) = true := by
  obtain ⟨h1, h2, h3⟩ := single_ok (breach_single h)
  exact okAt_iff.2 ⟨h1 i hi, h2 i hi, h3 i hi⟩
theorem mem_startsS {ha : Hal} {c : Camp} {t now : Int} : t ∈ startsS ha c now ↔ starts0 c now ≤ t ∧ t ≤ c.la - c.ho ∧ okAt ha c t = true := by
  unfold startsS
  rw [startsTo_mem]
  constructor
  · rintro ⟨h1, h2, h3⟩; exact ⟨h1, by omega, h3⟩
  · rintro ⟨h1, h2, h3⟩; exact ⟨h1, by omega, h3⟩
theorem startsTo_asc (ha : Hal) (c : Camp) (t0 : Int) : ∀ d, (startsTo ha c t0 d).Pairwise (· < ·)
  | 0 => List.Pairwise.nil
  | d + 1 => by
    have ih := startsTo_asc ha c t0 d
    simp only [startsTo]
    split
    · rw [List.pairwise_append]
      refine ⟨ih, List.pairwise_singleton _ _, fun a h b hb => ?_⟩
      rw [List.mem_singleton] at hb
      have := (startsTo_mem ha c t0 d a).1 h
      omega
    · exact ih
theorem startsS_asc (ha : Hal) (c : Camp) (now : Int) : (startsS ha c now).Pairwise (· < ·) := startsTo_asc _ _ _ _
theorem nth_lt_of_asc {xs : List Int} (h : xs.Pairwise (· < ·)) {i j : Nat} (hij : i < j) (hj : j < xs.length) : nth xs i < nth xs j := by
  rw [nth_eq _ _ (by omega), nth_eq _ _ hj]
  exact (List.pairwise_iff_getElem.1 h) i j (by omega) hj hij
theorem mem_nth {xs : List Int} {x : Int} (h : x ∈ xs) : ∃ j, j < xs.length ∧ nth xs j = x := by
  obtain ⟨j, hj, e⟩ := List.getElem_of_mem h
  exact ⟨j, hj, by rw [nth_eq _ _ hj]; exact e⟩
def fitQ (ha : Hal) (l : List Camp) (p : List Int) (c : Camp) (t : Int) : Bool := (breachS ha (l ++ [c]) (p ++ [t])).ru == 0
/-- The first place of one campaign more. -/
def fitO (ha : Hal) (l : List Camp) (p : List Int) (c : Camp) : Option Nat := fIdx (fun i => fitQ ha l p c i) ha.st.length
theorem fit_starts {ha : Hal} {l : List Camp} {p : List Int} {c : Camp} {t : Int} (hl : p.length = l.length) (h0 : 0 ≤ c.ea) (h : fitQ ha l p c t = true) : t ∈ startsS ha c 0 := by
  have h1 : (breachS ha (l ++ [c]) (p ++ [t])).ru = 0 := by simpa [fitQ] using h
  have h2 := okAt_of_breach h1 (i := l.length) (by simp)
  rw [cth_snoc, ← hl, nth_snoc_at] at h2
  have h3 := (okAt_iff.1 h2).1
  simp only [inTimeB, Bool.and_eq_true, decide_eq_true_eq] at h3
  refine mem_startsS.2 ⟨?_, h3.2, h2⟩
  unfold starts0
  split <;> omega
theorem startsS_hour {ha : Hal} {c : Camp} {t now : Int} (hc : CB ha.st.length c) (h : t ∈ startsS ha c now) : 0 ≤ t ∧ t < ha.st.length := by
  have h1 := mem_startsS.1 h
  have h2 := starts0_ge c now
  have := hc.ea0; have := hc.pr0; have := hc.la1; have := hc.ho0
  omega
theorem fit_some {ha : Hal} {l : List Camp} {p : List Int} {c : Camp} (hl : p.length = l.length) (hc : CB ha.st.length c) {k : Nat} (hk : k < (startsS ha c 0).length) (hq : fitQ ha l p c (nth (startsS ha c 0) k) = true)
    (hf : ∀ j, j < k → fitQ ha l p c (nth (startsS ha c 0) j) = false) : ∃ i : Nat, fitO ha l p c = some i ∧ nth (startsS ha c 0) k = i := by
  have hm := startsS_hour hc (nth_mem hk)
  obtain ⟨i, hi⟩ := Int.eq_ofNat_of_zero_le hm.1
  refine ⟨i, fIdx_some (by omega) (by show fitQ ha l p c (i : Int) = true; rw [← hi]; exact hq) fun j hj => ?_, hi⟩
  cases h : fitQ ha l p c (j : Int) with
  | false => rfl
  | true =>
    obtain ⟨q, hq1, hq2⟩ := mem_nth (fit_starts hl hc.ea0 h)
    have hqk : q < k := by
      rcases Nat.lt_trichotomy q k with h1 | h1 | h1
      · exact h1
      · subst h1; omega
      · have := nth_lt_of_asc (startsS_asc ha c 0) h1 hq1; omega
    have := hf q hqk
    rw [hq2, h] at this
    cases this
theorem fit_none {ha : Hal} {l : List Camp} {p : List Int} {c : Camp} (hl : p.length = l.length) (hc : CB ha.st.length c) (hf : ∀ j, j < (startsS ha c 0).length → fitQ ha l p c (nth (startsS ha c 0) j) = false) : fitO ha l p c = none := by
  refine fIdx_none fun j hj => ?_
  cases h : fitQ ha l p c (j : Int) with
  | false => rfl
  | true =>
    obtain ⟨q, hq1, hq2⟩ := mem_nth (fit_starts hl hc.ea0 h)
    have := hf q hq1
    rw [hq2, h] at this
    cases this
/-- What Fit answers: the hour and the error. -/
def fitE (ha : Hal) (l : List Camp) (p : List Int) (c : Camp) : Int := if errS ha l p = 0 then (if campsB ha (l ++ [c]) then (if (fitO ha l p c).isSome then 0 else 102) else 2) else errS ha l p
def idxZ (o : Option Nat) : Int := match o with | some i => i | none => 0
def fitT (ha : Hal) (l : List Camp) (p : List Int) (c : Camp) : Int := if errS ha l p = 0 then (if campsB ha (l ++ [c]) then idxZ (fitO ha l p c) else 0) else 0
end Go.Proofs.Ytjpgignbjkgjiaa
end
section
/-
  Plain words of chapter 10 (hall), the eleventh part: the search finds the first of the cheapest plans. No program in sight.
-/
namespace Go.Proofs.Ytjpgignbjkgjiaa
/-- All plans that take for each j below n one hour of L j, in the order of their hours. -/
def prodN (L : Nat → List Int) : Nat → List (List Int)
  | 0 => [[]]
  | n + 1 => (prodN L n).flatMap fun p => (L n).map fun t => p ++ [t]
/-- One plan more is looked at. -/
def upd (ha : Hal) (l : List Camp) (st : St) (p : List Int) : St :=
  if (breachS ha l p).ru = 0 then (match st with | none => some (p, costTo l p l.length) | some (q, c) => if costTo l p l.length < c then some (p, costTo l p l.length) else some (q, c)) else st
def allSt (ha : Hal) (l : List Camp) (L : Nat → List Int) : St := (prodN L l.length).foldl (upd ha l) none
theorem prodN_mem (L : Nat → List Int) : ∀ n p, p ∈ prodN L n ↔ p.length = n ∧ ∀ j, j < n → nth p j ∈ L j
  | 0, p => by
    simp only [prodN, List.mem_singleton]
    constructor
    · rintro rfl; exact ⟨rfl, fun j hj => by omega⟩
    · rintro ⟨h, _⟩; exact List.length_eq_zero_iff.1 h
  | n + 1, p => by
    simp only [prodN, List.mem_flatMap, List.mem_map]
    constructor
    · rintro ⟨q, hq, t, ht, rfl⟩
      obtain ⟨h1, h2⟩ := (prodN_mem L n q).1 hq
      refine ⟨by simp [h1], fun j hj => ?_⟩
      rw [nth_snoc]
      by_cases h : j = q.length
      · rw [if_pos h, h, h1]; exact ht
      · rw [if_neg h]; exact h2 j (by omega)
    · rintro ⟨h1, h2⟩
      rcases List.eq_nil_or_concat p with rfl | ⟨q, t, rfl⟩
      · simp at h1
      · rw [List.concat_eq_append] at *
        simp only [List.length_append, List.length_singleton] at h1
        have hq : q.length = n := by omega
        refine ⟨q, (prodN_mem L n q).2 ⟨hq, fun j hj => ?_⟩, t, ?_, rfl⟩
        · have := h2 j (by omega)
          rwa [nth_snoc, if_neg (by omega)] at this
        · have := h2 n (by omega)
          rw [← hq, nth_snoc, if_pos rfl] at this
          rwa [hq] at this
theorem prodN_congr {L M : Nat → List Int} : ∀ n, (∀ j, j < n → L j = M j) → prodN L n = prodN M n
  | 0, _ => rfl
  | n + 1, h => by simp only [prodN]; rw [prodN_congr n fun j hj => h j (by omega), h n (by omega)]
theorem flatMap_filter {α β : Type} (xs : List α) (f : α → List β) (q : α → Bool) (g : α → List β) (h : ∀ a, a ∈ xs → g a = if q a then f a else []) : xs.flatMap g = (xs.filter q).flatMap f := by
  induction xs with
  | nil => rfl
  | cons a xs ih =>
    rw [List.flatMap_cons, h a (by simp), ih fun b hb => h b (by simp [hb]), List.filter_cons]
    cases q a <;> simp
def allQ (q : Nat → Int → Bool) (n : Nat) (p : List Int) : Bool := (List.range n).all fun j => q j (nth p j)
theorem allQ_succ (q : Nat → Int → Bool) (n : Nat) (p : List Int) (t : Int) (hp : p.length = n) : allQ q (n + 1) (p ++ [t]) = (allQ q n p && q n t) := by
  unfold allQ
  rw [List.range_succ, List.all_append]
  congr 1
  · rw [Bool.eq_iff_iff, List.all_eq_true, List.all_eq_true]
    have e : ∀ j, j ∈ List.range n → q j (nth (p ++ [t]) j) = q j (nth p j) := fun j hj => by
      rw [nth_snoc, if_neg (by rw [List.mem_range] at hj; omega)]
    exact ⟨fun h j hj => by rw [← e j hj]; exact h j hj, fun h j hj => by rw [e j hj]; exact h j hj⟩
  · simp [← hp, nth_snoc]
theorem prodN_filter (q : Nat → Int → Bool) (L : Nat → List Int) : ∀ n, prodN (fun j => (L j).filter (q j)) n = (prodN L n).filter (allQ q n)
  | 0 => rfl
  | n + 1 => by
    simp only [prodN]
    rw [prodN_filter q L n, List.filter_flatMap]
    symm
    refine flatMap_filter _ _ _ _ fun p hp => ?_
    have hl := ((prodN_mem L n p).1 hp).1
    rw [List.filter_map]
    have e : ((allQ q (n + 1)) ∘ fun t => p ++ [t]) = fun t => (allQ q n p && q n t) := by
      funext t; exact allQ_succ q n p t hl
    rw [e]
    cases allQ q n p <;> simp
theorem foldl_filter_noop {α β : Type} (f : β → α → β) (q : α → Bool) : ∀ (xs : List α) (b : β), (∀ a b, a ∈ xs → q a = false → f b a = b) → xs.foldl f b = (xs.filter q).foldl f b
  | [], _, _ => rfl
  | a :: xs, b, h => by
    rw [List.filter_cons]
    cases hq : q a with
    | true => simp only [if_true, List.foldl_cons]; exact foldl_filter_noop f q xs _ fun a b ha => h a b (by simp [ha])
    | false =>
      simp only [Bool.false_eq_true, if_false, List.foldl_cons]
      rw [h a b (by simp) hq]
      exact foldl_filter_noop f q xs _ fun a b ha => h a b (by simp [ha])
theorem foldl_noop {α β : Type} (f : β → α → β) : ∀ (xs : List α) (b : β), (∀ a, a ∈ xs → f b a = b) → xs.foldl f b = b
  | [], _, _ => rfl
  | a :: xs, b, h => by rw [List.foldl_cons, h a (by simp)]; exact foldl_noop f xs b fun a ha => h a (by simp [ha])
theorem foldl_flatMap' {α β γ : Type} (f : β → γ → β) (g : α → List γ) : ∀ (xs : List α) (b : β), (xs.flatMap g).foldl f b = xs.foldl (fun b a => (g a).foldl f b) b
  | [], _ => rfl
  | a :: xs, b => by rw [List.flatMap_cons, List.foldl_append, List.foldl_cons]; exact foldl_flatMap' f g xs _
theorem foldl_congr' {α β : Type} (f g : β → α → β) : ∀ (xs : List α) (b : β), (∀ a b, a ∈ xs → f b a = g b a) → xs.foldl f b = xs.foldl g b
  | [], _, _ => rfl
  | a :: xs, b, h => by rw [List.foldl_cons, List.foldl_cons, h a b (by simp)]; exact foldl_congr' f g xs _ fun a b ha => h a b (by simp [ha])
def put (L : Nat → List Int) (i : Nat) (t : Int) : Nat → List Int := fun j => if j = i then [t] else L j
theorem prodN_single {L : Nat → List Int} : ∀ {n : Nat}, (∀ j, j < n → ∃ t, L j = [t]) → ∃ p, prodN L n = [p]
  | 0, _ => ⟨[], rfl⟩
  | n + 1, h => by
    obtain ⟨p, hp⟩ := prodN_single (L := L) (n := n) fun j hj => h j (by omega)
    obtain ⟨t, ht⟩ := h n (by omega)
    exact ⟨p ++ [t], by simp [prodN, hp, ht]⟩
/-- The plans, by the hour of the campaign i, ahead of which each has one hour. -/
theorem prodN_split {L : Nat → List Int} {i : Nat} (hs : ∀ j, j < i → ∃ t, L j = [t]) : ∀ n, i < n → prodN L n = (L i).flatMap fun t => prodN (put L i t) n
  | 0, h => by omega
  | n + 1, h => by
    by_cases hin : i = n
    · subst hin
      obtain ⟨p, hp⟩ := prodN_single hs
      have e : ∀ t, prodN (put L i t) i = [p] := fun t => by rw [← hp]; exact prodN_congr i fun j hj => by unfold put; rw [if_neg (by omega)]
      simp only [prodN, hp, e, List.flatMap_cons, List.flatMap_nil, List.append_nil]
      have e2 : ∀ t, put L i t i = [t] := fun t => by simp [put]
      simp only [e2, List.map_cons, List.map_nil]
      rw [List.flatMap_def]
      induction L i with
      | nil => rfl
      | cons a as ih => simp [ih]
    · have ih := prodN_split hs n (by omega)
      simp only [prodN]
      rw [ih, List.flatMap_assoc]
      congr 1
      funext t
      have e : put L i t n = L n := by unfold put; rw [if_neg (fun h => hin h.symm)]
      rw [e]
theorem costTo_ge {l : List Camp} {p : List Int} {left : List (List Int)} (hw : ∀ i, i < l.length → 0 ≤ (cth l i).we) (h : ∀ i, i < l.length → nth (lth left i) 0 ≤ nth p i) : ∀ k, k ≤ l.length → leastTo l left k ≤ costTo l p k
  | 0, _ => by simp [leastTo, costTo]
  | k + 1, hk => by
    have h1 := costTo_ge hw h k (by omega)
    simp only [leastTo, costTo]
    have := Int.mul_le_mul_of_nonneg_left (show nth (lth left k) 0 + (cth l k).ho ≤ nth p k + (cth l k).ho by have := h k (by omega); omega) (hw k (by omega))
    omega
theorem asc_head {xs : List Int} (h : xs.Pairwise (· < ·)) {x : Int} (hx : x ∈ xs) : nth xs 0 ≤ x := by
  obtain ⟨j, hj, rfl⟩ := mem_nth hx
  rcases Nat.eq_zero_or_pos j with rfl | h0
  · exact Int.le_refl _
  · exact Int.le_of_lt (nth_lt_of_asc h h0 hj)
/-- Where two runs are too near, a plan breaks a rule. -/
theorem breach_near {ha : Hal} {l : List Camp} {p : List Int} (hb : (breachS ha l p).ru = 0) {i k : Nat} (hik : i < k) (hk : k < l.length) : apartB ha (cth l i) (cth l k) (nth p i) (nth p k) = true := by
  have hs := breach_single hb
  rw [breachS, if_pos hs] at hb
  unfold brTunnel at hb
  rcases fIdx_cases (fun i => (nearOf ha l p i).isSome) l.length with ⟨q, h1, h2, h3, h4⟩ | ⟨h1, h2⟩
  · rw [h4] at hb; simp at hb
  · have h3 := h1 i (by omega)
    unfold nearOf at h3
    rcases fIdx_cases (fun k => decide (i < k) && !apartB ha (cth l i) (cth l k) (nth p i) (nth p k)) l.length with ⟨q, g1, g2, g3, g4⟩ | ⟨g1, g2⟩
    · rw [g4] at h3; simp at h3
    · have := g1 k hk
      simpa [hik] using this
theorem apartB_symm (ha : Hal) (a b : Camp) (s t : Int) : apartB ha a b s t = apartB ha b a t s := by
  have hg : gapS ha a b = gapS ha b a := by
    unfold gapS
    by_cases h : a.cu = b.cu
    · rw [if_pos h, if_pos h.symm]
    · rw [if_neg h, if_neg (fun e => h e.symm)]
  unfold apartB
  rw [hg, Bool.or_comm]
theorem breach_apart {ha : Hal} {l : List Camp} {p : List Int} (hb : (breachS ha l p).ru = 0) {i k : Nat} (hik : i ≠ k) (hi : i < l.length) (hk : k < l.length) : apartB ha (cth l i) (cth l k) (nth p i) (nth p k) = true := by
  rcases Nat.lt_or_gt_of_ne hik with h | h
  · exact breach_near hb h hk
  · rw [apartB_symm]; exact breach_near hb h hi
theorem upd_bad {ha : Hal} {l : List Camp} {p : List Int} (st : St) (h : ¬ (breachS ha l p).ru = 0) : upd ha l st p = st := by unfold upd; rw [if_neg h]
/-- What a state of the search must be. -/
structure Lists (l : List Camp) (left : List (List Int)) (i : Nat) : Prop where
  len : left.length = l.length
  one : ∀ j, j < i → ∃ t, lth left j = [t]
  asc : ∀ j, j < l.length → (lth left j).Pairwise (· < ·)
theorem Lists.next {ha : Hal} {l : List Camp} {left : List (List Int)} {i : Nat} {t : Int} (h : Lists l left i) (hi : i < l.length) (ha0 : anyEmpty (nextS ha l left i t) = false) : Lists l (nextS ha l left i t) (i + 1) := by
  have hlen : (nextS ha l left i t).length = l.length := by unfold nextS; rw [nextTo_len, h.len]
  have key : ∀ j, j < l.length → lth (nextS ha l left i t) j = if j = i then [t] else keepS ha l i j t (lth left j) := fun j hj => by
    unfold nextS
    rw [lth_nextTo _ _ _ _ _ _ _ (by rw [h.len]; exact hj)]
    by_cases e : j = i
    · rw [if_pos e, if_pos e]
    · rw [if_neg e, if_neg e, if_pos (by rw [h.len]; exact hj)]
  refine ⟨hlen, fun j hj => ?_, fun j hj => ?_⟩
  · rw [key j (by omega)]
    by_cases e : j = i
    · exact ⟨t, if_pos e⟩
    · rw [if_neg e]
      obtain ⟨u, hu⟩ := h.one j (by omega)
      have hne := notEmpty ha0 j (by rw [hlen]; omega)
      rw [key j (by omega), if_neg e, hu] at hne
      rw [hu]
      refine ⟨u, ?_⟩
      unfold keepS at *
      rw [List.filter_cons] at *
      split
      · simp
      · rename_i hc; rw [if_neg hc] at hne; simp at hne
  · rw [key j hj]
    split
    · exact List.pairwise_singleton _ _
    · exact (h.asc j hj).sublist List.filter_sublist
theorem prodN_empty {L : Nat → List Int} {n j : Nat} (hj : j < n) (h : L j = []) : prodN L n = [] := by
  rw [List.eq_nil_iff_forall_not_mem]
  intro p hp
  have := ((prodN_mem L n p).1 hp).2 j hj
  rw [h] at this
  cases this
theorem empty_some {left : List (List Int)} (h : anyEmpty left = true) : ∃ j, j < left.length ∧ lth left j = [] := by
  simp only [anyEmpty, List.any_eq_true] at h
  obtain ⟨x, hx, h0⟩ := h
  obtain ⟨j, hj, rfl⟩ := List.getElem_of_mem hx
  refine ⟨j, hj, ?_⟩
  rw [lth_eq _ _ hj]
  simpa [isNone0] using h0
theorem placeS_prod {ha : Hal} {l : List Camp} (hw : ∀ i, i < l.length → 0 ≤ (cth l i).we) : ∀ (d : Nat) (left : List (List Int)) (st : St), d ≤ l.length → (anyEmpty left = true ∨ Lists l left (l.length - d)) → left.length = l.length →
    placeS ha l d left st = (prodN (lth left) l.length).foldl (upd ha l) st := by
  intro d
  induction d with
  | zero =>
    intro left st _ hl hlen
    cases hp : pruned l left st with
    | true => exact done hw 0 left st hl hlen hp
    | false =>
      rw [placeS_end _ _ _ _ hp]
      simp only [pruned, Bool.or_eq_false_iff] at hp
      obtain ⟨he, hc⟩ := hp
      rcases hl with hl | hl
      · rw [hl] at he; cases he
      · obtain ⟨p, hpp⟩ := prodN_single (L := lth left) (n := l.length) hl.one
        have hpl : planOf left = p := by
          have hm := (prodN_mem (lth left) l.length p).1 (by rw [hpp]; simp)
          refine ext_nth _ _ (by rw [planOf_len, hl.len, hm.1]) fun j hj => ?_
          rw [planOf_len, hl.len] at hj
          rw [nth_planOf _ _ (by rw [hl.len]; exact hj)]
          obtain ⟨t, ht⟩ := hl.one j (by omega)
          have := hm.2 j hj
          rw [ht, List.mem_singleton] at this
          rw [ht, this]; rfl
        have hle : leastTo l left l.length = costTo l (planOf left) l.length := by
          have key : ∀ k, k ≤ l.length → leastTo l left k = costTo l (planOf left) k := by
            intro k
            induction k with
            | zero => intro _; rfl
            | succ k ih => intro hk; simp only [leastTo, costTo]; rw [ih (by omega), nth_planOf _ _ (by rw [hl.len]; omega)]
          exact key _ (Nat.le_refl _)
        rw [hpp, ← hpl]
        simp only [List.foldl_cons, List.foldl_nil, upd]
        by_cases hb : (breachS ha l (planOf left)).ru = 0
        · rw [if_pos hb, if_pos hb]
          cases st with
          | none => rfl
          | some qc =>
            obtain ⟨q, c⟩ := qc
            simp only [stFound, stCost, Option.isSome_some, Bool.true_and] at hc
            rw [hle] at hc
            have hlt : costTo l (planOf left) l.length < c := by
              have := of_decide_eq_false hc; omega
            simp only [if_pos hlt]
        · rw [if_neg hb, if_neg hb]
  | succ d ih =>
    intro left st hd hl hlen
    cases hp : pruned l left st with
    | true => exact done hw (d + 1) left st hl hlen hp
    | false =>
      have hp' := hp
      simp only [pruned, Bool.or_eq_false_iff] at hp
      obtain ⟨he, hc⟩ := hp
      rcases hl with hl | hl
      · rw [hl] at he; cases he
      · have hi : l.length - (d + 1) < l.length := by omega
        have e1 : placeS ha l (d + 1) left st = (lth left (l.length - (d + 1))).foldl (fun st t => placeS ha l d (nextS ha l left (l.length - (d + 1)) t) st) st := by
          simp [placeS, hp']
        rw [e1]
        obtain ⟨i, hie⟩ : ∃ i, i = l.length - (d + 1) := ⟨_, rfl⟩
        rw [← hie] at hl hi ⊢
        rw [prodN_split hl.one _ hi, foldl_flatMap']
        refine foldl_congr' _ _ _ _ fun t st' ht => ?_
        have hnl : (nextS ha l left i t).length = l.length := by unfold nextS; rw [nextTo_len, hlen]
        rw [ih _ _ (by omega) (by
          cases hae : anyEmpty (nextS ha l left i t) with
          | true => exact .inl rfl
          | false => exact .inr (by have := hl.next hi hae; rwa [show l.length - d = i + 1 by omega])) hnl]
        have e2 : prodN (lth (nextS ha l left i t)) l.length = (prodN (put (lth left) i t) l.length).filter (allQ (fun j u => if j = i then true else apartB ha (cth l i) (cth l j) t u) l.length) := by
          rw [← prodN_filter]
          refine prodN_congr _ fun j hj => ?_
          unfold nextS put
          rw [lth_nextTo _ _ _ _ _ _ _ (by rw [hlen]; exact hj)]
          by_cases e : j = i
          · simp [e]
          · simp only [if_neg e, if_pos (show j < left.length by omega)]; rfl
        rw [e2]
        symm
        refine foldl_filter_noop _ _ _ _ fun p st'' hpm hq => upd_bad _ fun hb => ?_
        have hm := (prodN_mem _ _ _).1 hpm
        have hti : nth p i = t := by
          have := hm.2 i hi
          simpa [put] using this
        have : allQ (fun j u => if j = i then true else apartB ha (cth l i) (cth l j) t u) l.length p = true := by
          unfold allQ
          rw [List.all_eq_true]
          intro j hj
          rw [List.mem_range] at hj
          show (if j = i then true else apartB ha (cth l i) (cth l j) t (nth p j)) = true
          by_cases e : j = i
          · rw [if_pos e]
          · rw [if_neg e, ← hti]; exact breach_apart hb (fun h => e h.symm) hi hj
        rw [this] at hq
        cases hq
where
  done {ha : Hal} {l : List Camp} (hw : ∀ i, i < l.length → 0 ≤ (cth l i).we) (d : Nat) (left : List (List Int)) (st : St) (hl : anyEmpty left = true ∨ Lists l left (l.length - d)) (hlen : left.length = l.length) (hp : pruned l left st = true) :
      placeS ha l d left st = (prodN (lth left) l.length).foldl (upd ha l) st := by
    rw [placeS_zero_no _ _ _ _ _ hp]
    symm
    cases hae : anyEmpty left with
    | true =>
      obtain ⟨j, hj, h0⟩ := empty_some hae
      rw [prodN_empty (by rw [← hlen]; exact hj) h0]; rfl
    | false =>
      rcases hl with hl | hl
      · rw [hl] at hae; cases hae
      · simp only [pruned, hae, Bool.false_or, Bool.and_eq_true, decide_eq_true_eq] at hp
        obtain ⟨hf, hc⟩ := hp
        cases st with
        | none => cases hf
        | some qc =>
          obtain ⟨q, c⟩ := qc
          refine foldl_noop _ _ _ fun p hpm => ?_
          have hm := (prodN_mem _ _ _).1 hpm
          have hge := costTo_ge (p := p) (left := left) hw (fun i hi => asc_head (hl.asc i hi) (hm.2 i hi)) l.length (Nat.le_refl _)
          simp only [stCost] at hc
          unfold upd
          by_cases hb : (breachS ha l p).ru = 0
          · rw [if_pos hb]; simp only []; rw [if_neg (by omega)]
          · rw [if_neg hb]
end Go.Proofs.Ytjpgignbjkgjiaa
end
section
/-
  Plain words of chapter 10 (hall), the twelfth part: hours that are tried, and what the best plan is. No program in sight.
-/
namespace Go.Proofs.Ytjpgignbjkgjiaa
theorem asc_ext : ∀ {xs ys : List Int}, xs.Pairwise (· < ·) → ys.Pairwise (· < ·) → (∀ a, a ∈ xs ↔ a ∈ ys) → xs = ys
  | [], [], _, _, _ => rfl
  | [], y :: ys, _, _, h => absurd ((h y).2 (by simp)) (by simp)
  | x :: xs, [], _, _, h => absurd ((h x).1 (by simp)) (by simp)
  | x :: xs, y :: ys, hx, hy, h => by
    rw [List.pairwise_cons] at hx hy
    have e : x = y := by
      have h1 := (h x).1 (by simp)
      have h2 := (h y).2 (by simp)
      rw [List.mem_cons] at h1 h2
      rcases h1 with h1 | h1
      · exact h1
      · rcases h2 with h2 | h2
        · exact h2.symm
        · have := hx.1 _ h2; have := hy.1 _ h1; omega
    subst e
    rw [asc_ext hx.2 hy.2 fun a => ?_]
    constructor
    · intro ha
      have := (h a).1 (by simp [ha])
      rw [List.mem_cons] at this
      rcases this with rfl | h'
      · have := hx.1 _ ha; omega
      · exact h'
    · intro ha
      have := (h a).2 (by simp [ha])
      rw [List.mem_cons] at this
      rcases this with rfl | h'
      · have := hy.1 _ ha; omega
      · exact h'
/-- The hours of n from one on. -/
def hoursS (n : Nat) (frm : Int) : List Int := (List.range (n - frm).toNat).map fun (d : Nat) => frm + (d : Int)
theorem hoursS_len (n : Nat) (frm : Int) : (hoursS n frm).length = (n - frm).toNat := by simp [hoursS]
theorem nth_hoursS (n : Nat) (frm : Int) (d : Nat) (h : d < (n - frm).toNat) : nth (hoursS n frm) d = frm + d := by simp [hoursS, nth, h]
theorem mem_hoursS {n : Nat} {frm t : Int} : t ∈ hoursS n frm ↔ frm ≤ t ∧ t < n := by
  simp only [hoursS, List.mem_map, List.mem_range]
  constructor
  · rintro ⟨d, h, rfl⟩; omega
  · rintro ⟨h1, h2⟩; exact ⟨(t - frm).toNat, by omega, by omega⟩
theorem hoursS_asc (n : Nat) (frm : Int) : (hoursS n frm).Pairwise (· < ·) := by
  unfold hoursS
  rw [List.pairwise_map]
  exact List.pairwise_lt_range.imp fun h => by omega
/-- The hours at which a campaign can begin are those of all hours with which it keeps the rules 1 to 3. -/
theorem starts_hours {ha : Hal} {c : Camp} {now : Int} (hc : CB ha.st.length c) : startsS ha c now = (hoursS ha.st.length (now + c.pr)).filter (okAt ha c) := by
  refine asc_ext (startsS_asc _ _ _) ((hoursS_asc _ _).sublist List.filter_sublist) fun t => ?_
  rw [mem_startsS, List.mem_filter, mem_hoursS]
  have h1 := starts0_ge c now
  have h2 := hc.la1; have h3 := hc.ho0
  constructor
  · rintro ⟨a, b, d⟩; exact ⟨⟨by omega, by omega⟩, d⟩
  · rintro ⟨⟨a, b⟩, d⟩
    have h4 := (okAt_iff.1 d).1
    simp only [inTimeB, Bool.and_eq_true, decide_eq_true_eq] at h4
    refine ⟨?_, h4.2, d⟩
    unfold starts0
    split <;> omega
theorem starts_hours0 {ha : Hal} {c : Camp} (hc : CB ha.st.length c) : startsS ha c 0 = (hoursS ha.st.length 0).filter (okAt ha c) := by
  refine asc_ext (startsS_asc _ _ _) ((hoursS_asc _ _).sublist List.filter_sublist) fun t => ?_
  rw [mem_startsS, List.mem_filter, mem_hoursS]
  have h1 := starts0_ge c 0
  have h2 := hc.la1; have h3 := hc.ho0; have h5 := hc.ea0; have h6 := hc.pr0
  constructor
  · rintro ⟨a, b, d⟩; exact ⟨⟨by omega, by omega⟩, d⟩
  · rintro ⟨⟨a, b⟩, d⟩
    have h4 := (okAt_iff.1 d).1
    simp only [inTimeB, Bool.and_eq_true, decide_eq_true_eq] at h4
    refine ⟨?_, h4.2, d⟩
    unfold starts0
    split <;> omega
/-- Hours with which a campaign breaks the rules 1 to 3 may be left out. -/
theorem allSt_filter {ha : Hal} {l : List Camp} {L H : Nat → List Int} (h : ∀ j, j < l.length → L j = (H j).filter (okAt ha (cth l j))) : allSt ha l L = allSt ha l H := by
  unfold allSt
  rw [prodN_congr l.length h, prodN_filter (fun j => okAt ha (cth l j)) H l.length]
  symm
  refine foldl_filter_noop _ _ _ _ fun p st hp hq => upd_bad _ fun hb => ?_
  have : allQ (fun j => okAt ha (cth l j)) l.length p = true := by
    unfold allQ
    rw [List.all_eq_true]
    intro j hj
    rw [List.mem_range] at hj
    exact okAt_of_breach hb hj
  rw [this] at hq
  cases hq
theorem placeS_all {ha : Hal} {l : List Camp} {left : List (List Int)} (hw : ∀ i, i < l.length → 0 ≤ (cth l i).we) (hlen : left.length = l.length) (ha1 : ∀ j, j < l.length → (lth left j).Pairwise (· < ·)) : placeS ha l l.length left none = allSt ha l (lth left) :=
  placeS_prod hw l.length left none (Nat.le_refl _) (.inr ⟨hlen, fun j hj => by omega, ha1⟩) hlen
theorem bestSt_all {ha : Hal} {l : List Camp} (hv : VH ha l) : bestSt ha l = allSt ha l fun _ => hoursS ha.st.length 0 := by
  unfold bestSt
  rw [placeS_all (fun i hi => (hv.cb i hi).we0) (leftS_len _ _ _) fun j hj => by rw [lth_leftS _ _ _ _ hj]; exact startsS_asc _ _ _]
  exact allSt_filter fun j hj => by rw [lth_leftS _ _ _ _ hj]; exact starts_hours0 (hv.cb j hj)
end Go.Proofs.Ytjpgignbjkgjiaa
end
section
/-
  Plain words of chapter 10 (hall), the thirteenth part: the bound, and whether hours are crowded. No program in sight.
-/
namespace Go.Proofs.Ytjpgignbjkgjiaa
/-- How many of d hours from a on have somebody. -/
def haveTo (ha : Hal) (a : Nat) : Nat → Int
  | 0 => 0
  | d + 1 => haveTo ha a d + if nth ha.st (a + d) = 0 then 0 else 1
theorem haveTo_bd (ha : Hal) (a : Nat) : ∀ d, 0 ≤ haveTo ha a d ∧ haveTo ha a d ≤ d
  | 0 => by simp [haveTo]
  | d + 1 => by
    have := haveTo_bd ha a d
    simp only [haveTo]; split <;> omega
def inB (c : Camp) (a b : Int) : Bool := decide (a ≤ c.ea + c.pr) && decide (c.la ≤ b)
/-- How many hours the first k campaigns want that lie within a range. -/
def needTo (l : List Camp) (a b : Int) : Nat → Int
  | 0 => 0
  | k + 1 => needTo l a b k + if inB (cth l k) a b then (cth l k).ho else 0
theorem needTo_bd {n : Int} {l : List Camp} (hc : ∀ i, i < l.length → CB n (cth l i)) (a b : Int) : ∀ k, k ≤ l.length → 0 ≤ needTo l a b k ∧ needTo l a b k ≤ 24 * k
  | 0, _ => by simp [needTo]
  | k + 1, h => by
    have h1 := needTo_bd hc a b k (by omega)
    have := (hc k (by omega)).ho0; have := (hc k (by omega)).ho1
    simp only [needTo]; split <;> omega
theorem needTo_yes {l : List Camp} {a b : Int} {k : Nat} (h : inB (cth l k) a b = true) : needTo l a b (k + 1) = needTo l a b k + (cth l k).ho := by simp [needTo, h]
theorem needTo_no {l : List Camp} {a b : Int} {k : Nat} (h : inB (cth l k) a b = false) : needTo l a b (k + 1) = needTo l a b k := by simp [needTo, h]
/-- The range of a to e (both with it) wants more than there is. -/
def crowdQ (ha : Hal) (l : List Camp) (a e : Nat) : Bool := decide (haveTo ha a (e + 1 - a) < needTo l a ((e : Int) + 1) l.length)
def crowdIn (ha : Hal) (l : List Camp) (a : Nat) : Option Nat := fIdx (fun d => crowdQ ha l a (a + d)) (ha.st.length - a)
def crowdO (ha : Hal) (l : List Camp) : Option (Nat × Nat) := match fIdx (fun a => (crowdIn ha l a).isSome) ha.st.length with
  | some a => some (a, a + (crowdIn ha l a).getD 0)
  | none => none
/-- A range of hours, what it wants, what there is. -/
structure Cr where
  fr : Int
  to : Int
  ne : Int
  hv : Int
def Cr.zero : Cr := ⟨0, 0, 0, 0⟩
def crowdR (ha : Hal) (l : List Camp) : Cr := match crowdO ha l with
  | some (a, e) => ⟨a, (e : Int) + 1, needTo l a ((e : Int) + 1) l.length, haveTo ha a (e + 1 - a)⟩
  | none => Cr.zero
def crowdB (ha : Hal) (l : List Camp) : Bool := (crowdO ha l).isSome
theorem crowdIn_some {ha : Hal} {l : List Camp} {a e : Nat} (hae : a ≤ e) (he : e < ha.st.length) (hq : crowdQ ha l a e = true) (hf : ∀ j, a ≤ j → j < e → crowdQ ha l a j = false) : crowdIn ha l a = some (e - a) :=
  fIdx_some (by omega) (by rw [show a + (e - a) = e by omega]; exact hq) fun j hj => hf _ (by omega) (by omega)
theorem crowdIn_none {ha : Hal} {l : List Camp} {a : Nat} (hf : ∀ j, a ≤ j → j < ha.st.length → crowdQ ha l a j = false) : crowdIn ha l a = none :=
  fIdx_none fun j hj => hf _ (by omega) (by omega)
theorem crowd_some {ha : Hal} {l : List Camp} {a e : Nat} (hae : a ≤ e) (he : e < ha.st.length) (hq : crowdQ ha l a e = true) (hf : ∀ j, a ≤ j → j < e → crowdQ ha l a j = false) (hg : ∀ j, j < a → (crowdIn ha l j).isSome = false) :
    crowdR ha l = ⟨a, (e : Int) + 1, needTo l a ((e : Int) + 1) l.length, haveTo ha a (e + 1 - a)⟩ ∧ crowdB ha l = true := by
  have h1 := crowdIn_some hae he hq hf
  have h2 : crowdO ha l = some (a, e) := by
    have h3 : fIdx (fun a => (crowdIn ha l a).isSome) ha.st.length = some a := fIdx_some (by omega) (by rw [h1]; rfl) hg
    unfold crowdO
    rw [h3]
    simp only [h1, Option.getD_some]
    rw [show a + (e - a) = e by omega]
  unfold crowdR crowdB
  rw [h2]
  exact ⟨rfl, rfl⟩
theorem crowd_none {ha : Hal} {l : List Camp} (hg : ∀ j, j < ha.st.length → (crowdIn ha l j).isSome = false) : crowdR ha l = Cr.zero ∧ crowdB ha l = false := by
  have h2 : crowdO ha l = none := by
    unfold crowdO
    rw [fIdx_none hg]
  unfold crowdR crowdB
  rw [h2]
  exact ⟨rfl, rfl⟩
/-- What Bound answers. -/
def boundE (ha : Hal) (l : List Camp) : Int := if campsB ha l then (if anyEmpty (leftS ha l 0) then 101 else 0) else 2
def boundT (ha : Hal) (l : List Camp) : Int := if campsB ha l then (if anyEmpty (leftS ha l 0) then 0 else leastTo l (leftS ha l 0) l.length) else 0
theorem anyEmpty_nth {left : List (List Int)} {k : Nat} (hk : k < left.length) (h : (lth left k).length = 0) : anyEmpty left = true := by
  simp only [anyEmpty, List.any_eq_true]
  refine ⟨left[k], List.getElem_mem hk, ?_⟩
  rw [lth_eq _ _ hk] at h
  simpa [isNone0] using h
theorem anyEmpty_no {left : List (List Int)} (h : ∀ k, k < left.length → 0 < (lth left k).length) : anyEmpty left = false := by
  cases he : anyEmpty left with
  | false => rfl
  | true =>
    obtain ⟨j, hj, h0⟩ := empty_some he
    have := h j hj
    rw [h0] at this
    simp at this
theorem okAt_we (ha : Hal) (c : Camp) (v t : Int) : okAt ha { c with we := v } t = okAt ha c t := by
  rw [Bool.eq_iff_iff, okAt_iff, okAt_iff]; exact Iff.rfl
/-- The first hour of a campaign alone, if it has one. -/
theorem all_one {ha : Hal} {c : Camp} (hc : CB ha.st.length c) (hr : 1 ≤ ha.ro) : allSt ha [{ c with we := 1 }] (fun _ => hoursS ha.st.length 0) = match (startsS ha c 0) with | [] => none | t :: _ => some ([t], t + c.ho) := by
  have hbr : ∀ t, (breachS ha [{ c with we := 1 }] [t]).ru = 0 ↔ okAt ha c t = true := by
    intro t
    have e1 : okAt ha { c with we := 1 } t = okAt ha c t := okAt_we ha c 1 t
    constructor
    · intro h
      have := okAt_of_breach h (i := 0) (by simp)
      rwa [cth_one, nth_one, e1] at this
    · intro h
      rw [← e1] at h
      have h0 : (singleS ha [{ c with we := 1 }] [t]).ru = 0 := by simpa [okAt] using h
      rw [breachS, if_pos h0]
      have hn : fIdx (fun i => (nearOf ha [{ c with we := 1 }] [t] i).isSome) [({ c with we := 1 } : Camp)].length = none := fIdx_none fun j hj => by
        have : nearOf ha [{ c with we := 1 }] [t] j = none := fIdx_none fun k hk => by
          simp at hj hk
          rw [decide_eq_false (by omega)]; rfl
        rw [this]; rfl
      have hro : fIdx (fun hour : Nat => decide (ha.ro < cntTo [{ c with we := 1 }] [t] [({ c with we := 1 } : Camp)].length hour)) ha.st.length = none := fIdx_none fun j hj => by
        have := (cntTo_bd [{ c with we := 1 }] [t] [({ c with we := 1 } : Camp)].length (j : Int)).2
        simp only [List.length_singleton] at this ⊢
        exact decide_eq_false (by omega)
      simp only [brTunnel, hn, brRooms, hro]; rfl
  have hcost : ∀ t, costTo [{ c with we := 1 }] [t] 1 = t + c.ho := fun t => by
    simp only [costTo, cth_one, nth_one]; omega
  rw [← allSt_filter (L := fun _ => startsS ha c 0) fun j hj => by
    have hj0 : j = 0 := by simpa using hj
    subst hj0
    show startsS ha c 0 = List.filter (okAt ha { c with we := 1 }) _
    rw [show okAt ha { c with we := 1 } = okAt ha c from funext (okAt_we ha c 1)]
    exact starts_hours0 hc]
  have hprod : prodN (fun _ => startsS ha c 0) 1 = (startsS ha c 0).map fun t => [t] := by simp [prodN]
  unfold allSt
  rw [show [({ c with we := 1 } : Camp)].length = 1 from rfl, hprod]
  have hasc := startsS_asc ha c 0
  have hmem : ∀ t, t ∈ startsS ha c 0 → okAt ha c t = true := fun t ht => (mem_startsS.1 ht).2.2
  generalize startsS ha c 0 = ss at *
  match ss with
  | [] => rfl
  | t :: ts =>
    simp only [List.map_cons, List.foldl_cons]
    have h1 : upd ha [{ c with we := 1 }] none [t] = some ([t], t + c.ho) := by
      unfold upd
      rw [if_pos ((hbr t).2 (hmem t (by simp)))]
      show some ([t], costTo [{ c with we := 1 }] [t] 1) = _
      rw [hcost]
    rw [h1]
    refine foldl_noop _ _ _ fun p hp => ?_
    rw [List.mem_map] at hp
    obtain ⟨u, hu, rfl⟩ := hp
    unfold upd
    rw [if_pos ((hbr u).2 (hmem u (by simp [hu])))]
    have h2 : costTo [{ c with we := 1 }] [u] [({ c with we := 1 } : Camp)].length = u + c.ho := hcost u
    have h3 := (List.pairwise_cons.1 hasc).1 u hu
    simp only [h2]
    rw [if_neg (by omega)]
end Go.Proofs.Ytjpgignbjkgjiaa
end
section
/-
  Plain words of chapter 10 (hall), the fourteenth part: all plans, one after another. No program in sight.
-/
namespace Go.Proofs.Ytjpgignbjkgjiaa
theorem lth_take (pl : List (List Int)) (k : Nat) (h : k < pl.length) : pl.take (k + 1) = pl.take k ++ [lth pl k] := by
  rw [List.take_succ_eq_append_getElem h, lth_eq _ _ h]
theorem nth_take1 (xs : List Int) (k : Nat) (h : k < xs.length) : xs.take (k + 1) = xs.take k ++ [nth xs k] := by
  rw [List.take_succ_eq_append_getElem h, nth_eq _ _ h]
/-- What has been laid of the next plans: all of the first k, and the first j hours behind the plan k. -/
def preN (L : Nat → List Int) (i k j : Nat) : List (List Int) := ((prodN L i).take k).flatMap (fun p => (L i).map fun t => p ++ [t]) ++ ((L i).take j).map fun t => lth (prodN L i) k ++ [t]
theorem preN_zero (L : Nat → List Int) (i : Nat) : preN L i 0 0 = [] := by simp [preN]
theorem preN_step (L : Nat → List Int) (i k j : Nat) (h : j < (L i).length) : preN L i k (j + 1) = preN L i k j ++ [lth (prodN L i) k ++ [nth (L i) j]] := by
  unfold preN
  rw [nth_take1 _ _ h, List.map_append, List.append_assoc]; rfl
theorem preN_next (L : Nat → List Int) (i k : Nat) (h : k < (prodN L i).length) : preN L i k (L i).length = preN L i (k + 1) 0 := by
  unfold preN
  rw [lth_take _ _ h, List.flatMap_append]
  simp
theorem preN_end (L : Nat → List Int) (i : Nat) : preN L i (prodN L i).length 0 = prodN L (i + 1) := by
  unfold preN
  simp [prodN]
theorem flatMap_len {α β : Type} (F : α → List β) (m : Nat) (hF : ∀ x, (F x).length = m) : ∀ xs : List α, (xs.flatMap F).length = xs.length * m
  | [] => by simp
  | x :: xs => by rw [List.flatMap_cons, List.length_append, hF, flatMap_len F m hF xs, List.length_cons, Nat.add_mul, Nat.one_mul, Nat.add_comm]
theorem prodN_len (L : Nat → List Int) (i : Nat) : (prodN L (i + 1)).length = (prodN L i).length * (L i).length := by
  simp only [prodN]
  exact flatMap_len _ _ (fun p => by simp) _
theorem preN_len (L : Nat → List Int) (i k j : Nat) (hk : k ≤ (prodN L i).length) (hj : j ≤ (L i).length) : (preN L i k j).length = k * (L i).length + j := by
  unfold preN
  rw [List.length_append, flatMap_len _ (L i).length (fun p => by simp), List.length_take, List.length_map, List.length_take, Nat.min_eq_left hk, Nat.min_eq_left hj]
theorem preN_bd (L : Nat → List Int) (i k j : Nat) (hk : k < (prodN L i).length) (hj : j ≤ (L i).length) : (preN L i k j).length ≤ (prodN L (i + 1)).length := by
  rw [preN_len L i k j (by omega) hj, prodN_len]
  have h1 : (k + 1) * (L i).length ≤ (prodN L i).length * (L i).length := Nat.mul_le_mul_right _ (by omega)
  rw [Nat.add_mul, Nat.one_mul] at h1
  omega
/-- The state when the first k plans have been looked at. -/
def stN (ha : Hal) (l : List Camp) (pl : List (List Int)) (k : Nat) : St := (pl.take k).foldl (upd ha l) none
theorem stN_zero (ha : Hal) (l : List Camp) (pl : List (List Int)) : stN ha l pl 0 = none := by simp [stN]
theorem stN_succ (ha : Hal) (l : List Camp) (pl : List (List Int)) (k : Nat) (h : k < pl.length) : stN ha l pl (k + 1) = upd ha l (stN ha l pl k) (lth pl k) := by
  unfold stN
  rw [lth_take _ _ h, List.foldl_append]; rfl
theorem stN_all (ha : Hal) (l : List Camp) (L : Nat → List Int) : stN ha l (prodN L l.length) (prodN L l.length).length = allSt ha l L := by
  unfold stN allSt
  rw [List.take_length]
/-- The place of the best plan so far. -/
inductive BestAt (ha : Hal) (l : List Camp) (pl : List (List Int)) (k : Nat) : Int → Prop
  | no (h : stN ha l pl k = none) : BestAt ha l pl k (-1)
  | yes (b : Nat) (hb : b < k) (hq : (breachS ha l (lth pl b)).ru = 0) (h : stN ha l pl k = some (lth pl b, costTo l (lth pl b) l.length)) : BestAt ha l pl k b
theorem BestAt.skip {ha : Hal} {l : List Camp} {pl : List (List Int)} {k : Nat} {bi : Int} (h : BestAt ha l pl k bi) (hk : k < pl.length) (hq : ¬ (breachS ha l (lth pl k)).ru = 0) : BestAt ha l pl (k + 1) bi := by
  have e : stN ha l pl (k + 1) = stN ha l pl k := by rw [stN_succ _ _ _ _ hk, upd_bad _ hq]
  cases h with
  | no h => exact .no (e.trans h)
  | yes b hb hq' h => exact .yes b (by omega) hq' (e.trans h)
theorem BestAt.first {ha : Hal} {l : List Camp} {pl : List (List Int)} {k : Nat} (h : stN ha l pl k = none) (hk : k < pl.length) (hq : (breachS ha l (lth pl k)).ru = 0) : BestAt ha l pl (k + 1) k := by
  refine .yes k (by omega) hq ?_
  rw [stN_succ _ _ _ _ hk, h]
  unfold upd
  rw [if_pos hq]
theorem BestAt.better {ha : Hal} {l : List Camp} {pl : List (List Int)} {k b : Nat} (h : stN ha l pl k = some (lth pl b, costTo l (lth pl b) l.length)) (hk : k < pl.length) (hq : (breachS ha l (lth pl k)).ru = 0) (hc : costTo l (lth pl k) l.length < costTo l (lth pl b) l.length) : BestAt ha l pl (k + 1) k := by
  refine .yes k (by omega) hq ?_
  rw [stN_succ _ _ _ _ hk, h]
  unfold upd
  rw [if_pos hq]
  simp only [if_pos hc]
theorem BestAt.worse {ha : Hal} {l : List Camp} {pl : List (List Int)} {k b : Nat} (hb : b < k) (hqb : (breachS ha l (lth pl b)).ru = 0) (h : stN ha l pl k = some (lth pl b, costTo l (lth pl b) l.length)) (hk : k < pl.length) (hc : ¬ costTo l (lth pl k) l.length < costTo l (lth pl b) l.length) : BestAt ha l pl (k + 1) b := by
  refine .yes b (by omega) hqb ?_
  rw [stN_succ _ _ _ _ hk, h]
  unfold upd
  split
  · simp only [if_neg hc]
  · rfl
end Go.Proofs.Ytjpgignbjkgjiaa
end
section
/-
  Plain words of chapter 10 (hall), the fifteenth part: the best plan keeps the rules, and none that is tried is cheaper. No program in sight.
-/
namespace Go.Proofs.Ytjpgignbjkgjiaa
theorem upd_fold (ha : Hal) (l : List Camp) : ∀ (xs : List (List Int)) (st : St),
    (∀ p c, xs.foldl (upd ha l) st = some (p, c) → st = some (p, c) ∨ (p ∈ xs ∧ (breachS ha l p).ru = 0 ∧ c = costTo l p l.length)) ∧
    (∀ q, q ∈ xs → (breachS ha l q).ru = 0 → ∃ p c, xs.foldl (upd ha l) st = some (p, c) ∧ c ≤ costTo l q l.length) ∧
    (∀ p0 c0, st = some (p0, c0) → ∃ p c, xs.foldl (upd ha l) st = some (p, c) ∧ c ≤ c0)
  | [], st => ⟨fun p c h => .inl h, fun q hq => by simp at hq, fun p0 c0 h => ⟨p0, c0, h, Int.le_refl _⟩⟩
  | x :: xs, st => by
    obtain ⟨h1, h2, h3⟩ := upd_fold ha l xs (upd ha l st x)
    rw [List.foldl_cons]
    have hx : upd ha l st x = st ∨ ((breachS ha l x).ru = 0 ∧ upd ha l st x = some (x, costTo l x l.length)) := by
      unfold upd
      by_cases hb : (breachS ha l x).ru = 0
      · rw [if_pos hb]
        cases st with
        | none => exact .inr ⟨hb, rfl⟩
        | some qc =>
          obtain ⟨q, c⟩ := qc
          simp only []
          by_cases hc : costTo l x l.length < c
          · rw [if_pos hc]; exact .inr ⟨hb, rfl⟩
          · rw [if_neg hc]; exact .inl rfl
      · rw [if_neg hb]; exact .inl rfl
    have hle : ∀ p0 c0, st = some (p0, c0) → ∃ p c, upd ha l st x = some (p, c) ∧ c ≤ c0 := by
      rintro p0 c0 rfl
      unfold upd
      by_cases hb : (breachS ha l x).ru = 0
      · rw [if_pos hb]
        simp only []
        by_cases hc : costTo l x l.length < c0
        · rw [if_pos hc]; exact ⟨_, _, rfl, by omega⟩
        · rw [if_neg hc]; exact ⟨_, _, rfl, Int.le_refl _⟩
      · rw [if_neg hb]; exact ⟨_, _, rfl, Int.le_refl _⟩
    refine ⟨fun p c h => ?_, fun q hq hb => ?_, fun p0 c0 h => ?_⟩
    · rcases h1 p c h with h4 | ⟨h4, h5, h6⟩
      · rcases hx with h7 | ⟨h7, h8⟩
        · exact .inl (h7 ▸ h4)
        · rw [h8] at h4
          simp only [Option.some.injEq, Prod.mk.injEq] at h4
          obtain ⟨rfl, rfl⟩ := h4
          exact .inr ⟨by simp, h7, rfl⟩
      · exact .inr ⟨by simp [h4], h5, h6⟩
    · rw [List.mem_cons] at hq
      rcases hq with rfl | hq
      · have : ∃ p c, upd ha l st q = some (p, c) ∧ c ≤ costTo l q l.length := by
          unfold upd
          rw [if_pos hb]
          cases st with
          | none => exact ⟨_, _, rfl, Int.le_refl _⟩
          | some qc =>
            obtain ⟨r, c⟩ := qc
            simp only []
            by_cases hc : costTo l q l.length < c
            · rw [if_pos hc]; exact ⟨_, _, rfl, Int.le_refl _⟩
            · rw [if_neg hc]; exact ⟨_, _, rfl, by omega⟩
        obtain ⟨p, c, e, hc⟩ := this
        obtain ⟨p', c', e', hc'⟩ := h3 p c e
        exact ⟨p', c', e', by omega⟩
      · exact h2 q hq hb
    · obtain ⟨p, c, e, hc⟩ := hle p0 c0 h
      obtain ⟨p', c', e', hc'⟩ := h3 p c e
      exact ⟨p', c', e', by omega⟩
theorem allSt_some {ha : Hal} {l : List Camp} {L : Nat → List Int} {p : List Int} {c : Int} (h : allSt ha l L = some (p, c)) : p ∈ prodN L l.length ∧ (breachS ha l p).ru = 0 ∧ c = costTo l p l.length := by
  rcases (upd_fold ha l _ none).1 p c h with h1 | h1
  · cases h1
  · exact h1
theorem allSt_best {ha : Hal} {l : List Camp} {L : Nat → List Int} {q : List Int} (hq : q ∈ prodN L l.length) (hb : (breachS ha l q).ru = 0) : ∃ p c, allSt ha l L = some (p, c) ∧ c ≤ costTo l q l.length :=
  (upd_fold ha l _ none).2.1 q hq hb
theorem prodN_const_len (H : List Int) : ∀ k, (prodN (fun _ => H) k).length = H.length ^ k
  | 0 => rfl
  | k + 1 => by rw [prodN_len, prodN_const_len H k, Nat.pow_succ]
theorem prodN_const_le {H : List Int} (h : H.length ≤ 14) {k : Nat} (hk : k ≤ 3) : (prodN (fun _ => H) k).length ≤ 100000 := by
  rw [prodN_const_len]
  have h1 : H.length ^ k ≤ 14 ^ k := Nat.pow_le_pow_left h k
  have h2 : 14 ^ k ≤ 14 ^ 3 := Nat.pow_le_pow_right (by omega) hk
  omega
def stP (st : St) : List Int := match st with | some (p, _) => p | none => []
/-- What Best answers. -/
def bestP (ha : Hal) (l : List Camp) : List Int := if campsB ha l then (if l.length ≤ 4 then stP (bestSt ha l) else []) else []
def bestK (ha : Hal) (l : List Camp) : Int := if campsB ha l then (if l.length ≤ 4 then stCost (bestSt ha l) else 0) else 0
def bestE (ha : Hal) (l : List Camp) : Int := if campsB ha l then (if l.length ≤ 4 then (if stFound (bestSt ha l) then 0 else 101) else 5) else 2
end Go.Proofs.Ytjpgignbjkgjiaa
end
