/-
  Plain laws: trees and the cheapest order.
-/
import Derived.Test.YtplbofhgmflnlaaGreatMH4
set_option linter.unusedVariables false
set_option linter.unusedSimpArgs false
namespace Go.Proofs.YtplbofhgmflnlaaGreat
/-! ### Trees: what the joined edges cost is told by the parts at each threshold -/
def sumN (n : Nat) (f : Nat → Int) : Int := ((List.range n).map f).sum
theorem sumN_zero (f : Nat → Int) : sumN 0 f = 0 := rfl
theorem sumN_succ (n : Nat) (f : Nat → Int) : sumN (n + 1) f = sumN n f + f n := by
  unfold sumN
  rw [List.range_succ, List.map_append, List.sum_append]; simp
theorem sumN_congr {n : Nat} {f g : Nat → Int} (h : ∀ i, i < n → f i = g i) : sumN n f = sumN n g := by
  unfold sumN
  rw [List.map_congr_left fun i hi => h i (List.mem_range.1 hi)]
theorem sumN_add (n : Nat) (f g : Nat → Int) : sumN n (fun i => f i + g i) = sumN n f + sumN n g := by
  induction n with
  | zero => rfl
  | succ n ih => rw [sumN_succ, sumN_succ, sumN_succ, ih]; omega
theorem sumN_le {n : Nat} {f g : Nat → Int} (h : ∀ i, i < n → f i ≤ g i) : sumN n f ≤ sumN n g := by
  induction n with
  | zero => exact Int.le_refl _
  | succ n ih =>
    rw [sumN_succ, sumN_succ]
    have := ih fun i hi => h i (by omega)
    have := h n (by omega)
    omega
theorem sumN_step (M c : Nat) (d : Int) (h : c ≤ M) : sumN M (fun t => if t < c then d else 0) = c * d := by
  induction M with
  | zero =>
    obtain rfl : c = 0 := by omega
    simp [sumN_zero]
  | succ M ih =>
    rw [sumN_succ]
    rcases Nat.lt_or_ge M c with h1 | h1
    · obtain rfl : c = M + 1 := by omega
      rw [if_pos (by omega), sumN_congr (g := fun _ => d) fun i hi => if_pos (by omega)]
      clear ih h h1
      have : sumN M (fun _ => d) = M * d := by
        induction M with
        | zero => simp [sumN_zero]
        | succ M ih => rw [sumN_succ, ih]; push_cast; rw [Int.add_mul]; omega
      rw [this]; push_cast; rw [Int.add_mul]; omega
    · rw [ih h1, if_neg (by omega)]; omega
def stepR (R : Nat → Nat) (e : Ed) : Nat → Nat := if R e.a = R e.b then R else fun i => if R i = R e.a then R e.b else R i
def kruR : (Nat → Nat) → List Ed → Nat → Nat
  | R, [] => R
  | R, e :: es => kruR (stepR R e) es
def kruS : (Nat → Nat) → List Ed → Int
  | _, [] => 0
  | R, e :: es => (if R e.a = R e.b then 0 else e.c) + kruS (stepR R e) es
theorem kru_fold : ∀ (es : List Ed) (R : Nat → Nat) (s : Int), es.foldl kruStep (R, s) = (kruR R es, s + kruS R es)
  | [], R, s => by simp [kruR, kruS]
  | e :: es, R, s => by
    rw [List.foldl_cons]
    by_cases h : R e.a = R e.b
    · have h1 : kruStep (R, s) e = (R, s) := by simp [kruStep, h]
      have h2 : stepR R e = R := by simp [stepR, h]
      rw [h1, kru_fold es R s]
      simp only [kruR, kruS, h2, if_pos h]
      simp
    · have h1 : kruStep (R, s) e = (stepR R e, s + e.c) := by simp [kruStep, h, stepR]
      rw [h1, kru_fold es _ _]
      simp only [kruR, kruS, if_neg h, Prod.mk.injEq, true_and]
      omega
theorem kruF_eq (es : List Ed) : (kruF es).2 = kruS id es := by
  unfold kruF; rw [kru_fold]; simp
/-- Each number's representative is one. -/
structure Rep (R : Nat → Nat) (n : Nat) : Prop where
  idem : ∀ i, i < n → R (R i) = R i
  bd : ∀ i, i < n → R i < n
theorem Rep.id (n : Nat) : Rep id n := ⟨fun _ _ => rfl, fun _ h => h⟩
theorem Rep.step {R : Nat → Nat} {n : Nat} (h : Rep R n) {e : Ed} (ha : e.a < n) (hb : e.b < n) : Rep (stepR R e) n := by
  unfold stepR
  split
  · exact h
  · rename_i hne
    refine ⟨fun i hi => ?_, fun i hi => ?_⟩
    · by_cases h1 : R i = R e.a
      · rw [if_pos h1, h.idem _ hb]
        split <;> rfl
      · rw [if_neg h1, h.idem _ hi, if_neg h1]
    · split
      · exact h.bd _ hb
      · exact h.bd _ hi
/-- How many parts there are. -/
def cntR (R : Nat → Nat) (n : Nat) : Nat := ((List.range n).filter fun i => decide (R i = i)).length
theorem filter_ne_len {l : List Nat} (hn : l.Nodup) {x : Nat} (hx : x ∈ l) : (l.filter fun i => decide (i ≠ x)).length + 1 = l.length := by
  induction l with
  | nil => simp at hx
  | cons a l ih =>
    rw [List.nodup_cons] at hn
    rcases List.mem_cons.1 hx with rfl | hx
    · rw [List.filter_cons_of_neg (by simp), List.filter_eq_self.2]
      · simp
      · intro y hy
        simp only [decide_eq_true_eq]
        intro e; exact hn.1 (e ▸ hy)
    · have : a ≠ x := fun e => hn.1 (e ▸ hx)
      rw [List.filter_cons_of_pos (by simpa using this), List.length_cons, List.length_cons, ih hn.2 hx]
theorem cnt_step {R : Nat → Nat} {n : Nat} (h : Rep R n) {e : Ed} (ha : e.a < n) (hb : e.b < n) : (cntR R n : Int) = cntR (stepR R e) n + if R e.a = R e.b then 0 else 1 := by
  unfold stepR
  split
  · simp
  · rename_i hne
    have e1 : ((List.range n).filter fun i => decide ((fun i => if R i = R e.a then R e.b else R i) i = i)) = ((List.range n).filter fun i => decide (R i = i)).filter fun i => decide (i ≠ R e.a) := by
      rw [List.filter_filter]
      refine List.filter_congr fun i hi => ?_
      rw [List.mem_range] at hi
      have hid := h.idem _ hb
      rw [Bool.eq_iff_iff]
      simp only [decide_eq_true_eq, Bool.and_eq_true]
      constructor
      · intro h1
        by_cases h2 : R i = R e.a
        · rw [if_pos h2] at h1
          rw [← h1, hid] at h2
          exact absurd h2.symm hne
        · rw [if_neg h2] at h1
          refine ⟨fun e => h2 ?_, h1⟩
          rw [h1, e]
      · rintro ⟨h1, h2⟩
        rw [if_neg (by rw [h2]; exact h1)]
        exact h2
    have hm : R e.a ∈ (List.range n).filter fun i => decide (R i = i) := by
      rw [List.mem_filter, List.mem_range]
      exact ⟨h.bd _ ha, by simpa using h.idem _ ha⟩
    have := filter_ne_len ((List.filter_sublist (p := fun i => decide (R i = i)) (l := List.range n)).nodup List.nodup_range) hm
    unfold cntR
    rw [e1]
    omega
theorem filter_all_gt {es : List Ed} {c t : Int} (h : ∀ e ∈ es, c ≤ e.c) (ht : t < c) : es.filter (fun e => decide (e.c ≤ t)) = [] := by
  rw [List.filter_eq_nil_iff]
  intro e he
  have := h e he
  simp only [decide_eq_true_eq]
  omega
theorem kruS_sum (n M : Nat) : ∀ (es : List Ed) (R : Nat → Nat), Rep R n → es.Pairwise (fun x y => x.c ≤ y.c) → (∀ e ∈ es, e.a < n ∧ e.b < n ∧ 0 ≤ e.c ∧ e.c ≤ (M : Int)) →
    kruS R es = sumN M fun t => (cntR (kruR R (es.filter fun e => decide (e.c ≤ (t : Int)))) n : Int) - cntR (kruR R es) n
  | [], R, _, _, _ => by
    rw [sumN_congr (g := fun t => if t < 0 then 0 else 0) fun t _ => by simp [kruR], sumN_step M 0 0 (Nat.zero_le _)]
    simp [kruS]
  | e :: es, R, hR, hs, hb => by
    rw [List.pairwise_cons] at hs
    obtain ⟨ha, hbb, hc0, hcM⟩ := hb e (by simp)
    have ih := kruS_sum n M es (stepR R e) (hR.step ha hbb) hs.2 fun e he => hb e (by simp [he])
    obtain ⟨c, hc⟩ : ∃ c : Nat, e.c = (c : Int) := ⟨e.c.toNat, by omega⟩
    have hcM' : c ≤ M := by omega
    have hcn := cnt_step hR ha hbb
    simp only [kruS]
    rw [ih]
    have e1 : sumN M (fun t => (cntR (kruR R ((e :: es).filter fun e => decide (e.c ≤ (t : Int)))) n : Int) - cntR (kruR R (e :: es)) n) =
        sumN M (fun t => ((cntR (kruR (stepR R e) (es.filter fun e => decide (e.c ≤ (t : Int)))) n : Int) - cntR (kruR (stepR R e) es) n) + if t < c then ((cntR R n : Int) - cntR (stepR R e) n) else 0) := by
      refine sumN_congr fun t _ => ?_
      by_cases ht : t < c
      · rw [if_pos ht]
        have h1 : (e :: es).filter (fun e => decide (e.c ≤ (t : Int))) = [] := filter_all_gt (c := e.c) (fun x hx => by
          rcases List.mem_cons.1 hx with rfl | hx
          · exact Int.le_refl _
          · exact hs.1 x hx) (by omega)
        have h2 : es.filter (fun e => decide (e.c ≤ (t : Int))) = [] := filter_all_gt (c := e.c) (fun x hx => hs.1 x hx) (by omega)
        rw [h1, h2]
        simp only [kruR]
        omega
      · rw [if_neg ht, List.filter_cons_of_pos (by simp only [decide_eq_true_eq]; omega)]
        simp only [kruR]
        omega
    rw [e1, sumN_add, sumN_step M c _ hcM']
    by_cases h : R e.a = R e.b
    · rw [if_pos h] at hcn ⊢
      rw [show (cntR R n : Int) - cntR (stepR R e) n = 0 by omega, Int.mul_zero]
      omega
    · rw [if_neg h] at hcn ⊢
      rw [show (cntR R n : Int) - cntR (stepR R e) n = 1 by omega, Int.mul_one]
      omega
theorem stepR_keep {R : Nat → Nat} (e : Ed) {x y : Nat} (h : R x = R y) : stepR R e x = stepR R e y := by
  unfold stepR
  split
  · exact h
  · simp only [h]
theorem kruR_keep {x y : Nat} : ∀ (es : List Ed) (R : Nat → Nat), R x = R y → kruR R es x = kruR R es y
  | [], _, h => h
  | e :: es, R, h => kruR_keep es _ (stepR_keep e h)
theorem kruR_edge : ∀ (es : List Ed) (R : Nat → Nat) (e : Ed), e ∈ es → kruR R es e.a = kruR R es e.b
  | [], _, _, h => by simp at h
  | f :: es, R, e, h => by
    simp only [kruR]
    rcases List.mem_cons.1 h with rfl | h
    · refine kruR_keep es _ ?_
      unfold stepR
      split
      · assumption
      · rename_i hne
        simp
    · exact kruR_edge es _ e h
theorem kruR_sep {U : Nat → Prop} : ∀ (es : List Ed) (R : Nat → Nat), (∀ x y, R x = R y → (U x ↔ U y)) → (∀ e ∈ es, U e.a ↔ U e.b) → ∀ x y, kruR R es x = kruR R es y → (U x ↔ U y)
  | [], _, h, _ => h
  | e :: es, R, h, he => by
    refine kruR_sep es _ ?_ fun f hf => he f (by simp [hf])
    intro x y hxy
    unfold stepR at hxy
    have hab := he e (by simp)
    split at hxy
    · exact h x y hxy
    · simp only at hxy
      by_cases hx : R x = R e.a <;> by_cases hy : R y = R e.a
      · exact h x y (hx.trans hy.symm)
      · rw [if_pos hx, if_neg hy] at hxy
        rw [h x e.a hx, hab, h e.b y hxy]
      · rw [if_neg hx, if_pos hy] at hxy
        rw [h y e.a hy, hab, h x e.b hxy]
      · rw [if_neg hx, if_neg hy] at hxy
        exact h x y hxy
theorem kruR_rep {n : Nat} : ∀ (es : List Ed) (R : Nat → Nat), Rep R n → (∀ e ∈ es, e.a < n ∧ e.b < n) → Rep (kruR R es) n
  | [], _, h, _ => h
  | e :: es, R, h, hb => kruR_rep es _ (h.step (hb e (by simp)).1 (hb e (by simp)).2) fun f hf => hb f (by simp [hf])
/-- How often neighbours differ. -/
def chg : List Nat → Nat
  | a :: b :: l => (if a = b then 0 else 1) + chg (b :: l)
  | _ => 0
theorem chg_le : ∀ (l D : List Nat), D.Nodup → (∀ x ∈ D, x ∈ l) → D.length ≤ 1 + chg l
  | [], D, _, h => by
    cases D with
    | nil => simp
    | cons a D => have := h a (by simp); simp at this
  | [a], D, hn, h => by
    have : D.length ≤ [a].length := List.Nodup.length_le_of_subset hn h
    simpa [chg] using this
  | a :: b :: l, D, hn, h => by
    simp only [chg]
    by_cases e : a = b
    · subst e
      rw [if_pos rfl]
      have := chg_le (a :: l) D hn fun x hx => by
        have := h x hx
        simp only [List.mem_cons] at this ⊢
        rcases this with rfl | rfl | h
        · exact .inl rfl
        · exact .inl rfl
        · exact .inr h
      omega
    · rw [if_neg e]
      have h1 := chg_le (b :: l) (D.erase a) (hn.erase a) fun x hx => by
        have h2 := h x (List.mem_of_mem_erase hx)
        rcases List.mem_cons.1 h2 with rfl | h3
        · exact absurd hx (by rw [hn.mem_erase_iff]; simp)
        · exact h3
      have h2 : D.length ≤ (D.erase a).length + 1 := by
        by_cases ha : a ∈ D
        · rw [List.length_erase_of_mem ha]; omega
        · rw [List.erase_of_not_mem ha]; omega
      omega
/-- What a way through numbers costs. -/
def pathC (T : Nat → Nat → Int) : List Nat → Int
  | a :: b :: l => T a b + pathC T (b :: l)
  | _ => 0
theorem path_ge {T : Nat → Nat → Int} {M : Nat} {n : Nat} (R : Nat → Nat → Nat) (hT : ∀ a b, a < n → b < n → 0 ≤ T a b ∧ T a b ≤ (M : Int)) (hR : ∀ t a b, a < n → b < n → T a b ≤ (t : Nat) → R t a = R t b) :
    ∀ p : List Nat, (∀ x ∈ p, x < n) → sumN M (fun t => (chg (p.map (R t)) : Int)) ≤ pathC T p
  | [], _ => by simp only [List.map_nil, chg, pathC]; rw [sumN_congr (g := fun t => if t < 0 then 0 else 0) fun t _ => by simp, sumN_step M 0 0 (Nat.zero_le _)]; simp
  | [a], _ => by simp only [List.map_cons, List.map_nil, chg, pathC]; rw [sumN_congr (g := fun t => if t < 0 then 0 else 0) fun t _ => by simp, sumN_step M 0 0 (Nat.zero_le _)]; simp
  | a :: b :: l, h => by
    have ih := path_ge R hT hR (b :: l) fun x hx => h x (by simp [hx])
    simp only [List.map_cons, chg, pathC] at ih ⊢
    have ha := h a (by simp)
    have hb := h b (by simp)
    obtain ⟨h0, h1⟩ := hT a b ha hb
    obtain ⟨c, hc⟩ : ∃ c : Nat, T a b = (c : Int) := ⟨(T a b).toNat, by omega⟩
    have h2 := sumN_step M c 1 (by omega)
    have h3 : sumN M (fun t => (((if R t a = R t b then 0 else 1) + chg (R t b :: l.map (R t)) : Nat) : Int)) ≤ sumN M (fun t => (if t < c then 1 else 0) + (chg (R t b :: l.map (R t)) : Int)) := by
      refine sumN_le fun t _ => ?_
      by_cases ht : t < c
      · rw [if_pos ht]; push_cast; split <;> omega
      · rw [if_neg ht, if_pos (hR t a b ha hb (by omega))]; push_cast; omega
    rw [sumN_add, h2] at h3
    omega
/-- All edges are there, some way round. -/
theorem mem_edTo {T : Nat → Nat → Int} {n : Nat} {e : Ed} : e ∈ edTo T n ↔ e.a < n ∧ e.b < e.a ∧ e.c = T e.a e.b := by
  unfold edTo edRow
  rw [List.mem_flatMap]
  constructor
  · rintro ⟨p, hp, he⟩
    obtain ⟨q, hq, rfl⟩ := List.mem_map.1 he
    exact ⟨List.mem_range.1 hp, List.mem_range.1 hq, rfl⟩
  · rintro ⟨h1, h2, h3⟩
    exact ⟨e.a, List.mem_range.2 h1, List.mem_map.2 ⟨e.b, List.mem_range.2 h2, by cases e; simp only at h3; subst h3; rfl⟩⟩
/-- The parts when all edges up to a cost are joined. -/
def partR (es : List Ed) (t : Nat) : Nat → Nat := kruR id (es.filter fun e => decide (e.c ≤ (t : Int)))
section
variable {T : Nat → Nat → Int} {n M : Nat} {es : List Ed}
theorem part_edge (hp : es.Perm (edTo T n)) (hsym : ∀ a b, T a b = T b a) {t a b : Nat} (ha : a < n) (hb : b < n) (h : T a b ≤ (t : Int)) : partR es t a = partR es t b := by
  rcases Nat.lt_trichotomy a b with h1 | rfl | h1
  · have := kruR_edge (es.filter fun e => decide (e.c ≤ (t : Int))) id ⟨b, a, T b a⟩ (List.mem_filter.2 ⟨hp.mem_iff.2 (mem_edTo.2 ⟨hb, h1, rfl⟩), by simpa [hsym b a] using h⟩)
    exact this.symm
  · rfl
  · exact kruR_edge (es.filter fun e => decide (e.c ≤ (t : Int))) id ⟨a, b, T a b⟩ (List.mem_filter.2 ⟨hp.mem_iff.2 (mem_edTo.2 ⟨ha, h1, rfl⟩), by simpa using h⟩)
theorem ed_bd (hp : es.Perm (edTo T n)) : ∀ e ∈ es, e.a < n ∧ e.b < n := fun e he => by
  obtain ⟨h1, h2, -⟩ := mem_edTo.1 (hp.mem_iff.1 he)
  exact ⟨h1, by omega⟩
theorem part_rep (hp : es.Perm (edTo T n)) (t : Nat) : Rep (partR es t) n := kruR_rep _ _ (Rep.id n) fun e he => ed_bd hp e (List.mem_filter.1 he).1
theorem all_one (hp : es.Perm (edTo T n)) (hn : 1 ≤ n) : cntR (kruR id es) n = 1 := by
  have hall : ∀ x y, x < n → y < n → kruR id es x = kruR id es y := by
    intro x y hx hy
    rcases Nat.lt_trichotomy x y with h1 | rfl | h1
    · exact (kruR_edge es id ⟨y, x, T y x⟩ (hp.mem_iff.2 (mem_edTo.2 ⟨hy, h1, rfl⟩))).symm
    · rfl
    · exact kruR_edge es id ⟨x, y, T x y⟩ (hp.mem_iff.2 (mem_edTo.2 ⟨hx, h1, rfl⟩))
  have hrep := kruR_rep es id (Rep.id n) (ed_bd hp)
  have h1 : ((List.range n).filter fun i => decide (kruR id es i = i)) = [kruR id es 0] ∨ True := .inr trivial
  have hm : kruR id es 0 ∈ (List.range n).filter fun i => decide (kruR id es i = i) := by
    rw [List.mem_filter, List.mem_range]
    exact ⟨hrep.bd 0 (by omega), by simpa using hrep.idem 0 (by omega)⟩
  have h2 : ((List.range n).filter fun i => decide (kruR id es i = i)).length ≤ [kruR id es 0].length := by
    refine List.Nodup.length_le_of_subset ((List.filter_sublist (p := fun i => decide (kruR id es i = i)) (l := List.range n)).nodup List.nodup_range) fun x hx => ?_
    rw [List.mem_filter, List.mem_range] at hx
    have hx2 : kruR id es x = x := by simpa using hx.2
    rw [List.mem_singleton, ← hall x 0 hx.1 (by omega), hx2]
  have h3 := List.length_pos_of_mem hm
  unfold cntR
  simp at h2
  omega
theorem kru_parts (hp : es.Perm (edTo T n)) (hs : es.Pairwise (fun x y => x.c ≤ y.c)) (hn : 1 ≤ n) (hT : ∀ a b, a < n → b < n → 0 ≤ T a b ∧ T a b ≤ (M : Int)) : (kruF es).2 = sumN M fun t => (cntR (partR es t) n : Int) - 1 := by
  rw [kruF_eq, kruS_sum n M es id (Rep.id n) hs (fun e he => by
    obtain ⟨h1, h2, h3⟩ := mem_edTo.1 (hp.mem_iff.1 he)
    rw [h3]
    exact ⟨h1, by omega, hT _ _ h1 (by omega)⟩)]
  refine sumN_congr fun t _ => ?_
  rw [all_one hp hn]
  rfl
/-- The joined edges cost at most what a way through all numbers costs. -/
theorem kru_path (hp : es.Perm (edTo T n)) (hs : es.Pairwise (fun x y => x.c ≤ y.c)) (hn : 1 ≤ n) (hT : ∀ a b, a < n → b < n → 0 ≤ T a b ∧ T a b ≤ (M : Int)) (hsym : ∀ a b, T a b = T b a) {p : List Nat} (hpp : p.Perm (List.range n)) : (kruF es).2 ≤ pathC T p := by
  have hmem : ∀ x ∈ p, x < n := fun x hx => List.mem_range.1 (hpp.mem_iff.1 hx)
  refine Int.le_trans ?_ (path_ge (M := M) (n := n) (partR es) hT (fun t a b ha hb h => part_edge hp hsym ha hb h) p hmem)
  rw [kru_parts hp hs hn hT]
  refine sumN_le fun t _ => ?_
  have h1 := chg_le (p.map (partR es t)) ((List.range n).filter fun i => decide (partR es t i = i)) ((List.filter_sublist (p := fun i => decide (partR es t i = i)) (l := List.range n)).nodup List.nodup_range) (fun x hx => by
    rw [List.mem_filter] at hx
    exact List.mem_map.2 ⟨x, hpp.mem_iff.2 hx.1, by simpa using hx.2⟩)
  unfold cntR
  omega
end
theorem sub_perm {l m : List Nat} (hl : l.Nodup) (hs : ∀ x ∈ l, x ∈ m) (hn : l.length = m.length) : l.Perm m := by
  induction l generalizing m with
  | nil => rw [List.length_eq_zero_iff.1 hn.symm]
  | cons a l ih =>
    rw [List.nodup_cons] at hl
    have ha := hs a (by simp)
    have h1 := ih hl.2 (m := m.erase a) (fun x hx => (List.mem_erase_of_ne (fun (e : x = a) => hl.1 (by rw [← e]; exact hx))).2 (hs x (by simp [hx]))) (by
      rw [List.length_erase_of_mem ha, ← hn]; simp)
    exact (h1.cons a).trans (List.perm_cons_erase ha).symm
/-! ### The reference's tree: the nearest number joins, one after another -/
/-- Each of a list once. -/
def dd : List Nat → List Nat
  | [] => []
  | a :: l => if a ∈ l then dd l else a :: dd l
theorem mem_dd (x : Nat) : ∀ l, x ∈ dd l ↔ x ∈ l
  | [] => by simp [dd]
  | a :: l => by
    have ih := mem_dd x l
    simp only [dd]
    split
    · rename_i h
      rw [ih, List.mem_cons]
      exact ⟨.inr, fun h' => h'.elim (fun e => e ▸ h) id⟩
    · rw [List.mem_cons, List.mem_cons, ih]
theorem nodup_dd : ∀ l, (dd l).Nodup
  | [] => by simp [dd]
  | a :: l => by
    simp only [dd]
    split
    · exact nodup_dd l
    · rename_i h
      exact List.nodup_cons.2 ⟨fun h' => h ((mem_dd a l).1 h'), nodup_dd l⟩
theorem dd_len_eq {l m : List Nat} (hm : m.Nodup) (h : ∀ x, x ∈ m ↔ x ∈ l) : (dd l).length = m.length :=
  ((List.perm_ext_iff_of_nodup (nodup_dd l) hm).2 fun x => by rw [mem_dd, h]).length_eq
theorem dd_snoc (l : List Nat) (a : Nat) : (dd (l ++ [a])).length = (dd l).length + if a ∈ l then 0 else 1 := by
  split
  · rename_i h
    exact dd_len_eq (nodup_dd l) fun x => by
      rw [mem_dd, List.mem_append, List.mem_singleton]
      exact ⟨.inl, fun h' => h'.elim id fun e => e ▸ h⟩
  · rename_i h
    have : (dd l ++ [a]).Nodup := by
      rw [List.nodup_append]
      refine ⟨nodup_dd l, by simp, ?_⟩
      intro x hx y hy e
      simp only [List.mem_singleton] at hy
      subst hy e
      exact h ((mem_dd _ l).1 hx)
    rw [dd_len_eq this fun x => by rw [List.mem_append, List.mem_append, mem_dd]]
    simp
def lessO (o : Option Int) (x : Int) : Bool := match o with | none => true | some c => decide (x < c)
/-- The least distance of i to those of the first k that are in. -/
def minIn (T : Nat → Nat → Int) (inB : Nat → Bool) (i : Nat) : Nat → Option Int
  | 0 => none
  | k + 1 => if (inB k && lessO (minIn T inB i k) (T k i)) = true then some (T k i) else minIn T inB i k
theorem minIn_none {T : Nat → Nat → Int} {inB : Nat → Bool} {i : Nat} : ∀ k, minIn T inB i k = none ↔ ∀ j, j < k → inB j = false
  | 0 => by simp [minIn]
  | k + 1 => by
    have ih := minIn_none (T := T) (inB := inB) (i := i) k
    simp only [minIn]
    split
    · rename_i h
      rw [Bool.and_eq_true] at h
      constructor
      · intro h'; cases h'
      · intro h'; rw [h' k (by omega)] at h; exact absurd h.1 (by simp)
    · rename_i h
      rw [ih]
      constructor
      · intro h' j hj
        rcases Nat.lt_or_ge j k with h1 | h1
        · exact h' j h1
        · obtain rfl : j = k := by omega
          rw [ih.2 h'] at h
          simpa [lessO] using h
      · intro h' j hj; exact h' j (by omega)
theorem minIn_some {T : Nat → Nat → Int} {inB : Nat → Bool} {i : Nat} {c : Int} : ∀ k, minIn T inB i k = some c → (∃ j, j < k ∧ inB j = true ∧ T j i = c) ∧ ∀ j, j < k → inB j = true → c ≤ T j i
  | 0, h => by simp [minIn] at h
  | k + 1, h => by
    have ih := fun c => minIn_some (T := T) (inB := inB) (i := i) (c := c) k
    simp only [minIn] at h
    split at h
    · rename_i h1
      rw [Bool.and_eq_true] at h1
      simp only [Option.some.injEq] at h
      subst h
      refine ⟨⟨k, by omega, h1.1, rfl⟩, fun j hj hin => ?_⟩
      rcases Nat.lt_or_ge j k with h2 | h2
      · cases hm : minIn T inB i k with
        | none => rw [(minIn_none k).1 hm j h2] at hin; cases hin
        | some d =>
          rw [hm] at h1
          have := (ih d hm).2 j h2 hin
          have h3 : T k i < d := by simpa [lessO] using h1.2
          omega
      · obtain rfl : j = k := by omega
        exact Int.le_refl _
    · rename_i h1
      obtain ⟨⟨j, hj, h2, h3⟩, h4⟩ := ih c h
      refine ⟨⟨j, by omega, h2, h3⟩, fun j' hj' hin => ?_⟩
      rcases Nat.lt_or_ge j' k with h5 | h5
      · exact h4 j' h5 hin
      · obtain rfl : j' = k := by omega
        rw [h, hin, Bool.true_and] at h1
        have : ¬ T j' i < c := by simpa [lessO] using h1
        omega
/-- The first of those that are not in at which c is least, and what it is there. -/
def pickF (c : Nat → Int) (inB : Nat → Bool) : Nat → Option (Nat × Int)
  | 0 => none
  | i + 1 => if inB i then pickF c inB i else match pickF c inB i with
    | none => some (i, c i)
    | some (a, v) => if c i < v then some (i, c i) else some (a, v)
theorem pickF_none {c : Nat → Int} {inB : Nat → Bool} : ∀ k, pickF c inB k = none ↔ ∀ j, j < k → inB j = true
  | 0 => by simp [pickF]
  | k + 1 => by
    have ih := pickF_none (c := c) (inB := inB) k
    simp only [pickF]
    split
    · rename_i h
      rw [ih]
      constructor
      · intro h' j hj
        rcases Nat.lt_or_ge j k with h1 | h1
        · exact h' j h1
        · obtain rfl : j = k := by omega
          exact h
      · intro h' j hj; exact h' j (by omega)
    · rename_i h
      constructor
      · intro h'
        split at h'
        · cases h'
        · split at h' <;> cases h'
      · intro h'; exact absurd (h' k (by omega)) h
theorem pickF_some {c : Nat → Int} {inB : Nat → Bool} {a : Nat} {v : Int} : ∀ k, pickF c inB k = some (a, v) → a < k ∧ inB a = false ∧ v = c a ∧ ∀ j, j < k → inB j = false → v ≤ c j
  | 0, h => by simp [pickF] at h
  | k + 1, h => by
    have ih := fun a v => pickF_some (c := c) (inB := inB) (a := a) (v := v) k
    simp only [pickF] at h
    split at h
    · rename_i hk
      obtain ⟨h1, h2, h3, h4⟩ := ih a v h
      refine ⟨by omega, h2, h3, fun j hj hin => ?_⟩
      rcases Nat.lt_or_ge j k with h5 | h5
      · exact h4 j h5 hin
      · obtain rfl : j = k := by omega
        rw [hk] at hin; cases hin
    · rename_i hk
      have hk' : inB k = false := by simpa using hk
      split at h
      · rename_i hn
        simp only [Option.some.injEq, Prod.mk.injEq] at h
        obtain ⟨rfl, rfl⟩ := h
        refine ⟨by omega, hk', rfl, fun j hj hin => ?_⟩
        rcases Nat.lt_or_ge j k with h5 | h5
        · rw [(pickF_none k).1 hn j h5] at hin; cases hin
        · obtain rfl : j = k := by omega
          exact Int.le_refl _
      · rename_i a' v' hs
        obtain ⟨h1, h2, h3, h4⟩ := ih a' v' hs
        split at h
        · rename_i hlt
          simp only [Option.some.injEq, Prod.mk.injEq] at h
          obtain ⟨rfl, rfl⟩ := h
          refine ⟨by omega, hk', rfl, fun j hj hin => ?_⟩
          rcases Nat.lt_or_ge j k with h5 | h5
          · have := h4 j h5 hin; omega
          · obtain rfl : j = k := by omega
            exact Int.le_refl _
        · rename_i hlt
          simp only [Option.some.injEq, Prod.mk.injEq] at h
          obtain ⟨rfl, rfl⟩ := h
          refine ⟨by omega, h2, h3, fun j hj hin => ?_⟩
          rcases Nat.lt_or_ge j k with h5 | h5
          · exact h4 j h5 hin
          · obtain rfl : j = k := by omega
            omega
/-- What a number's joining costs. -/
def joinC (T : Nat → Nat → Int) (n : Nat) (vs : List Nat) (i : Nat) : Int := if vs = [] then 0 else (minIn T (fun j => decide (j ∈ vs)) i n).getD 0
/-- Those that are in after some rounds, and what they have cost. -/
def primF (T : Nat → Nat → Int) (n : Nat) : Nat → List Nat × Int
  | 0 => ([], 0)
  | r + 1 => match pickF (joinC T n (primF T n r).1) (fun j => decide (j ∈ (primF T n r).1)) n with
    | some (a, v) => ((primF T n r).1 ++ [a], (primF T n r).2 + v)
    | none => primF T n r
section
variable {T : Nat → Nat → Int} {n M : Nat} {es : List Ed}
theorem joinC_spec {vs : List Nat} {i : Nat} (hv : vs ≠ []) (hb : ∀ x ∈ vs, x < n) : (∃ k ∈ vs, T k i = joinC T n vs i) ∧ ∀ k ∈ vs, joinC T n vs i ≤ T k i := by
  unfold joinC
  rw [if_neg hv]
  cases h : minIn T (fun j => decide (j ∈ vs)) i n with
  | none =>
    obtain ⟨x, hx⟩ := List.exists_mem_of_ne_nil vs hv
    have := (minIn_none n).1 h x (hb x hx)
    simp [hx] at this
  | some c =>
    obtain ⟨⟨j, hj, h1, h2⟩, h3⟩ := minIn_some n h
    refine ⟨⟨j, by simpa using h1, h2⟩, fun k hk => h3 k (hb k hk) (by simpa using hk)⟩
theorem prim_step (hp : es.Perm (edTo T n)) (hsym : ∀ a b, T a b = T b a) (hT : ∀ a b, a < n → b < n → 0 ≤ T a b ∧ T a b ≤ (M : Int)) {vs : List Nat} (hv : vs ≠ []) (hb : ∀ x ∈ vs, x < n) {a : Nat} {v : Int} (han : a < n) (ha : a ∉ vs)
    (h1 : ∃ k ∈ vs, T k a = v) (h2 : ∀ k ∈ vs, ∀ i, i < n → i ∉ vs → v ≤ T k i) :
    sumN M (fun t => ((dd ((vs ++ [a]).map (partR es t))).length : Int) - 1) = sumN M (fun t => ((dd (vs.map (partR es t))).length : Int) - 1) + v := by
  obtain ⟨k, hk, hkv⟩ := h1
  obtain ⟨h0, hM⟩ := hT k a (hb k hk) han
  obtain ⟨c, hc⟩ : ∃ c : Nat, v = (c : Int) := ⟨v.toNat, by omega⟩
  have e1 := sumN_step M c 1 (by omega)
  rw [Int.mul_one] at e1
  rw [hc, ← e1, ← sumN_add]
  refine sumN_congr fun t _ => ?_
  rw [List.map_append, List.map_cons, List.map_nil, dd_snoc]
  by_cases ht : t < c
  · rw [if_pos ht, if_neg]
    · push_cast; omega
    · intro hm
      obtain ⟨x, hx, hxe⟩ := List.mem_map.1 hm
      have := kruR_sep (U := fun y => y ∈ vs) (es.filter fun e => decide (e.c ≤ (t : Int))) id (fun x y e => by rw [show x = y from e]) (fun e he => by
        rw [List.mem_filter] at he
        obtain ⟨q1, q2, q3⟩ := mem_edTo.1 (hp.mem_iff.1 he.1)
        have q4 : e.c ≤ (t : Int) := by simpa using he.2
        constructor
        · intro h3
          by_cases h4 : e.b ∈ vs
          · exact h4
          · have := h2 e.a h3 e.b (by omega) h4; omega
        · intro h3
          by_cases h4 : e.a ∈ vs
          · exact h4
          · have := h2 e.b h3 e.a q1 h4; rw [hsym] at this; omega) x a hxe
      exact ha (this.1 hx)
  · rw [if_neg ht, if_pos]
    · omega
    · exact List.mem_map.2 ⟨k, hk, part_edge hp hsym (hb k hk) han (by omega)⟩
theorem prim_inv (hp : es.Perm (edTo T n)) (hsym : ∀ a b, T a b = T b a) (hT : ∀ a b, a < n → b < n → 0 ≤ T a b ∧ T a b ≤ (M : Int)) : ∀ r, r < n → ((primF T n (r + 1)).1.Nodup ∧ (primF T n (r + 1)).1.length = r + 1 ∧ (∀ x ∈ (primF T n (r + 1)).1, x < n)) ∧
    (primF T n (r + 1)).2 = sumN M (fun t => ((dd ((primF T n (r + 1)).1.map (partR es t))).length : Int) - 1)
  | 0, hr => by
    have h0 : primF T n 0 = ([], 0) := rfl
    have h1 : ∃ a, a < n ∧ primF T n 1 = ([a], 0) := by
      cases hpk : pickF (joinC T n (primF T n 0).1) (fun j => decide (j ∈ (primF T n 0).1)) n with
      | none => have := (pickF_none n).1 hpk 0 hr; simp [primF] at this
      | some x =>
        obtain ⟨a, v⟩ := x
        obtain ⟨q1, q2, q3, q4⟩ := pickF_some n hpk
        refine ⟨a, q1, ?_⟩
        have hv : v = 0 := by rw [q3]; simp [joinC, primF]
        show (match pickF (joinC T n (primF T n 0).1) (fun j => decide (j ∈ (primF T n 0).1)) n with
          | some (a, v) => ((primF T n 0).1 ++ [a], (primF T n 0).2 + v)
          | none => primF T n 0) = ([a], 0)
        rw [hpk, hv]
        rfl
    obtain ⟨a, ha, h1⟩ := h1
    rw [show 0 + 1 = 1 from rfl, h1]
    refine ⟨⟨by simp, rfl, by simpa using ha⟩, ?_⟩
    rw [sumN_congr (g := fun t => if t < 0 then 0 else 0) fun t _ => by simp [dd], sumN_step M 0 0 (Nat.zero_le _)]
    simp
  | r + 1, hr => by
    obtain ⟨⟨h1, h2, h3⟩, h4⟩ := prim_inv hp hsym hT r (by omega)
    obtain ⟨vs, s, hvs⟩ : ∃ vs s, primF T n (r + 1) = (vs, s) := ⟨_, _, rfl⟩
    rw [hvs] at h1 h2 h3 h4
    simp only at h1 h2 h3 h4
    have hne : vs ≠ [] := fun e => by rw [e] at h2; simp at h2
    cases hpk : pickF (joinC T n vs) (fun j => decide (j ∈ vs)) n with
    | none =>
      have hall := (pickF_none n).1 hpk
      have : (List.range n).length ≤ vs.length := List.Nodup.length_le_of_subset List.nodup_range fun x hx => by
        have := hall x (List.mem_range.1 hx)
        simpa using this
      rw [List.length_range] at this
      omega
    | some x =>
      obtain ⟨a, v⟩ := x
      obtain ⟨q1, q2, q3, q4⟩ := pickF_some n hpk
      have hav : a ∉ vs := by simpa using q2
      have e1 : primF T n (r + 1 + 1) = (vs ++ [a], s + v) := by
        have : primF T n (r + 1 + 1) = match pickF (joinC T n (primF T n (r + 1)).1) (fun j => decide (j ∈ (primF T n (r + 1)).1)) n with
          | some (a, v) => ((primF T n (r + 1)).1 ++ [a], (primF T n (r + 1)).2 + v)
          | none => primF T n (r + 1) := rfl
        rw [this, hvs]
        simp only
        rw [hpk]
      rw [e1]
      refine ⟨⟨?_, by simp [h2], ?_⟩, ?_⟩
      · rw [List.nodup_append]
        refine ⟨h1, by simp, ?_⟩
        intro x hx y hy e
        simp only [List.mem_singleton] at hy
        subst hy e
        exact hav hx
      · intro x hx
        rcases List.mem_append.1 hx with hx | hx
        · exact h3 x hx
        · simp only [List.mem_singleton] at hx; omega
      · obtain ⟨⟨k, hk, hkv⟩, -⟩ := joinC_spec (T := T) (i := a) hne h3
        have := prim_step hp hsym hT hne h3 q1 hav (v := v) ⟨k, hk, by rw [hkv, q3]⟩ (fun k hk i hi hiv => by
          have h5 := q4 i hi (by simpa using hiv)
          have h6 := (joinC_spec (T := T) (i := i) hne h3).2 k hk
          omega)
        rw [this, h4]
theorem prim_kru (hp : es.Perm (edTo T n)) (hs : es.Pairwise (fun x y => x.c ≤ y.c)) (hsym : ∀ a b, T a b = T b a) (hT : ∀ a b, a < n → b < n → 0 ≤ T a b ∧ T a b ≤ (M : Int)) : (primF T n n).2 = (kruF es).2 := by
  cases n with
  | zero =>
    have : es = [] := by
      have : edTo T 0 = [] := rfl
      rw [this] at hp
      exact hp.eq_nil
    subst this
    rfl
  | succ m =>
    obtain ⟨⟨h1, h2, h3⟩, h4⟩ := prim_inv hp hsym hT m (by omega)
    rw [h4, kru_parts hp hs (by omega) hT]
    refine sumN_congr fun t _ => ?_
    congr 2
    have hrep := part_rep hp t
    have hall : ∀ x, x < m + 1 → x ∈ (primF T (m + 1) (m + 1)).1 := by
      have hpm : (primF T (m + 1) (m + 1)).1.Perm (List.range (m + 1)) :=
        (sub_perm h1 fun x hx => List.mem_range.2 (h3 x hx)) (by rw [h2, List.length_range])
      exact fun x hx => hpm.mem_iff.2 (List.mem_range.2 hx)
    unfold cntR
    refine dd_len_eq ((List.filter_sublist (p := fun i => decide (partR es t i = i)) (l := List.range (m + 1))).nodup List.nodup_range) fun x => ?_
    rw [List.mem_filter, List.mem_range, decide_eq_true_eq, List.mem_map]
    constructor
    · rintro ⟨hx, hxe⟩; exact ⟨x, hall x hx, hxe⟩
    · rintro ⟨y, hy, rfl⟩; exact ⟨hrep.bd y (h3 y hy), hrep.idem y (h3 y hy)⟩
end
/-! ### The cheapest order -/
theorem bit_sub {x q : Nat} (h : x.testBit q = true) (j : Nat) : (x - 2 ^ q).testBit j = (x.testBit j && decide (j ≠ q)) := by
  have h1 : x = 2 ^ q * (2 * (x / 2 ^ (q + 1)) + 1) + x % 2 ^ q := by
    have e1 : x = 2 ^ q * (x / 2 ^ q) + x % 2 ^ q := (Nat.div_add_mod x (2 ^ q)).symm
    have e2 : x / 2 ^ q = 2 * (x / 2 ^ (q + 1)) + 1 := by
      rw [Nat.pow_succ, ← Nat.div_div_eq_div_mul]
      have : x / 2 ^ q % 2 = 1 := by
        rw [Nat.testBit_eq_decide_div_mod_eq] at h
        simpa using h
      omega
    rw [← e2]; exact e1
  have h2 : x - 2 ^ q = 2 ^ q * (2 * (x / 2 ^ (q + 1))) + x % 2 ^ q := by
    have : 2 ^ q * (2 * (x / 2 ^ (q + 1)) + 1) = 2 ^ q * (2 * (x / 2 ^ (q + 1))) + 2 ^ q := by rw [Nat.mul_add, Nat.mul_one]
    omega
  have hlt : x % 2 ^ q < 2 ^ q := Nat.mod_lt _ (Nat.two_pow_pos q)
  rw [h2, Nat.testBit_two_pow_mul_add _ hlt]
  conv => rhs; rw [h1, Nat.testBit_two_pow_mul_add _ hlt]
  by_cases hj : j < q
  · rw [if_pos hj, if_pos hj]
    have : j ≠ q := by omega
    simp [this]
  · rw [if_neg hj, if_neg hj]
    by_cases e : j = q
    · subst e
      simp
    · obtain ⟨i, hi⟩ : ∃ i, j - q = i + 1 := ⟨j - q - 1, by omega⟩
      rw [hi, Nat.testBit_succ, Nat.testBit_succ]
      have e1 : 2 * (x / 2 ^ (q + 1)) / 2 = x / 2 ^ (q + 1) := by omega
      have e2 : (2 * (x / 2 ^ (q + 1)) + 1) / 2 = x / 2 ^ (q + 1) := by omega
      rw [e1, e2]
      simp [e]
/-- A list has the numbers of a set, each once. -/
structure WayOf (left : Nat) (p : List Nat) : Prop where
  nodup : p.Nodup
  mem : ∀ x, x ∈ p ↔ left.testBit x = true
theorem WayOf.tail {left q : Nat} {p : List Nat} (h : WayOf left (q :: p)) : left.testBit q = true ∧ WayOf (left - 2 ^ q) p := by
  have hq : left.testBit q = true := (h.mem q).1 (by simp)
  have hn := List.nodup_cons.1 h.nodup
  refine ⟨hq, hn.2, fun x => ?_⟩
  rw [bit_sub hq, Bool.and_eq_true, decide_eq_true_eq, ← h.mem, List.mem_cons]
  constructor
  · intro hx; exact ⟨.inr hx, fun e => hn.1 (e ▸ hx)⟩
  · rintro ⟨h1 | h1, h2⟩
    · exact absurd h1 h2
    · exact h1
theorem WayOf.cons {left q : Nat} {p : List Nat} (hq : left.testBit q = true) (h : WayOf (left - 2 ^ q) p) : WayOf left (q :: p) := by
  have hmem : ∀ x, x ∈ p ↔ left.testBit x = true ∧ x ≠ q := fun x => by rw [h.mem, bit_sub hq, Bool.and_eq_true, decide_eq_true_eq]
  refine ⟨List.nodup_cons.2 ⟨fun hm => ((hmem q).1 hm).2 rfl, h.nodup⟩, fun x => ?_⟩
  rw [List.mem_cons, hmem]
  constructor
  · rintro (rfl | h1)
    · exact hq
    · exact h1.1
  · intro h1
    by_cases e : x = q
    · exact .inl e
    · exact .inr ⟨h1, e⟩
theorem WayOf.nil {left : Nat} (h : WayOf left []) : left = 0 := by
  apply Nat.eq_of_testBit_eq
  intro i
  rw [Nat.zero_testBit]
  cases T : left.testBit i with
  | false => rfl
  | true => have := (h.mem i).2 T; simp at this
theorem WayOf.zero : WayOf 0 [] := ⟨.nil, fun x => by simp⟩
section
variable {T : Nat → Nat → Int} {n : Nat} {C : Int}
theorem bestTo_min {R : Nat → Nat → Int} {left frm : Nat} (hT : ∀ q, q < n → 0 ≤ T frm q) (hR : ∀ q, q < n → left.testBit q = true → 0 ≤ R (left - 2 ^ q) q) : ∀ k, k ≤ n → ∀ q, q < k → left.testBit q = true → bestTo T R left frm k ≤ T frm q + R (left - 2 ^ q) q
  | 0, _, q, hq, _ => by omega
  | k + 1, hk, q, hq, hb => by
    have ih := bestTo_min hT hR k (by omega)
    have hge := bestTo_ge hT hR k (by omega)
    simp only [bestTo]
    rcases Nat.lt_or_ge q k with h1 | h1
    · have h2 := ih q h1 hb
      have h3 := hge.2 ⟨q, h1, hb⟩
      by_cases e : left.testBit k = true
      · rw [if_pos e]
        split <;> omega
      · rw [if_neg e]; exact h2
    · obtain rfl : q = k := by omega
      rw [if_pos hb]
      split <;> omega
theorem rst_le (hC : 0 ≤ C) (hT : ∀ p q, p < n → q < n → 0 ≤ T p q ∧ T p q ≤ C) : ∀ (p : List Nat) (left frm : Nat), WayOf left p → left < 2 ^ n → frm < n → left.testBit frm = false → rstV T n left frm ≤ pathC T (frm :: p)
  | [], left, frm, h, _, _, _ => by
    rw [h.nil, rstV_eq, if_pos (.inr rfl)]
    exact Int.le_refl _
  | q :: p, left, frm, h, hl, hf, hb => by
    obtain ⟨hq, ht⟩ := h.tail
    have h0 : left ≠ 0 := fun e => by rw [e, Nat.zero_testBit] at hq; cases hq
    have hqn : q < n := by
      rcases Nat.lt_or_ge q n with h1 | h1
      · exact h1
      · rw [Nat.testBit_lt_two_pow (Nat.lt_of_lt_of_le hl (Nat.pow_le_pow_right (by omega) h1))] at hq; cases hq
    have hlt := sub_lt' hq
    have hR : ∀ q, q < n → left.testBit q = true → 0 ≤ rstV T n (left - 2 ^ q) q := fun q hqn hq => by
      have := sub_lt' hq
      exact (rstV_bd hC hT (left + 1) (left - 2 ^ q) q (by omega) (by omega) hqn).1
    have h1 := bestTo_min (frm := frm) (fun q hq => (hT frm q hf hq).1) hR n (Nat.le_refl _) q hqn hq
    have h2 := rst_le hC hT p (left - 2 ^ q) q ht (by omega) hqn (by rw [bit_sub hq]; simp)
    rw [rstV_eq, if_neg (by simp [hb, h0])]
    simp only [pathC]
    omega
/-- The rest of the cheapest order: what it is, and what it costs. -/
theorem way_ok (hC : 0 ≤ C) (hT : ∀ p q, p < n → q < n → 0 ≤ T p q ∧ T p q ≤ C) : ∀ (f left frm : Nat), left ≤ f → left < 2 ^ n → frm < n → left.testBit frm = false → WayOf left (wayF T (rstV T n) n f left frm) ∧ pathC T (frm :: wayF T (rstV T n) n f left frm) = rstV T n left frm
  | 0, left, frm, hlf, _, _, _ => by
    obtain rfl : left = 0 := by omega
    refine ⟨WayOf.zero, ?_⟩
    rw [rstV_eq, if_pos (.inr rfl)]
    rfl
  | f + 1, left, frm, hlf, hl, hf, hb => by
    by_cases h0 : left = 0
    · subst h0
      simp only [wayF, if_pos]
      refine ⟨WayOf.zero, ?_⟩
      rw [rstV_eq, if_pos (.inr rfl)]
      rfl
    · obtain ⟨q0, hq0, hfit0⟩ := fit_some hC hT hl h0 hf hb
      obtain ⟨q, hqn, hfit, hmin⟩ : ∃ q, q < n ∧ fitB T (rstV T n) left frm q = true ∧ ∀ j, j < q → fitB T (rstV T n) left frm j = false := by
        have hex : ∃ k, k < q0 + 1 ∧ fitB T (rstV T n) left frm k = true := ⟨q0, by omega, hfit0⟩
        clear hfit0
        have : ∀ m, m ≤ n → (∃ k, k < m ∧ fitB T (rstV T n) left frm k = true) → ∃ q, q < n ∧ fitB T (rstV T n) left frm q = true ∧ ∀ j, j < q → fitB T (rstV T n) left frm j = false := by
          intro m
          induction m with
          | zero => rintro _ ⟨k, hk, _⟩; omega
          | succ m ih =>
            intro hm hx
            by_cases h1 : ∃ k, k < m ∧ fitB T (rstV T n) left frm k = true
            · exact ih (by omega) h1
            · obtain ⟨k, hk, hkf⟩ := hx
              refine ⟨k, by omega, hkf, fun j hj => ?_⟩
              cases hT : fitB T (rstV T n) left frm j with
              | false => rfl
              | true => exact absurd ⟨j, by omega, hT⟩ h1
        exact this (q0 + 1) (by omega) hex
      have hw : wayF T (rstV T n) n (f + 1) left frm = q :: wayF T (rstV T n) n f (left - 2 ^ q) q := by
        simp only [wayF]; rw [if_neg h0, fIdx_some hqn hfit hmin]
      have hfit' := hfit
      unfold fitB at hfit'
      rw [Bool.and_eq_true, decide_eq_true_eq] at hfit'
      have hlt := sub_lt' hfit'.1
      obtain ⟨h1, h2⟩ := way_ok hC hT f (left - 2 ^ q) q (by omega) (by omega) hqn (by rw [bit_sub hfit'.1]; simp)
      rw [hw]
      refine ⟨h1.cons hfit'.1, ?_⟩
      simp only [pathC]
      rw [h2, hfit'.2]
theorem firstTo_min {c : Nat → Int} : ∀ k j, j < k → (firstTo c k).2 ≤ c j
  | 0, j, h => by omega
  | k + 1, j, h => by
    simp only [firstTo]
    rcases Nat.lt_or_ge j k with h1 | h1
    · have := firstTo_min (c := c) k j h1
      split
      · simp only; omega
      · exact this
    · obtain rfl : j = k := by omega
      split
      · exact Int.le_refl _
      · omega
theorem firstTo_at {c : Nat → Int} : ∀ k, (firstTo c k).2 = c (firstTo c k).1 ∧ (1 ≤ k → (firstTo c k).1 < k)
  | 0 => ⟨rfl, fun h => by omega⟩
  | k + 1 => by
    obtain ⟨h1, h2⟩ := firstTo_at (c := c) k
    simp only [firstTo]
    split
    · exact ⟨rfl, fun _ => by simp⟩
    · refine ⟨h1, fun _ => ?_⟩
      rcases Nat.eq_zero_or_pos k with h | h
      · subst h; simp [firstTo]
      · have := h2 h; omega
/-- All but one. -/
theorem full_bit {i : Nat} (hi : i < n) (j : Nat) : (2 ^ n - 1 - 2 ^ i).testBit j = (decide (j < n) && decide (j ≠ i)) := by
  rw [bit_sub (by rw [Nat.testBit_two_pow_sub_one]; simpa using hi), Nat.testBit_two_pow_sub_one]
theorem full_lt (i : Nat) : 2 ^ n - 1 - 2 ^ i < 2 ^ n := by
  have h1 := Nat.two_pow_pos n
  have h2 : 2 ^ n - 1 - 2 ^ i ≤ 2 ^ n - 1 := Nat.sub_le _ _
  exact Nat.lt_of_le_of_lt h2 (Nat.sub_lt h1 (by omega))
theorem cheap_le (hC : 0 ≤ C) (hT : ∀ p q, p < n → q < n → 0 ≤ T p q ∧ T p q ≤ C) (hn : 1 ≤ n) {p : List Nat} (hp : p.Perm (List.range n)) : (cheapF T n).2 ≤ pathC T p := by
  cases p with
  | nil => have := hp.length_eq; simp at this; omega
  | cons i p =>
    have hmem : ∀ x, x ∈ i :: p ↔ x < n := fun x => by rw [hp.mem_iff, List.mem_range]
    have hi : i < n := (hmem i).1 (by simp)
    have hnd := List.nodup_cons.1 (hp.nodup_iff.2 List.nodup_range)
    have hw : WayOf (2 ^ n - 1 - 2 ^ i) p := by
      refine ⟨hnd.2, fun x => ?_⟩
      rw [full_bit hi, Bool.and_eq_true, decide_eq_true_eq, decide_eq_true_eq, ← hmem, List.mem_cons]
      constructor
      · intro hx; exact ⟨.inr hx, fun e => hnd.1 (e ▸ hx)⟩
      · rintro ⟨h1 | h1, h2⟩
        · exact absurd h1 h2
        · exact h1
    have h1 := rst_le hC hT p _ i hw (full_lt i) hi (by rw [full_bit hi]; simp)
    exact Int.le_trans (firstTo_min n i hi) h1
/-- The cheapest order, as numbers. -/
def cheapN (T : Nat → Nat → Int) (n : Nat) : List Nat := (cheapF T n).1 :: wayF T (rstV T n) n (2 ^ n - 1 - 2 ^ (cheapF T n).1) (2 ^ n - 1 - 2 ^ (cheapF T n).1) (cheapF T n).1
theorem cheap_ok (hC : 0 ≤ C) (hT : ∀ p q, p < n → q < n → 0 ≤ T p q ∧ T p q ≤ C) (hn : 1 ≤ n) : (cheapN T n).Perm (List.range n) ∧ pathC T (cheapN T n) = (cheapF T n).2 := by
  obtain ⟨h1, h2⟩ := firstTo_at (c := fun i => rstV T n (2 ^ n - 1 - 2 ^ i) i) n
  have hi : (cheapF T n).1 < n := h2 hn
  obtain ⟨h3, h4⟩ := way_ok hC hT (2 ^ n - 1 - 2 ^ (cheapF T n).1) _ _ (Nat.le_refl _) (full_lt _) hi (by rw [full_bit hi]; simp)
  refine ⟨?_, by unfold cheapN; rw [h4]; exact h1.symm⟩
  unfold cheapN
  refine (List.perm_ext_iff_of_nodup (List.nodup_cons.2 ⟨fun hm => ?_, h3.nodup⟩) List.nodup_range).2 fun x => ?_
  · rw [h3.mem, full_bit hi] at hm; simp at hm
  · rw [List.mem_cons, h3.mem, full_bit hi, List.mem_range, Bool.and_eq_true, decide_eq_true_eq, decide_eq_true_eq]
    constructor
    · rintro (rfl | h5)
      · exact hi
      · exact h5.1
    · intro h5
      by_cases e : x = (cheapF T n).1
      · exact .inl e
      · exact .inr ⟨h5, e⟩
/-- The sum of the reference's changes, from a list on. -/
theorem path_app (T : Nat → Nat → Int) : ∀ (b : List Nat) (x : Nat) (l : List Nat), pathC T (b ++ x :: l) = pathC T (b ++ [x]) + pathC T (x :: l)
  | [], x, l => by simp [pathC]
  | [a], x, l => by simp [pathC]
  | a :: c :: b, x, l => by
    have ih := path_app T (c :: b) x l
    simp only [List.cons_append, pathC] at ih ⊢
    omega
/-- The best of the ways that begin with a list and go on below k. -/
def bestC (T : Nat → Nat → Int) (W : Nat → List Nat) (b : List Nat) : Nat → Option (List Nat)
  | 0 => none
  | i + 1 => if i ∈ b then bestC T W b i else match bestC T W b i with
    | none => some (W i)
    | some x => if pathC T (W i) < pathC T x then some (W i) else some x
/-- What the reference finds. -/
def refC (T : Nat → Nat → Int) (n : Nat) : Nat → List Nat → List Nat
  | 0, b => b
  | f + 1, b => (bestC T (fun i => refC T n f (b ++ [i])) b n).getD []
theorem bestC_none {T : Nat → Nat → Int} {W : Nat → List Nat} {b : List Nat} : ∀ k, (∀ i, i < k → i ∈ b) → bestC T W b k = none
  | 0, _ => rfl
  | k + 1, h => by
    simp only [bestC]
    rw [if_pos (h k (by omega))]
    exact bestC_none k fun i hi => h i (by omega)
/-- The first of the best ones. -/
theorem bestC_first {T : Nat → Nat → Int} {W : Nat → List Nat} {b : List Nat} {q : Nat} : ∀ k, q < k → q ∉ b → (∀ i, i < q → i ∉ b → pathC T (W q) < pathC T (W i)) → (∀ i, i < k → i ∉ b → pathC T (W q) ≤ pathC T (W i)) → bestC T W b k = some (W q)
  | 0, h, _, _, _ => by omega
  | k + 1, h, hq, h1, h2 => by
    simp only [bestC]
    rcases Nat.lt_or_ge q k with h3 | h3
    · have ih := bestC_first k h3 hq h1 fun i hi hb => h2 i (by omega) hb
      by_cases hk : k ∈ b
      · rw [if_pos hk, ih]
      · rw [if_neg hk, ih]
        have := h2 k (by omega) hk
        simp only
        rw [if_neg (by omega)]
    · obtain rfl : q = k := by omega
      rw [if_neg hq]
      have hlow : ∀ m, m ≤ q → bestC T W b m = none ∨ ∃ i, i < q ∧ i ∉ b ∧ bestC T W b m = some (W i) := by
        intro m
        induction m with
        | zero => intro _; exact .inl rfl
        | succ m ih =>
          intro hm
          simp only [bestC]
          by_cases hb : m ∈ b
          · rw [if_pos hb]; exact ih (by omega)
          · rw [if_neg hb]
            rcases ih (by omega) with h4 | ⟨i, h5, h6, h7⟩
            · rw [h4]; exact .inr ⟨m, by omega, hb, rfl⟩
            · rw [h7]
              simp only
              split
              · exact .inr ⟨m, by omega, hb, rfl⟩
              · exact .inr ⟨i, h5, h6, rfl⟩
      rcases hlow q (Nat.le_refl _) with h4 | ⟨i, h5, h6, h7⟩
      · rw [h4]
      · rw [h7]
        simp only
        rw [if_pos (h1 i h5 h6)]
/-- The reference's order that begins with some numbers goes on as the program's. -/
theorem refC_way (hC : 0 ≤ C) (hT : ∀ p q, p < n → q < n → 0 ≤ T p q ∧ T p q ≤ C) : ∀ (f left frm g : Nat) (b : List Nat), left < 2 ^ n → frm < n → left.testBit frm = false → (∀ x, x ∈ b ++ [frm] ↔ x < n ∧ left.testBit x = false) → (b ++ [frm]).Nodup → (b ++ [frm]).length + f = n → left ≤ g →
    refC T n f (b ++ [frm]) = b ++ frm :: wayF T (rstV T n) n g left frm
  | 0, left, frm, g, b, hl, hf, hb, hm, hnd, hlen, hg => by
    have h0 : left = 0 := by
      apply Nat.eq_of_testBit_eq
      intro i
      rw [Nat.zero_testBit]
      rcases Nat.lt_or_ge i n with h1 | h1
      · have hperm : (b ++ [frm]).Perm (List.range n) := sub_perm hnd (fun x hx => List.mem_range.2 ((hm x).1 hx).1) (by rw [List.length_range]; omega)
        exact ((hm i).1 (hperm.mem_iff.2 (List.mem_range.2 h1))).2
      · exact Nat.testBit_lt_two_pow (Nat.lt_of_lt_of_le hl (Nat.pow_le_pow_right (by omega) h1))
    subst h0
    have : wayF T (rstV T n) n g 0 frm = [] := by cases g <;> simp [wayF]
    rw [this]
    rfl
  | f + 1, left, frm, g, b, hl, hf, hb, hm, hnd, hlen, hg => by
    have h0 : left ≠ 0 := by
      intro e
      subst e
      have : (List.range n).length ≤ (b ++ [frm]).length := List.Nodup.length_le_of_subset List.nodup_range fun x hx => (hm x).2 ⟨List.mem_range.1 hx, Nat.zero_testBit x⟩
      rw [List.length_range] at this
      omega
    obtain ⟨g', rfl⟩ : ∃ g', g = g' + 1 := ⟨g - 1, by omega⟩
    obtain ⟨q0, hq0, hfit0⟩ := fit_some hC hT hl h0 hf hb
    obtain ⟨q, hqn, hfit, hmin⟩ : ∃ q, q < n ∧ fitB T (rstV T n) left frm q = true ∧ ∀ j, j < q → fitB T (rstV T n) left frm j = false := by
      have : ∀ m, m ≤ n → (∃ k, k < m ∧ fitB T (rstV T n) left frm k = true) → ∃ q, q < n ∧ fitB T (rstV T n) left frm q = true ∧ ∀ j, j < q → fitB T (rstV T n) left frm j = false := by
        intro m
        induction m with
        | zero => rintro _ ⟨k, hk, _⟩; omega
        | succ m ih =>
          intro hm hx
          by_cases h1 : ∃ k, k < m ∧ fitB T (rstV T n) left frm k = true
          · exact ih (by omega) h1
          · obtain ⟨k, hk, hkf⟩ := hx
            refine ⟨k, by omega, hkf, fun j hj => ?_⟩
            cases hT : fitB T (rstV T n) left frm j with
            | false => rfl
            | true => exact absurd ⟨j, by omega, hT⟩ h1
      exact this (q0 + 1) (by omega) ⟨q0, by omega, hfit0⟩
    have hfit' := hfit
    unfold fitB at hfit'
    rw [Bool.and_eq_true, decide_eq_true_eq] at hfit'
    have hw : wayF T (rstV T n) n (g' + 1) left frm = q :: wayF T (rstV T n) n g' (left - 2 ^ q) q := by
      simp only [wayF]; rw [if_neg h0, fIdx_some hqn hfit hmin]
    have hout : ∀ i, i < n → i ∉ b ++ [frm] → left.testBit i = true := fun i hi hni => by
      cases hT : left.testBit i with
      | true => rfl
      | false => exact absurd ((hm i).2 ⟨hi, hT⟩) hni
    have hrec : ∀ i, i < n → i ∉ b ++ [frm] → refC T n f (b ++ [frm] ++ [i]) = b ++ [frm] ++ i :: wayF T (rstV T n) n g' (left - 2 ^ i) i := fun i hi hni => by
      have hbi := hout i hi hni
      have hlt := sub_lt' hbi
      refine refC_way hC hT f (left - 2 ^ i) i g' (b ++ [frm]) (by omega) hi (by rw [bit_sub hbi]; simp) (fun x => ?_) ?_ ?_ (by omega)
      · rw [List.mem_append, List.mem_singleton, hm, bit_sub hbi, Bool.and_eq_false_iff, decide_eq_false_iff_not]
        constructor
        · rintro (h1 | rfl)
          · exact ⟨h1.1, .inl h1.2⟩
          · exact ⟨hi, .inr (by simp)⟩
        · rintro ⟨h1, h2 | h2⟩
          · exact .inl ⟨h1, h2⟩
          · exact .inr (by simpa using h2)
      · rw [List.nodup_append]
        refine ⟨hnd, by simp, ?_⟩
        intro x hx y hy e
        simp only [List.mem_singleton] at hy
        subst hy e
        exact hni hx
      · rw [List.length_append, List.length_singleton]; omega
    have hcost : ∀ i, i < n → i ∉ b ++ [frm] → pathC T (refC T n f (b ++ [frm] ++ [i])) = pathC T (b ++ [frm]) + (T frm i + rstV T n (left - 2 ^ i) i) := fun i hi hni => by
      have hbi := hout i hi hni
      have hlt := sub_lt' hbi
      rw [hrec i hi hni, List.append_assoc, List.singleton_append, path_app]
      have := (way_ok hC hT g' (left - 2 ^ i) i (by omega) (by omega) hi (by rw [bit_sub hbi]; simp)).2
      simp only [pathC] at this ⊢
      rw [this]
    have hqni : q ∉ b ++ [frm] := fun hx => by have := ((hm q).1 hx).2; rw [hfit'.1] at this; cases this
    have hR : ∀ q, q < n → left.testBit q = true → 0 ≤ rstV T n (left - 2 ^ q) q := fun q hqn hq => by
      have := sub_lt' hq
      exact (rstV_bd hC hT (left + 1) (left - 2 ^ q) q (by omega) (by omega) hqn).1
    have hV : rstV T n left frm = bestTo T (rstV T n) left frm n := by
      rw [rstV_eq, if_neg (by simp [hb, h0])]
    have hall : ∀ i, i < n → i ∉ b ++ [frm] → rstV T n left frm ≤ T frm i + rstV T n (left - 2 ^ i) i := fun i hi hni => by
      rw [hV]
      exact bestTo_min (fun q hq => (hT frm q hf hq).1) hR n (Nat.le_refl _) i hi (hout i hi hni)
    have hbest := bestC_first (T := T) (W := fun i => refC T n f (b ++ [frm] ++ [i])) (b := b ++ [frm]) (q := q) n hqn hqni (fun i hi hni => by
      have h1 := hmin i hi
      have h2 := hout i (by omega) hni
      unfold fitB at h1
      rw [h2, Bool.true_and, decide_eq_false_iff_not] at h1
      have h3 := hall i (by omega) hni
      rw [hcost q hqn hqni, hcost i (by omega) hni]
      omega) (fun i hi hni => by
      have h3 := hall i hi hni
      rw [hcost q hqn hqni, hcost i hi hni]
      omega)
    simp only [refC]
    rw [hbest, Option.getD_some, hrec q hqn hqni, hw, List.append_assoc, List.singleton_append]
theorem firstTo_lt {c : Nat → Int} : ∀ k, 1 ≤ k → ∀ j, j < (firstTo c k).1 → (firstTo c k).2 < c j
  | 0, h, _, _ => by omega
  | k + 1, _, j, hj => by
    have hmin := firstTo_min (c := c) k
    obtain ⟨h1, h2⟩ := firstTo_at (c := c) k
    rcases Nat.eq_zero_or_pos k with h | h
    · subst h
      simp [firstTo] at hj
    · have ih := firstTo_lt (c := c) k h
      simp only [firstTo] at hj ⊢
      split at hj
      · rename_i hlt
        rw [if_pos hlt]
        simp only at hj ⊢
        have := hmin j hj
        omega
      · rename_i hlt
        rw [if_neg hlt]
        exact ih j hj
theorem refC_all (hC : 0 ≤ C) (hT : ∀ p q, p < n → q < n → 0 ≤ T p q ∧ T p q ≤ C) (hn : 1 ≤ n) : refC T n n [] = cheapN T n := by
  obtain ⟨m, rfl⟩ : ∃ m, n = m + 1 := ⟨n - 1, by omega⟩
  have hrec : ∀ i, i < m + 1 → refC T (m + 1) m ([] ++ [i]) = i :: wayF T (rstV T (m + 1)) (m + 1) (2 ^ (m + 1) - 1 - 2 ^ i) (2 ^ (m + 1) - 1 - 2 ^ i) i := fun i hi => by
    refine refC_way hC hT m _ i _ [] (full_lt i) hi (by rw [full_bit hi]; simp) (fun x => ?_) (by simp) (by simp; omega) (Nat.le_refl _)
    rw [full_bit hi]
    simp only [List.nil_append, List.mem_singleton, Bool.and_eq_false_iff, decide_eq_false_iff_not]
    constructor
    · rintro rfl; exact ⟨hi, .inr (by simp)⟩
    · rintro ⟨h1, h2 | h2⟩
      · exact absurd h1 h2
      · simpa using h2
  have hcost : ∀ i, i < m + 1 → pathC T (refC T (m + 1) m ([] ++ [i])) = rstV T (m + 1) (2 ^ (m + 1) - 1 - 2 ^ i) i := fun i hi => by
    rw [hrec i hi]
    exact (way_ok hC hT _ _ i (Nat.le_refl _) (full_lt i) hi (by rw [full_bit hi]; simp)).2
  obtain ⟨h1, h2⟩ := firstTo_at (c := fun i => rstV T (m + 1) (2 ^ (m + 1) - 1 - 2 ^ i) i) (m + 1)
  have hq : (cheapF T (m + 1)).1 < m + 1 := h2 (by omega)
  have hbest := bestC_first (T := T) (W := fun i => refC T (m + 1) m ([] ++ [i])) (b := []) (q := (cheapF T (m + 1)).1) (m + 1) hq (by simp) (fun i hi _ => by
    rw [hcost _ hq, hcost i (Nat.lt_trans hi hq)]
    have h3 := firstTo_lt (c := fun i => rstV T (m + 1) (2 ^ (m + 1) - 1 - 2 ^ i) i) (m + 1) (by omega) i hi
    have h4 : (cheapF T (m + 1)).2 = _ := h1
    unfold cheapF at h4 ⊢
    omega) (fun i hi _ => by
    rw [hcost _ hq, hcost i hi]
    have h3 := firstTo_min (c := fun i => rstV T (m + 1) (2 ^ (m + 1) - 1 - 2 ^ i) i) (m + 1) i hi
    have h4 : (cheapF T (m + 1)).2 = _ := h1
    unfold cheapF at h4 ⊢
    omega)
  simp only [refC]
  rw [hbest, Option.getD_some, hrec _ hq]
  rfl
end
end Go.Proofs.YtplbofhgmflnlaaGreat
