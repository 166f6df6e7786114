/-
  Plain words of chapter 10 (hall): rooms, given in order. No program in sight.
-/
import Derived.Test.YtjpgignbjkgjiaaP19
namespace Go.Proofs.Ytjpgignbjkgjiaa
/-- The first hour of a preparation. -/
def bg (l : List Camp) (p : List Int) (i : Nat) : Int := nth p i - (cth l i).pr
def updN (F : Nat → Int) (k : Nat) (v : Int) : Nat → Int := fun i => if i = k then v else F i
/-- The first room that is free. -/
def freeR (n : Nat) (U : Nat → Int) (t : Int) : Option Nat := fIdx (fun r => decide (U r ≤ t)) n
abbrev RU := (Nat → Int) × (Nat → Int)
def stepP (l : List Camp) (p : List Int) (n : Nat) (s : RU) (i : Nat) : RU := match freeR n s.2 (bg l p i) with | some r => (updN s.1 i r, updN s.2 r (nth p i)) | none => s
/-- Whether a room is taken, as the document says it. -/
def takenB (l : List Camp) (p : List Int) (R : Nat → Int) (r i : Nat) (hour : Int) : Bool := orTo (fun k => (!(k == i) && (R k == (r : Int))) && prepB (cth l k) (nth p k) hour) l.length
def freeD (l : List Camp) (p : List Int) (n : Nat) (R : Nat → Int) (i : Nat) (hour : Int) : Option Nat := fIdx (fun r => !takenB l p R r i hour) n
def stepD (l : List Camp) (p : List Int) (n : Nat) (hour : Int) (R : Nat → Int) (i : Nat) : Nat → Int := match freeD l p n R i hour with | some r => updN R i r | none => R
/-- How many of n. -/
def howMany (q : Nat → Bool) : Nat → Nat
  | 0 => 0
  | n + 1 => howMany q n + if q n then 1 else 0
theorem cntTo_many (l : List Camp) (p : List Int) (hour : Int) : ∀ k, cntTo l p k hour = howMany (fun i => prepB (cth l i) (nth p i) hour) k
  | 0 => rfl
  | k + 1 => by
    simp only [cntTo, howMany, cntTo_many l p hour k]
    split <;> simp
theorem howMany_same (q : Nat → Bool) (k : Nat) : ∀ n, n ≤ k → howMany (fun i => q i && !(i == k)) n = howMany q n
  | 0, _ => rfl
  | n + 1, h => by
    simp only [howMany, howMany_same q k n (by omega)]
    have : (n == k) = false := by simp; omega
    simp [this]
theorem howMany_less (q : Nat → Bool) (k : Nat) (hq : q k = true) : ∀ n, k < n → howMany q n = howMany (fun i => q i && !(i == k)) n + 1
  | 0, h => by omega
  | n + 1, h => by
    by_cases e : k = n
    · subst e
      have := howMany_same q k k (Nat.le_refl _)
      simp [howMany, this, hq]
    · have := howMany_less q k hq n (by omega)
      simp only [howMany, this]
      have h2 : (n == k) = false := by simp; omega
      simp [h2]; omega
theorem howMany_ge (f : Nat → Nat) : ∀ (m : Nat) (q : Nat → Bool) (n : Nat), (∀ i, i < m → f i < n ∧ q (f i) = true) → (∀ i j, i < m → j < m → f i = f j → i = j) → m ≤ howMany q n
  | 0, _, _, _, _ => Nat.zero_le _
  | m + 1, q, n, h, hi => by
    have h1 := h m (by omega)
    rw [howMany_less q (f m) h1.2 n h1.1]
    have := howMany_ge f m (fun i => q i && !(i == f m)) n (fun i him => ⟨(h i (by omega)).1, by
      have hne : ¬ f i = f m := fun e => by have := hi i m (by omega) (by omega) e; omega
      simp [(h i (by omega)).2, hne]⟩) (fun i j a b e => hi i j (by omega) (by omega) e)
    omega
/-- What holds while rooms are given: to those that are done, one after another. -/
structure Inv (l : List Camp) (p : List Int) (n : Nat) (done : List Nat) (R U : Nat → Int) : Prop where
  out : ∀ k, k ∉ done → R k = -1
  rin : ∀ k, k ∈ done → 0 ≤ R k ∧ R k < n ∧ nth p k ≤ U (R k).toNat ∧ k < l.length ∧ 0 < (cth l k).pr
  til : ∀ r, r < n → U r = 0 ∨ ∃ k, k ∈ done ∧ R k = r ∧ U r = nth p k
  dis : ∀ i k, i ∈ done → k ∈ done → i ≠ k → R i = R k → nth p i ≤ bg l p k ∨ nth p k ≤ bg l p i
theorem Inv.init (l : List Camp) (p : List Int) (n : Nat) : Inv l p n [] (fun _ => -1) (fun _ => 0) :=
  ⟨fun _ _ => rfl, fun _ h => by simp at h, fun _ _ => .inl rfl, fun _ _ h => by simp at h⟩
theorem prepB_iff {c : Camp} {t h : Int} : prepB c t h = true ↔ h < t ∧ t - h ≤ c.pr := by simp [prepB]
theorem Inv.free_iff {l : List Camp} {p : List Int} {n : Nat} {done : List Nat} {R U : Nat → Int} (h : Inv l p n done R U) {i : Nat} (hi : i ∉ done) (hb0 : 0 ≤ bg l p i) (hk : ∀ k, k ∈ done → bg l p k ≤ bg l p i) {r : Nat} (hr : r < n) :
    takenB l p R r i (bg l p i) = !decide (U r ≤ bg l p i) := by
  rw [Bool.eq_iff_iff]
  unfold takenB
  rw [orTo_iff]
  simp only [Bool.and_eq_true, Bool.not_eq_true', beq_eq_false_iff_ne, beq_iff_eq, decide_eq_false_iff_not, prepB_iff]
  constructor
  · rintro ⟨k, k1, ⟨k2, k3⟩, k4, k5⟩ hu
    have hkd : k ∈ done := Classical.byContradiction fun hn => by have := h.out k hn; omega
    have := (h.rin k hkd).2.2.1
    rw [k3] at this
    simp only [Int.toNat_natCast] at this
    omega
  · intro hu
    rcases h.til r hr with h0 | ⟨k, k1, k2, k3⟩
    · omega
    · have := hk k k1
      exact ⟨k, (h.rin k k1).2.2.2.1, ⟨fun e => hi (e ▸ k1), k2⟩, by omega, by unfold bg at *; omega⟩
theorem Inv.same {l : List Camp} {p : List Int} {n : Nat} {done : List Nat} {R U : Nat → Int} (h : Inv l p n done R U) {i : Nat} (hi : i ∉ done) (hb0 : 0 ≤ bg l p i) (hk : ∀ k, k ∈ done → bg l p k ≤ bg l p i) :
    freeD l p n R i (bg l p i) = freeR n U (bg l p i) := by
  unfold freeR freeD
  rcases fIdx_cases (fun r => decide (U r ≤ bg l p i)) n with ⟨k, h1, h2, h3, h4⟩ | ⟨h1, h2⟩
  · rw [h4]
    refine fIdx_some h1 ?_ fun j hj => ?_
    · rw [h.free_iff hi hb0 hk h1, h2]; rfl
    · rw [h.free_iff hi hb0 hk (by omega), h3 j hj]; rfl
  · rw [h2]
    exact fIdx_none fun j hj => by rw [h.free_iff hi hb0 hk hj, h1 j hj]; rfl
theorem Inv.room {l : List Camp} {p : List Int} {n : Nat} {done : List Nat} {R U : Nat → Int} (h : Inv l p n done R U) {i : Nat} (hi : i ∉ done) (hil : i < l.length) (hp : 0 < (cth l i).pr) (hb0 : 0 ≤ bg l p i) (hk : ∀ k, k ∈ done → bg l p k ≤ bg l p i)
    (hc : cntTo l p l.length (bg l p i) ≤ n) : ∃ r, r < n ∧ freeR n U (bg l p i) = some r ∧ U r ≤ bg l p i := by
  unfold freeR
  rcases fIdx_cases (fun r => decide (U r ≤ bg l p i)) n with ⟨k, h1, h2, h3, h4⟩ | ⟨h1, h2⟩
  · exact ⟨k, h1, h4, by simpa using h2⟩
  · exfalso
    have hex : ∀ r, ∃ k, (r < n → k ∈ done ∧ R k = r ∧ U r = nth p k) ∧ (r = n → k = i) := fun r => by
      by_cases hr : r < n
      · rcases h.til r hr with h0 | ⟨k, k1⟩
        · have := h1 r hr; simp at this; omega
        · exact ⟨k, fun _ => k1, fun e => by omega⟩
      · exact ⟨i, fun e => absurd e hr, fun _ => rfl⟩
    obtain ⟨f, hf⟩ := Classical.axiomOfChoice hex
    have := howMany_ge f (n + 1) (fun k => prepB (cth l k) (nth p k) (bg l p i)) l.length (fun r hr => by
      by_cases e : r = n
      · have := (hf r).2 e
        rw [this]
        exact ⟨hil, by rw [prepB_iff]; unfold bg; omega⟩
      · obtain ⟨k1, k2, k3⟩ := (hf r).1 (by omega)
        have hrr := h1 r (by omega)
        simp at hrr
        have := hk _ k1
        exact ⟨(h.rin _ k1).2.2.2.1, by rw [prepB_iff]; unfold bg at *; omega⟩) (fun a b ha hb e => by
      by_cases ea : a = n
      · by_cases eb : b = n
        · omega
        · exact absurd ((hf b).1 (by omega)).1 (by rw [← e, (hf a).2 ea]; exact hi)
      · by_cases eb : b = n
        · exact absurd ((hf a).1 (by omega)).1 (by rw [e, (hf b).2 eb]; exact hi)
        · have q1 := ((hf a).1 (by omega)).2.1
          have q2 := ((hf b).1 (by omega)).2.1
          rw [e] at q1
          omega)
    rw [cntTo_many] at hc
    omega
theorem Inv.next {l : List Camp} {p : List Int} {n : Nat} {done : List Nat} {R U : Nat → Int} (h : Inv l p n done R U) {i r : Nat} (hi : i ∉ done) (hil : i < l.length) (hp : 0 < (cth l i).pr) (hk : ∀ k, k ∈ done → bg l p k ≤ bg l p i)
    (hr : r < n) (hu : U r ≤ bg l p i) : Inv l p n (done ++ [i]) (updN R i r) (updN U r (nth p i)) := by
  have hlt : bg l p i < nth p i := by unfold bg; omega
  refine ⟨fun k hkn => ?_, fun k hkd => ?_, fun q hq => ?_, fun a b ha hb hab e => ?_⟩
  · simp at hkn
    simp only [updN]; rw [if_neg hkn.2]; exact h.out k hkn.1
  · rw [List.mem_append] at hkd
    by_cases e : k = i
    · subst e
      simp only [updN, if_true]
      refine ⟨by omega, by omega, ?_, hil, hp⟩
      rw [Int.toNat_natCast, if_pos rfl]; exact Int.le_refl _
    · have hkd' : k ∈ done := by
        rcases hkd with h1 | h1
        · exact h1
        · simp at h1; exact absurd h1 e
      obtain ⟨a1, a2, a3, a4, a5⟩ := h.rin k hkd'
      simp only [updN, if_neg e]
      refine ⟨a1, a2, ?_, a4, a5⟩
      by_cases e2 : (R k).toNat = r
      · rw [if_pos e2]; rw [e2] at a3; omega
      · rw [if_neg e2]; exact a3
  · by_cases e : q = r
    · subst e
      exact .inr ⟨i, by simp, by simp [updN], by simp [updN]⟩
    · rcases h.til q hq with h0 | ⟨k, k1, k2, k3⟩
      · exact .inl (by simp [updN, e, h0])
      · refine .inr ⟨k, by simp [k1], ?_, by simp [updN, e, k3]⟩
        have : k ≠ i := fun e => hi (e ▸ k1)
        simp [updN, this, k2]
  · have hpast : ∀ k, k ∈ done → R k = r → nth p k ≤ bg l p i := fun k hkd hkr => by
      have := (h.rin k hkd).2.2.1
      rw [hkr, Int.toNat_natCast] at this
      omega
    rw [List.mem_append] at ha hb
    simp only [updN] at e
    by_cases ea : a = i
    · subst ea
      have hbd : b ∈ done := by
        rcases hb with h1 | h1
        · exact h1
        · simp at h1; exact absurd h1.symm hab
      rw [if_pos rfl, if_neg (fun q => hab q.symm)] at e
      exact .inr (hpast b hbd e.symm)
    · have had : a ∈ done := by
        rcases ha with h1 | h1
        · exact h1
        · simp at h1; exact absurd h1 ea
      rw [if_neg ea] at e
      by_cases eb : b = i
      · subst eb
        rw [if_pos rfl] at e
        exact .inl (hpast a had e)
      · have hbd : b ∈ done := by
          rcases hb with h1 | h1
          · exact h1
          · simp at h1; exact absurd h1 eb
        rw [if_neg eb] at e
        exact h.dis a b had hbd hab e
/-- Who begins in an hour. -/
def beginB (l : List Camp) (p : List Int) (hour : Int) (i : Nat) : Bool := !((cth l i).pr == 0) && (bg l p i == hour)
/-- In the order of the document: hour by hour. -/
def ordD (l : List Camp) (p : List Int) (n : Nat) : List Nat := (List.range n).flatMap fun (hour : Nat) => (List.range l.length).filter (beginB l p hour)
theorem mem_ordD {l : List Camp} {p : List Int} {n i : Nat} : i ∈ ordD l p n ↔ i < l.length ∧ ¬ (cth l i).pr = 0 ∧ 0 ≤ bg l p i ∧ bg l p i < n := by
  unfold ordD
  rw [List.mem_flatMap]
  simp only [List.mem_range, List.mem_filter, beginB, Bool.and_eq_true, Bool.not_eq_true', beq_eq_false_iff_ne, beq_iff_eq]
  constructor
  · rintro ⟨h, h1, h2, h3, h4⟩
    exact ⟨h2, h3, by omega, by omega⟩
  · rintro ⟨h1, h2, h3, h4⟩
    exact ⟨(bg l p i).toNat, by omega, h1, h2, by omega⟩
theorem ordD_succ (l : List Camp) (p : List Int) (n : Nat) : ordD l p (n + 1) = ordD l p n ++ (List.range l.length).filter (beginB l p n) := by
  unfold ordD; rw [List.range_succ, List.flatMap_append]; simp
theorem ordD_lex (l : List Camp) (p : List Int) : ∀ n, (ordD l p n).Pairwise fun i j => bg l p i < bg l p j ∨ (bg l p i = bg l p j ∧ i < j)
  | 0 => by simp [ordD]
  | n + 1 => by
    rw [ordD_succ, List.pairwise_append]
    refine ⟨ordD_lex l p n, ?_, fun a ha b hb => ?_⟩
    · have h0 : (List.range l.length).Pairwise (· < ·) := List.pairwise_lt_range
      have h1 := h0.filter (beginB l p n)
      refine h1.imp_of_mem fun {a b} ha hb hab => ?_
      rw [List.mem_filter] at ha hb
      simp only [beginB, Bool.and_eq_true, beq_iff_eq] at ha hb
      exact .inr ⟨by rw [ha.2.2, hb.2.2], hab⟩
    · rw [mem_ordD] at ha
      rw [List.mem_filter] at hb
      simp only [beginB, Bool.and_eq_true, beq_iff_eq] at hb
      left; rw [hb.2.2]; omega
def stD (l : List Camp) (p : List Int) (n : Nat) (R : Nat → Int) (os : List Nat) : Nat → Int := os.foldl (fun R i => stepD l p n (bg l p i) R i) R
def stRU (l : List Camp) (p : List Int) (n : Nat) (os : List Nat) : RU := os.foldl (stepP l p n) (fun _ => -1, fun _ => 0)
theorem stRU_snoc (l : List Camp) (p : List Int) (n : Nat) (os : List Nat) (i : Nat) : stRU l p n (os ++ [i]) = stepP l p n (stRU l p n os) i := by simp [stRU]
theorem stD_snoc (l : List Camp) (p : List Int) (n : Nat) (R : Nat → Int) (os : List Nat) (i : Nat) : stD l p n R (os ++ [i]) = stepD l p n (bg l p i) (stD l p n R os) i := by simp [stD]
/-- What is asked of an order in which rooms are given. -/
structure Ord (l : List Camp) (p : List Int) (n : Nat) (os : List Nat) : Prop where
  mem : ∀ i, i ∈ os → i < l.length ∧ 0 < (cth l i).pr ∧ 0 ≤ bg l p i ∧ cntTo l p l.length (bg l p i) ≤ n
  asc : os.Pairwise fun i j => bg l p i < bg l p j ∨ (bg l p i = bg l p j ∧ i < j)
theorem Ord.pre {l : List Camp} {p : List Int} {n : Nat} {a b : List Nat} (h : Ord l p n (a ++ b)) : Ord l p n a :=
  ⟨fun i hi => h.mem i (by simp [hi]), (List.pairwise_append.1 h.asc).1⟩
theorem Ord.last {l : List Camp} {p : List Int} {n : Nat} {a : List Nat} {i : Nat} (h : Ord l p n (a ++ [i])) : i ∉ a ∧ ∀ k, k ∈ a → bg l p k ≤ bg l p i := by
  have h1 := (List.pairwise_append.1 h.asc).2.2
  refine ⟨fun hi => ?_, fun k hk => ?_⟩
  · have := h1 i hi i (by simp); omega
  · have := h1 k hk i (by simp); omega
theorem ord_inv {l : List Camp} {p : List Int} {n : Nat} : ∀ (m : Nat) (os : List Nat), os.length = m → Ord l p n os → Inv l p n os (stRU l p n os).1 (stRU l p n os).2 ∧ stD l p n (fun _ => -1) os = (stRU l p n os).1
  | 0, os, hm, h => by
    obtain rfl := List.length_eq_zero_iff.1 hm
    exact ⟨Inv.init l p n, rfl⟩
  | m + 1, os, hm, h => by
    rcases List.eq_nil_or_concat os with rfl | ⟨a, i, rfl⟩
    · simp at hm
    rw [List.concat_eq_append] at *
    obtain ⟨h1, h2⟩ := ord_inv m a (by simpa using hm) h.pre
    obtain ⟨h3, h4⟩ := h.last
    obtain ⟨h5, h6, h7, h8⟩ := h.mem i (by simp)
    obtain ⟨r, r1, r2, r3⟩ := h1.room h3 h5 h6 h7 h4 h8
    rw [stRU_snoc, stD_snoc, h2]
    have e : freeD l p n (stRU l p n a).1 i (bg l p i) = some r := by rw [h1.same h3 h7 h4, r2]
    unfold stepP stepD
    rw [r2, e]
    exact ⟨h1.next h3 h5 h6 h4 r1 r3, rfl⟩
end Go.Proofs.Ytjpgignbjkgjiaa
