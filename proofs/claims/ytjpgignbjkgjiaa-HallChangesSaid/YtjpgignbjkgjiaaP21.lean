/-
  Plain words of chapter 10 (hall): what the rooms of a plan are, and its energy. No program in sight.
-/
import Derived.Test.YtjpgignbjkgjiaaP20
namespace Go.Proofs.Ytjpgignbjkgjiaa
theorem breach_rooms {ha : Hal} {l : List Camp} {p : List Int} (hb : (breachS ha l p).ru = 0) {h : Nat} (hh : h < ha.st.length) : cntTo l p l.length h ≤ ha.ro := by
  have h1 : (brTunnel ha l p).ru = 0 := by
    have hs := breach_single hb
    unfold breachS at hb
    rw [if_pos hs] at hb
    exact hb
  unfold brTunnel at h1
  rcases fIdx_cases (fun i => (nearOf ha l p i).isSome) l.length with ⟨k, k1, k2, k3, k4⟩ | ⟨k1, k2⟩
  · rw [k4] at h1; simp at h1
  · rw [k2] at h1
    simp only [brRooms] at h1
    rcases fIdx_cases (fun hour : Nat => decide (ha.ro < cntTo l p l.length hour)) ha.st.length with ⟨k, g1, g2, g3, g4⟩ | ⟨g1, g2⟩
    · rw [g4] at h1; simp at h1
    · have := g1 h hh
      simp at this
      exact this
theorem bg_in {ha : Hal} {l : List Camp} {p : List Int} (hv : VH ha l) (hb : (breachS ha l p).ru = 0) {i : Nat} (hi : i < l.length) : 0 ≤ bg l p i ∧ bg l p i < ha.st.length ∧ 0 ≤ nth p i ∧ nth p i < ha.st.length := by
  have h1 := hv.cb i hi
  have h2 := (single_ok (breach_single hb)).1 i hi
  simp only [inTimeB, Bool.and_eq_true, decide_eq_true_eq] at h2
  have := h1.ea0; have := h1.pr0; have := h1.ho0; have := h1.la1
  unfold bg; omega
theorem ordD_ord {ha : Hal} {l : List Camp} {p : List Int} (hv : VH ha l) (hb : (breachS ha l p).ru = 0) : Ord l p ha.ro.toNat (ordD l p ha.st.length) := by
  refine ⟨fun i hi => ?_, ordD_lex l p _⟩
  rw [mem_ordD] at hi
  obtain ⟨h1, h2, h3, h4⟩ := hi
  have hp := (hv.cb i h1).pr0
  refine ⟨h1, by omega, h3, ?_⟩
  have := breach_rooms hb (h := (bg l p i).toNat) (by omega)
  rw [show (((bg l p i).toNat : Nat) : Int) = bg l p i by omega] at this
  have := hv.r0
  omega
/-- The rooms of a plan. -/
def roomF (ha : Hal) (l : List Camp) (p : List Int) : Nat → Int := (stRU l p ha.ro.toNat (ordD l p ha.st.length)).1
theorem roomF_inv {ha : Hal} {l : List Camp} {p : List Int} (hv : VH ha l) (hb : (breachS ha l p).ru = 0) : Inv l p ha.ro.toNat (ordD l p ha.st.length) (roomF ha l p) (stRU l p ha.ro.toNat (ordD l p ha.st.length)).2 := (ord_inv _ _ rfl (ordD_ord hv hb)).1
theorem roomF_doc {ha : Hal} {l : List Camp} {p : List Int} (hv : VH ha l) (hb : (breachS ha l p).ru = 0) : stD l p ha.ro.toNat (fun _ => -1) (ordD l p ha.st.length) = roomF ha l p := (ord_inv _ _ rfl (ordD_ord hv hb)).2
theorem mem_ordD_valid {ha : Hal} {l : List Camp} {p : List Int} (hv : VH ha l) (hb : (breachS ha l p).ru = 0) {i : Nat} : i ∈ ordD l p ha.st.length ↔ i < l.length ∧ 0 < (cth l i).pr := by
  rw [mem_ordD]
  constructor
  · rintro ⟨h1, h2, h3, h4⟩
    have := (hv.cb i h1).pr0
    exact ⟨h1, by omega⟩
  · rintro ⟨h1, h2⟩
    have := bg_in hv hb h1
    exact ⟨h1, by omega, this.1, this.2.1⟩
theorem roomF_range {ha : Hal} {l : List Camp} {p : List Int} (hv : VH ha l) (hb : (breachS ha l p).ru = 0) {i : Nat} (hi : i < l.length) : -1 ≤ roomF ha l p i ∧ roomF ha l p i < ha.ro ∧ (roomF ha l p i < 0 ↔ (cth l i).pr = 0) := by
  have hr := hv.r0
  have hp := (hv.cb i hi).pr0
  have hI := roomF_inv hv hb
  by_cases hm : i ∈ ordD l p ha.st.length
  · have h1 := hI.rin i hm
    omega
  · have h1 := hI.out i hm
    rw [mem_ordD_valid hv hb] at hm
    have : ¬ 0 < (cth l i).pr := fun h => hm ⟨hi, h⟩
    omega
theorem roomF_apart {ha : Hal} {l : List Camp} {p : List Int} (hv : VH ha l) (hb : (breachS ha l p).ru = 0) {i k : Nat} (hik : i ≠ k) (h0 : 0 ≤ roomF ha l p i) (he : roomF ha l p i = roomF ha l p k) : nth p i ≤ bg l p k ∨ nth p k ≤ bg l p i := by
  have hI := roomF_inv hv hb
  have mem : ∀ j, 0 ≤ roomF ha l p j → j ∈ ordD l p ha.st.length := fun j hj => Classical.byContradiction fun hn => by have := hI.out j hn; omega
  exact hI.dis i k (mem i h0) (mem k (by omega)) hik he
/-- The key by which the program sorts. -/
def keyP (l : List Camp) (p : List Int) (v : Int) : Int := bg l p v.toNat
def prepsTo (l : List Camp) : Nat → List Int
  | 0 => []
  | k + 1 => if 0 < (cth l k).pr then prepsTo l k ++ [(k : Int)] else prepsTo l k
theorem prepsTo_len (l : List Camp) : ∀ k, (prepsTo l k).length ≤ k
  | 0 => by simp [prepsTo]
  | k + 1 => by
    have := prepsTo_len l k
    simp only [prepsTo]; split <;> simp <;> omega
theorem mem_prepsTo (l : List Camp) (v : Int) : ∀ k, v ∈ prepsTo l k ↔ ∃ i : Nat, v = i ∧ i < k ∧ 0 < (cth l i).pr
  | 0 => by simp [prepsTo]
  | k + 1 => by
    have ih := mem_prepsTo l v k
    simp only [prepsTo]
    split
    · rename_i h
      rw [List.mem_append, ih]
      constructor
      · rintro (⟨i, h1, h2, h3⟩ | h1)
        · exact ⟨i, h1, by omega, h3⟩
        · simp at h1; exact ⟨k, h1, by omega, h⟩
      · rintro ⟨i, h1, h2, h3⟩
        by_cases e : i = k
        · subst e; right; simp [h1]
        · exact .inl ⟨i, h1, by omega, h3⟩
    · rename_i h
      rw [ih]
      constructor
      · rintro ⟨i, h1, h2, h3⟩; exact ⟨i, h1, by omega, h3⟩
      · rintro ⟨i, h1, h2, h3⟩
        refine ⟨i, h1, ?_, h3⟩
        by_cases e : i = k
        · subst e; exact absurd h3 h
        · omega
theorem prepsTo_asc (l : List Camp) : ∀ k, (prepsTo l k).Pairwise (· < ·)
  | 0 => by simp [prepsTo]
  | k + 1 => by
    simp only [prepsTo]; split
    · rw [List.pairwise_append]
      refine ⟨prepsTo_asc l k, List.pairwise_singleton _ _, fun a ha b hb => ?_⟩
      rw [mem_prepsTo] at ha
      obtain ⟨i, rfl, h1, h2⟩ := ha
      simp at hb; omega
    · exact prepsTo_asc l k
/-- What the program goes through. -/
def ordP (l : List Camp) (p : List Int) : List Int := sortS (keyP l p) (prepsTo l l.length)
theorem ordP_len (l : List Camp) (p : List Int) : (ordP l p).length ≤ l.length := by unfold ordP; rw [sortS_len]; exact prepsTo_len _ _
theorem ordP_eq {ha : Hal} {l : List Camp} {p : List Int} (hv : VH ha l) (hb : (breachS ha l p).ru = 0) : ordP l p = (ordD l p ha.st.length).map fun i : Nat => (i : Int) := by
  refine sortS_is (prepsTo_asc l _) ?_ fun a => ?_
  · rw [List.pairwise_map]
    refine (ordD_lex l p _).imp fun {a b} h => ?_
    unfold lexP keyP
    simp only [Int.toNat_natCast]
    omega
  · rw [mem_prepsTo, List.mem_map]
    constructor
    · rintro ⟨i, rfl, h1, h2⟩
      exact ⟨i, (mem_ordD_valid hv hb).2 ⟨h1, h2⟩, rfl⟩
    · rintro ⟨i, h1, rfl⟩
      have := (mem_ordD_valid hv hb).1 h1
      exact ⟨i, rfl, this.1, this.2⟩
/-- After the first k of the order. -/
def stK (ha : Hal) (l : List Camp) (p : List Int) (k : Nat) : RU := stRU l p ha.ro.toNat ((ordD l p ha.st.length).take k)
theorem stK_end {ha : Hal} {l : List Camp} {p : List Int} (hv : VH ha l) (hb : (breachS ha l p).ru = 0) : (stK ha l p (ordP l p).length).1 = roomF ha l p := by
  rw [ordP_eq hv hb, List.length_map]; unfold stK roomF; rw [List.take_length]
/-- One more of the order: who it is, the room it gets, and what stands then. -/
theorem stK_step {ha : Hal} {l : List Camp} {p : List Int} (hv : VH ha l) (hb : (breachS ha l p).ru = 0) {k : Nat} (hk : k < (ordP l p).length) :
    ∃ i r : Nat, nth (ordP l p) k = i ∧ i < l.length ∧ r < ha.ro.toNat ∧ freeR ha.ro.toNat (stK ha l p k).2 (bg l p i) = some r ∧ stK ha l p (k + 1) = (updN (stK ha l p k).1 i r, updN (stK ha l p k).2 r (nth p i)) := by
  have e := ordP_eq hv hb
  have hk' : k < (ordD l p ha.st.length).length := by rw [e, List.length_map] at hk; exact hk
  have hO := ordD_ord hv hb
  have ht : (ordD l p ha.st.length).take (k + 1) = (ordD l p ha.st.length).take k ++ [(ordD l p ha.st.length)[k]] := List.take_succ_eq_append_getElem hk'
  have hO1 : Ord l p ha.ro.toNat ((ordD l p ha.st.length).take (k + 1)) := Ord.pre (b := (ordD l p ha.st.length).drop (k + 1)) (by rw [List.take_append_drop]; exact hO)
  rw [ht] at hO1
  obtain ⟨h1, -⟩ := ord_inv _ _ rfl hO1.pre
  obtain ⟨h3, h4⟩ := hO1.last
  obtain ⟨h5, h6, h7, h8⟩ := hO1.mem (ordD l p ha.st.length)[k] (List.mem_append_right _ (List.mem_singleton.2 rfl))
  obtain ⟨r, r1, r2, r3⟩ := h1.room h3 h5 h6 h7 h4 h8
  refine ⟨(ordD l p ha.st.length)[k], r, ?_, h5, r1, r2, ?_⟩
  · rw [nth_eq _ _ hk]
    simp only [e, List.getElem_map]
  · show stRU l p ha.ro.toNat ((ordD l p ha.st.length).take (k + 1)) = _
    rw [ht, stRU_snoc]
    unfold stepP
    rw [r2]
    rfl
/-- The energy of each hour, as the program lays it. -/
def useF (l : List Camp) (p : List Int) : Nat → Nat → Int
  | 0 => fun _ => 0
  | k + 1 => markF (nth p k) (nth p k + (cth l k).ho) (cth l k).en (useF l p k)
/-- As the document tells it. -/
def enD (l : List Camp) (p : List Int) (hour : Nat) : Int := match fIdx (fun i => runB (cth l i) (nth p i) hour) l.length with | some i => (cth l i).en | none => 0
theorem useF_step (l : List Camp) (p : List Int) (k hour : Nat) : useF l p (k + 1) hour = if runB (cth l k) (nth p k) hour then (cth l k).en else useF l p k hour := by
  simp only [useF, markF, runB_iff]
theorem useF_none {l : List Camp} {p : List Int} {hour : Nat} : ∀ k, (∀ i, i < k → runB (cth l i) (nth p i) hour = false) → useF l p k hour = 0
  | 0, _ => rfl
  | k + 1, h => by
    rw [useF_step, h k (by omega)]
    simpa using useF_none k fun i hi => h i (by omega)
theorem useF_some {l : List Camp} {p : List Int} {hour i : Nat} (hr : runB (cth l i) (nth p i) hour = true) : ∀ k, i < k → (∀ j, j < k → j ≠ i → runB (cth l j) (nth p j) hour = false) → useF l p k hour = (cth l i).en
  | 0, h, _ => by omega
  | k + 1, h, hf => by
    rw [useF_step]
    by_cases e : k = i
    · subst e; rw [hr]; rfl
    · rw [hf k (by omega) e]
      simpa using useF_some hr k (by omega) fun j hj => hf j (by omega)
theorem run_other {ha : Hal} {l : List Camp} {p : List Int} (hv : VH ha l) (hb : (breachS ha l p).ru = 0) {i j : Nat} (hi : i < l.length) (hj : j < l.length) (hij : j ≠ i) {h : Int} (hr : runB (cth l i) (nth p i) h = true) : runB (cth l j) (nth p j) h = false := by
  cases e : runB (cth l j) (nth p j) h with
  | false => rfl
  | true =>
    rcases Nat.lt_or_gt_of_ne hij with h1 | h1
    · exact (run_once hv hb h1 hi e hr).elim
    · exact (run_once hv hb h1 hj hr e).elim
theorem useF_doc {ha : Hal} {l : List Camp} {p : List Int} (hv : VH ha l) (hb : (breachS ha l p).ru = 0) (hour : Nat) : useF l p l.length hour = enD l p hour := by
  unfold enD
  rcases fIdx_cases (fun i => runB (cth l i) (nth p i) hour) l.length with ⟨k, h1, h2, h3, h4⟩ | ⟨h1, h2⟩
  · rw [h4]
    exact useF_some h2 _ h1 fun j hj hjk => run_other hv hb h1 hj hjk h2
  · rw [h2]; exact useF_none _ h1
/-- How many run in an hour. -/
def runTo (l : List Camp) (p : List Int) (k : Nat) (hour : Int) : Nat := howMany (fun i => runB (cth l i) (nth p i) hour) k
theorem howMany_none {q : Nat → Bool} : ∀ n, (∀ i, i < n → q i = false) → howMany q n = 0
  | 0, _ => rfl
  | n + 1, h => by simp [howMany, h n (by omega), howMany_none n fun i hi => h i (by omega)]
theorem run_energy {ha : Hal} {l : List Camp} {p : List Int} (hv : VH ha l) (hb : (breachS ha l p).ru = 0) {i : Nat} (hi : i < l.length) {h : Nat} (h1 : runB (cth l i) (nth p i) h = true) : (cth l i).en ≤ nth ha.en h := by
  obtain ⟨q1, q2, q3⟩ := single_ok (breach_single hb)
  have ht : 0 ≤ nth p i ∧ 0 ≤ (cth l i).ho := by
    have := (bg_in hv hb hi).2.2.1; have := (hv.cb i hi).ho0
    omega
  have hs := q3 i hi
  refine Classical.byContradiction fun hn => ?_
  rcases fIdx_cases (fun j : Nat => runB (cth l i) (nth p i) (j : Nat) && decide (nth ha.en j < (cth l i).en)) (h + 1) with ⟨k, k1, k2, k3, k4⟩ | ⟨k1, k2⟩
  · rw [Bool.and_eq_true] at k2
    have := hEnergy_found (ha := ha) ht.1 (by omega) k2.1 k2.2 k3
    omega
  · have := k1 h (by omega)
    rw [h1] at this
    simp at this
    omega
theorem use_hour {ha : Hal} {l : List Camp} {p : List Int} (hv : VH ha l) (hb : (breachS ha l p).ru = 0) {h : Nat} (hh : h < ha.st.length) :
    useF l p l.length h ≤ nth ha.en h ∧ runTo l p l.length h ≤ 1 ∧ (runTo l p l.length h = 0 → useF l p l.length h = 0) ∧ (runTo l p l.length h = 1 → ¬ nth ha.st h = 0) := by
  unfold runTo
  rcases fIdx_cases (fun i => runB (cth l i) (nth p i) h) l.length with ⟨k, h1, h2, h3, h4⟩ | ⟨h1, h2⟩
  · have hu := useF_some h2 _ h1 fun j hj hjk => run_other hv hb h1 hj hjk h2
    have hc : howMany (fun i => runB (cth l i) (nth p i) h) l.length = 1 := by
      rw [howMany_less (fun i => runB (cth l i) (nth p i) h) k h2 l.length h1, howMany_none]
      intro i hi
      by_cases e : i = k
      · simp [e]
      · simp [run_other hv hb h1 hi e h2]
    rw [hu, hc]
    exact ⟨run_energy hv hb h1 h2, Nat.le_refl _, fun e => by omega, fun _ => run_staffed hv hb h1 h2⟩
  · rw [useF_none _ h1, howMany_none _ h1]
    exact ⟨(hv.ee h hh).1, by omega, fun _ => rfl, fun e => by omega⟩
end Go.Proofs.Ytjpgignbjkgjiaa
