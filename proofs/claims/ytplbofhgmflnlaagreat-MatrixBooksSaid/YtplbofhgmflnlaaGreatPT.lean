/-
  Plain laws: a book's log, taken once each.
-/
import Derived.Test.YtplbofhgmflnlaaGreatMK8
set_option linter.unusedVariables false
set_option linter.unusedSimpArgs false
namespace Go.Proofs.YtplbofhgmflnlaaGreat
theorem qth_set_at (pts : List Pt) (k j : Nat) (p : Pt) (hj : j < pts.length) : qth (pts.set k p) j = if j = k then p else qth pts j := by
  rw [qth_eq _ _ (by simpa using hj), qth_eq _ _ hj, List.getElem_set]
  by_cases h : k = j
  · rw [if_pos h, if_pos h.symm]
  · rw [if_neg h, if_neg (fun e => h e.symm)]
/-- What holds of a book, of the takes counted and of the last place taken in each block. -/
structure OnceI (n : Nat) (ord : List Int) (pl : Nat → Nat) (bl : Nat → Int) (pts : List Pt) (R : List Int) (last : List (Int × Int)) : Prop where
  plen : pts.length = n
  rlen : R.length = n
  place : ∀ k, k < n → (qth pts k).place = (pl k : Int)
  blk : ∀ k, k < n → (qth pts k).blk = bl k
  pln : ∀ k, k < n → pl k < ord.length
  ordp : ∀ k, k < n → nth ord (pl k) = (k : Int)
  st : ∀ k, k < n → (qth pts k).st = 0 ∨ (qth pts k).st = 1 ∨ (qth pts k).st = 2
  runs : ∀ k, k < n → nth R k = if (qth pts k).st = 1 then 1 else 0
  rs : ∀ k, k < n → ((qth pts k).rs = ⟨#[]⟩ ↔ (qth pts k).st ≠ 2)
  first : ∀ q p, q < n → p < n → (qth pts q).st = 1 → (qth pts p).blk = (qth pts q).blk → pl p < pl q → (qth pts p).st ≠ 0
  lastK : (last.map Prod.fst).Nodup
  lastI : ∀ x ∈ last, ∃ q, q < n ∧ (qth pts q).st = 1 ∧ (qth pts q).blk = x.1 ∧ x.2 = (pl q : Int)
section
variable {n : Nat} {ord : List Int} {pl : Nat → Nat} {bl : Nat → Int} {pts : List Pt} {R : List Int} {last : List (Int × Int)}
theorem mem_take_pl (h : OnceI n ord pl bl pts R last) {p q : Nat} (hp : p < n) (hpq : pl p < pl q) : (p : Int) ∈ ord.take (pl q) := by
  have h1 := h.pln p hp
  have h2 := h.ordp p hp
  rw [nth_eq _ _ h1] at h2
  rw [← h2]
  exact List.mem_take_iff_getElem.2 ⟨pl p, by omega, rfl⟩
theorem mem_drop_pl (h : OnceI n ord pl bl pts R last) {p q : Nat} (hp : p < n) (hpq : pl q < pl p) : (p : Int) ∈ ord.drop (pl q + 1) := by
  have h1 := h.pln p hp
  have h2 := h.ordp p hp
  rw [nth_eq _ _ h1] at h2
  rw [← h2]
  refine List.mem_drop_iff_getElem.2 ⟨pl p - (pl q + 1), by omega, ?_⟩
  congr 1
  omega
/-- A run taken: nothing of its block stands open ahead of it. -/
theorem OnceI.take_zero (h : OnceI n ord pl bl pts R last) {k : Nat} (hk : k < n) (h0 : takeE pts ord k = 0) : (qth pts k).st = 0 ∧ ∀ p, p < n → pl p < pl k → (qth pts p).blk = (qth pts k).blk → (qth pts p).st ≠ 0 := by
  unfold takeE at h0
  split at h0
  · cases h0
  · rename_i h1
    split at h0
    · cases h0
    · rename_i h2
      refine ⟨by simpa using h1, fun p hp hpk hb hz => h2 ?_⟩
      rw [List.any_eq_true]
      rw [h.place k hk, Int.toNat_natCast]
      refine ⟨(p : Int), mem_take_pl h hp hpk, ?_⟩
      unfold someP
      rw [Int.toNat_natCast, hb, hz]; simp
theorem OnceI.take_last (h : OnceI n ord pl bl pts R last) {k : Nat} (hk : k < n) (h0 : takeE pts ord k = 0) {v : Int} (hv : ((qth pts k).blk, v) ∈ last) : ¬ (pl k : Int) < v := by
  obtain ⟨h1, h2⟩ := h.take_zero hk h0
  obtain ⟨q, hq, q1, q2, q3⟩ := h.lastI _ hv
  simp only at q2 q3
  rw [q3]
  intro hlt
  exact h.first q k hq hk q1 q2.symm (by omega) h1
theorem OnceI.take_runs (h : OnceI n ord pl bl pts R last) {k : Nat} (hk : k < n) (h0 : takeE pts ord k = 0) : nth R k = 0 := by
  rw [h.runs k hk, (h.take_zero hk h0).1]; rfl
theorem OnceI.take_ok (h : OnceI n ord pl bl pts R last) {k : Nat} (hk : k < n) (h0 : takeE pts ord k = 0) (last' : List (Int × Int)) (hn' : (last'.map Prod.fst).Nodup) (hl : ∀ x ∈ last', x ∈ last ∨ x = ((qth pts k).blk, (pl k : Int))) :
    OnceI n ord pl bl (pts.set k { qth pts k with st := 1 }) (R.set k 1) last' := by
  obtain ⟨h1, h2⟩ := h.take_zero hk h0
  have e : ∀ j, j < n → qth (pts.set k { qth pts k with st := 1 }) j = if j = k then { qth pts k with st := 1 } else qth pts j := fun j hj => qth_set_at _ _ _ _ (by rw [h.plen]; exact hj)
  have eb : ∀ j, j < n → (qth (pts.set k { qth pts k with st := 1 }) j).blk = (qth pts j).blk := fun j hj => by
    rw [e j hj]; split
    · rename_i h; rw [h]
    · rfl
  refine ⟨by rw [List.length_set]; exact h.plen, by rw [List.length_set]; exact h.rlen, fun j hj => ?_, fun j hj => by rw [eb j hj]; exact h.blk j hj, h.pln, h.ordp, fun j hj => ?_, fun j hj => ?_, fun j hj => ?_, fun q p hq hp h3 h4 h5 => ?_, hn', fun x hx => ?_⟩
  · rw [e j hj]; split
    · rename_i hjk; rw [hjk]; exact h.place k hk
    · exact h.place j hj
  · rw [e j hj]; split
    · exact .inr (.inl rfl)
    · exact h.st j hj
  · rw [e j hj, nth_set _ _ _ _ (by rw [h.rlen]; exact hj)]; split
    · simp
    · exact h.runs j hj
  · rw [e j hj]; split
    · rename_i hjk
      have := h.rs k hk
      rw [h1] at this
      simp only
      rw [this]; simp
    · exact h.rs j hj
  · rw [eb p hp, eb q hq] at h4
    rw [e p hp]; split
    · simp
    · rw [e q hq] at h3
      split at h3
      · rename_i hqk; subst hqk; exact h2 p hp h5 h4
      · exact h.first q p hq hp h3 h4 h5
  · rcases hl x hx with h3 | h3
    · obtain ⟨q, hq, q1, q2, q3⟩ := h.lastI x h3
      refine ⟨q, hq, ?_, by rw [eb q hq]; exact q2, q3⟩
      rw [e q hq]; split
      · rfl
      · exact q1
    · refine ⟨k, hk, ?_, by rw [eb k hk, h3], by rw [h3]⟩
      rw [e k hk, if_pos rfl]
theorem OnceI.decl_ok (h : OnceI n ord pl bl pts R last) {k : Nat} (hk : k < n) {r : ByteArray} (h0 : declE pts k r = 0) : OnceI n ord pl bl (pts.set k { qth pts k with st := 2, rs := r }) R last := by
  unfold declE at h0
  split at h0
  · cases h0
  · rename_i hname
    split at h0
    · cases h0
    · rename_i h1
      have hst : (qth pts k).st = 0 := by simpa using h1
      have hr : r ≠ ⟨#[]⟩ := fun e => by
        subst e
        apply hname
        rfl
      have e : ∀ j, j < n → qth (pts.set k { qth pts k with st := 2, rs := r }) j = if j = k then { qth pts k with st := 2, rs := r } else qth pts j := fun j hj => qth_set_at _ _ _ _ (by rw [h.plen]; exact hj)
      have eb : ∀ j, j < n → (qth (pts.set k { qth pts k with st := 2, rs := r }) j).blk = (qth pts j).blk := fun j hj => by
        rw [e j hj]; split
        · rename_i h; rw [h]
        · rfl
      refine ⟨by rw [List.length_set]; exact h.plen, h.rlen, fun j hj => ?_, fun j hj => by rw [eb j hj]; exact h.blk j hj, h.pln, h.ordp, fun j hj => ?_, fun j hj => ?_, fun j hj => ?_, fun q p hq hp h3 h4 h5 => ?_, h.lastK, fun x hx => ?_⟩
      · rw [e j hj]; split
        · rename_i hjk; rw [hjk]; exact h.place k hk
        · exact h.place j hj
      · rw [e j hj]; split
        · exact .inr (.inr rfl)
        · exact h.st j hj
      · rw [e j hj]; split
        · rename_i hjk; subst hjk; rw [h.runs j hj, hst]; rfl
        · exact h.runs j hj
      · rw [e j hj]; split
        · simp [hr]
        · exact h.rs j hj
      · rw [eb p hp, eb q hq] at h4
        rw [e q hq] at h3
        split at h3
        · simp at h3
        · rw [e p hp]; split
          · simp
          · exact h.first q p hq hp h3 h4 h5
      · obtain ⟨q, hq, q1, q2, q3⟩ := h.lastI x hx
        refine ⟨q, hq, ?_, by rw [eb q hq]; exact q2, q3⟩
        rw [e q hq]; split
        · rename_i hqk; subst hqk; rw [hst] at q1; cases q1
        · exact q1
theorem OnceI.reop_ok (h : OnceI n ord pl bl pts R last) {k : Nat} (hk : k < n) (h0 : reopE pts ord k = 0) : OnceI n ord pl bl (pts.set k { qth pts k with st := 0, rs := ⟨#[]⟩ }) R last := by
  unfold reopE at h0
  split at h0
  · cases h0
  · rename_i h1
    split at h0
    · cases h0
    · rename_i h2
      have hst : (qth pts k).st = 2 := by simpa using h1
      have hlate : ∀ q, q < n → (qth pts q).st = 1 → (qth pts q).blk = (qth pts k).blk → ¬ pl k < pl q := fun q hq q1 q2 hlt => h2 (by
        rw [List.any_eq_true, h.place k hk, Int.toNat_natCast]
        refine ⟨(q : Int), mem_drop_pl h hq hlt, ?_⟩
        unfold someP
        rw [Int.toNat_natCast, q1, q2]; simp)
      have e : ∀ j, j < n → qth (pts.set k { qth pts k with st := 0, rs := ⟨#[]⟩ }) j = if j = k then { qth pts k with st := 0, rs := ⟨#[]⟩ } else qth pts j := fun j hj => qth_set_at _ _ _ _ (by rw [h.plen]; exact hj)
      have eb : ∀ j, j < n → (qth (pts.set k { qth pts k with st := 0, rs := ⟨#[]⟩ }) j).blk = (qth pts j).blk := fun j hj => by
        rw [e j hj]; split
        · rename_i h; rw [h]
        · rfl
      refine ⟨by rw [List.length_set]; exact h.plen, h.rlen, fun j hj => ?_, fun j hj => by rw [eb j hj]; exact h.blk j hj, h.pln, h.ordp, fun j hj => ?_, fun j hj => ?_, fun j hj => ?_, fun q p hq hp h3 h4 h5 => ?_, h.lastK, fun x hx => ?_⟩
      · rw [e j hj]; split
        · rename_i hjk; rw [hjk]; exact h.place k hk
        · exact h.place j hj
      · rw [e j hj]; split
        · exact .inl rfl
        · exact h.st j hj
      · rw [e j hj]; split
        · rename_i hjk; subst hjk; rw [h.runs j hj, hst]; rfl
        · exact h.runs j hj
      · rw [e j hj]; split
        · simp
        · exact h.rs j hj
      · rw [eb p hp, eb q hq] at h4
        rw [e q hq] at h3
        split at h3
        · simp at h3
        · rw [e p hp]; split
          · rename_i hpk; subst hpk
            exact absurd h5 (hlate q hq h3 h4.symm)
          · exact h.first q p hq hp h3 h4 h5
      · obtain ⟨q, hq, q1, q2, q3⟩ := h.lastI x hx
        refine ⟨q, hq, ?_, by rw [eb q hq]; exact q2, q3⟩
        rw [e q hq]; split
        · rename_i hqk; subst hqk; rw [hst] at q1; cases q1
        · exact q1
end
theorem ptsTo_at {ss : List Se} {ord : List Int} (hp : ord.Perm (rngI ss.length)) : ∀ k, k ≤ ss.length → ∀ j, j < k → qth (ptsTo ss ord k) (nth ord j).toNat = ⟨(eth ss (nth ord j).toNat).blk, (j : Int), 0, ⟨#[]⟩⟩
  | 0, _, j, hj => by omega
  | k + 1, hk, j, hj => by
    have hl : ord.length = ss.length := by rw [hp.length_eq, rngI_len]
    have hnd : ord.Nodup := hp.nodup_iff.2 rngI_nodup
    have hat : ∀ i, i < ss.length → ∃ q : Nat, q < ss.length ∧ nth ord i = (q : Int) := fun i hi => by
      have : nth ord i ∈ ord := by rw [nth_eq _ _ (by omega)]; exact List.getElem_mem _
      exact rngI_mem.1 (hp.mem_iff.1 this)
    obtain ⟨q, hq, hqe⟩ := hat j (by omega)
    obtain ⟨r, hr, hre⟩ := hat k (by omega)
    rw [ptsTo, qth_set_at _ _ _ _ (by rw [ptsTo_len, hqe, Int.toNat_natCast]; exact hq)]
    by_cases e : j = k
    · subst e; rw [if_pos rfl]
    · rw [if_neg, ptsTo_at hp k (by omega) j (by omega)]
      intro h
      rw [hqe, hre, Int.toNat_natCast, Int.toNat_natCast] at h
      rw [nth_eq _ _ (by omega)] at hqe
      rw [nth_eq _ _ (by omega)] at hre
      have : ord[j]'(by omega) = ord[k]'(by omega) := by rw [hqe, hre, h]
      exact e ((List.getElem_inj hnd).1 this)
theorem once_start {ss : List Se} {ord : List Int} (hp : ord.Perm (rngI ss.length)) : ∃ pl : Nat → Nat, OnceI ss.length ord pl (fun k => (eth ss k).blk) (ptsTo ss ord ss.length) (fl ss.length fun _ => 0) [] := by
  have hl : ord.length = ss.length := by rw [hp.length_eq, rngI_len]
  have key : ∀ k : Nat, ∃ j : Nat, k < ss.length → j < ss.length ∧ nth ord j = (k : Int) := fun k => by
    by_cases hk : k < ss.length
    · have : (k : Int) ∈ ord := hp.mem_iff.2 (rngI_mem.2 ⟨k, hk, rfl⟩)
      obtain ⟨j, hj, he⟩ := List.getElem_of_mem this
      exact ⟨j, fun _ => ⟨by omega, by rw [nth_eq _ _ hj]; exact he⟩⟩
    · exact ⟨0, fun h => absurd h hk⟩
  obtain ⟨pl, hpl⟩ := Classical.axiomOfChoice key
  have hat : ∀ k, k < ss.length → qth (ptsTo ss ord ss.length) k = ⟨(eth ss k).blk, (pl k : Int), 0, ⟨#[]⟩⟩ := fun k hk => by
    obtain ⟨h1, h2⟩ := hpl k hk
    have := ptsTo_at hp ss.length (Nat.le_refl _) (pl k) h1
    rw [h2, Int.toNat_natCast] at this
    exact this
  refine ⟨pl, ptsTo_len _ _ _, fl_len _ _, fun k hk => by rw [hat k hk], fun k hk => by rw [hat k hk], fun k hk => by rw [hl]; exact (hpl k hk).1, fun k hk => (hpl k hk).2, fun k hk => by rw [hat k hk]; exact .inl rfl, fun k hk => ?_, fun k hk => by rw [hat k hk]; simp, fun q p hq hp h => ?_, by simp, fun x hx => by cases hx⟩
  · rw [hat k hk, nth_fl _ _ _ hk]; simp
  · rw [hat q hq] at h; simp at h
theorem openL_mem {n : Nat} {ord : List Int} {pl : Nat → Nat} {bl : Nat → Int} {pts : List Pt} {R : List Int} {last : List (Int × Int)} (h : OnceI n ord pl bl pts R last) {k : Nat} (hk : k < n) : (k : Int) ∈ openL pts ord ↔ (qth pts k).st = 0 := by
  unfold openL
  rw [List.mem_filter]
  unfold openP
  rw [Int.toNat_natCast]
  constructor
  · rintro ⟨-, h2⟩; simpa using h2
  · intro h2
    refine ⟨?_, by rw [h2]; rfl⟩
    rw [← h.ordp k hk, nth_eq _ _ (h.pln k hk)]
    exact List.getElem_mem _
theorem openL_start {n : Nat} {ord : List Int} {pl : Nat → Nat} {bl : Nat → Int} {pts : List Pt} {R : List Int} {last : List (Int × Int)} (h : OnceI n ord pl bl pts R last) (h0 : ∀ k, k < n → (qth pts k).st = 0) (hb : ∀ y ∈ ord, ∃ i : Nat, i < n ∧ y = (i : Int)) : openL pts ord = ord := by
  unfold openL
  rw [List.filter_eq_self]
  intro y hy
  obtain ⟨i, hi, rfl⟩ := hb y hy
  unfold openP
  rw [Int.toNat_natCast, h0 i hi]; rfl
end Go.Proofs.YtplbofhgmflnlaaGreat
