/-
  Plain laws: Order's answer keeps blocks and groups together.
-/
import Derived.Test.YtplbofhgmflnlaaGreatPO
set_option linter.unusedVariables false
set_option linter.unusedSimpArgs false
namespace Go.Proofs.YtplbofhgmflnlaaGreat
theorem flat_together {κ α : Type} (k : α → κ) (F : κ → List α) : ∀ D : List κ, D.Nodup → (∀ d ∈ D, ∀ x ∈ F d, k x = d) →
    ∀ (j m i : Nat) (hj : j ≤ m) (hm : m ≤ i) (hi : i < (D.flatMap F).length), k ((D.flatMap F)[j]'(by omega)) = k ((D.flatMap F)[i]) → k ((D.flatMap F)[m]'(by omega)) = k ((D.flatMap F)[i])
  | [], _, _, j, m, i, _, _, hi, _ => by simp at hi
  | d :: D, hnd, hF, j, m, i, hj, hm, hi, he => by
    have hnd' := List.nodup_cons.1 hnd
    simp only [List.flatMap_cons] at hi he ⊢
    have hin : ∀ q (hq : q < (F d).length), k ((F d)[q]) = d := fun q hq => hF d (by simp) _ (List.getElem_mem hq)
    by_cases h1 : i < (F d).length
    · rw [List.getElem_append_left (by omega), List.getElem_append_left h1, hin, hin]
    · rw [List.getElem_append_right (by omega : (F d).length ≤ i)] at he ⊢
      by_cases h2 : j < (F d).length
      · rw [List.getElem_append_left h2, hin] at he
        exfalso
        have hx : i - (F d).length < (D.flatMap F).length := by rw [List.length_append] at hi; omega
        obtain ⟨d', hd', hx'⟩ := List.mem_flatMap.1 (List.getElem_mem hx)
        have := hF d' (by simp [hd']) _ hx'
        rw [← he] at this
        exact hnd'.1 (this ▸ hd')
      · rw [List.getElem_append_right (by omega)] at he
        rw [List.getElem_append_right (by omega)]
        exact flat_together k F D hnd'.2 (fun d' hd' => hF d' (by simp [hd'])) (j - (F d).length) (m - (F d).length) (i - (F d).length) (by omega) (by omega) (by rw [List.length_append] at hi; omega) he
section
variable {K : Nat → List Int} {n : Nat} {sd : Int}
theorem shM_key (hn : n ≤ 1000000) {key : List Int} {x : Int} (hx : x ∈ shM K n sd key) : ∃ j : Nat, x = (j : Int) ∧ j < n ∧ K j = key := by
  have := (shM_perm hn key).mem_iff.1 hx
  unfold memI at this
  obtain ⟨j, hj, rfl⟩ := List.mem_map.1 this
  rw [List.mem_filter, List.mem_range] at hj
  exact ⟨j, rfl, hj.1, by simpa using hj.2⟩
theorem shM_keyI (hn : n ≤ 1000000) {key : List Int} {x : Int} (hx : x ∈ shM K n sd key) : K x.toNat = key := by
  obtain ⟨j, rfl, h1, h2⟩ := shM_key hn hx
  rw [Int.toNat_natCast]; exact h2
/-- Blocks do not fall. -/
theorem ordL_blocks (hn : n ≤ 1000000) : (ordL K n sd).Pairwise (fun x y => KB K x.toNat ≤ KB K y.toNat) := by
  have hk : (ordK K n sd).Pairwise (fun a b => nth a 0 ≤ nth b 0) := by
    unfold ordK
    rw [List.flatMap_def, List.pairwise_flatten]
    refine ⟨?_, ?_⟩
    · intro l hl
      obtain ⟨b, hb, rfl⟩ := List.mem_map.1 hl
      refine List.Pairwise.imp_of_mem (R := fun _ _ => True) ?_ (List.pairwise_of_forall (fun _ _ => trivial))
      intro x y hx hy _
      rw [(shB_mem hn hx).2, (shB_mem hn hy).2]; exact Int.le_refl _
    · rw [List.pairwise_map]
      refine (sNs_asc K n).imp ?_
      intro a b hab x hx y hy
      rw [(shB_mem hn hx).2, (shB_mem hn hy).2]; omega
  unfold ordL
  rw [List.flatMap_def, List.pairwise_flatten]
  refine ⟨?_, ?_⟩
  · intro l hl
    obtain ⟨b, hb, rfl⟩ := List.mem_map.1 hl
    refine List.Pairwise.imp_of_mem (R := fun _ _ => True) ?_ (List.pairwise_of_forall (fun _ _ => trivial))
    intro x y hx hy _
    unfold KB
    rw [shM_keyI hn hx, shM_keyI hn hy]; exact Int.le_refl _
  · rw [List.pairwise_map]
    refine hk.imp ?_
    intro a b hab x hx y hy
    unfold KB
    rw [shM_keyI hn hx, shM_keyI hn hy]; exact hab
/-- What has one key stands together. -/
theorem ordL_together (hn : n ≤ 1000000) {j m i : Nat} (hj : j ≤ m) (hm : m ≤ i) (hi : i < (ordL K n sd).length) (h : K (nth (ordL K n sd) j).toNat = K (nth (ordL K n sd) i).toNat) : K (nth (ordL K n sd) m).toNat = K (nth (ordL K n sd) i).toNat := by
  rw [nth_eq _ _ (by omega), nth_eq _ _ hi] at h ⊢
  exact flat_together (fun x : Int => K x.toNat) (shM K n sd) (ordK K n sd) (ordK_nodup hn) (fun d _ x hx => shM_keyI hn hx) j m i hj hm hi h
end
end Go.Proofs.YtplbofhgmflnlaaGreat
