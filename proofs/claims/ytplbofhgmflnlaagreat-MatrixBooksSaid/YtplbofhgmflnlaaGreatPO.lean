/-
  A plain law: the reference's order is the program's.
-/
import Derived.Test.YtplbofhgmflnlaaGreatMK8
set_option linter.unusedVariables false
set_option linter.unusedSimpArgs false
namespace Go.Proofs.YtplbofhgmflnlaaGreat
section
variable {α β : Type} [Inhabited α] [Inhabited β]
theorem swp_map (f : α → β) (l : List α) (i j : Nat) (hi : i < l.length) (hj : j < l.length) : swp (l.map f) i j = (swp l i j).map f := by
  unfold swp
  rw [List.map_set, List.map_set]
  simp [List.getD, List.getElem?_map, List.getElem?_eq_getElem hi, List.getElem?_eq_getElem hj]
theorem drw_lt (s : Int) (k : Nat) (hk : k + 1 ≤ 1000000) : (drw (lcg s) ((k + 1 : Nat) : Int)).toNat < k + 1 := by
  have := drw_bd (lcg s) ((k + 1 : Nat) : Int) (lcg_bd s).1 (lcg_bd s).2 (by omega) (by omega)
  omega
theorem shufK_map (f : α → β) : ∀ (k : Nat) (s : Int) (l : List α), k ≤ l.length → k ≤ 1000000 → shufK k s (l.map f) = (shufK k s l).map f
  | 0, _, _, _, _ => rfl
  | 1, _, _, _, _ => rfl
  | k + 2, s, l, hk, hm => by
    have : (drw (lcg s) ((k + 2 : Nat) : Int)).toNat < k + 2 := drw_lt s (k + 1) hm
    simp only [shufK]
    rw [swp_map f l _ _ (by omega) (by omega)]
    exact shufK_map f (k + 1) _ _ (by simp [swp]; omega) (by omega)
theorem shufL_map (f : α → β) (s : Int) (l : List α) (h : l.length ≤ 1000000) : shufL s (l.map f) = (shufL s l).map f := by
  unfold shufL
  rw [List.length_map]
  exact shufK_map f _ _ _ (Nat.le_refl _) h
end
theorem list_rng {α : Type} (d : α) (l : List α) : (rngI l.length).map (fun q => l.getD q.toNat d) = l := by
  unfold rngI fl
  rw [List.map_map]
  apply List.ext_getElem
  · simp
  · intro i h1 h2
    simp [List.getD, List.getElem?_eq_getElem h2]
theorem shuf_rng {α : Type} [Inhabited α] (d : α) (s : Int) (l : List α) (h : l.length ≤ 1000000) : shufL s l = (shufK l.length s (rngI l.length)).map fun q => l.getD q.toNat d := by
  conv => lhs; rw [← list_rng d l]
  have hl : (rngI l.length).length = l.length := by simp [rngI, fl]
  rw [shufL_map _ _ _ (by rw [hl]; exact h)]
  unfold shufL
  rw [hl]
/-- i is the first of its group. -/
def isFst (K : Nat → List Int) (i : Nat) : Bool := (List.range i).all fun j => decide (K j ≠ K i)
/-- The first ones of the groups of a block. -/
def fstB (K : Nat → List Int) (n : Nat) (b : Int) : List Nat := (List.range n).filter fun i => decide (KB K i = b) && isFst K i
theorem ddK_fst (K : Nat → List Int) : ∀ n, ddK K n = ((List.range n).filter (isFst K)).map K
  | 0 => rfl
  | n + 1 => by
    rw [List.range_succ, List.filter_append, List.map_append, ← ddK_fst K n]
    simp only [ddK]
    have hm := mem_ddK K (K n) n
    split
    · rename_i h
      obtain ⟨j, hj, e⟩ := hm.1 h
      have : isFst K n = false := by
        unfold isFst
        rw [← Bool.not_eq_true, List.all_eq_true]
        intro h'
        have := h' j (List.mem_range.2 hj)
        simp [e] at this
      simp [this]
    · rename_i h
      have : isFst K n = true := by
        unfold isFst
        rw [List.all_eq_true]
        intro j hj
        rw [decide_eq_true_eq]
        intro e
        exact h (hm.2 ⟨j, List.mem_range.1 hj, e⟩)
      simp [this]
theorem kbI_fst (K : Nat → List Int) (n : Nat) (b : Int) : kbI K n b = (fstB K n b).map K := by
  unfold kbI fstB
  rw [ddK_fst, List.filter_map, List.filter_filter]
  congr 1
theorem head_filter {p : Nat → Bool} {n i : Nat} (hi : i < n) (hp : p i = true) (hn : ∀ j, j < i → p j = false) : ((List.range n).filter p).head? = some i := by
  have e : List.range n = List.range i ++ i :: (List.range (n - i - 1)).map (i + 1 + ·) := by
    conv => lhs; rw [show n = i + (1 + (n - i - 1)) by omega]
    rw [List.range_add, List.range_add]
    simp [Nat.add_assoc]
  rw [e, List.filter_append, List.filter_eq_nil_iff.2, List.nil_append, List.filter_cons_of_pos hp]
  · rfl
  · intro a ha; rw [hn a (List.mem_range.1 ha)]; simp
theorem memI_fst {K : Nat → List Int} {n i : Nat} (hi : i < n) (hf : isFst K i = true) : nth (memI K n (K i)) 0 = (i : Int) := by
  have h1 := head_filter (p := fun j => decide (K j = K i)) hi (by simp) (fun j hj => by
    unfold isFst at hf
    rw [List.all_eq_true] at hf
    have := hf j (List.mem_range.2 hj)
    simpa using this)
  unfold memI nth
  cases hl : (List.range n).filter fun j => decide (K j = K i) with
  | nil => rw [hl] at h1; simp at h1
  | cons a l =>
    rw [hl] at h1
    simp at h1
    subst h1
    simp
/-- What the reference puts for one group. -/
def refG (K : Nat → List Int) (n : Nat) (sd : Int) (i : Nat) : List Int := (shufK (memI K n (K i)).length (seedM sd (i : Int)) (rngI (memI K n (K i)).length)).map fun q => nth (memI K n (K i)) q.toNat
/-- What the reference puts for one block. -/
def refB (K : Nat → List Int) (n : Nat) (sd b : Int) : List Int := (shufK (fstB K n b).length (seedB sd b) (rngI (fstB K n b).length)).flatMap fun q => refG K n sd ((fstB K n b).getD q.toNat 0)
theorem refG_eq {K : Nat → List Int} {n : Nat} {sd : Int} {i : Nat} (hn : n ≤ 1000000) (hi : i < n) (hf : isFst K i = true) : refG K n sd i = shM K n sd (K i) := by
  unfold refG shM
  have := memI_len K n (K i)
  rw [memI_fst hi hf, shuf_rng 0 _ _ (by omega)]
  rfl
theorem refB_eq {K : Nat → List Int} {n : Nat} {sd b : Int} (hn : n ≤ 1000000) : refB K n sd b = (shB K n sd b).flatMap (shM K n sd) := by
  have hl := kbI_len K n b
  rw [kbI_fst, List.length_map] at hl
  unfold refB shB
  rw [kbI_fst, shufL_map K _ _ (by omega), shuf_rng 0 _ _ (by omega), List.map_map, List.flatMap_map, List.flatMap_def, List.flatMap_def]
  congr 1
  refine List.map_congr_left fun q hq => ?_
  have hq2 : ∃ j : Nat, j < (fstB K n b).length ∧ q = (j : Int) := by
    have hp : (shufK (fstB K n b).length (seedB sd b) (rngI (fstB K n b).length)).Perm (rngI (fstB K n b).length) := shufK_perm _ _ _ (by rw [rngI_len]; exact Nat.le_refl _) (by omega)
    exact rngI_mem.1 (hp.mem_iff.1 hq)
  obtain ⟨j, hj, rfl⟩ := hq2
  have hlt : ((j : Nat) : Int).toNat < (fstB K n b).length := by omega
  simp only [Function.comp_apply, List.getD, List.getElem?_eq_getElem hlt, Option.getD_some]
  have hm : (fstB K n b)[((j : Nat) : Int).toNat] ∈ fstB K n b := List.getElem_mem hlt
  generalize (fstB K n b)[((j : Nat) : Int).toNat] = i at hm
  unfold fstB at hm
  rw [List.mem_filter, Bool.and_eq_true] at hm
  exact refG_eq hn (List.mem_range.1 hm.1) hm.2.2
/-- The reference's order. -/
def refO (N : Nat) (K : Nat → List Int) (n : Nat) (sd : Int) : List Int := (List.range N).flatMap fun b : Nat => refB K n sd (b : Int)
theorem flat_range {α : Type} (F : Int → List α) : ∀ (m : Nat) (a : Nat) (L : List Int), L.Pairwise (· < ·) → (∀ x ∈ L, (a : Int) ≤ x ∧ x < (a + m : Nat)) → (∀ b : Nat, a ≤ b → b < a + m → (b : Int) ∉ L → F b = []) →
    (List.range m).flatMap (fun i => F ((a + i : Nat) : Int)) = L.flatMap F
  | 0, a, L, _, hL, _ => by
    cases L with
    | nil => rfl
    | cons x L => have := hL x (by simp); omega
  | m + 1, a, L, hs, hL, hF => by
    rw [List.range_succ_eq_map, List.flatMap_cons, List.flatMap_map]
    have ih := fun L' h1 h2 h3 => flat_range F m (a + 1) L' h1 h2 h3
    have e : (fun i : Nat => F ((a + (i + 1) : Nat) : Int)) = fun i : Nat => F ((a + 1 + i : Nat) : Int) := by
      funext i; congr 2; omega
    show F ((a + 0 : Nat) : Int) ++ List.flatMap (fun i : Nat => F ((a + (i + 1) : Nat) : Int)) (List.range m) = _
    rw [e]
    by_cases ha : (a : Int) ∈ L
    · cases L with
      | nil => simp at ha
      | cons x L =>
        rw [List.pairwise_cons] at hs
        have hx : x = (a : Int) := by
          rcases List.mem_cons.1 ha with h | h
          · exact h.symm
          · have := hs.1 _ h; have := hL x (by simp); omega
        subst hx
        rw [List.flatMap_cons, ih L hs.2]
        · rfl
        · intro y hy
          have := hs.1 y hy
          have := hL y (by simp [hy])
          omega
        · intro b h1 h2 h3
          exact hF b (by omega) (by omega) (fun h => by
            rcases List.mem_cons.1 h with h | h
            · omega
            · exact h3 h)
    · rw [ih L hs]
      · rw [Nat.add_zero, hF a (Nat.le_refl _) (by omega) ha]; rfl
      · intro y hy
        have := hL y hy
        have : y ≠ (a : Int) := fun e => ha (e ▸ hy)
        omega
      · intro b h1 h2 h3
        exact hF b (by omega) (by omega) h3
theorem sNs_asc (K : Nat → List Int) (n : Nat) : (sNs K n).Pairwise (· < ·) := by
  have h1 : (sNs K n).Pairwise (fun x y => decide (x ≤ y) = true) := by
    unfold sNs srt
    exact List.pairwise_mergeSort (fun a b c h1 h2 => by simp at *; omega) (fun a b => by simp; omega) _
  have h2 : (sNs K n).Nodup := sNs_nodup
  exact (h1.and h2).imp fun h => by
    have h3 := h.1
    have h4 := h.2
    simp at h3
    omega
theorem refO_eq {K : Nat → List Int} {n N : Nat} {sd : Int} (hn : n ≤ 1000000) (hb : ∀ i, i < n → 0 ≤ KB K i ∧ KB K i < (N : Int)) : refO N K n sd = ordL K n sd := by
  have h1 := flat_range (refB K n sd) N 0 (sNs K n) (sNs_asc K n) (fun x hx => by
    obtain ⟨j, hj, rfl⟩ := (mem_ddK (KB K) x n).1 (sNs_mem.1 hx)
    have := hb j hj
    omega) (fun b _ _ hnb => by
    rw [refB_eq hn]
    unfold shB
    rw [kbI_none (fun h => hnb (sNs_mem.2 h))]
    rfl)
  unfold refO ordL ordK
  simp only [Nat.zero_add] at h1
  rw [h1, List.flatMap_assoc]
  congr 1
  funext b
  exact refB_eq hn
end Go.Proofs.YtplbofhgmflnlaaGreat
