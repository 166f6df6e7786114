/-
  Plain laws and rows for the reference's Order.
-/
import Derived.Test.YtplbofhgmflnlaaGreatPO
import Derived.Test.YtplbofhgmflnlaaGreatNO4
set_option linter.unusedVariables false
set_option linter.unusedSimpArgs false
namespace Go.Proofs.YtplbofhgmflnlaaGreat
open Go.RowKit
theorem RowsAt.app1 {w : World} {B i : Nat} {L : List Rw} {v : Value} {xs : List Int} (h : RowsAt w B L) (hi : L[i]? = some (rwI v xs)) (hB : B ≤ w.heap.size) (hn : xs.length ≤ 16000000000000) (x : Int) :
    ∃ v' w', (Builtin.append_ #[31, 31] 31 #[v, .slice (some ⟨w.heap.size, 0, none⟩) 1 1]).run Tryz.prog (w.alloc (.cells #[.int .i64 x] 3)) = .ok v' w' ∧ RowsAt w' B (L.set i (rwI v' (xs ++ [x]))) ∧ (∃ a c, v' = .slice a (xs.length + 1) c) ∧ ∀ w0, Ext w0 w → w0.heap.size ≤ B → Ext w0 w' := by
  have he := (Ext.refl w).alloc (.cells #[.int .i64 x] 3)
  have h1 := h.ext he
  have hv : OwnI (w.alloc (.cells #[.int .i64 x] 3)) B v xs := h1.get hi
  obtain ⟨v', w', r1, r2, r3, r4⟩ := app_intsL (w.alloc (.cells #[.int .i64 x] 3)) B 31 v xs [x] (some ⟨w.heap.size, 0, none⟩) 1 hv (ints_one (heap_new _ _)) (by simp) (by simp; omega) (Nat.le_trans hB he.size)
  refine ⟨v', w', r1, ?_, ?_, fun w0 e0 hb => grown_ext (e0.trans he) r3 (fun k hk => Nat.le_trans hb (hv.lt k hk).1)⟩
  · have r2' : (rwI v' (xs ++ [x])).at w' B := r2
    exact h1.appended (r' := rwI v' (xs ++ [x])) hi r3 r2' r4
  · obtain ⟨a, n, c, rfl⟩ := own_slice r2
    obtain ⟨-, hn', -⟩ := r2.ints
    exact ⟨a, c, by rw [hn']; simp⟩
theorem RowsAt.new {w : World} {B : Nat} {L : List Rw} (h : RowsAt w B L) (hB : B ≤ w.heap.size) : RowsAt (w.alloc (.cells #[] 3)) B (rwI (.slice (some ⟨w.heap.size, 0, none⟩) 0 0) [] :: L) :=
  h.push (r := rwI (.slice (some ⟨w.heap.size, 0, none⟩) 0 0) []) (own_base (own_empty w 3 1) hB) (fun k hk => heap_old _ _ _ hk) (fun k hk => by simp only [Value.ownBlock, Option.some.injEq] at hk; omega)
theorem RowsAt.add {w w' : World} {B : Nat} {L : List Rw} {v : Value} {xs : List Int} (h : RowsAt w B L) (hB : B ≤ w.heap.size) (e : Ext w w') (ho : OwnI w' w.heap.size v xs) : RowsAt w' B (rwI v xs :: L) :=
  h.push (r := rwI v xs) (own_base ho hB) (fun k hk => Below.block e k hk) (fun k hk => (ho.lt k hk).1)
theorem fstB_succ (K : Nat → List Int) (i : Nat) (b : Int) : fstB K (i + 1) b = if (decide (KB K i = b) && isFst K i) = true then fstB K i b ++ [i] else fstB K i b := by
  unfold fstB
  rw [List.range_succ, List.filter_append]
  split <;> rename_i h
  · simp [h]
  · simp [h]
theorem memI_step (K : Nat → List Int) (i : Nat) (key : List Int) : memI K (i + 1) key = if K i = key then memI K i key ++ [(i : Int)] else memI K i key := by
  unfold memI
  rw [List.range_succ, List.filter_append]
  split <;> rename_i h
  · simp [h]
  · simp [h]
theorem isFst_iff {fs : List Fac} {ss : List Se} (hf : fs.length ≤ 8) (k i : Nat) (h1 : k ≤ i) (h2 : sameG fs (eth ss k) (eth ss i) = true) (h3 : ∀ j, j < k → sameG fs (eth ss j) (eth ss i) = false) : isFst (fun i => gL fs (eth ss i)) i = decide (k = i) := by
  unfold isFst
  by_cases e : k = i
  · rw [decide_eq_true e, List.all_eq_true]
    intro j hj
    rw [List.mem_range] at hj
    rw [decide_eq_true_eq]
    intro h
    have := h3 j (by omega)
    rw [(sameG_key hf).2 h] at this
    cases this
  · rw [decide_eq_false e, List.all_eq_false]
    refine ⟨k, List.mem_range.2 (by omega), ?_⟩
    have := (sameG_key hf).1 h2
    simp [this]
theorem flat_len {α β : Type} (f : α → List β) (c : Nat) : ∀ l : List α, (∀ x ∈ l, (f x).length ≤ c) → (l.flatMap f).length ≤ l.length * c
  | [], _ => by simp
  | x :: l, h => by
    rw [List.flatMap_cons, List.length_append, List.length_cons, Nat.add_mul]
    have h1 := h x (by simp)
    have h2 := flat_len f c l fun y hy => h y (by simp [hy])
    omega
theorem fstB_len (K : Nat → List Int) (n : Nat) (b : Int) : (fstB K n b).length ≤ n := by
  unfold fstB
  exact Nat.le_trans (List.length_filter_le _ _) (by simp)
theorem shufI_len (s : Int) (m : Nat) (hm : m ≤ 1000000) : (shufL s (rngI m)).length = m := by
  have : (shufL s (rngI m)).Perm (rngI m) := shufK_perm _ _ _ (Nat.le_refl _) (by rw [rngI_len]; omega)
  rw [this.length_eq, rngI_len]
theorem shufI_at (s : Int) (m : Nat) (hm : m ≤ 1000000) (g : Nat) (hg : g < m) : ∃ q : Nat, q < m ∧ nth (shufL s (rngI m)) g = (q : Int) := by
  have hp : (shufL s (rngI m)).Perm (rngI m) := shufK_perm _ _ _ (Nat.le_refl _) (by rw [rngI_len]; omega)
  have hl : g < (shufL s (rngI m)).length := by rw [shufI_len s m hm]; exact hg
  have : nth (shufL s (rngI m)) g ∈ shufL s (rngI m) := by rw [nth_eq _ _ hl]; exact List.getElem_mem _
  exact rngI_mem.1 (hp.mem_iff.1 this)
theorem refG_len {K : Nat → List Int} {n : Nat} {sd : Int} (i : Nat) (hn : n ≤ 1000000) : (refG K n sd i).length ≤ n := by
  unfold refG
  rw [List.length_map]
  have e := shufI_len (seedM sd (i : Int)) (memI K n (K i)).length (by have := memI_len K n (K i); omega)
  unfold shufL at e
  rw [rngI_len] at e
  rw [e]
  exact memI_len K n (K i)
theorem refG_eq' (K : Nat → List Int) (n : Nat) (sd : Int) (i : Nat) : refG K n sd i = (shufL (seedM sd (i : Int)) (rngI (memI K n (K i)).length)).map fun q => nth (memI K n (K i)) q.toNat := by
  unfold refG shufL; rw [rngI_len]
theorem refB_eq' (K : Nat → List Int) (n : Nat) (sd b : Int) : refB K n sd b = (shufL (seedB sd b) (rngI (fstB K n b).length)).flatMap fun q => refG K n sd ((fstB K n b).getD q.toNat 0) := by
  unfold refB shufL; rw [rngI_len]
theorem refB_len {K : Nat → List Int} {n : Nat} {sd b : Int} (hn : n ≤ 1000000) : (refB K n sd b).length ≤ n * n := by
  rw [refB_eq']
  refine Nat.le_trans (flat_len _ n _ fun q _ => refG_len _ hn) ?_
  rw [shufI_len _ _ (by have := fstB_len K n b; omega)]
  exact Nat.mul_le_mul (fstB_len K n b) (Nat.le_refl _)
theorem refO_succ (K : Nat → List Int) (n : Nat) (sd : Int) (b : Nat) : refO (b + 1) K n sd = refO b K n sd ++ refB K n sd (b : Int) := by
  unfold refO
  rw [List.range_succ, List.flatMap_append]
  simp
theorem refO_len {K : Nat → List Int} {n : Nat} {sd : Int} (hn : n ≤ 1000000) (b : Nat) : (refO b K n sd).length ≤ b * (n * n) := by
  unfold refO
  refine Nat.le_trans (flat_len _ (n * n) _ fun q _ => refB_len hn) ?_
  simp
theorem take_flat {α β : Type} [Inhabited α] (f : α → List β) (l : List α) (g : Nat) (hg : g < l.length) : (l.take (g + 1)).flatMap f = (l.take g).flatMap f ++ f l[g] := by
  rw [List.take_add_one, List.flatMap_append, List.getElem?_eq_getElem hg]
  simp
theorem fstB_mem {K : Nat → List Int} {n : Nat} {b : Int} {q : Nat} (hq : q < (fstB K n b).length) : (fstB K n b).getD q 0 < n := by
  have : (fstB K n b).getD q 0 ∈ fstB K n b := by simp [List.getElem_mem, hq]
  unfold fstB at this ⊢
  exact List.mem_range.1 (List.mem_filter.1 this).1
theorem natI_nth (l : List Nat) (q : Nat) (hq : q < l.length) : nth (natI l) q = ((l.getD q 0 : Nat) : Int) := by
  rw [nth_eq _ _ (by rw [natI_len]; exact hq)]
  simp [natI, hq]
theorem seedB_nat (sd : Int) (b : Nat) (hb : b < 1001) : IntKind.u64.wrap (sd + (b : Int) * 1000003) = seedB sd (b : Int) := by
  unfold seedB
  have e1 : IntKind.u64.wrap (b : Int) = (b : Int) := by rw [IntKind.wrap_u64]; omega
  have e2 : IntKind.u64.wrap ((b : Int) * 1000003) = (b : Int) * 1000003 := by rw [IntKind.wrap_u64]; omega
  rw [e1, e2]
theorem seedM_nat (sd : Int) (x : Nat) (hx : x < 1000000) : IntKind.u64.wrap (IntKind.u64.wrap (sd + 1) + (x : Int) * 7919) = seedM sd (x : Int) := by
  unfold seedM
  have e1 : IntKind.u64.wrap (x : Int) = (x : Int) := by rw [IntKind.wrap_u64]; omega
  have e2 : IntKind.u64.wrap ((x : Int) * 7919) = (x : Int) * 7919 := by rw [IntKind.wrap_u64]; omega
  rw [e1, e2]
end Go.Proofs.YtplbofhgmflnlaaGreat
