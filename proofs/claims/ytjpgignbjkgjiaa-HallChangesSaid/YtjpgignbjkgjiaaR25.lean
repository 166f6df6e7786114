/-
  Campaigns of the call's own, of which fields are set.
-/
import Derived.Test.YtjpgignbjkgjiaaB6
import Derived.Test.YtjpgignbjkgjiaaR3
import Derived.Test.YtjpgignbjkgjiaaP22
set_option linter.unusedVariables false
set_option linter.unusedSimpArgs false
namespace Go.Proofs.Ytjpgignbjkgjiaa
open Go.RowKit
def cput (c : Camp) (j : Nat) (v : Int) : Camp := match j with
  | 0 => { c with cu := v }
  | 1 => { c with pr := v }
  | 2 => { c with ho := v }
  | 3 => { c with en := v }
  | 4 => { c with ea := v }
  | 5 => { c with la := v }
  | _ => { c with we := v }
theorem ccell_cput (c : Camp) (v : Int) : ∀ j q, j < 7 → q < 7 → ccell (cput c j v) q = if q = j then .int .i64 v else ccell c q := by
  intro j q hj hq
  rcases (show j = 0 ∨ j = 1 ∨ j = 2 ∨ j = 3 ∨ j = 4 ∨ j = 5 ∨ j = 6 by omega) with rfl | rfl | rfl | rfl | rfl | rfl | rfl <;>
    rcases (show q = 0 ∨ q = 1 ∨ q = 2 ∨ q = 3 ∨ q = 4 ∨ q = 5 ∨ q = 6 by omega) with rfl | rfl | rfl | rfl | rfl | rfl | rfl <;> rfl
theorem cth_set (cs : List Camp) (i k : Nat) (c : Camp) (hk : k < cs.length) : cth (cs.set i c) k = if k = i then c else cth cs k := by
  rw [cth_eq _ _ (by simpa using hk), cth_eq _ _ hk, List.getElem_set]
  by_cases h : i = k
  · rw [if_pos h, if_pos h.symm]
  · rw [if_neg h, if_neg (fun e => h e.symm)]
theorem rowC_set (cs : List Camp) (i j : Nat) (v : Int) (hi : i < cs.length) (hj : j < 7) : (rowC cs).set (i * 7 + j) (.int .i64 v) = rowC (cs.set i (cput (cth cs i) j v)) := by
  apply List.ext_getElem?
  intro q
  rw [List.getElem?_set]
  rcases Nat.lt_or_ge q (cs.length * 7) with h | h
  · rw [rowC_get (cs.set i (cput (cth cs i) j v)) q (by rw [List.length_set]; exact h), cth_set _ _ _ _ (by omega), rowC_len]
    by_cases e : i * 7 + j = q
    · subst e
      rw [if_pos rfl, if_pos h, show (i * 7 + j) / 7 = i by omega, show (i * 7 + j) % 7 = j by omega, if_pos rfl, ccell_cput _ _ _ _ hj hj, if_pos rfl]
    · rw [if_neg e, rowC_get _ _ h]
      by_cases e2 : q / 7 = i
      · rw [if_pos e2, ccell_cput _ _ _ _ hj (by omega), if_neg (by omega), e2]
      · rw [if_neg e2]
  · rw [if_neg (by omega), List.getElem?_eq_none (by rw [rowC_len]; exact h), List.getElem?_eq_none (by rw [rowC_len, List.length_set]; exact h)]
theorem ownC_set {w : World} {B g n c i j : Nat} {cs : List Camp} (hn : cs.length = n) (h : OwnC w B (.slice (some ⟨g, 0, none⟩) n c) cs) (hi : i < n) (hj : j < 7) (v : Int) :
    OwnC (w.setCell ⟨g, i * 7 + j, none⟩ (.int .i64 v)) B (.slice (some ⟨g, 0, none⟩) n c) (cs.set i (cput (cth cs i) j v)) := by
  subst hn
  unfold OwnC at *
  have := (h.stored (i * 7 + j) (.int .i64 v)).1
  rw [rowC_set _ _ _ _ hi hj] at this
  rw [List.length_set]
  exact this
theorem ownC_free {w : World} {B g n c : Nat} {cs : List Camp} (hn : cs.length = n) (h : OwnC w B (.slice (some ⟨g, 0, none⟩) n c) cs) (j : Nat) : w.frozen? ⟨g, j, none⟩ = false := by
  subst hn; exact h.frozenAt j
theorem ownC_cell {w : World} {B g n c i j : Nat} {cs : List Camp} (hn : cs.length = n) (h : OwnC w B (.slice (some ⟨g, 0, none⟩) n c) cs) (hi : i < n) (hj : j < 7) : w.cell? ⟨g, i * 7 + j, none⟩ = some (ccell (cth cs i) j) := by
  subst hn
  rw [h.cellAt _ (by omega), rowC_at _ _ _ hi hj]
theorem ownC_keep {w w' : World} {B : Nat} {v : Value} {xs : List Camp} (h : OwnC w B v xs) (hk : ∀ k, B ≤ k → k < w.heap.size → w'.heap[k]? = w.heap[k]?) : OwnC w' B v xs := by
  obtain ⟨h1, h2⟩ := h
  refine ⟨h1, ?_⟩
  rcases h2 with h2 | ⟨g, cap, cur, hv, hg, hh, r⟩
  · exact .inl h2
  · exact .inr ⟨g, cap, cur, hv, hg, by rw [hk g hg (lt_of_block hh)]; exact hh, r⟩
theorem ownC_at {w w' : World} {B g n c : Nat} {xs : List Camp} (h : OwnC w B (.slice (some ⟨g, 0, none⟩) n c) xs) (hk : w'.heap[g]? = w.heap[g]?) : OwnC w' B (.slice (some ⟨g, 0, none⟩) n c) xs := by
  obtain ⟨h1, h2⟩ := h
  refine ⟨h1, ?_⟩
  rcases h2 with ⟨h2, h3⟩ | ⟨g1, cap, cur, hv, hb, hh, r⟩
  · cases h2
  · have : g1 = g := by simp only [Value.slice.injEq, Option.some.injEq, Addr.mk.injEq] at hv; exact hv.1.1.symm
    subst this
    exact .inr ⟨g1, cap, cur, hv, hb, by rw [hk]; exact hh, r⟩
theorem ownC_form {w : World} {B n c : Nat} {a : Option Addr} {xs : List Camp} (h : OwnC w B (.slice a n c) xs) (h0 : 0 < xs.length) : ∃ g, a = some ⟨g, 0, none⟩ ∧ B ≤ g ∧ g < w.heap.size := by
  rcases h.2 with ⟨hv, hz⟩ | ⟨g, cap, cur, hv, hg, hh, -⟩
  · omega
  · simp only [Value.slice.injEq] at hv
    exact ⟨g, hv.1, hg, lt_of_block hh⟩
/-- While the campaigns are made later. -/
def lateTo (n : Nat) (l : List Camp) (k : Nat) : List Camp := (List.range l.length).map fun i => if i < k then lateC n (cth l i) else cth l i
theorem lateTo_len (n : Nat) (l : List Camp) (k : Nat) : (lateTo n l k).length = l.length := by simp [lateTo]
theorem cth_lateTo (n : Nat) (l : List Camp) (k i : Nat) (h : i < l.length) : cth (lateTo n l k) i = if i < k then lateC n (cth l i) else cth l i := by
  rw [cth_eq _ _ (by rw [lateTo_len]; exact h)]; simp [lateTo]
theorem ext_cth (xs ys : List Camp) (hl : xs.length = ys.length) (h : ∀ i, i < xs.length → cth xs i = cth ys i) : xs = ys := by
  apply List.ext_getElem hl
  intro i h1 h2
  have := h i h1
  rwa [cth_eq _ _ h1, cth_eq _ _ h2] at this
theorem lateTo_zero (n : Nat) (l : List Camp) : lateTo n l 0 = l := ext_cth _ _ (lateTo_len _ _ _) fun i hi => by
  rw [lateTo_len] at hi
  rw [cth_lateTo _ _ _ _ hi, if_neg (by omega)]
theorem lateTo_end (n : Nat) (l : List Camp) : lateTo n l l.length = lateL n l := ext_cth _ _ (by rw [lateTo_len, lateL_len]) fun i hi => by
  rw [lateTo_len] at hi
  rw [cth_lateTo _ _ _ _ hi, if_pos hi, cth_lateL _ _ _ hi]
theorem lateTo_succ (n : Nat) (l : List Camp) (k : Nat) (hk : k < l.length) (a e : Int) (ha : a = (lateC n (cth l k)).la) (he : e = (lateC n (cth l k)).en) : ((lateTo n l k).set k (cput (cth (lateTo n l k) k) 5 a)).set k (cput (cth ((lateTo n l k).set k (cput (cth (lateTo n l k) k) 5 a)) k) 3 e) = lateTo n l (k + 1) := by
  refine ext_cth _ _ (by simp [lateTo_len]) fun i hi => ?_
  simp only [List.length_set, lateTo_len] at hi
  rw [cth_set _ _ _ _ (by simpa [lateTo_len] using hi), cth_lateTo _ _ (k + 1) _ hi]
  by_cases h : i = k
  · subst h
    rw [if_pos rfl, if_pos (by omega), cth_set _ _ _ _ (by rw [lateTo_len]; exact hi), if_pos rfl, cth_lateTo _ _ _ _ hi, if_neg (by omega), ha, he]
    rfl
  · rw [if_neg h, cth_set _ _ _ _ (by rw [lateTo_len]; exact hi), if_neg h, cth_lateTo _ _ _ _ hi]
    by_cases h2 : i < k
    · rw [if_pos h2, if_pos (by omega)]
    · rw [if_neg h2, if_neg (by omega)]
end Go.Proofs.Ytjpgignbjkgjiaa
