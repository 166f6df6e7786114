/-
  Base words: the caller's own links, of which fields and bytes of Bodies are set.
-/
import Derived.Test.YtlahejakcgoheaaWD
set_option linter.unusedVariables false
set_option linter.unusedSimpArgs false
namespace Go.Proofs.Ytlahejakcgoheaa
open Go.RowKit
theorem rowF_set {α : Type} {sz : Nat} (f : α → List Value) (hf : ∀ x, (f x).length = sz) : ∀ (xs : List α) (i j : Nat) (u : Value) (y : α), (hi : i < xs.length) → j < sz → f y = (f xs[i]).set j u → (rowF f xs).set (i * sz + j) u = rowF f (xs.set i y)
  | [], _, _, _, _, hi, _, _ => by simp at hi
  | x :: xs, 0, j, u, y, hi, hj, hy => by
    simp only [rowF, List.flatMap_cons, List.set_cons_zero, Nat.zero_mul, Nat.zero_add]
    rw [List.set_append_left _ _ (by rw [hf]; exact hj)]
    rw [show f y = (f x).set j u from hy]
  | x :: xs, i + 1, j, u, y, hi, hj, hy => by
    have ih := rowF_set f hf xs i j u y (by simpa using hi) hj hy
    simp only [rowF, List.flatMap_cons, List.set_cons_succ] at ih ⊢
    rw [List.set_append_right _ _ (by rw [hf, Nat.add_mul]; omega), hf, show (i + 1) * sz + j - sz = i * sz + j by rw [Nat.add_mul]; omega, ih]
theorem flat_set {xs : List Lv} {i : Nat} {y : Lv} (hi : i < xs.length) (h : y.ba = xs[i].ba) : (xs.set i y).flatMap (fun x => ob x.ba) = xs.flatMap fun x => ob x.ba := by
  have e : (xs.set i y).map Lv.ba = xs.map Lv.ba := by
    rw [List.map_set, h]
    apply List.ext_getElem?
    intro k
    rw [List.getElem?_set]
    split
    · rename_i q; subst q; simp [hi]
    · rfl
  have h1 : ∀ l : List Lv, l.flatMap (fun x => ob x.ba) = (l.map Lv.ba).flatMap ob := fun l => by rw [List.flatMap_map]
  rw [h1, h1, e]
theorem OwnLs.row_out {w : World} {B g c : Nat} {xs : List Lv} (h : OwnLs w B (some ⟨g, 0, none⟩) c xs) : ∀ x ∈ xs, g ∉ ob x.ba := by
  intro x hx q
  have := h.nd
  rw [List.nodup_append] at this
  exact this.2.2 g (by simp [ob]) g (List.mem_flatMap.2 ⟨x, hx, q⟩) rfl
theorem OwnLs.free {w : World} {B g c : Nat} {xs : List Lv} (h : OwnLs w B (some ⟨g, 0, none⟩) c xs) (j : Nat) : w.frozen? ⟨g, j, none⟩ = false := World.ownsRow.frozenAt h.row j
/-- A field of a link is set. -/
theorem OwnLs.setF {w : World} {B g c i j : Nat} {xs : List Lv} (h : OwnLs w B (some ⟨g, 0, none⟩) c xs) (hi : i < xs.length) (hj : j < 10) (y : Lv) (u : Value) (hy : lcl y = (lcl xs[i]).set j u) (h1 : y.ba = xs[i].ba) (h2 : y.bc = xs[i].bc) (h3 : y.l.bo = xs[i].l.bo) :
    OwnLs (w.setCell ⟨g, i * 10 + j, none⟩ u) B (some ⟨g, 0, none⟩) c (xs.set i y) := by
  have hout := h.row_out
  refine ⟨?_, fun x hx => ?_, ?_⟩
  · have hr := (World.ownsRow.stored h.row (i * 10 + j) u).1
    rw [rowF_set lcl lcl_len xs i j u y hi hj hy] at hr
    unfold OwnL OwnF
    rw [List.length_set]
    exact hr
  · have hb : ∀ x ∈ xs, OwnB (w.setCell ⟨g, i * 10 + j, none⟩ u) B (.slice x.ba x.l.bo.length x.bc) x.l.bo := fun x hx => (h.bod x hx).of_block fun k hk => heap_set_ne _ fun e => hout x hx (by rw [← e]; exact (ob_own _ _ _ _).2 hk)
    rcases List.mem_or_eq_of_mem_set hx with hx | rfl
    · exact hb x hx
    · have := hb _ (List.getElem_mem hi)
      rw [h1, h2, h3]; exact this
  · rw [flat_set hi h1]; exact h.nd
/-- A byte of a Body is set. -/
theorem OwnLs.setB {w : World} {B c i j gb : Nat} {a : Option Addr} {xs : List Lv} (h : OwnLs w B a c xs) (hi : i < xs.length) (hba : xs[i].ba = some ⟨gb, 0, none⟩) (hj : j < xs[i].l.bo.length) (b : UInt8) :
    OwnLs (w.setCell ⟨gb, j, none⟩ (u8 b.toNat)) B a c (xs.set i ⟨{ xs[i].l with bo := xs[i].l.bo.set j b }, xs[i].ba, xs[i].bc⟩) := by
  have hnd := h.nd
  have hin : gb ∈ ob xs[i].ba := by rw [hba]; simp [ob]
  rw [List.nodup_append] at hnd
  obtain ⟨n1, n2, n3⟩ := hnd
  have hga : gb ∉ ob a := fun q => n3 gb q gb (List.mem_flatMap.2 ⟨_, List.getElem_mem hi, hin⟩) rfl
  have hoth : ∀ k (hk : k < xs.length), k ≠ i → gb ∉ ob xs[k].ba := fun k hk hki q => by
    have hpw : List.Pairwise (fun x y : Lv => ∀ z ∈ ob x.ba, z ∉ ob y.ba) xs := by
      have := (List.pairwise_flatMap.1 n2).2
      exact this.imp fun hd z hz1 hz2 => hd z hz1 z hz2 rfl
    rcases Nat.lt_or_gt_of_ne hki with q2 | q2
    · exact List.pairwise_iff_getElem.1 hpw k i hk hi q2 gb q hin
    · exact List.pairwise_iff_getElem.1 hpw i k hi hk q2 gb hin q
  obtain ⟨y, hy⟩ : ∃ y : Lv, y = ⟨{ xs[i].l with bo := xs[i].l.bo.set j b }, xs[i].ba, xs[i].bc⟩ := ⟨_, rfl⟩
  rw [← hy]
  have hcl : lcl y = lcl xs[i] := by rw [hy]; simp [lcl, lcells]
  refine ⟨?_, fun x hx => ?_, ?_⟩
  · have hrow : rowF lcl (xs.set i y) = rowF lcl xs := by
      have e : (xs.set i y).map lcl = xs.map lcl := by
        rw [List.map_set, hcl]
        apply List.ext_getElem?
        intro k
        rw [List.getElem?_set]
        split
        · rename_i q; subst q; simp [hi]
        · rfl
      show ((xs.set i y).map lcl).flatten = (xs.map lcl).flatten
      rw [e]
    unfold OwnL OwnF
    rw [hrow, List.length_set]
    exact own_of_block h.row fun k hk => heap_set_ne _ fun e => hga (by rw [← e]; exact (ob_own _ _ _ _).2 hk)
  · obtain ⟨k, hk, rfl⟩ := List.getElem_of_mem hx
    rw [List.length_set] at hk
    rw [List.getElem_set]
    by_cases e : i = k
    · subst e
      rw [if_pos rfl, hy]
      have hb := h.bod _ (List.getElem_mem hi)
      rw [hba] at hb ⊢
      have := hb.set b hj
      simp only [List.length_set]
      exact this
    · rw [if_neg e]
      exact (h.bod _ (List.getElem_mem hk)).of_block fun q hq => heap_set_ne _ fun e2 => hoth k hk (fun e3 => e e3.symm) (by rw [← e2]; exact (ob_own _ _ _ _).2 hq)
  · rw [flat_set hi (by rw [hy])]; exact h.nd
/-- Where a Body of at least one byte lies. -/
theorem OwnLs.body {w : World} {B c i : Nat} {a : Option Addr} {xs : List Lv} (h : OwnLs w B a c xs) (hi : i < xs.length) (hj : 0 < xs[i].l.bo.length) : ∃ gb, xs[i].ba = some ⟨gb, 0, none⟩ ∧ B ≤ gb := by
  have hb := h.bod _ (List.getElem_mem hi)
  rcases hb with ⟨-, e⟩ | ⟨g, cap, cur, fz, hv, hg, -⟩
  · rw [e] at hj; simp at hj
  · simp only [Value.slice.injEq] at hv
    exact ⟨g, hv.1, hg⟩
theorem OwnLs.head {w : World} {B c : Nat} {a : Option Addr} {xs : List Lv} (h : OwnLs w B a c xs) (hi : 0 < xs.length) : ∃ g, a = some ⟨g, 0, none⟩ ∧ B ≤ g := by
  obtain ⟨g, ha, hg, -, -⟩ := OwnF.cell lcl_len h.row 0 hi
  exact ⟨g, ha, hg⟩
theorem OwnLs.cells {w : World} {B g c : Nat} {xs : List Lv} (h : OwnLs w B (some ⟨g, 0, none⟩) c xs) (i : Nat) (hi : i < xs.length) : ∀ W, Ext w W → LinkC W g (i * 10) xs[i] := by
  intro W e
  obtain ⟨b, o, ha, hc⟩ := h.links.at i hi
  simp only [Option.some.injEq, Addr.mk.injEq, and_true] at ha
  obtain ⟨rfl, rfl⟩ := ha
  have := hc W e
  rwa [Nat.zero_add, lth_eq _ _ hi] at this
end Go.Proofs.Ytlahejakcgoheaa
