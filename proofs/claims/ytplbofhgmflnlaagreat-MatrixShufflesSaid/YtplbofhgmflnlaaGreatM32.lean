/-
  The library's sort at an own row of words.
-/
import Derived.Test.YtplbofhgmflnlaaGreatM31
set_option linter.unusedVariables false
set_option linter.unusedSimpArgs false
namespace Go.Proofs.YtplbofhgmflnlaaGreat
open Go.RowKit Go.Sort
abbrev OwnW (w : World) (B : Nat) (v : Value) (xs : List Wd) : Prop := OwnF 75 2 wdC w B v xs
abbrev W16 : Type := {x : Wd // x.mask < 65536}
instance : Inhabited W16 := ⟨⟨⟨0, false⟩, by decide⟩⟩
def wC (x : W16) : List Value := wdC x.1
theorem wC_len (x : W16) : (wC x).length = 2 := rfl
theorem wC_one (x : W16) : ∀ u ∈ wC x, u.oneCell' = true := wdC_one x.1
def byW (x y : W16) : Int := byB x.1 y.1
/-- x stands ahead of y. -/
def ltW (x y : Wd) : Bool := decide (ones x.mask < ones y.mask ∨ (ones x.mask = ones y.mask ∧ x.mask < y.mask))
theorem byB_lt (x y : Wd) : decide (byB x y < 0) = ltW x y := by
  unfold byB ltW or2 Lib.compareInt
  generalize ones x.mask = p; generalize ones y.mask = q; generalize x.mask = k; generalize y.mask = l
  by_cases h1 : (p : Int) < (q : Int)
  · rw [if_pos h1]; simp; omega
  · rw [if_neg h1]
    by_cases h2 : (p : Int) > (q : Int)
    · rw [if_pos h2]; simp; omega
    · rw [if_neg h2]
      have e : p = q := by omega
      subst e
      by_cases h3 : (k : Int) < (l : Int)
      · rw [if_pos h3]; simp; omega
      · rw [if_neg h3]
        by_cases h4 : (k : Int) > (l : Int)
        · rw [if_pos h4]; simp; omega
        · rw [if_neg h4]; simp; omega
theorem byW_lt (x y : W16) : ltOf byW x y = ltW x.1 y.1 := byB_lt x.1 y.1
theorem byW_swo : SWO (ltOf byW) where
  irrefl x := by rw [byW_lt]; simp [ltW]
  trans x y z h1 h2 := by rw [byW_lt] at *; simp only [ltW, decide_eq_true_eq] at *; omega
  ntrans x y z h1 h2 := by rw [byW_lt] at *; simp only [ltW, decide_eq_false_iff_not] at *; omega
theorem rowF_val (xs : List W16) : rowF wC xs = rowF wdC (xs.map Subtype.val) := by
  unfold rowF wC
  rw [List.flatMap_map]
theorem lift16 : ∀ (xs : List Wd), (∀ x ∈ xs, x.mask < 65536) → ∃ ys : List W16, ys.map Subtype.val = xs
  | [], _ => ⟨[], rfl⟩
  | x :: xs, h => by
    obtain ⟨ys, hy⟩ := lift16 xs fun x hx => h x (List.mem_cons_of_mem _ hx)
    exact ⟨⟨x, h x List.mem_cons_self⟩ :: ys, by simp [hy]⟩
theorem sort_words (B g c : Nat) (xs : List Wd) (w : World) (hx : ∀ x ∈ xs, x.mask < 65536) (h : OwnW w B (.slice (some ⟨g, 0, none⟩) xs.length c) xs) (hn : xs.length ≤ 1000000) :
    Calls Tryz.prog 122 #[.slice (some ⟨g, 0, none⟩) xs.length c, .func (.func 123) #[] #[]] w (fun e w' => e = .returned (.tuple #[]) ∧ ∃ ys, ys.Perm xs ∧ ys.Pairwise (fun x y => ltW y x = false) ∧ ExtX g w w' ∧ OwnW w' B (.slice (some ⟨g, 0, none⟩) xs.length c) ys) := by
  obtain ⟨zs, rfl⟩ := lift16 xs hx
  rw [List.length_map] at h hn ⊢
  have h' : OwnF 75 2 wC w B (.slice (some ⟨g, 0, none⟩) zs.length c) zs := by
    unfold OwnW OwnF at h
    unfold OwnF
    rw [rowF_val]
    rwa [List.length_map] at h
  have eg : ∀ args w, (callFunc 123 args).run Tryz.prog w = .ok (.enter 123 args) w := enters_of Tryz.func123 (by kernel_rfl) rfl
  have hcon := AnyQ.slices_SortFunc sortW 2 (fun w => Tryz.isAgg75 w) (fun w => Tryz.sizeOf75 w) wC wC_len wC_one byW byW_swo 123 #[] g 0 c zs.toArray w eg (fun _ _ _ _ x y => byBits_gro x.1 y.1 _ x.2 y.2) (holdsK_own wC_len h') (own_slice_lt h') (by simp; omega)
  change Calls Tryz.prog 122 _ _ _ at hcon
  rw [List.size_toArray] at hcon
  refine hcon.mono ?_
  rintro e w' ⟨rfl, d', n, os, hp, hs, rfl⟩
  have hl : d'.size = zs.length := by have := hp.1; simpa using this
  refine ⟨rfl, d'.toList.map Subtype.val, (by simpa using perm_of_in (d := zs.toArray) (by simpa using hp) : d'.toList.Perm zs).map _, ?_, extX_put _ _, ?_⟩
  · rw [List.pairwise_map]
    rw [← hl] at hs
    refine (pairwise_of_in hs).imp ?_
    intro x y hxy
    rw [byW_lt] at hxy
    exact hxy
  · have := own_sortK wC_len h' (ys := d'.toList) (by simp [hl]) n os
    unfold OwnW OwnF
    unfold OwnF at this
    rw [rowF_val] at this
    rw [List.length_map]
    simpa using this
theorem sort_words_none (w : World) : Calls Tryz.prog 122 #[.slice none 0 0, .func (.func 123) #[] #[]] w (fun e w' => e = .returned (.tuple #[]) ∧ w' = w) := AnyF.slices_SortFunc_none sortW none 0 _ w
end Go.Proofs.YtplbofhgmflnlaaGreat
