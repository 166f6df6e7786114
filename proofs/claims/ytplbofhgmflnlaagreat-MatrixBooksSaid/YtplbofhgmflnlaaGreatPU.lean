/-
  Plain laws: plans with the same numbers in them, and settings with the same.
-/
import Derived.Test.YtplbofhgmflnlaaGreatOW
set_option linter.unusedVariables false
set_option linter.unusedSimpArgs false
namespace Go.Proofs.YtplbofhgmflnlaaGreat
/-- Plans with the same numbers in them, wherever they lie. -/
structure SameP (P Q : Pw) : Prop where
  fs : P.fs = Q.fs
  len : P.fo.length = Q.fo.length
  xs : ∀ i, i < P.fo.length → (gth P.fo i).xs = (gth Q.fo i).xs
theorem SameP.map {P Q : Pw} (h : SameP P Q) : P.fo.map (·.xs) = Q.fo.map (·.xs) := by
  refine List.ext_getElem (by simp [h.len]) fun i h1 h2 => ?_
  simp only [List.length_map] at h1 h2
  have := h.xs i h1
  rw [gth_eq _ _ h1, gth_eq _ _ h2] at this
  simpa using this
theorem fIdx_congr {q r : Nat → Bool} {n : Nat} (h : ∀ i, i < n → q i = r i) : (fIdx q n).isSome = (fIdx r n).isSome := by
  unfold fIdx
  rw [Bool.eq_iff_iff, List.find?_isSome, List.find?_isSome]
  constructor
  · rintro ⟨i, hi, hq⟩
    exact ⟨i, hi, by rw [← h i (List.mem_range.1 hi)]; exact hq⟩
  · rintro ⟨i, hi, hq⟩
    exact ⟨i, hi, by rw [h i (List.mem_range.1 hi)]; exact hq⟩
theorem alwB_map (fo : List (Sl Pr)) (ls : List Int) : alwB fo ls = !((fo.map (·.xs)).any fun g => !(g.any (prOff ls))) := by
  unfold alwB
  rw [List.any_map]
  rfl
theorem SameP.alw {P Q : Pw} (h : SameP P Q) (ls : List Int) : alwB P.fo ls = alwB Q.fo ls := by rw [alwB_map, alwB_map, h.map]
theorem SameP.bad {P Q : Pw} (h : SameP P Q) : planBad P = planBad Q := by
  unfold planBad
  rw [h.fs, h.len]
  have : anyPrsBad Q.fs P.fo = anyPrsBad Q.fs Q.fo := by
    unfold anyPrsBad
    rw [h.len]
    exact fIdx_congr fun i hi => by rw [h.xs i (by rw [h.len]; exact hi)]
  rw [this]
theorem SameP.planE {P Q : Pw} (h : SameP P Q) : planE P = planE Q := by unfold YtplbofhgmflnlaaGreat.planE; rw [h.bad]
theorem SameP.settings {P Q : Pw} (h : SameP P Q) : settingsS P = settingsS Q := by
  unfold settingsS outK
  rw [h.fs]
  congr 1
  funext l
  exact h.alw l
theorem SameP.settE {P Q : Pw} (h : SameP P Q) : settE P = settE Q := by unfold YtplbofhgmflnlaaGreat.settE; rw [h.bad, h.fs]
theorem SameSe.all {ss tt : List Se} (h : SameSe ss tt) (i : Nat) : (eth ss i).lv.xs = (eth tt i).lv.xs ∧ (eth ss i).blk = (eth tt i).blk := by
  rcases Nat.lt_or_ge i ss.length with hi | hi
  · exact h.2 i hi
  · have h2 : tt.length ≤ i := by rw [← h.1]; exact hi
    have e1 : eth ss i = ⟨⟨none, [], 0⟩, 0⟩ := by simp [eth, hi]
    have e2 : eth tt i = ⟨⟨none, [], 0⟩, 0⟩ := by simp [eth, h2]
    rw [e1, e2]; exact ⟨rfl, rfl⟩
theorem any_eth (f : Se → Bool) (ss : List Se) : ss.any f = (List.range ss.length).any fun i => f (eth ss i) := by
  have : ss = (List.range ss.length).map fun i => eth ss i := by
    refine List.ext_getElem (by simp) fun i h1 h2 => ?_
    rw [List.getElem_map, List.getElem_range, eth_eq _ _ h1]
  conv => lhs; rw [this]
  rw [List.any_map]
  rfl
theorem check_same {P Q : Pw} {ss tt : List Se} (h : SameP P Q) (hs : SameSe ss tt) : checkE P ss = checkE Q tt := by
  unfold checkE
  rw [h.bad, hs.1]
  have : anySetBad P ss = anySetBad Q tt := by
    unfold anySetBad
    rw [any_eth, any_eth, hs.1]
    congr 1
    funext i
    unfold setBad
    rw [(hs.all i).1, (hs.all i).2, h.fs, h.alw]
  rw [this]
theorem SameSe.keys {ss tt : List Se} (h : SameSe ss tt) (fs : List Fac) : (fun i => gL fs (eth ss i)) = fun i => gL fs (eth tt i) := by
  funext i
  unfold gL
  rw [(h.all i).1, (h.all i).2]
theorem SameSe.symm {ss tt : List Se} (h : SameSe ss tt) : SameSe tt ss := ⟨h.1.symm, fun i hi => ⟨((h.all i).1).symm, ((h.all i).2).symm⟩⟩
theorem SameP.symm {P Q : Pw} (h : SameP P Q) : SameP Q P := ⟨h.fs.symm, h.len.symm, fun i hi => (h.xs i (by rw [h.len]; exact hi)).symm⟩
end Go.Proofs.YtplbofhgmflnlaaGreat
