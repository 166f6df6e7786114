import Derived.Test.YtjpgignbjkgjiaaR7
import Derived.Test.YtjpgignbjkgjiaaA22
set_option linter.unusedVariables false
set_option linter.unusedSimpArgs false
namespace Go.Proofs.Ytjpgignbjkgjiaa
open Go.RowKit
def exH : Hal := ⟨1, 1, [1, 1, 1, 1, 1, 1], [10, 10, 10, 10, 10, 10]⟩
def exL : List Camp := [⟨0, 1, 2, 5, 0, 6, 1⟩, ⟨1, 1, 1, 5, 0, 6, 3⟩]
def RetEx (w : World) (e : Ending) (w' : World) : Prop := ∃ x a c, e = .returned (.tuple #[hval exH x, .slice a 2 c]) ∧ Ext w w' ∧ HallAt w' exH x ∧ Camps w' a exL
theorem ex_best : bestSt exH exL = some ([3, 1], 11) := by decide +kernel
theorem ex_camps : campsB exH exL = true := by decide +kernel
theorem ex_chk : chkB exH exL [1, 3] = ⟨4, 0, 1, 0⟩ := by unfold chkB; rfl
theorem ex_err : errS exH exL [1, 3] = 100 := by decide +kernel
theorem ex_viewE : viewE exH exL [3, 1] 0 = 0 := by decide +kernel
theorem ex_viewL : viewL exH exL [3, 1] 0 = [3, 3, 2, 1, 1, 0] := by decide +kernel
theorem ownI_blk {w : World} {b B : Nat} {xs : List Int} (h : w.heap[b]? = some (.cells (rowI xs).toArray 3 (0, 0))) (hB : B ≤ b) (hn : xs.length ≤ 1000000) : OwnI w B (.slice (some ⟨b, 0, none⟩) xs.length xs.length) xs :=
  ⟨by rw [rowI_len]; omega, .inr ⟨b, xs.length, _, rfl, hB, h, Nat.le_refl _, by unfold maxLen; omega, by simp [rowI_len], by show (rowI xs).take (xs.length * 1) = _; exact List.take_of_length_le (by rw [rowI_len]; omega)⟩⟩
theorem ownC_blk {w : World} {b B : Nat} {cs : List Camp} (h : w.heap[b]? = some (.cells (rowC cs).toArray 45 (0, 0))) (hB : B ≤ b) (hn : cs.length ≤ 1000000) : OwnC w B (.slice (some ⟨b, 0, none⟩) cs.length cs.length) cs :=
  ⟨by rw [rowC_len], .inr ⟨b, cs.length, _, rfl, hB, h, Nat.le_refl _, by unfold maxLen; omega, by simp [rowC_len], by show (rowC cs).take (cs.length * 7) = _; exact List.take_of_length_le (by rw [rowC_len]; exact Nat.le_refl _)⟩⟩
theorem ints_blk {w : World} {b : Nat} {xs : List Int} (h : w.heap[b]? = some (.cells (rowI xs).toArray 3 (0, 0))) (hn : xs.length ≤ 1000000) : Ints w (some ⟨b, 0, none⟩) xs := (ownI_blk h (Nat.zero_le _) hn).ints.1
theorem camps_blk {w : World} {b : Nat} {cs : List Camp} (h : w.heap[b]? = some (.cells (rowC cs).toArray 45 (0, 0))) (hn : cs.length ≤ 1000000) : Camps w (some ⟨b, 0, none⟩) cs := (ownC_blk h (Nat.zero_le _) hn).camps.1
theorem byts_blk {w : World} {b : Nat} {xs : List Int} (h : w.heap[b]? = some (.cells (rowU xs).toArray 38 (0, 0))) : Byts w (some ⟨b, 0, none⟩) xs := by
  refine .inr ⟨b, 0, rfl, fun i hi => ?_⟩
  have := rowU_get xs i hi
  simp only [World.cell?, h, Option.isSome_none, Bool.false_eq_true, if_false, Nat.zero_add]
  rw [List.getElem?_toArray]; exact this
set_option maxHeartbeats 400000 in
theorem example_any (w : World) : Calls Try.prog 47 #[] w (RetEx w) := by
  go_enter Try.func47, Try.ntmps47
  go_wp2
  generalize hw1 : World.alloc _ _ = w1
  obtain ⟨he, o1, o2, o3, o4⟩ := alloc4 hw1
  clear hw1
  obtain ⟨b0, b1, b2, b3⟩ := obj_cells4 o1
  have hr := Ext.refl w1
  refine bodyPost_ret (v := .tuple #[hval exH ⟨some ⟨w.heap.size + 1, 0, none⟩, 6, some ⟨w.heap.size + 1 + 1, 0, none⟩, 6⟩, .slice (some ⟨w.heap.size + 1 + 1 + 1, 0, none⟩) 2 2]) (by simp [results, Try.results47, go_sem, b0 _ hr, b1 _ hr, b2 _ hr, b3 _ hr, exH]) rfl ⟨⟨some ⟨w.heap.size + 1, 0, none⟩, 6, some ⟨w.heap.size + 1 + 1, 0, none⟩, 6⟩, some ⟨w.heap.size + 1 + 1 + 1, 0, none⟩, 2, rfl, he, ⟨?_, ?_⟩, ?_⟩
  · exact ints_blk (xs := [1, 1, 1, 1, 1, 1]) o2 (by simp)
  · exact ints_blk (xs := [10, 10, 10, 10, 10, 10]) o3 (by simp)
  · exact camps_blk (cs := exL) o4 (by simp [exL])
end Go.Proofs.Ytjpgignbjkgjiaa
