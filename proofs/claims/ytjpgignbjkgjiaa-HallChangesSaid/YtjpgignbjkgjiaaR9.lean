/-
  Texts merged: R8, R9.
-/
import Derived.Test.YtjpgignbjkgjiaaR7
import Derived.Test.YtjpgignbjkgjiaaA22
section
set_option linter.unusedVariables false
set_option linter.unusedSimpArgs false
namespace Go.Proofs.Ytjpgignbjkgjiaa
open Go.RowKit
def exH : Hal := ⟨1, 1, [1, 1, 1, 1, 1, 1], [10, 10, 10, 10, 10, 10]⟩
def exL : List Camp := [⟨0, 1, 2, 5, 0, 6, 1⟩, ⟨1, 1, 1, 5, 0, 6, 3⟩]
def RetEx (w : World) (e : Ending) (w' : World) : Prop := ∃ x a c, e = .returned (.tuple #[hval exH x, .slice a 2 c]) ∧ Ext w w' ∧ HallAt w' exH x ∧ Camps w' a exL
theorem ex_best : bestSt exH exL = some ([3, 1], 11) := by decide +kernel
theorem ex_camps : campsB exH exL = true := by decide +kernel
theorem ex_chk : chkB exH exL [1, 3] = ⟨4, 0, 1, 0⟩ := by unfold chkB; rfl
theorem ex_err : errS exH exL [1, 3] = 100 := by decide +kernel
theorem ex_viewE : viewE exH exL [3, 1] 0 = 0 := by decide +kernel
theorem ex_viewL : viewL exH exL [3, 1] 0 = [3, 3, 2, 1, 1, 0] := by decide +kernel
theorem ownI_blk {w : World} {b B : Nat} {xs : List Int} (h : w.heap[b]? = some (.cells (rowI xs).toArray 3 (0, 0))) (hB : B ≤ b) (hn : xs.length ≤ 1000000) : OwnI w B (.slice (some ⟨b, 0, none⟩) xs.length xs.length) xs :=
  ⟨by rw [rowI_len]; omega, .inr ⟨b, xs.length, _, rfl, hB, h, Nat.le_refl _, by unfold maxLen; omega, by simp [rowI_len], by show (rowI xs).take (xs.length * 1) = _; exact List.take_of_length_le (by rw [rowI_len]; omega)⟩⟩
theorem ownC_blk {w : World} {b B : Nat} {cs : List Camp} (h : w.heap[b]? = some (.cells (rowC cs).toArray 45 (0, 0))) (hB : B ≤ b) (hn : cs.length ≤ 1000000) : OwnC w B (.slice (some ⟨b, 0, none⟩) cs.length cs.length) cs :=
  ⟨by rw [rowC_len], .inr ⟨b, cs.length, _, rfl, hB, h, Nat.le_refl _, by unfold maxLen; omega, by simp [rowC_len], by show (rowC cs).take (cs.length * 7) = _; exact List.take_of_length_le (by rw [rowC_len]; exact Nat.le_refl _)⟩⟩
theorem ints_blk {w : World} {b : Nat} {xs : List Int} (h : w.heap[b]? = some (.cells (rowI xs).toArray 3 (0, 0))) (hn : xs.length ≤ 1000000) : Ints w (some ⟨b, 0, none⟩) xs := (ownI_blk h (Nat.zero_le _) hn).ints.1
theorem camps_blk {w : World} {b : Nat} {cs : List Camp} (h : w.heap[b]? = some (.cells (rowC cs).toArray 45 (0, 0))) (hn : cs.length ≤ 1000000) : Camps w (some ⟨b, 0, none⟩) cs := (ownC_blk h (Nat.zero_le _) hn).camps.1
theorem byts_blk {w : World} {b : Nat} {xs : List Int} (h : w.heap[b]? = some (.cells (rowU xs).toArray 38 (0, 0))) : Byts w (some ⟨b, 0, none⟩) xs := by
  refine .inr ⟨b, 0, rfl, fun i hi => ?_⟩
  have := rowU_get xs i hi
  simp only [World.cell?, h, Option.isSome_none, Bool.false_eq_true, if_false, Nat.zero_add]
  rw [List.getElem?_toArray]; exact this
set_option maxHeartbeats 400000 in
theorem example_any (w : World) : Calls Try.prog 47 #[] w (RetEx w) := by
  go_enter Try.func47, Try.ntmps47
  go_wp2
  generalize hw1 : World.alloc _ _ = w1
  obtain ⟨he, o1, o2, o3, o4⟩ := alloc4 hw1
  clear hw1
  obtain ⟨b0, b1, b2, b3⟩ := obj_cells4 o1
  have hr := Ext.refl w1
  refine bodyPost_ret (v := .tuple #[hval exH ⟨some ⟨w.heap.size + 1, 0, none⟩, 6, some ⟨w.heap.size + 1 + 1, 0, none⟩, 6⟩, .slice (some ⟨w.heap.size + 1 + 1 + 1, 0, none⟩) 2 2]) (by simp [results, Try.results47, go_sem, b0 _ hr, b1 _ hr, b2 _ hr, b3 _ hr, exH]) rfl ⟨⟨some ⟨w.heap.size + 1, 0, none⟩, 6, some ⟨w.heap.size + 1 + 1, 0, none⟩, 6⟩, some ⟨w.heap.size + 1 + 1 + 1, 0, none⟩, 2, rfl, he, ⟨?_, ?_⟩, ?_⟩
  · exact ints_blk (xs := [1, 1, 1, 1, 1, 1]) o2 (by simp)
  · exact ints_blk (xs := [10, 10, 10, 10, 10, 10]) o3 (by simp)
  · exact camps_blk (cs := exL) o4 (by simp [exL])
end Go.Proofs.Ytjpgignbjkgjiaa
end
section
set_option linter.unusedVariables false
set_option linter.unusedSimpArgs false
namespace Go.Proofs.Ytjpgignbjkgjiaa
open Go.RowKit
def exV : List Int := [3, 3, 2, 1, 1, 0]
theorem ex_same : sameB [3, 1] [3, 1] = true := rfl
set_option maxHeartbeats 2000000 in
theorem known_any (w : World) : Calls Try.prog 13 #[] w (Ret (.bool true) w) := by
  go_enter Try.func13, Try.ntmps13
  go_wp2_with (fail)
  (with_reducible refine (example_any w).mono ?_); rintro e w1 ⟨⟨sa, sc, ea, ec⟩, la, lc, rfl, he1, hh, hl⟩
  have HH := Lib.hid hh; have HL := Lib.hid hl; clear hh hl
  go_wp2_with (fail)
  generalize hw2 : World.alloc _ _ = w2
  obtain ⟨he2, o1, -⟩ := alloc1 hw2
  obtain ⟨b0, b1, b2, b3⟩ := obj_cells4 o1
  clear hw2 o1
  have hr0 := Ext.refl w2
  have hb : Calls Try.prog 31 #[hval exH ⟨sa, sc, ea, ec⟩, .slice la 2 lc] w2 (RetBest exH exL w2) := Best_any exH ⟨sa, sc, ea, ec⟩ exL la lc w2 (HH.out.ext he2) (HL.out.ext he2)
  have HB := Lib.hid hb
  clear hb
  (with_reducible refine HB.out.mono ?_); rintro e w3 ⟨pa, pc, rfl, he3, hi⟩
  have hpi : Ints w3 pa [3, 1] := by
    have := hi ex_camps (by decide)
    rw [ex_best] at this; exact this
  have hbv : bestV exH exL pa pc = .tuple #[.slice pa 2 pc, .int .i64 11, .int .i64 0] := by
    rw [bestV, if_pos ex_camps, if_pos (by decide), ex_best]; rfl
  rw [hbv]
  have HPI := Lib.hid hpi
  clear hpi hi hbv HB
  go_wp2_with (fail)
  generalize hw4 : World.alloc _ _ = w4
  obtain ⟨he4, o4, -⟩ := alloc1 hw4
  clear hw4
  have h24 := he3.trans he4
  have hc : Calls Try.prog 39 #[hval exH ⟨sa, sc, ea, ec⟩, .slice la 2 lc, .slice (some ⟨w3.heap.size, 0, none⟩) 2 2] w4 (Ret (.tuple #[bval (chkB exH exL [1, 3]), .int .i64 (errS exH exL [1, 3])]) w4) := Check_any exH ⟨sa, sc, ea, ec⟩ exL la lc [1, 3] (some ⟨w3.heap.size, 0, none⟩) 2 2 w4 (HH.out.ext (he2.trans h24)) (HL.out.ext (he2.trans h24)) (ints_blk (xs := [1, 3]) o4 (by simp)) rfl
  rw [ex_chk, ex_err] at hc
  have HC := Lib.hid hc
  clear hc o4
  (with_reducible refine HC.out.mono ?_); rintro e w5 ⟨rfl, he5⟩
  have h25 := h24.trans he5
  go_wp2_with (fail)
  generalize hw6 : World.alloc _ _ = w6
  obtain ⟨he6, o6, o7, -⟩ := alloc2 hw6
  clear hw6
  obtain ⟨y0, y1, y2, y3⟩ := obj_cells4 o6
  have h36 := (he4.trans he5).trans he6
  have h26 := he3.trans h36
  have hs : Calls Try.prog 28 #[.slice pa 2 pc, .slice (some ⟨w5.heap.size + 1, 0, none⟩) 2 2] w6 (Ret (.bool (sameB [3, 1] [3, 1])) w6) := same_any [3, 1] [3, 1] pa _ 2 2 pc 2 w6 (HPI.out.ext h36) (ints_blk (xs := [3, 1]) o7 (by simp)) rfl rfl (by omega) (by omega)
  rw [ex_same] at hs
  have HS := Lib.hid hs
  clear hs o6 o7
  (with_reducible refine HS.out.mono ?_); rintro e w7 ⟨rfl, he7⟩
  have h27 := h26.trans he7
  replace y0 := fun W (h : Ext w7 W) => y0 W (he7.trans h)
  replace y1 := fun W (h : Ext w7 W) => y1 W (he7.trans h)
  replace y2 := fun W (h : Ext w7 W) => y2 W (he7.trans h)
  replace y3 := fun W (h : Ext w7 W) => y3 W (he7.trans h)
  have hr7 := Ext.refl w7
  go_wp2_with (fail)
  have hv : Calls Try.prog 14 #[hval exH ⟨sa, sc, ea, ec⟩, .slice la 2 lc, .slice pa 2 pc, .int .i64 0] w7 (RetView exH exL [3, 1] 0 w7) := View_any exH ⟨sa, sc, ea, ec⟩ exL la lc [3, 1] pa 2 pc 0 w7 (HH.out.ext (he2.trans h27)) (HL.out.ext (he2.trans h27)) (HPI.out.ext (h36.trans he7)) rfl
  have HVV := Lib.hid hv
  clear hv y0 y1 y2 y3 b0 b1 b2 b3
  (with_reducible refine HVV.out.mono ?_); rintro e w8 ⟨va, vc, rfl, he8, hby⟩
  rw [ex_viewL] at hby ⊢
  rw [ex_viewE]
  change Byts w8 va exV at hby
  change Ext w7 w8 at he8
  have h28 := h27.trans he8
  simp only [List.length_cons, List.length_nil, Nat.zero_add, Nat.reduceAdd]
  have HBY := Lib.hid hby
  clear hby HVV HS HC
  go_wp2_with (fail)
  generalize hw9 : World.alloc _ _ = w9
  obtain ⟨he9, o9, -⟩ := alloc1 hw9
  clear hw9
  have hb1 := HBY.out.ext he9
  have hb2 := byts_blk (xs := exV) o9
  have HB1 := Lib.hid hb1; have HB2 := Lib.hid hb2
  have HE := Lib.hid (he1.trans (he2.trans (h28.trans he9)))
  clear hb1 hb2 o9 HBY
  go_loopw [10] (fun i wr => ∃ k : Nat, k ≤ 6 ∧ i = .int .i64 k ∧ Ext w9 wr) (fun i _ => 6 - (intOf i).toNat)
  case atStart => exact ⟨0, by omega, rfl, Ext.refl _⟩
  case round =>
    obtain ⟨k, hk, rfl, hr⟩ := hrel
    by_cases hlt : k < 6
    · obtain ⟨b, o, rfl, c0⟩ := HB1.out.at k (by simpa [exV] using hlt)
      obtain ⟨b', o', hbb, d0⟩ := HB2.out.at k (by simpa [exV] using hlt)
      simp only [Option.some.injEq, Addr.mk.injEq, and_true] at hbb
      obtain ⟨rfl, rfl⟩ := hbb
      rw [Nat.zero_add] at d0
      go_wp2_with (fail)
      refine wp_region_ext (by kernel_rfl) (by kernel_rfl) hr ?_
      repeat (first | go_big_quiet_step (fail) | quiet_step (fail))
      refine wpQuiet_nil ?_
      rintro _ ⟨nq, rfl⟩
      have hq := nq.ok
      have T : (nth exV k != nth exV k) = false := bne_self_eq_false _
      go_wp2_with (fail)
      go_roundw
      case rel => exact ⟨k + 1, by omega, by go_num, hq⟩
      case measure => simp [intOf]; omega
    · obtain rfl : k = 6 := by omega
      go_wp2_with (fail)
      go_ret
      exact ⟨rfl, HE.out.trans hr⟩
end Go.Proofs.Ytjpgignbjkgjiaa
end
