/-
  Walks: same (of equal results), wide.
-/
import Derived.Test.YtlahejakcgoheaaQA
set_option linter.unusedVariables false
set_option linter.unusedSimpArgs false
namespace Go.Proofs.Ytlahejakcgoheaa
open Go.RowKit
set_option maxRecDepth 100000 in
set_option maxHeartbeats 4000000 in
theorem same_any (r : Res) (a a' : Option Addr) (c c' : Nat) (w : World) (h : Ents w a r.list) (h' : Ents w a' r.list) (hl : r.list.length ≤ 9223372036854775807) : Calls Try.prog 24 #[resval r a c, resval r a' c'] w (Ret (.bool true) w) := by
  have HX := Lib.hid h; have HY := Lib.hid h'
  obtain ⟨n, hn⟩ : ∃ n, n = r.list.length := ⟨_, rfl⟩
  have HN := Lib.hid hn
  show Calls Try.prog 24 #[.agg #[.int .i64 r.num, .string r.text, .slice a r.list.length c, .int .i64 r.err], .agg #[.int .i64 r.num, .string r.text, .slice a' r.list.length c', .int .i64 r.err]] w _
  rw [← hn] at hl ⊢
  clear h h' hn
  go_enter Try.func24, Try.ntmps24
  go_upto_region 1 with fail
  generalize hw1 : World.alloc _ _ = w1
  obtain ⟨he, o1, o2, -⟩ := alloc2 hw1
  obtain ⟨a0, a1, a2, a3⟩ := obj_cells4 o1
  obtain ⟨b0, b1, b2, b3⟩ := obj_cells4 o2
  have HW := Lib.hid hw1
  clear o1 o2 hw1
  have E1 := Ext.refl w1
  go_wp2_with (fail)
  go_loopw [5] (fun i wr => ∃ k : Nat, k ≤ n ∧ i = .int .i64 k ∧ Ext w1 wr) (fun i _ => n - (intOf i).toNat)
  case atStart => exact ⟨0, Nat.zero_le _, rfl, Ext.refl w1⟩
  case round =>
    obtain ⟨k, hk, rfl, hx⟩ := hrel
    by_cases hlt : k < n
    · obtain ⟨b, o, rfl, hc⟩ := HX.out.at k (by rw [← HN.out]; exact hlt)
      obtain ⟨b', o', rfl, hc'⟩ := HY.out.at k (by rw [← HN.out]; exact hlt)
      have hxe := he.trans hx
      have x0 := fun W (e : Ext wr W) => (hc W (hxe.trans e)).1
      have x1 := fun W (e : Ext wr W) => (hc W (hxe.trans e)).2.1
      have x2 := fun W (e : Ext wr W) => (hc W (hxe.trans e)).2.2.1
      have x3 := fun W (e : Ext wr W) => (hc W (hxe.trans e)).2.2.2.1
      have x4 := fun W (e : Ext wr W) => (hc W (hxe.trans e)).2.2.2.2.1
      have x5 := fun W (e : Ext wr W) => (hc W (hxe.trans e)).2.2.2.2.2
      have y0 := fun W (e : Ext wr W) => (hc' W (hxe.trans e)).1
      have y1 := fun W (e : Ext wr W) => (hc' W (hxe.trans e)).2.1
      have y2 := fun W (e : Ext wr W) => (hc' W (hxe.trans e)).2.2.1
      have y3 := fun W (e : Ext wr W) => (hc' W (hxe.trans e)).2.2.2.1
      have y4 := fun W (e : Ext wr W) => (hc' W (hxe.trans e)).2.2.2.2.1
      have y5 := fun W (e : Ext wr W) => (hc' W (hxe.trans e)).2.2.2.2.2
      generalize eth r.list k = x at *
      have a2r := fun W (e : Ext wr W) => a2 W (hx.trans e)
      have b2r := fun W (e : Ext wr W) => b2 W (hx.trans e)
      have hi0 : (0 : Int) ≤ (k : Int) := by omega
      have hi1 : (k : Int) < (n : Int) := by omega
      have hr0 := Ext.refl wr
      clear hc hc' a0 a1 a3 b0 b1 b3 a2 b2
      go_upto_region 6 with fail
      refine wp_region_ext (by kernel_rfl) (by kernel_rfl) hr0 ?_
      repeat (first | go_big_quiet_step ((fail)) | quiet_step ((fail)))
      refine wpQuiet_nil ?_
      rintro _ ⟨nq, rfl⟩
      have he2 := hx.trans nq.ok
      go_wp2_with (fail)
      go_roundw
      case rel => exact ⟨k + 1, by omega, by go_num, he2⟩
      case measure => simp [intOf]; omega
    · obtain rfl : k = n := by omega
      go_wp2_with (fail)
      go_ret
      exact ⟨rfl, he.trans hx⟩
/-- Whether a call is more than the laws look at. -/
def wideO (o : Op) : Bool := (decide (100 < o.text.size) && decide (o.text.size ≤ 2000)) || (decide (2010 < o.text.size) || (decide (60 < o.name.size) || (decide (60 < o.pass.size) || (decide (60 < o.label.size) || decide (60 < o.other.size)))))
def wideB (l : List Op) : Bool := l.any wideO || decide (25 < l.length)
theorem wideB_false {l : List Op} (h : wideB l = false) : l.length ≤ 25 ∧ ∀ i, i < l.length → wideO (oth l i) = false := by
  unfold wideB at h
  rw [Bool.or_eq_false_iff, decide_eq_false_iff_not] at h
  refine ⟨by omega, fun i hi => ?_⟩
  rw [oth_eq _ _ hi]
  have := List.any_eq_false.1 h.1 _ (List.getElem_mem hi)
  simpa using this
theorem any_take_succ (l : List Op) (k : Nat) (hk : k < l.length) : (l.take (k + 1)).any wideO = ((l.take k).any wideO || wideO (oth l k)) := by
  rw [List.take_succ_eq_append_getElem hk, List.any_append, oth_eq _ _ hk]; simp
set_option maxRecDepth 100000 in
set_option maxHeartbeats 4000000 in
theorem wide_any (a : Option Addr) (xs : List Op) (c : Nat) (w : World) (h : Ops w a xs) (hl : xs.length ≤ 9223372036854775807) : Calls Try.prog 20 #[.slice a xs.length c] w (Ret (.bool (wideB xs)) w) := by
  obtain ⟨n, hn⟩ : ∃ n, n = xs.length := ⟨_, rfl⟩
  obtain ⟨q, hq⟩ : ∃ q, q = wideB xs := ⟨_, rfl⟩
  have HX := Lib.hid h; have HN := Lib.hid hn; have HQ := Lib.hid hq
  rw [← hn] at hl ⊢; rw [← hq]
  clear h hn hq
  go_enter Try.func20, Try.ntmps20
  go_wp2_with (fail)
  go_loopw [3] (fun i wr => ∃ k : Nat, k ≤ n ∧ i = .int .i64 k ∧ Hid ((xs.take k).any wideO = false) ∧ Ext w wr) (fun i _ => n - (intOf i).toNat)
  case atStart => exact ⟨0, Nat.zero_le _, rfl, rfl, Ext.refl w⟩
  case round =>
    obtain ⟨k, hk, rfl, hany, hx⟩ := hrel
    by_cases hlt : k < n
    · obtain ⟨b, o, rfl, hc⟩ := HX.out.at k (by rw [← HN.out]; exact hlt)
      obtain ⟨c0, c1, c2, c3, c4, c5, c6, c7, c8⟩ := hc wr hx
      have hsu := any_take_succ xs k (by rw [← HN.out]; exact hlt)
      rw [hany.out, Bool.false_or] at hsu
      have hmem : wideO (oth xs k) = true → wideB xs = true := fun q => by
        unfold wideB
        rw [Bool.or_eq_true]; left
        exact List.any_eq_true.2 ⟨_, List.getElem_mem (show k < xs.length by rw [← HN.out]; exact hlt), by rw [← oth_eq]; exact q⟩
      generalize oth xs k = x at *
      have HSU := Lib.hid hsu; have HMEM := Lib.hid hmem
      clear hsu hmem hc
      have hi0 : (0 : Int) ≤ (k : Int) := by omega
      have hi1 : (k : Int) < (n : Int) := by omega
      go_upto_region 5 with fail
      clear c0 c1 c2 c3 c4 c5 c6 c7 c8
      generalize hw1 : World.alloc _ _ = w1
      obtain ⟨he, o1, -⟩ := alloc1 hw1
      obtain ⟨c0, c1, c2, c3, c4, c5, c6, c7, c8⟩ := obj_cells9 o1
      have hx2 := hx.trans he
      have E1 := Ext.refl w1
      clear hw1 o1 he
      cases T1 : decide (100 < (x.text.size : Int))
      · cases T3 : decide (2010 < (x.text.size : Int))
        · cases T4 : decide (60 < (x.name.size : Int))
          · cases T5 : decide (60 < (x.pass.size : Int))
            · cases T6 : decide (60 < (x.label.size : Int))
              · cases T7 : decide (60 < (x.other.size : Int))
                · have hq : Hid ((xs.take (k + 1)).any wideO = false) := by
                    rw [Hid, HSU.out]
                    unfold wideO
                    simp only [decide_eq_true_eq, decide_eq_false_iff_not, Bool.or_eq_false_iff, Bool.and_eq_false_iff] at *
                    omega
                  go_wp2_with (fail)
                  go_roundw
                  case rel => exact ⟨k + 1, by omega, by go_num, hq, hx2⟩
                  case measure => simp [intOf]; omega
                · have hq : Hid (q = true) := by
                    rw [Hid, HQ.out]; refine HMEM.out ?_
                    unfold wideO
                    simp only [decide_eq_true_eq, decide_eq_false_iff_not, Bool.or_eq_true, Bool.and_eq_true] at *
                    omega
                  go_wp2_with (fail)
                  go_ret
                  exact ⟨by rw [hq.out]; rfl, hx2⟩
              · have hq : Hid (q = true) := by
                  rw [Hid, HQ.out]; refine HMEM.out ?_
                  unfold wideO
                  simp only [decide_eq_true_eq, decide_eq_false_iff_not, Bool.or_eq_true, Bool.and_eq_true] at *
                  omega
                go_wp2_with (fail)
                go_ret
                exact ⟨by rw [hq.out]; rfl, hx2⟩
            · have hq : Hid (q = true) := by
                rw [Hid, HQ.out]; refine HMEM.out ?_
                unfold wideO
                simp only [decide_eq_true_eq, decide_eq_false_iff_not, Bool.or_eq_true, Bool.and_eq_true] at *
                omega
              go_wp2_with (fail)
              go_ret
              exact ⟨by rw [hq.out]; rfl, hx2⟩
          · have hq : Hid (q = true) := by
              rw [Hid, HQ.out]; refine HMEM.out ?_
              unfold wideO
              simp only [decide_eq_true_eq, decide_eq_false_iff_not, Bool.or_eq_true, Bool.and_eq_true] at *
              omega
            go_wp2_with (fail)
            go_ret
            exact ⟨by rw [hq.out]; rfl, hx2⟩
        · have hq : Hid (q = true) := by
            rw [Hid, HQ.out]; refine HMEM.out ?_
            unfold wideO
            simp only [decide_eq_true_eq, decide_eq_false_iff_not, Bool.or_eq_true, Bool.and_eq_true] at *
            omega
          go_wp2_with (fail)
          go_ret
          exact ⟨by rw [hq.out]; rfl, hx2⟩
      · cases T2 : decide ((x.text.size : Int) ≤ 2000)
        · cases T3 : decide (2010 < (x.text.size : Int))
          · cases T4 : decide (60 < (x.name.size : Int))
            · cases T5 : decide (60 < (x.pass.size : Int))
              · cases T6 : decide (60 < (x.label.size : Int))
                · cases T7 : decide (60 < (x.other.size : Int))
                  · have hq : Hid ((xs.take (k + 1)).any wideO = false) := by
                      rw [Hid, HSU.out]
                      unfold wideO
                      simp only [decide_eq_true_eq, decide_eq_false_iff_not, Bool.or_eq_false_iff, Bool.and_eq_false_iff] at *
                      omega
                    go_wp2_with (fail)
                    go_roundw
                    case rel => exact ⟨k + 1, by omega, by go_num, hq, hx2⟩
                    case measure => simp [intOf]; omega
                  · have hq : Hid (q = true) := by
                      rw [Hid, HQ.out]; refine HMEM.out ?_
                      unfold wideO
                      simp only [decide_eq_true_eq, decide_eq_false_iff_not, Bool.or_eq_true, Bool.and_eq_true] at *
                      omega
                    go_wp2_with (fail)
                    go_ret
                    exact ⟨by rw [hq.out]; rfl, hx2⟩
                · have hq : Hid (q = true) := by
                    rw [Hid, HQ.out]; refine HMEM.out ?_
                    unfold wideO
                    simp only [decide_eq_true_eq, decide_eq_false_iff_not, Bool.or_eq_true, Bool.and_eq_true] at *
                    omega
                  go_wp2_with (fail)
                  go_ret
                  exact ⟨by rw [hq.out]; rfl, hx2⟩
              · have hq : Hid (q = true) := by
                  rw [Hid, HQ.out]; refine HMEM.out ?_
                  unfold wideO
                  simp only [decide_eq_true_eq, decide_eq_false_iff_not, Bool.or_eq_true, Bool.and_eq_true] at *
                  omega
                go_wp2_with (fail)
                go_ret
                exact ⟨by rw [hq.out]; rfl, hx2⟩
            · have hq : Hid (q = true) := by
                rw [Hid, HQ.out]; refine HMEM.out ?_
                unfold wideO
                simp only [decide_eq_true_eq, decide_eq_false_iff_not, Bool.or_eq_true, Bool.and_eq_true] at *
                omega
              go_wp2_with (fail)
              go_ret
              exact ⟨by rw [hq.out]; rfl, hx2⟩
          · have hq : Hid (q = true) := by
              rw [Hid, HQ.out]; refine HMEM.out ?_
              unfold wideO
              simp only [decide_eq_true_eq, decide_eq_false_iff_not, Bool.or_eq_true, Bool.and_eq_true] at *
              omega
            go_wp2_with (fail)
            go_ret
            exact ⟨by rw [hq.out]; rfl, hx2⟩
        · have hq : Hid (q = true) := by
            rw [Hid, HQ.out]; refine HMEM.out ?_
            unfold wideO
            simp only [decide_eq_true_eq, decide_eq_false_iff_not, Bool.or_eq_true, Bool.and_eq_true] at *
            omega
          go_wp2_with (fail)
          go_ret
          exact ⟨by rw [hq.out]; rfl, hx2⟩
    · obtain rfl : k = n := by omega
      have hq : Hid (q = decide (25 < (k : Int))) := by
        have hall := hany.out
        rw [List.take_of_length_le (by rw [← HN.out]; exact Nat.le_refl _)] at hall
        rw [Hid, HQ.out, wideB, hall, Bool.false_or, ← HN.out]
        exact decide_eq_decide.2 (by omega)
      go_wp2_with (fail)
      go_ret
      exact ⟨by rw [hq.out]; rfl, hx⟩
end Go.Proofs.Ytlahejakcgoheaa
