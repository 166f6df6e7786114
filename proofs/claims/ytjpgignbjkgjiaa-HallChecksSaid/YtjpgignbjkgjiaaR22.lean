/-
  slices.SortStableFunc at []int: an insertion sort, at 16 numbers or fewer.
-/
import Derived.Test.YtjpgignbjkgjiaaR21
import Derived.Deep.RegionLaw
set_option linter.unusedVariables false
set_option linter.unusedSimpArgs false
namespace Go.Proofs.Ytjpgignbjkgjiaa
open Go.RowKit
attribute [local go_sem ↓] Go.wp_at_zero Go.wp_at_succ
theorem nth_set (xs : List Int) (k i : Nat) (v : Int) (hi : i < xs.length) : nth (xs.set k v) i = if i = k then v else nth xs i := by
  rw [nth_eq _ _ (by simpa using hi), nth_eq _ _ hi, List.getElem_set]
  by_cases h : k = i
  · rw [if_pos h, if_pos h.symm]
  · rw [if_neg h, if_neg (fun e => h e.symm)]
theorem nth_swapJ {xs : List Int} {j : Nat} (i : Nat) (hi : i < xs.length) : nth (swapJ xs j) i = if i = j then nth xs (j + 1) else if i = j + 1 then nth xs j else nth xs i := by
  unfold swapJ
  rw [nth_set _ _ _ _ (by simpa using hi), nth_set _ _ _ _ hi]
theorem swapJ_all {Q : Int → Prop} {xs : List Int} {n j : Nat} (hn : xs.length = n) (hj : j + 1 < n) (h : ∀ i, i < n → Q (nth xs i)) : ∀ i, i < n → Q (nth (swapJ xs j) i) := fun i hi => by
  rw [nth_swapJ _ (by omega)]
  split
  · exact h _ (by omega)
  · split
    · exact h _ (by omega)
    · exact h _ hi
theorem innerS_all {Q : Int → Prop} (key : Int → Int) {n : Nat} : ∀ (j : Nat) {xs : List Int}, xs.length = n → j < n → (∀ i, i < n → Q (nth xs i)) → ∀ i, i < n → Q (nth (innerS key j xs) i)
  | 0, _, _, _, h => h
  | j + 1, xs, hn, hj, h => by
    simp only [innerS]
    split
    · exact innerS_all key j (by rw [swapJ_len]; exact hn) (by omega) (swapJ_all hn hj h)
    · exact h
theorem ownI_set2 {w : World} {B g n c j : Nat} {xs : List Int} (hn : xs.length = n) (h : OwnI w B (.slice (some ⟨g, 0, none⟩) n c) xs) (v : Int) : OwnI (w.setCell ⟨g, j, none⟩ (.int .i64 v)) B (.slice (some ⟨g, 0, none⟩) n c) (xs.set j v) := by
  subst hn
  unfold OwnI at *
  have := (h.stored j (.int .i64 v)).1
  rw [List.length_set]
  have e : (rowI xs).set j (.int .i64 v) = rowI (xs.set j v) := by
    unfold rowI; rw [List.map_set]
  rw [e] at this
  exact this
/-- What is asked of a comparison while the numbers of the block g are sorted. -/
def Cmps (f : Nat) (cap : Array Value) (g : Nat) (w : World) (Q : Int → Prop) (cf : Int → Int → Int) : Prop :=
  Enters Try.prog f ∧ ∀ W, ExtX g w W → ∀ u v, Q u → Q v → Calls Try.prog f (#[.int .i64 u, .int .i64 v] ++ cap) W (Ret (.int .i64 (cf u v)) W)
set_option maxRecDepth 100000 in
set_option maxHeartbeats 2000000 in
theorem insertion_any (f : Nat) (cap : Array Value) (B g n c : Nat) (xs : List Int) (Q : Int → Prop) (cf : Int → Int → Int) (key : Int → Int) (w : World) (hx : OwnI w B (.slice (some ⟨g, 0, none⟩) n c) xs) (hn : xs.length = n) (h1 : 1 ≤ n) (h16 : n ≤ 16)
    (hQ : ∀ i, i < n → Q (nth xs i)) (hc : Cmps f cap g w Q cf) (hk : ∀ u v, Q u → Q v → (cf u v < 0 ↔ key u < key v)) :
    Calls Try.prog 86 #[.slice (some ⟨g, 0, none⟩) n c, .int .i64 0, .int .i64 n, .func (.func f) #[] cap] w (fun e w' => e = .returned (.tuple #[]) ∧ ExtX g w w' ∧ OwnI w' B (.slice (some ⟨g, 0, none⟩) n c) (sortS key xs)) := by
  have HX := Lib.hid hx; have HN := Lib.hid hn; have HQ := Lib.hid hQ; have HC := Lib.hid hc.2; have HK := Lib.hid hk
  have hen := hc.1
  have HEN := Lib.hid hen
  clear hx hn hQ hc hk hen
  go_enter Try.func86, Try.ntmps86
  go_wp2_with (fail)
  go_loopw [8] (fun v wr => ∃ k : Nat, k + 1 ≤ n ∧ v = .int .i64 ((k : Int) + 1) ∧ ExtX g w wr ∧ Hid (OwnI wr B (.slice (some ⟨g, 0, none⟩) n c) (outerS key k xs)) ∧ Hid (∀ i, i < n → Q (nth (outerS key k xs) i))) (fun v _ => n - (intOf v).toNat)
  case atStart => exact ⟨0, by omega, by go_num, ExtX.refl _ _, HX.out, HQ.out⟩
  case round =>
    obtain ⟨k, hk, rfl, hr, hown, hq⟩ := hrel
    by_cases hlt : k + 1 < n
    · have HLEN : Hid ((outerS key k xs).length = n) := by rw [Hid, outerS_len]; exact HN.out
      go_wp2_with (fail)
      obtain ⟨wo, rfl⟩ : ∃ wo : World, wo = wr := ⟨_, rfl⟩
      rw [show decide ((k : Int) + 1 < (n : Int)) = true from decide_eq_true (by omega)]
      go_loopw [9] (fun v wr => ∃ (j : Nat) (cur : List Int), j ≤ k + 1 ∧ v = .int .i64 j ∧ ExtX g w wr ∧ Hid (OwnI wr B (.slice (some ⟨g, 0, none⟩) n c) cur) ∧ Hid (cur.length = n ∧ (∀ i, i < n → Q (nth cur i)) ∧ innerS key j cur = outerS key (k + 1) xs)) (fun v _ => (intOf v).toNat)
      case atStart => exact ⟨k + 1, outerS key k xs, Nat.le_refl _, by go_num, hr, hown.out, HLEN.out, hq.out, rfl⟩
      case round =>
        obtain ⟨j, cur, hj, rfl, hr, hown, hcur⟩ := hrel
        have hr0 := Ext.refl wr
        rcases Nat.eq_zero_or_pos j with rfl | hj0
        · have hend : Hid (cur = outerS key (k + 1) xs) := hcur.out.2.2
          rw [Hid, hend.out] at hown
          have HO := Lib.hid hown
          have HQ2 : Hid (∀ i, i < n → Q (nth (outerS key (k + 1) xs) i)) := by rw [← hend.out]; exact hcur.out.2.1
          clear hown
          go_wp2_with (fail)
          refine wp_region_ext (by kernel_rfl) (by kernel_rfl) hr0 ?_
          repeat (first | go_big_quiet_step (fail) | quiet_step (fail))
          refine wpQuiet_nil ?_
          rintro _ ⟨nq, rfl⟩
          have hq1 := hr.trans nq.ok.x
          have HO1 := Lib.hid (HO.out.ext nq.ok)
          go_wp2_with (fail)
          go_roundw
          case rel => exact ⟨k + 1, by omega, by go_num, hq1, HO1, HQ2⟩
          case measure => simp [intOf]; omega
        · obtain ⟨j, rfl⟩ : ∃ q, j = q + 1 := ⟨j - 1, by omega⟩
          have hjn : j + 1 < n := by omega
          have c1 := fun W (h : Ext wr W) => h.cell (ownI_cell hcur.out.1 hown.out (j + 1) hjn)
          have c0 := fun W (h : Ext wr W) => h.cell (ownI_cell hcur.out.1 hown.out j (by omega))
          have hen' := fun W => HEN.out (#[.int .i64 (nth cur (j + 1)), .int .i64 (nth cur j)] ++ cap) W
          have HCC := Lib.hid (fun W (h : Ext wr W) => HC.out W (hr.trans h.x) _ _ (hcur.out.2.1 (j + 1) hjn) (hcur.out.2.1 j (by omega)))
          have hkk := HK.out _ _ (hcur.out.2.1 (j + 1) hjn) (hcur.out.2.1 j (by omega))
          have hw : IntKind.i64.wrap ((j : Int) + 1 - 1) = (j : Int) := by rw [IntWalk.i64_in _ (by omega)]; omega
          have hjn0 : j < n := by omega
          have hwj : IntKind.i64.wrap (j : Int) = (j : Int) := IntWalk.i64_in _ (by omega)
          cases T : decide (cf (nth cur (j + 1)) (nth cur j) < 0)
          · have hend : Hid (cur = outerS key (k + 1) xs) := by
              have h2 := hcur.out.2.2
              simp only [innerS] at h2
              rw [if_neg (fun e => by have := hkk.2 e; simp at T; omega)] at h2
              exact h2
            rw [hend.out] at hown
            have HO := Lib.hid hown.out
            have HQ2 : Hid (∀ i, i < n → Q (nth (outerS key (k + 1) xs) i)) := by rw [← hend.out]; exact hcur.out.2.1
            clear hown hkk
            go_wp2_with (fail)
            refine wp_region_ext (by kernel_rfl) (by kernel_rfl) hr0 ?_
            repeat (first | go_big_quiet_step ((with_reducible exact Calls.later (HCC.out _ (Later.ext _)))))
            refine wpQuiet_nil ?_
            rintro _ ⟨nq, rfl⟩
            have hq1 := hr.trans nq.ok.x
            have HO1 := Lib.hid (HO.out.ext nq.ok)
            go_wp2_with (fail)
            go_roundw
            case rel => exact ⟨k + 1, by omega, by go_num, hq1, HO1, HQ2⟩
            case measure => simp [intOf]; omega
          · have hst : Hid ((swapJ cur j).length = n) := by rw [Hid, swapJ_len]; exact hcur.out.1
            have hsq : Hid (∀ i, i < n → Q (nth (swapJ cur j) i)) := swapJ_all hcur.out.1 hjn hcur.out.2.1
            have hse : Hid (innerS key j (swapJ cur j) = outerS key (k + 1) xs) := by
              have h2 := hcur.out.2.2
              simp only [innerS] at h2
              rw [if_pos (hkk.1 (by simpa using T))] at h2
              exact h2
            have hsu : Hid (swapJ cur j = (cur.set (j + 1) (nth cur j)).set j (nth cur (j + 1))) := rfl
            clear hkk
            go_wp2_with (fail)
            refine wp_region_ext (by kernel_rfl) (by kernel_rfl) hr0 ?_
            repeat (first | go_big_quiet_step ((with_reducible exact Calls.later (HCC.out _ (Later.ext _)))))
            refine wpQuiet_nil ?_
            rintro _ ⟨nq, rfl⟩
            have hq1 := hr.trans nq.ok.x
            have HO1 := Lib.hid (hown.out.ext nq.ok)
            clear hen' HCC c0 c1 hr0 hr hown
            generalize nq.val = w5 at *
            clear nq
            have hr0 := Ext.refl w5
            have c1 := fun W (h : Ext w5 W) => h.cell (ownI_cell hcur.out.1 HO1.out (j + 1) hjn)
            have c0 := fun W (h : Ext w5 W) => h.cell (ownI_cell hcur.out.1 HO1.out j (by omega))
            go_wp2_with (fail)
            have hj1 : (j : Int) + 1 < (n : Int) := by omega
            have hj2 : 0 ≤ (j : Int) + 1 := by omega
            have hj3 : ((j : Int) + 1).toNat = j + 1 := by omega
            have h67 : Ext w5 w5.drew := hr0.drew
            have hq7 := hq1.trans h67.x
            have HO7 := Lib.hid (HO1.out.ext h67)
            have hfr1 := ownI_free hcur.out.1 HO7.out (j + 1)
            have hcl1 := ownI_cell hcur.out.1 HO7.out (j + 1) hjn
            have HO8 := Lib.hid (ownI_set2 (j := j + 1) hcur.out.1 HO1.out (nth cur j))
            have HO8d := Lib.hid (HO8.out.ext (Ext.refl _).drew)
            have hl8 : (cur.set (j + 1) (nth cur j)).length = n := by rw [List.length_set]; exact hcur.out.1
            have hfr0 := ownI_free hl8 HO8d.out j
            have hcl0 := ownI_cell hl8 HO8d.out j (by omega)
            have HO9 := Lib.hid (ownI_set2 (j := j) hl8 HO8.out (nth cur (j + 1)))
            have hq9 := (hq1.set (j + 1) (.int .i64 (nth cur j))).set j (.int .i64 (nth cur (j + 1)))
            rw [← hsu.out] at HO9
            clear hl8 HO7 HO8 HO8d
            go_region_law (fail)
            all_goals
              go_wp2_with (fail)
              go_roundw
              case rel => exact ⟨j, swapJ cur j, by omega, by go_num, hq9.trans (Ext.refl _).drew.x, HO9.out.ext (Ext.refl _).drew, hst.out, hsq.out, hse.out⟩
              case measure => simp [intOf]
    · obtain rfl : n = k + 1 := by omega
      have hst : Hid (outerS key k xs = sortS key xs) := by rw [Hid, sortS, HN.out]; rfl
      rw [hst.out] at hown
      have HO := Lib.hid hown.out
      clear hown
      go_wp2_with (fail)
      go_end0
      exact ⟨rfl, hr, HO.out⟩
/-- Of no number. -/
theorem insertion_none (f : Nat) (cap : Array Value) (a : Option Addr) (c : Nat) (w : World) :
    Calls Try.prog 86 #[.slice a 0 c, .int .i64 0, .int .i64 0, .func (.func f) #[] cap] w (Ret (.tuple #[]) w) := by
  have hr := Ext.refl w
  go_enter Try.func86, Try.ntmps86
  go_wp2_with (fail)
  go_loopw [8] (fun v wr => v = .int .i64 1 ∧ wr = w) (fun _ _ => 0)
  case atStart => exact ⟨by go_num, rfl⟩
  case round =>
    obtain ⟨rfl, rfl⟩ := hrel
    go_wp2_with (fail)
    go_end0
    exact ⟨rfl, hr⟩
set_option maxRecDepth 100000 in
set_option maxHeartbeats 2000000 in
theorem stable_any (f : Nat) (cap : Array Value) (B g n c : Nat) (xs : List Int) (Q : Int → Prop) (cf : Int → Int → Int) (key : Int → Int) (w : World) (hx : OwnI w B (.slice (some ⟨g, 0, none⟩) n c) xs) (hn : xs.length = n) (h1 : 1 ≤ n) (h16 : n ≤ 16)
    (hQ : ∀ i, i < n → Q (nth xs i)) (hc : Cmps f cap g w Q cf) (hk : ∀ u v, Q u → Q v → (cf u v < 0 ↔ key u < key v)) :
    Calls Try.prog 80 #[.slice (some ⟨g, 0, none⟩) n c, .int .i64 n, .func (.func f) #[] cap] w (fun e w' => e = .returned (.tuple #[]) ∧ ExtX g w w' ∧ OwnI w' B (.slice (some ⟨g, 0, none⟩) n c) (sortS key xs)) := by
  have HI := Lib.hid (insertion_any f cap B g n c xs Q cf key w hx hn h1 h16 hQ hc hk)
  clear hx hn hQ hc hk
  go_enter Try.func80, Try.ntmps80
  go_wp2_with (fail)
  go_loopw [7, 8] (fun v7 v8 wr => v7 = .int .i64 0 ∧ v8 = .int .i64 20 ∧ wr = w) (fun _ _ _ => 0)
  case atStart => exact ⟨rfl, rfl, rfl⟩
  case round =>
    obtain ⟨rfl, rfl, rfl⟩ := hrel
    go_wp2_with (fail)
    (with_reducible refine HI.out.mono ?_); rintro e w2 ⟨rfl, hx2, ho2⟩
    have HO2 := Lib.hid ho2
    clear ho2 HI
    go_wp2_with (fail)
    go_loopw [6] (fun v6 wr => v6 = .int .i64 20 ∧ wr = w2) (fun _ _ => 0)
    case atStart => exact ⟨rfl, rfl⟩
    case round =>
      obtain ⟨rfl, rfl⟩ := hrel
      go_wp2_with (fail)
      go_end0
      exact ⟨rfl, hx2, HO2.out⟩
theorem stable_none (f : Nat) (cap : Array Value) (a : Option Addr) (c : Nat) (w : World) :
    Calls Try.prog 80 #[.slice a 0 c, .int .i64 0, .func (.func f) #[] cap] w (Ret (.tuple #[]) w) := by
  have HI := Lib.hid (insertion_none f cap a c w)
  go_enter Try.func80, Try.ntmps80
  go_wp2_with (fail)
  go_loopw [7, 8] (fun v7 v8 wr => v7 = .int .i64 0 ∧ v8 = .int .i64 20 ∧ wr = w) (fun _ _ _ => 0)
  case atStart => exact ⟨rfl, rfl, rfl⟩
  case round =>
    obtain ⟨rfl, rfl, rfl⟩ := hrel
    go_wp2_with (fail)
    (with_reducible refine HI.out.mono ?_); rintro e w2 ⟨rfl, hx2⟩
    go_wp2_with (fail)
    go_loopw [6] (fun v6 wr => v6 = .int .i64 20 ∧ wr = w2) (fun _ _ => 0)
    case atStart => exact ⟨rfl, rfl⟩
    case round =>
      obtain ⟨rfl, rfl⟩ := hrel
      go_wp2_with (fail)
      go_end0
      exact ⟨rfl, hx2⟩
/-- 'slices.SortStableFunc' at 16 numbers or fewer. -/
theorem sort_any (f : Nat) (cap : Array Value) (B g n c : Nat) (xs : List Int) (Q : Int → Prop) (cf : Int → Int → Int) (key : Int → Int) (w : World) (hx : OwnI w B (.slice (some ⟨g, 0, none⟩) n c) xs) (hn : xs.length = n) (h1 : 1 ≤ n) (h16 : n ≤ 16)
    (hQ : ∀ i, i < n → Q (nth xs i)) (hc : Cmps f cap g w Q cf) (hk : ∀ u v, Q u → Q v → (cf u v < 0 ↔ key u < key v)) :
    Calls Try.prog 64 #[.slice (some ⟨g, 0, none⟩) n c, .func (.func f) #[] cap] w (fun e w' => e = .returned (.tuple #[]) ∧ ExtX g w w' ∧ OwnI w' B (.slice (some ⟨g, 0, none⟩) n c) (sortS key xs)) := by
  have HI := Lib.hid (stable_any f cap B g n c xs Q cf key w hx hn h1 h16 hQ hc hk)
  clear hx hn hQ hc hk
  go_enter Try.func64, Try.ntmps64
  go_wp2_with (fail)
  (with_reducible refine HI.out.mono ?_); rintro e w2 ⟨rfl, hx2, ho2⟩
  have HO2 := Lib.hid ho2
  clear ho2 HI
  go_wp2_with (fail)
  go_end0
  exact ⟨rfl, hx2, HO2.out⟩
theorem sort_none (f : Nat) (cap : Array Value) (a : Option Addr) (c : Nat) (w : World) :
    Calls Try.prog 64 #[.slice a 0 c, .func (.func f) #[] cap] w (Ret (.tuple #[]) w) := by
  have HI := Lib.hid (stable_none f cap a c w)
  go_enter Try.func64, Try.ntmps64
  go_wp2_with (fail)
  (with_reducible refine HI.out.mono ?_); rintro e w2 ⟨rfl, hx2⟩
  go_wp2_with (fail)
  go_end0
  exact ⟨rfl, hx2⟩
end Go.Proofs.Ytjpgignbjkgjiaa
