import Derived.Test.YtjpgignbjkgjiaaR10
import Derived.Test.YtjpgignbjkgjiaaP10
set_option linter.unusedVariables false
set_option linter.unusedSimpArgs false
namespace Go.Proofs.Ytjpgignbjkgjiaa
open Go.RowKit
theorem hoursS_take (n : Nat) (frm : Int) (d : Nat) (h : d < (n - frm).toNat) : (hoursS n frm).take (d + 1) = (hoursS n frm).take d ++ [frm + (d : Int)] := by
  rw [List.take_succ_eq_append_getElem (by rw [hoursS_len]; exact h)]
  congr 2
  simp [hoursS]
theorem own_lit0 (w : World) : OwnI (w.alloc (.cells #[] 3)) w.heap.size (.slice (some ⟨w.heap.size, 0, none⟩) 0 0) [] := own_empty w 3 1
set_option maxHeartbeats 1000000 in
theorem hours_any (ha : Hal) (x : HP) (frm : Int) (w : World) (hn : ha.st.length ≤ 1000) (h0 : -1000 ≤ frm) (h1 : frm ≤ 100000) :
    Calls Try.prog 26 #[hval ha x, .int .i64 frm] w (RetI (hoursS ha.st.length frm) w) := by
  obtain ⟨sa, sc, ea, ec⟩ := x
  obtain ⟨m, hm⟩ : ∃ m : Nat, m = ((ha.st.length : Int) - frm).toNat := ⟨_, rfl⟩
  have hm1 : m ≤ 2000 := by omega
  have hm2 : ∀ d : Nat, d ≤ m → (frm + d < (ha.st.length : Int) ↔ d < m) := fun d hd => by omega
  have HM := Lib.hid hm
  have HM2 := Lib.hid hm2
  clear hm hm2
  go_enter Try.func26, Try.ntmps26
  go_upto_region 1 with fail
  generalize hw1 : World.alloc _ _ = w1
  obtain ⟨he, o1, -⟩ := alloc1 hw1
  obtain ⟨b0, b1, b2, b3⟩ := obj_cells4 o1
  clear hw1 o1 b0 b1 b3
  have hr0 := Ext.refl w1
  go_wp2_with (fail)
  go_loopw [5, 6] (fun v t wr => ∃ d : Nat, d ≤ m ∧ t = .int .i64 (frm + d) ∧ Ext w1 wr ∧ OwnI wr w1.heap.size v ((hoursS ha.st.length frm).take d)) (fun _ t _ => (frm + m - intOf t).toNat)
  case atStart => exact ⟨0, Nat.zero_le _, by simp, hr0.alloc _, own_lit0 w1⟩
  case round =>
    clear hr0
    obtain ⟨d, hd, rfl, hr, hown⟩ := hrel
    by_cases hlt : d < m
    · have hle := (HM2.out d hd).2 hlt
      have happ := app_ints (wr.alloc (.cells #[.int .i64 (frm + (d : Nat))] 3)) w1.heap.size 22 _ _ [frm + (d : Nat)] (some ⟨wr.heap.size, 0, none⟩) 1 (hown.ext ((Ext.refl wr).alloc _)) (ints_one (heap_new _ _))
        (by rw [List.length_take]; simp; omega) (by have := hr.size; rw [heap_size]; omega)
      have HA := Lib.hid happ
      have hblk := Lib.hid (own_block hown)
      have HT : Hid ((hoursS ha.st.length frm).take (d + 1) = (hoursS ha.st.length frm).take d ++ [frm + (d : Int)]) := hoursS_take _ _ _ (by rw [← HM.out]; exact hlt)
      clear hown happ
      go_wp2_with (at_builtin; refine wpList_app _ rfl _ _ 22 rfl _ HA.out ?_; rintro v' w' ⟨hv, hg⟩; have HG := Lib.hid (grown_ext (hr.alloc _) hg hblk.out); clear HA hg)
      go_roundw
      case rel => exact ⟨d + 1, by omega, by go_num, HG.out, by rw [HT.out]; exact hv⟩
      case measure => simp [intOf]; omega
    · obtain rfl : d = m := by omega
      have hle : (ha.st.length : Int) ≤ frm + d := by have := HM2.out d (Nat.le_refl _); omega
      go_wp2_with (fail)
      rw [List.take_of_length_le (by rw [hoursS_len, ← HM.out]; exact Nat.le_refl _)] at hown
      obtain ⟨a', n', c', rfl⟩ := own_slice hown
      obtain ⟨-, hn', -⟩ := hown.ints
      go_ret
      rw [hn'] at hown ⊢
      exact ⟨a', c', rfl, he.trans hr, own_down hown he.size⟩
set_option maxHeartbeats 1000000 in
theorem refCost_any (l : List Camp) (la : Option Addr) (lc n : Nat) (p : List Int) (pa : Option Addr) (pn pc : Nat) (w : World) (hl : Camps w la l) (hp : Ints w pa p) (hpl : l.length ≤ p.length) (hpn : p.length = pn) (hl16 : l.length ≤ 16)
    (hc : ∀ i, i < l.length → CB n (cth l i)) (ht : ∀ i, i < l.length → 0 ≤ nth p i ∧ nth p i ≤ 96) :
    Calls Try.prog 29 #[.slice la l.length lc, .slice pa pn pc] w (Ret (.int .i64 (costTo l p l.length)) w) := by
  have HCB := Lib.hid hc; have HT := Lib.hid ht; clear hc ht
  have HPN := Lib.hid hpn; clear hpn
  have hpl' : l.length ≤ pn := by rw [← HPN.out]; exact hpl
  go_enter Try.func29, Try.ntmps29
  go_wp2_with (fail)
  go_loopw [5, 6] (fun s i wr => ∃ k : Nat, k ≤ l.length ∧ i = .int .i64 k ∧ s = .int .i64 (costTo l p k) ∧ Ext w wr) (fun _ i _ => l.length - (intOf i).toNat)
  case atStart => exact ⟨0, Nat.zero_le _, rfl, rfl, Ext.refl _⟩
  case round =>
    obtain ⟨k, hk, rfl, rfl, hr⟩ := hrel
    by_cases hlt : k < l.length
    · obtain ⟨b, o, rfl, c0, c1, c2, c3, c4, c5, c6⟩ := hl.at k hlt
      obtain ⟨b', o', rfl, d0⟩ := hp.at k (by omega)
      have hkp : k < pn := by omega
      clear c0 c1 c3 c4 c5
      go_wp2_with (fail)
      refine wp_region_ext (by kernel_rfl) (by kernel_rfl) hr ?_
      repeat (quiet_step (fail))
      refine wpQuiet_nil ?_
      rintro _ ⟨nq, rfl⟩
      have e1 : IntKind.i64.wrap (costTo l p k + IntKind.i64.wrap ((cth l k).we * IntKind.i64.wrap (nth p k + (cth l k).ho))) = costTo l p (k + 1) := by
        have q1 := we_bd (HCB.out k hlt) (HT.out k hlt).1 (HT.out k hlt).2
        have q2 := costTo_bd HCB.out HT.out k hk
        have q3 := (HCB.out k hlt).ho0; have q4 := (HCB.out k hlt).ho1
        have q5 := HT.out k hlt
        rw [IntWalk.i64_in (nth p k + (cth l k).ho) (by omega), IntWalk.i64_in ((cth l k).we * (nth p k + (cth l k).ho)) (by omega), IntWalk.i64_in _ (by omega)]
        rfl
      rw [e1]
      clear e1
      have hr3 := nq.ok
      go_wp2_with (fail)
      go_roundw
      case rel => exact ⟨k + 1, by omega, by go_num, rfl, hr3⟩
      case measure => simp [intOf]; omega
    · obtain rfl : k = l.length := by omega
      go_wp2_with (fail)
      go_ret
      exact ⟨rfl, hr⟩
def manyB (n k : Int) : Bool := (decide (14 < n) && decide (n ≤ 96)) || (decide (3 < k) && decide (k ≤ 4))
set_option maxHeartbeats 1000000 in
theorem many_any (ha : Hal) (x : HP) (la : Option Addr) (ln lc : Nat) (w : World) :
    Calls Try.prog 30 #[hval ha x, .slice la ln lc] w (Ret (.bool (manyB ha.st.length ln)) w) := by
  obtain ⟨sa, sc, ea, ec⟩ := x
  have HB : Hid (manyB ha.st.length ln = ((decide ((14 : Int) < ha.st.length) && decide ((ha.st.length : Int) ≤ 96)) || (decide ((3 : Int) < ln) && decide ((ln : Int) ≤ 4)))) := rfl
  cases T1 : decide ((14 : Int) < ha.st.length) <;> cases T2 : decide ((ha.st.length : Int) ≤ 96) <;> cases T3 : decide ((3 : Int) < (ln : Int))
  all_goals
    rw [T1, T2, T3] at HB
    go_enter Try.func30, Try.ntmps30
    go_wp2_with (fail)
    go_ret
    exact ⟨by rw [HB.out]; rfl, (Ext.refl w).alloc _⟩
end Go.Proofs.Ytjpgignbjkgjiaa
