import Derived.Test.YtjpgignbjkgjiaaA18
import Derived.Test.YtjpgignbjkgjiaaPlain
set_option linter.unusedVariables false
set_option linter.unusedSimpArgs false
namespace Go.Proofs.Ytjpgignbjkgjiaa
open Go.RowKit
/-- What Best gives back. -/
def bestV (ha : Hal) (l : List Camp) (a : Option Addr) (c : Nat) : Value :=
  if campsB ha l then (if l.length ≤ 4 then solV (bestSt ha l) a c else .tuple #[.slice none 0 0, .int .i64 0, .int .i64 5]) else .tuple #[.slice none 0 0, .int .i64 0, .int .i64 2]
def bestI (ha : Hal) (l : List Camp) (w : World) (a : Option Addr) : Prop := campsB ha l = true → l.length ≤ 4 → solI (bestSt ha l) w a
def RetBest (ha : Hal) (l : List Camp) (w : World) (e : Ending) (w' : World) : Prop := ∃ a c, e = .returned (bestV ha l a c) ∧ Ext w w' ∧ bestI ha l w' a
theorem sls_of_own {w : World} {B n : Nat} {v : Value} {ss : List SL} (h : w.ownsRow B 22 1 v n (rowS ss)) (hn : ss.length = n) (hi : ∀ j, j < n → Ints w (sth ss j).a (sth ss j).xs) : ∃ a c, v = .slice a ss.length c ∧ SLsX w.heap.size w a ss := by
  subst hn
  rcases h.2 with ⟨rfl, h0⟩ | ⟨g, cap, cur, rfl, _, hh, _⟩
  · have : ss = [] := List.length_eq_zero_iff.1 h0
    exact ⟨none, 0, by rw [h0], .inl this, fun j hj => by omega⟩
  · exact ⟨_, cap, rfl, slsX_of_own h rfl (by have := lt_of_block hh; omega) fun j hj => (hi j hj).x (Nat.le_refl _)⟩
/-- The lists of the first k campaigns. -/
theorem leftS_take (ha : Hal) (l : List Camp) (now : Int) (k : Nat) (h : k < l.length) : (leftS ha l now).take (k + 1) = (leftS ha l now).take k ++ [startsS ha (cth l k) now] := by
  rw [List.take_succ_eq_append_getElem (by rw [leftS_len]; exact h), cth_eq _ _ h]; simp [leftS]
set_option maxHeartbeats 1000000 in
theorem Best_any (ha : Hal) (x : HP) (l : List Camp) (la : Option Addr) (lc : Nat) (w : World) (hh : HallAt w ha x) (hl : Camps w la l) :
    Calls Try.prog 31 #[hval ha x, .slice la l.length lc] w (RetBest ha l w) := by
  have hchk := fun W (h : Ext w W) => checkCampaigns ha x l la lc W (hh.ext h) (hl.ext h)
  have hst := fun (hv : VH ha l) W (h : Ext w W) i (hi : i < l.length) => starts_any ha x (cth l i) 0 l W (hh.ext h) hv (hv.cb i hi) (by omega) (by omega)
  have hso := fun (hv : VH ha l) W (h : Ext w W) ss a c => solve_any ha x l la lc ss a c W hv (hh.ext h) (hl.ext h)
  have HSTA := Lib.hid hst; have HSOL := Lib.hid hso
  clear hst hso
  obtain ⟨sa, sc, ea, ec⟩ := x
  clear hh
  cases T1 : campsB ha l
  · have HB : Hid (∀ a c, bestV ha l a c = .tuple #[.slice none 0 0, .int .i64 0, .int .i64 2]) := fun a c => by simp [bestV, T1]
    rw [T1] at hchk
    simp only [errIf] at hchk
    have HC := Lib.hid hchk; clear hchk
    go_enter Try.func31, Try.ntmps31
    go_wp2_with (fail)
    generalize hw1 : World.alloc _ _ = w1
    obtain ⟨he, o1, -⟩ := alloc1 hw1
    obtain ⟨b0, b1, b2, b3⟩ := obj_cells4 o1
    clear hw1 o1
    (with_reducible refine (HC.out _ he).mono ?_); rintro e w2 ⟨rfl, he2⟩
    go_wp2_with (fail)
    go_ret3
    exact ⟨none, 0, by rw [HB.out]; rfl, he.trans he2, fun h => by rw [T1] at h; cases h⟩
  · have hv := campsB_vh T1
    rw [T1] at hchk
    simp only [errIf] at hchk
    have HC := Lib.hid hchk; clear hchk
    cases T2 : decide ((4 : Int) < (l.length : Int))
    rotate_left
    · have hgt : ¬ l.length ≤ 4 := by simp at T2; omega
      have HB : Hid (∀ a c, bestV ha l a c = .tuple #[.slice none 0 0, .int .i64 0, .int .i64 5]) := fun a c => by simp [bestV, T1, hgt]
      have HG := Lib.hid hgt
      clear hgt hv
      go_enter Try.func31, Try.ntmps31
      go_wp2_with (fail)
      generalize hw1 : World.alloc _ _ = w1
      obtain ⟨he, o1, -⟩ := alloc1 hw1
      obtain ⟨b0, b1, b2, b3⟩ := obj_cells4 o1
      clear hw1 o1
      (with_reducible refine (HC.out _ he).mono ?_); rintro e w2 ⟨rfl, he2⟩
      go_wp2_with (fail)
      go_ret3
      exact ⟨none, 0, by rw [HB.out]; rfl, he.trans he2, fun _ h => absurd h HG.out⟩
    · have hle : l.length ≤ 4 := by simp at T2; omega
      have HB : Hid (∀ a c, bestV ha l a c = solV (bestSt ha l) a c) := fun a c => by simp [bestV, T1, hle]
      have HV := Lib.hid hv
      clear hv
      have HL := Lib.hid hl
      clear hl
      go_enter Try.func31, Try.ntmps31
      go_wp2_with (fail)
      generalize hw1 : World.alloc _ _ = w1
      obtain ⟨he, o1, -⟩ := alloc1 hw1
      obtain ⟨b0, b1, b2, b3⟩ := obj_cells4 o1
      clear hw1 o1
      (with_reducible refine (HC.out _ he).mono ?_); rintro e w2 ⟨rfl, he2⟩
      go_wp2_with (fail)
      go_loopw [7, 21] (fun v i wr => ∃ (k : Nat) (ss : List SL), k ≤ l.length ∧ i = .int .i64 k ∧ Ext w1 wr ∧ ss.length = k ∧ Hid (lsts ss = (leftS ha l 0).take k) ∧ Hid (wr.ownsRow w1.heap.size 22 1 v k (rowS ss)) ∧ Hid (∀ j, j < k → IntsT wr (sth ss j).a (sth ss j).xs)) (fun _ i _ => l.length - (intOf i).toNat)
      case atStart => exact ⟨0, [], Nat.zero_le _, rfl, he2, rfl, by simp [Hid, lsts], World.ownsRow_nil _ _ _ _, fun j hj => by omega⟩
      case round =>
        obtain ⟨k, ss, hk, rfl, hr, hss, hls, hown, hint⟩ := hrel
        by_cases hlt : k < l.length
        · obtain ⟨b, o, rfl, c0, c1, c2, c3, c4, c5, c6⟩ := HL.out.at k hlt
          replace c0 := fun W (h : Ext w1 W) => c0 W (he.trans h)
          replace c1 := fun W (h : Ext w1 W) => c1 W (he.trans h)
          replace c2 := fun W (h : Ext w1 W) => c2 W (he.trans h)
          replace c3 := fun W (h : Ext w1 W) => c3 W (he.trans h)
          replace c4 := fun W (h : Ext w1 W) => c4 W (he.trans h)
          replace c5 := fun W (h : Ext w1 W) => c5 W (he.trans h)
          replace c6 := fun W (h : Ext w1 W) => c6 W (he.trans h)
          have HSS := Lib.hid hss
          clear hss
          go_wp2_with (fail)
          generalize hw2 : World.alloc _ _ = w3
          obtain ⟨he3, o1, -⟩ := alloc1 hw2
          clear hw2 o1 c0 c1 c2 c3 c4 c5 c6
          have hr3 := hr.trans he3
          (with_reducible refine (HSTA.out HV.out _ (he.trans hr3) k hlt).mono ?_); rintro e w4 ⟨a', c', rfl, he4, hown4⟩
          have hr4 := hr3.trans he4
          have hrow := own_ext (own_ext hown.out he3) he4
          have hsrc : Src (w4.alloc (.cells #[.slice a' (startsS ha (cth l k) 0).length c'] 22)) (some ⟨w4.heap.size, 0, none⟩) (rowS [⟨a', startsS ha (cth l k) 0, c'⟩]) := by
            refine .inr ⟨_, rfl, fun j u hj => ?_⟩
            have hj0 : j = 0 := by
              rcases Nat.eq_zero_or_pos j with h | h
              · exact h
              · rw [List.getElem?_eq_none (by simp [rowS]; omega)] at hj; cases hj
            subst hj0
            simp only [rowS, List.map_cons, List.getElem?_cons_zero, Option.some.injEq] at hj
            rw [← hj, Addr.add_lit]
            exact obj_cells1 (heap_new w4 _) _ (Ext.refl _)
          have hrow2 := hrow.alloc (.cells #[.slice a' (startsS ha (cth l k) 0).length c'] 22)
          have happ := app_sls (w4.alloc (.cells #[.slice a' (startsS ha (cth l k) 0).length c'] 22)) w1.heap.size 62 _ ss [⟨a', startsS ha (cth l k) 0, c'⟩] (some ⟨w4.heap.size, 0, none⟩) 1 (by rw [HSS.out]; exact hrow2) hsrc (by rw [HSS.out]; simp; omega) (by have := hr4.size; rw [heap_size]; omega)
          have HA := Lib.hid happ
          have HR2 := Lib.hid hrow2
          have HO4 := Lib.hid hown4
          clear happ hrow hrow2 hsrc hown4
          go_wp2_with (at_builtin; refine wpList_app _ rfl _ _ 62 rfl _ HA.out ?_; rintro v' w' ⟨hv', hg⟩; have hE' := grown_ext (hr4.alloc _) hg (fun k hk => (HR2.out.lt k hk).1); have HG := Lib.hid hg; have HV' := Lib.hid hv'; clear hg hv' HA)
          rw [List.length_append, HSS.out] at HV'
          have hi5 : Hid (∀ j, j < k + 1 → IntsT w' (sth (ss ++ [⟨a', startsS ha (cth l k) 0, c'⟩]) j).a (sth (ss ++ [⟨a', startsS ha (cth l k) 0, c'⟩]) j).xs) := fun j hj => by
            by_cases hjk : j = k
            · have e1 : sth (ss ++ [⟨a', startsS ha (cth l k) 0, c'⟩]) j = ⟨a', startsS ha (cth l k) 0, c'⟩ := by simp [sth, hjk, HSS.out]
              rw [e1]
              exact ((HO4.out.intsT).ext ((Ext.refl w4).alloc _)).grown HR2.out HG.out
            · have e1 : sth (ss ++ [⟨a', startsS ha (cth l k) 0, c'⟩]) j = sth ss j := by
                have : j < ss.length := by rw [HSS.out]; omega
                simp [sth, List.getElem?_append_left this]
              rw [e1]
              exact ((((hint.out j (by omega)).ext he3).ext he4).ext ((Ext.refl w4).alloc _)).grown HR2.out HG.out
          have hl5 : Hid (lsts (ss ++ [⟨a', startsS ha (cth l k) 0, c'⟩]) = (leftS ha l 0).take (k + 1)) := by
            rw [Hid, leftS_take _ _ _ _ hlt, ← hls.out]; simp [lsts]
          go_roundw
          case rel => exact ⟨k + 1, _, by omega, by go_num, hE', by rw [List.length_append, HSS.out]; rfl, hl5, HV', hi5⟩
          case measure => simp [intOf]; omega
        · obtain rfl : k = l.length := by omega
          have hls2 : lsts ss = leftS ha l 0 := by rw [hls.out, List.take_of_length_le (by rw [leftS_len]; exact Nat.le_refl _)]
          obtain ⟨a5, c5, hav, hsl⟩ : ∃ a5 c5, u7 = .slice a5 ss.length c5 ∧ SLsX wr.heap.size wr a5 ss := by
            refine sls_of_own hown.out hss fun j hj => (hint.out j hj).ints
          subst hav
          have hsol := HSOL.out HV.out wr (he.trans hr) ss a5 c5 hss (by rw [hls2]; exact leftS_bd HV.out 0) hsl
          rw [hls2] at hsol
          have HS := Lib.hid hsol
          clear hsol hls2 hsl hss
          go_wp2_with (fail)
          (with_reducible refine HS.out.mono ?_); rintro e w5 ⟨a6, c6, rfl, he5, hi5⟩
          have hbi : bestI ha l w5 a6 := fun _ _ => hi5
          have hbv := HB.out a6 c6
          have HBI := Lib.hid hbi; have HBV := Lib.hid hbv
          clear hbi hbv hi5 HS
          have hEw := (he.trans hr).trans he5
          unfold bestSt at HBV
          cases hst : placeS ha l l.length (leftS ha l 0) none with
          | none =>
            rw [hst] at HBV
            clear hst
            unfold solV
            unfold solV at HBV
            dsimp only at HBV ⊢
            go_wp2_with (fail)
            go_ret3
            exact ⟨a6, c6, by rw [HBV.out]; rfl, hEw, HBI.out⟩
          | some pc =>
            obtain ⟨p, kc⟩ := pc
            rw [hst] at HBV
            clear hst
            unfold solV
            unfold solV at HBV
            dsimp only at HBV ⊢
            go_wp2_with (fail)
            go_ret3
            exact ⟨a6, c6, by rw [HBV.out]; rfl, hEw, HBI.out⟩
end Go.Proofs.Ytjpgignbjkgjiaa
