import Derived.Test.YtjpgignbjkgjiaaA3
set_option linter.unusedVariables false
set_option linter.unusedSimpArgs false
namespace Go.Proofs.Ytjpgignbjkgjiaa
open Go.RowKit
theorem enters62 : Enters Try.prog 62 := Enters.mk Try.func62 rfl rfl
set_option maxHeartbeats 400000 in
theorem indexFunc_camp (f : Nat) (cap : Array Value) (a : Option Addr) (n c : Nat) (xs : List Camp) (p : Camp → Bool) (w : World) (hn : xs.length = n) (hm : n ≤ 1000000) (hx : Camps w a xs)
    (hp : ∀ i, i < n → Asks Try.prog f cap w (cval (cth xs i)) (p (cth xs i))) :
    Calls Try.prog 79 #[.slice a n c, .func (.func f) #[] cap] w (Ret (.int .i64 (idxOr (xs.findIdx? p))) w) := by
  have HN := Lib.hid hn; clear hn
  go_enter Try.func79, Try.ntmps79
  go_wp2_with (fail)
  go_loopw [5, 8] (fun _ i wr => ∃ k : Nat, k ≤ n ∧ i = .int .i64 k ∧ Ext w wr ∧ Hid (∀ j, j < k → p (cth xs j) = false)) (fun _ i _ => n - (intOf i).toNat)
  case atStart => exact ⟨0, Nat.zero_le _, rfl, Ext.refl _, fun j hj => by omega⟩
  case round =>
    obtain ⟨k, hk, rfl, he, hf⟩ := hrel
    by_cases hlt : k < n
    · obtain ⟨b, o, rfl, c0, c1, c2, c3, c4, c5, c6⟩ := hx.at k (by rw [HN.out]; exact hlt)
      obtain ⟨hen, hq⟩ := hp k hlt
      have HQ := Lib.hid (hq wr he)
      have hen' := hen (#[cval (cth xs k)] ++ cap) wr
      clear hq hen hp
      go_wp2_with (fail)
      refine HQ.out.mono ?_
      rintro e w' ⟨rfl, he'⟩
      have he2 := he.trans he'
      cases hpk : p (cth xs k)
      · have hf2 : Hid (∀ j, j < k + 1 → p (cth xs j) = false) := fun j hj => by
          rcases Nat.lt_succ_iff_lt_or_eq.1 hj with h | h
          · exact hf.out j h
          · rw [h]; exact hpk
        clear hpk
        go_wp2_with (fail)
        go_roundw
        case rel => exact ⟨k + 1, by omega, by go_num, he2, hf2⟩
        case measure => simp [intOf]; omega
      · have H2 := Lib.hid (findIdx_some cth cth_eq p xs k (by rw [HN.out]; exact hlt) hpk hf.out)
        clear hpk
        go_wp2_with (fail)
        go_ret
        exact ⟨by rw [H2.out]; rfl, he2⟩
    · have H2 := Lib.hid (findIdx_none cth cth_eq p xs (fun j hj => hf.out j (by rw [HN.out] at hj; omega)))
      go_wp2_with (fail)
      go_ret
      exact ⟨by rw [H2.out]; rfl, he⟩
set_option maxHeartbeats 400000 in
theorem containsFunc_camp (f : Nat) (cap : Array Value) (a : Option Addr) (n c : Nat) (xs : List Camp) (p : Camp → Bool) (w : World) (hn : xs.length = n) (hm : n ≤ 1000000) (hx : Camps w a xs)
    (hp : ∀ i, i < n → Asks Try.prog f cap w (cval (cth xs i)) (p (cth xs i))) :
    Calls Try.prog 63 #[.slice a n c, .func (.func f) #[] cap] w (Ret (.bool (xs.any p)) w) := by
  have H := Lib.hid (indexFunc_camp f cap a n c xs p w hn hm hx hp)
  clear hp
  rw [any_idx]
  go_enter Try.func63, Try.ntmps63
  go_wp2_with (go_at_call 79; refine H.out.mono ?_; rintro e w' ⟨rfl, he⟩)
  go_ret
  exact ⟨rfl, he⟩
def anyBad (n : Int) (l : List Camp) : Bool := l.any fun c => !campB n c
theorem nat_le16 (n : Nat) : decide (n ≤ 16) = !decide ((16 : Int) < (n : Int)) := by
  rw [Bool.eq_iff_iff]; simp; omega
set_option maxHeartbeats 1000000 in
theorem checkCampaigns (ha : Hal) (x : HP) (l : List Camp) (la : Option Addr) (lc : Nat) (w : World) (hh : HallAt w ha x) (hl : Camps w la l) :
    Calls Try.prog 37 #[hval ha x, .slice la l.length lc] w (Ret (.int .i64 (errIf (campsB ha l) 2)) w) := by
  obtain ⟨sa, sc, ea, ec⟩ := x
  have HH := Lib.hid hh; clear hh
  have HB : Hid (campsB ha l = (halB ha && !decide ((16 : Int) < (l.length : Int)) && !anyBad ha.st.length l)) := by
    simp [campsB, anyBad, Hid, List.not_any_eq_all_not, nat_le16]
  cases T1 : halB ha; rotate_left
  cases T2 : decide ((16 : Int) < (l.length : Int))
  cases T3 : anyBad ha.st.length l
  all_goals
    try rw [T1] at HB
    try rw [T2] at HB
    try rw [T3] at HB
    go_enter Try.func37, Try.ntmps37
    go_wp2_with (fail)
    generalize hw1 : World.alloc _ _ = w1
    obtain ⟨he, o1, -⟩ := alloc1 hw1
    obtain ⟨b0, b1, b2, b3⟩ := obj_cells4 o1
    clear hw1 o1
    have hk := checkHall ha ⟨sa, sc, ea, ec⟩ w1 (HH.out.ext he)
    rw [T1] at hk
    have HK := Lib.hid hk; clear hk
    go_wp2_with (first
      | (go_at_call 42; (with_reducible refine HK.out.mono ?_); rintro e w2 ⟨rfl, he2⟩; simp only [errIf])
      | (go_at_call 63
         have hC : Calls Try.prog 63 #[.slice la l.length lc, .func (.func 62) #[] #[.pointer (some ⟨w.heap.size, 0, none⟩)]] w2 (Ret (.bool (anyBad ha.st.length l)) w2) :=
           containsFunc_camp 62 _ la l.length lc l (fun c => !campB ha.st.length c) w2 rfl (by simp at T2; omega) ((hl.ext he).ext he2) fun i _ => ⟨enters62, fun W hW => checkC1 (cth l i) w.heap.size ha.st.length sa sc W fun W' hW' => b2 W' (he2.trans (hW.trans hW'))⟩
         (with_reducible refine hC.mono ?_); clear hC; rintro e w3 ⟨rfl, he3⟩; replace he2 := he2.trans he3))
    go_ret
    exact ⟨by rw [HB.out]; rfl, he.trans he2⟩
set_option maxHeartbeats 1000000 in
theorem check_any (ha : Hal) (x : HP) (l : List Camp) (la : Option Addr) (lc : Nat) (pa : Option Addr) (pn pc : Nat) (w : World) (hh : HallAt w ha x) (hl : Camps w la l) :
    Calls Try.prog 58 #[hval ha x, .slice la l.length lc, .slice pa pn pc] w (Ret (.int .i64 (checkE ha l pn)) w) := by
  obtain ⟨sa, sc, ea, ec⟩ := x
  have HH := Lib.hid hh; clear hh
  have HB : Hid (checkE ha l pn = if campsB ha l then (if ((pn : Int) != (l.length : Int)) then 5 else 0) else 2) := by
    simp only [checkE, Hid]; congr 1; simp; split <;> split <;> first | rfl | omega
  cases T1 : campsB ha l; rotate_left
  cases T2 : ((pn : Int) != (l.length : Int))
  all_goals
    try rw [T1] at HB
    try rw [T2] at HB
    go_enter Try.func58, Try.ntmps58
    go_wp2_with (fail)
    generalize hw1 : World.alloc _ _ = w1
    obtain ⟨he, o1, -⟩ := alloc1 hw1
    obtain ⟨b0, b1, b2, b3⟩ := obj_cells4 o1
    clear hw1 o1
    have hk := checkCampaigns ha ⟨sa, sc, ea, ec⟩ l la lc w1 (HH.out.ext he) (hl.ext he)
    rw [T1] at hk
    have HK := Lib.hid hk; clear hk
    go_wp2_with (go_at_call 37; (with_reducible refine HK.out.mono ?_); rintro e w2 ⟨rfl, he2⟩; simp only [errIf])
    go_ret
    exact ⟨by rw [HB.out]; rfl, he.trans he2⟩
end Go.Proofs.Ytjpgignbjkgjiaa
