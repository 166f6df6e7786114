/-
  Texts merged: A1, A2, A3, A4, A5.
-/
import Derived.Test.YtjpgignbjkgjiaaBase
section
namespace Go.Proofs.Ytjpgignbjkgjiaa
open Go.RowKit
set_option maxHeartbeats 400000 in
theorem within_any (n a b : Int) (w : World) :
    Calls Try.prog 48 #[.int .i64 n, .int .i64 a, .int .i64 b] w fun e w' => e = .returned (.bool (wi n a b)) ∧ w = w' := by
  go_enter Try.func48, Try.ntmps48
  go_wp2
  all_goals go_ret
  all_goals exact ⟨by simp [wi, *]; try omega, rfl⟩
set_option maxHeartbeats 400000 in
theorem indexFunc_int (f : Nat) (cap : Array Value) (a : Option Addr) (n c : Nat) (xs : List Int) (p : Int → Bool) (w : World) (hn : xs.length = n) (hm : n ≤ 1000000) (hx : Ints w a xs)
    (hp : ∀ i, i < n → Asks Try.prog f cap w (.int .i64 (nth xs i)) (p (nth xs i))) :
    Calls Try.prog 66 #[.slice a n c, .func (.func f) #[] cap] w (Ret (.int .i64 (idxOr (xs.findIdx? p))) w) := by
  have HN := Lib.hid hn; clear hn
  go_enter Try.func66, Try.ntmps66
  go_wp2_with (fail)
  go_loopw [5, 8] (fun _ i wr => ∃ k : Nat, k ≤ n ∧ i = .int .i64 k ∧ Ext w wr ∧ Hid (∀ j, j < k → p (nth xs j) = false)) (fun _ i _ => n - (intOf i).toNat)
  case atStart => exact ⟨0, Nat.zero_le _, rfl, Ext.refl _, fun j hj => by omega⟩
  case round =>
    obtain ⟨k, hk, rfl, he, hf⟩ := hrel
    by_cases hlt : k < n
    · obtain ⟨b, o, rfl, hc⟩ := hx.at k (by rw [HN.out]; exact hlt)
      obtain ⟨hen, hq⟩ := hp k hlt
      have HQ := Lib.hid (hq wr he)
      have hen' := hen (#[.int .i64 (nth xs k)] ++ cap) wr
      clear hq hen hp
      go_wp2_with (fail)
      refine HQ.out.mono ?_
      rintro e w' ⟨rfl, he'⟩
      have he2 := he.trans he'
      cases hpk : p (nth xs k)
      · have hf2 : Hid (∀ j, j < k + 1 → p (nth xs j) = false) := fun j hj => by
          rcases Nat.lt_succ_iff_lt_or_eq.1 hj with h | h
          · exact hf.out j h
          · rw [h]; exact hpk
        clear hpk
        go_wp2_with (fail)
        go_roundw
        case rel => exact ⟨k + 1, by omega, by go_num, he2, hf2⟩
        case measure => simp [intOf]; omega
      · have H2 := Lib.hid (findIdx_some nth nth_eq p xs k (by rw [HN.out]; exact hlt) hpk hf.out)
        clear hpk
        go_wp2_with (fail)
        go_ret
        exact ⟨by rw [H2.out]; rfl, he2⟩
    · have H2 := Lib.hid (findIdx_none nth nth_eq p xs (fun j hj => hf.out j (by rw [HN.out] at hj; omega)))
      go_wp2_with (fail)
      go_ret
      exact ⟨by rw [H2.out]; rfl, he⟩
set_option maxHeartbeats 400000 in
theorem containsFunc_int (f : Nat) (cap : Array Value) (a : Option Addr) (n c : Nat) (xs : List Int) (p : Int → Bool) (w : World) (hn : xs.length = n) (hm : n ≤ 1000000) (hx : Ints w a xs)
    (hp : ∀ i, i < n → Asks Try.prog f cap w (.int .i64 (nth xs i)) (p (nth xs i))) :
    Calls Try.prog 71 #[.slice a n c, .func (.func f) #[] cap] w (Ret (.bool (xs.any p)) w) := by
  have H := Lib.hid (indexFunc_int f cap a n c xs p w hn hm hx hp)
  clear hp
  rw [any_idx]
  go_enter Try.func71, Try.ntmps71
  go_wp2_with (go_at_call 66; refine H.out.mono ?_; rintro e w' ⟨rfl, he⟩)
  go_ret
  exact ⟨rfl, he⟩
set_option maxHeartbeats 400000 in
theorem checkHall1 (x : Int) (w : World) : Calls Try.prog 69 #[.int .i64 x] w fun e w' => e = .returned (.bool (!wi x 0 1000)) ∧ w = w' := by
  go_enter Try.func69, Try.ntmps69
  go_wp2_with (go_at_call 48; refine (within_any _ _ _ _).mono ?_; rintro e w' ⟨rfl, rfl⟩)
  go_ret
  exact ⟨rfl, rfl⟩
set_option maxHeartbeats 400000 in
theorem checkHall2 (x : Int) (w : World) : Calls Try.prog 70 #[.int .i64 x] w fun e w' => e = .returned (.bool (!wi x 0 1000)) ∧ w = w' := by
  go_enter Try.func70, Try.ntmps70
  go_wp2_with (go_at_call 48; refine (within_any _ _ _ _).mono ?_; rintro e w' ⟨rfl, rfl⟩)
  go_ret
  exact ⟨rfl, rfl⟩
end Go.Proofs.Ytjpgignbjkgjiaa
end
section
set_option linter.unusedVariables false
set_option linter.unusedSimpArgs false
namespace Go.Proofs.Ytjpgignbjkgjiaa
open Go.RowKit
theorem enters69 : Enters Try.prog 69 := Enters.mk Try.func69 rfl rfl
theorem enters70 : Enters Try.prog 70 := Enters.mk Try.func70 rfl rfl
def out1000 (x : Int) : Bool := !wi x 0 1000
def anyOut (xs : List Int) : Bool := xs.any out1000
theorem contains69 (a : Option Addr) (c : Nat) (xs : List Int) (w : World) (hm : xs.length ≤ 1000000) (hx : Ints w a xs) :
    Calls Try.prog 71 #[.slice a xs.length c, .func (.func 69) #[] #[]] w (Ret (.bool (anyOut xs)) w) :=
  containsFunc_int 69 #[] a xs.length c xs out1000 w rfl hm hx fun i _ => ⟨enters69, fun w' _ => (checkHall1 (nth xs i) w').mono fun e w'' ⟨h1, h2⟩ => ⟨h1, h2 ▸ Ext.refl _⟩⟩
theorem contains70 (a : Option Addr) (c : Nat) (xs : List Int) (w : World) (hm : xs.length ≤ 1000000) (hx : Ints w a xs) :
    Calls Try.prog 71 #[.slice a xs.length c, .func (.func 70) #[] #[]] w (Ret (.bool (anyOut xs)) w) :=
  containsFunc_int 70 #[] a xs.length c xs out1000 w rfl hm hx fun i _ => ⟨enters70, fun w' _ => (checkHall2 (nth xs i) w').mono fun e w'' ⟨h1, h2⟩ => ⟨h1, h2 ▸ Ext.refl _⟩⟩
theorem all_out (xs : List Int) : (xs.all fun x => wi x 0 1000) = !(anyOut xs) := by
  simp [anyOut, out1000, List.not_any_eq_all_not]
theorem len_ne (a b : Nat) : (a == b) = !((a : Int) != (b : Int)) := by
  rw [Bool.eq_iff_iff]; simp; omega
set_option maxHeartbeats 1000000 in
theorem checkHall (ha : Hal) (x : HP) (w : World) (hh : HallAt w ha x) :
    Calls Try.prog 42 #[hval ha x] w (Ret (.int .i64 (errIf (halB ha) 2)) w) := by
  obtain ⟨sa, sc, ea, ec⟩ := x
  have HH := Lib.hid hh; clear hh
  have HB : Hid (halB ha = (wi ha.st.length 1 96 && !((ha.en.length : Int) != (ha.st.length : Int)) && !(anyOut ha.st) && !(anyOut ha.en) && wi ha.ro 1 4 && wi ha.cl 0 6)) := by
    simp only [halB, all_out, Hid, len_ne]
  cases T1 : wi (ha.st.length : Int) 1 96
  rotate_left; cases T2 : ((ha.en.length : Int) != (ha.st.length : Int)) 
  cases T3 : anyOut ha.st
  cases T4 : anyOut ha.en
  cases T5 : wi ha.ro 1 4
  rotate_left; cases T6 : wi ha.cl 0 6
  all_goals
    try rw [T1] at HB
    try rw [T2] at HB
    try rw [T3] at HB
    try rw [T4] at HB
    try rw [T5] at HB
    try rw [T6] at HB
    go_enter Try.func42, Try.ntmps42
    go_wp2_with (fail)
    generalize hw1 : World.alloc _ _ = w1
    obtain ⟨he, o1, -⟩ := alloc1 hw1
    obtain ⟨b0, b1, b2, b3⟩ := obj_cells4 o1
    clear hw1 o1
    have hr := Ext.refl w1
    have HS := Lib.hid (HH.out.st.ext he)
    have HE := Lib.hid (HH.out.en.ext he)
    have hwi : wi (ha.st.length : Int) 1 96 = true → ((ha.en.length : Int) != (ha.st.length : Int)) = false → ha.st.length ≤ 1000000 ∧ ha.en.length ≤ 1000000 := fun a b => by
      have := wi_iff.1 a; simp at b; omega
    have HW := Lib.hid hwi; clear hwi
    go_wp2_with (first
      | (go_at_call 48; (with_reducible refine (within_any _ _ _ _).mono ?_); rintro e w' ⟨rfl, rfl⟩)
      | (go_at_call 71; have h71 := contains69 sa sc ha.st w1 (HW.out T1 T2).1 HS.out; (with_reducible refine h71.mono ?_); clear h71; rintro e w2 ⟨rfl, he2⟩)
      | (go_at_call 71; have h71 := contains70 ea ec ha.en _ (HW.out T1 T2).2 (HE.out.ext he2); (with_reducible refine h71.mono ?_); clear h71; rintro e w3 ⟨rfl, he3⟩; replace he3 := he2.trans he3))
    go_ret
    refine ⟨?_, he.trans (by with_reducible assumption)⟩
    rw [HB.out]; rfl
end Go.Proofs.Ytjpgignbjkgjiaa
end
section
set_option linter.unusedVariables false
set_option linter.unusedSimpArgs false
namespace Go.Proofs.Ytjpgignbjkgjiaa
open Go.RowKit
set_option maxHeartbeats 1000000 in
theorem checkC1 (c : Camp) (bh n : Nat) (sa : Option Addr) (sc : Nat) (w : World) (hb : ∀ W, Ext w W → W.cell? ⟨bh, 2, none⟩ = some (.slice sa n sc)) :
    Calls Try.prog 62 #[cval c, .pointer (some ⟨bh, 0, none⟩)] w (Ret (.bool (!campB n c)) w) := by
  have HB : Hid (campB n c = (wi c.cu 0 20 && wi c.pr 0 24 && wi c.ho 1 24 && wi c.en 0 1000 && !decide (c.ea < 0) && !decide (c.la < c.ea) && !decide ((n : Int) < c.la) && wi c.we 0 100)) := by
    simp only [Hid, campB, le_lt]
  cases T1 : wi c.cu 0 20; rotate_left
  cases T2 : wi c.pr 0 24; rotate_left
  cases T3 : wi c.ho 1 24; rotate_left
  cases T4 : wi c.en 0 1000; rotate_left
  cases T5 : decide (c.ea < 0)
  cases T6 : decide (c.la < c.ea)
  cases T7 : decide ((n : Int) < c.la)
  cases T8 : wi c.we 0 100; rotate_left
  all_goals
    try rw [T1] at HB
    try rw [T2] at HB
    try rw [T3] at HB
    try rw [T4] at HB
    try rw [T5] at HB
    try rw [T6] at HB
    try rw [T7] at HB
    try rw [T8] at HB
    go_enter Try.func62, Try.ntmps62
    go_wp2_with (fail)
    generalize hw1 : World.alloc _ _ = w1
    obtain ⟨he, o1, -⟩ := alloc1 hw1
    obtain ⟨b0, b1, b2, b3, b4, b5, b6⟩ := obj_cells7 o1
    clear hw1 o1
    replace hb := fun W (h : Ext w1 W) => hb W (he.trans h)
    have hr := Ext.refl w1
    go_wp2_with (go_at_call 48; (with_reducible refine (within_any _ _ _ _).mono ?_); rintro e w' ⟨rfl, rfl⟩)
    go_ret
    refine ⟨?_, he⟩
    rw [HB.out]
    rfl
end Go.Proofs.Ytjpgignbjkgjiaa
end
section
set_option linter.unusedVariables false
set_option linter.unusedSimpArgs false
namespace Go.Proofs.Ytjpgignbjkgjiaa
open Go.RowKit
theorem enters62 : Enters Try.prog 62 := Enters.mk Try.func62 rfl rfl
set_option maxHeartbeats 400000 in
theorem indexFunc_camp (f : Nat) (cap : Array Value) (a : Option Addr) (n c : Nat) (xs : List Camp) (p : Camp → Bool) (w : World) (hn : xs.length = n) (hm : n ≤ 1000000) (hx : Camps w a xs)
    (hp : ∀ i, i < n → Asks Try.prog f cap w (cval (cth xs i)) (p (cth xs i))) :
    Calls Try.prog 79 #[.slice a n c, .func (.func f) #[] cap] w (Ret (.int .i64 (idxOr (xs.findIdx? p))) w) := by
  have HN := Lib.hid hn; clear hn
  go_enter Try.func79, Try.ntmps79
  go_wp2_with (fail)
  go_loopw [5, 8] (fun _ i wr => ∃ k : Nat, k ≤ n ∧ i = .int .i64 k ∧ Ext w wr ∧ Hid (∀ j, j < k → p (cth xs j) = false)) (fun _ i _ => n - (intOf i).toNat)
  case atStart => exact ⟨0, Nat.zero_le _, rfl, Ext.refl _, fun j hj => by omega⟩
  case round =>
    obtain ⟨k, hk, rfl, he, hf⟩ := hrel
    by_cases hlt : k < n
    · obtain ⟨b, o, rfl, c0, c1, c2, c3, c4, c5, c6⟩ := hx.at k (by rw [HN.out]; exact hlt)
      obtain ⟨hen, hq⟩ := hp k hlt
      have HQ := Lib.hid (hq wr he)
      have hen' := hen (#[cval (cth xs k)] ++ cap) wr
      clear hq hen hp
      go_wp2_with (fail)
      refine HQ.out.mono ?_
      rintro e w' ⟨rfl, he'⟩
      have he2 := he.trans he'
      cases hpk : p (cth xs k)
      · have hf2 : Hid (∀ j, j < k + 1 → p (cth xs j) = false) := fun j hj => by
          rcases Nat.lt_succ_iff_lt_or_eq.1 hj with h | h
          · exact hf.out j h
          · rw [h]; exact hpk
        clear hpk
        go_wp2_with (fail)
        go_roundw
        case rel => exact ⟨k + 1, by omega, by go_num, he2, hf2⟩
        case measure => simp [intOf]; omega
      · have H2 := Lib.hid (findIdx_some cth cth_eq p xs k (by rw [HN.out]; exact hlt) hpk hf.out)
        clear hpk
        go_wp2_with (fail)
        go_ret
        exact ⟨by rw [H2.out]; rfl, he2⟩
    · have H2 := Lib.hid (findIdx_none cth cth_eq p xs (fun j hj => hf.out j (by rw [HN.out] at hj; omega)))
      go_wp2_with (fail)
      go_ret
      exact ⟨by rw [H2.out]; rfl, he⟩
set_option maxHeartbeats 400000 in
theorem containsFunc_camp (f : Nat) (cap : Array Value) (a : Option Addr) (n c : Nat) (xs : List Camp) (p : Camp → Bool) (w : World) (hn : xs.length = n) (hm : n ≤ 1000000) (hx : Camps w a xs)
    (hp : ∀ i, i < n → Asks Try.prog f cap w (cval (cth xs i)) (p (cth xs i))) :
    Calls Try.prog 63 #[.slice a n c, .func (.func f) #[] cap] w (Ret (.bool (xs.any p)) w) := by
  have H := Lib.hid (indexFunc_camp f cap a n c xs p w hn hm hx hp)
  clear hp
  rw [any_idx]
  go_enter Try.func63, Try.ntmps63
  go_wp2_with (go_at_call 79; refine H.out.mono ?_; rintro e w' ⟨rfl, he⟩)
  go_ret
  exact ⟨rfl, he⟩
def anyBad (n : Int) (l : List Camp) : Bool := l.any fun c => !campB n c
theorem nat_le16 (n : Nat) : decide (n ≤ 16) = !decide ((16 : Int) < (n : Int)) := by
  rw [Bool.eq_iff_iff]; simp; omega
set_option maxHeartbeats 1000000 in
theorem checkCampaigns (ha : Hal) (x : HP) (l : List Camp) (la : Option Addr) (lc : Nat) (w : World) (hh : HallAt w ha x) (hl : Camps w la l) :
    Calls Try.prog 37 #[hval ha x, .slice la l.length lc] w (Ret (.int .i64 (errIf (campsB ha l) 2)) w) := by
  obtain ⟨sa, sc, ea, ec⟩ := x
  have HH := Lib.hid hh; clear hh
  have HB : Hid (campsB ha l = (halB ha && !decide ((16 : Int) < (l.length : Int)) && !anyBad ha.st.length l)) := by
    simp [campsB, anyBad, Hid, List.not_any_eq_all_not, nat_le16]
  cases T1 : halB ha; rotate_left
  cases T2 : decide ((16 : Int) < (l.length : Int))
  cases T3 : anyBad ha.st.length l
  all_goals
    try rw [T1] at HB
    try rw [T2] at HB
    try rw [T3] at HB
    go_enter Try.func37, Try.ntmps37
    go_wp2_with (fail)
    generalize hw1 : World.alloc _ _ = w1
    obtain ⟨he, o1, -⟩ := alloc1 hw1
    obtain ⟨b0, b1, b2, b3⟩ := obj_cells4 o1
    clear hw1 o1
    have hk := checkHall ha ⟨sa, sc, ea, ec⟩ w1 (HH.out.ext he)
    rw [T1] at hk
    have HK := Lib.hid hk; clear hk
    go_wp2_with (first
      | (go_at_call 42; (with_reducible refine HK.out.mono ?_); rintro e w2 ⟨rfl, he2⟩; simp only [errIf])
      | (go_at_call 63
         have hC : Calls Try.prog 63 #[.slice la l.length lc, .func (.func 62) #[] #[.pointer (some ⟨w.heap.size, 0, none⟩)]] w2 (Ret (.bool (anyBad ha.st.length l)) w2) :=
           containsFunc_camp 62 _ la l.length lc l (fun c => !campB ha.st.length c) w2 rfl (by simp at T2; omega) ((hl.ext he).ext he2) fun i _ => ⟨enters62, fun W hW => checkC1 (cth l i) w.heap.size ha.st.length sa sc W fun W' hW' => b2 W' (he2.trans (hW.trans hW'))⟩
         (with_reducible refine hC.mono ?_); clear hC; rintro e w3 ⟨rfl, he3⟩; replace he2 := he2.trans he3))
    go_ret
    exact ⟨by rw [HB.out]; rfl, he.trans he2⟩
set_option maxHeartbeats 1000000 in
theorem check_any (ha : Hal) (x : HP) (l : List Camp) (la : Option Addr) (lc : Nat) (pa : Option Addr) (pn pc : Nat) (w : World) (hh : HallAt w ha x) (hl : Camps w la l) :
    Calls Try.prog 58 #[hval ha x, .slice la l.length lc, .slice pa pn pc] w (Ret (.int .i64 (checkE ha l pn)) w) := by
  obtain ⟨sa, sc, ea, ec⟩ := x
  have HH := Lib.hid hh; clear hh
  have HB : Hid (checkE ha l pn = if campsB ha l then (if ((pn : Int) != (l.length : Int)) then 5 else 0) else 2) := by
    simp only [checkE, Hid]; congr 1; simp; split <;> split <;> first | rfl | omega
  cases T1 : campsB ha l; rotate_left
  cases T2 : ((pn : Int) != (l.length : Int))
  all_goals
    try rw [T1] at HB
    try rw [T2] at HB
    go_enter Try.func58, Try.ntmps58
    go_wp2_with (fail)
    generalize hw1 : World.alloc _ _ = w1
    obtain ⟨he, o1, -⟩ := alloc1 hw1
    obtain ⟨b0, b1, b2, b3⟩ := obj_cells4 o1
    clear hw1 o1
    have hk := checkCampaigns ha ⟨sa, sc, ea, ec⟩ l la lc w1 (HH.out.ext he) (hl.ext he)
    rw [T1] at hk
    have HK := Lib.hid hk; clear hk
    go_wp2_with (go_at_call 37; (with_reducible refine HK.out.mono ?_); rintro e w2 ⟨rfl, he2⟩; simp only [errIf])
    go_ret
    exact ⟨by rw [HB.out]; rfl, he.trans he2⟩
end Go.Proofs.Ytjpgignbjkgjiaa
end
section
set_option linter.unusedVariables false
set_option linter.unusedSimpArgs false
namespace Go.Proofs.Ytjpgignbjkgjiaa
open Go.RowKit
set_option maxHeartbeats 400000 in
theorem inTime_any (c : Camp) (t : Int) (n : Nat) (w : World) (hn : n ≤ 96) (hc : CB n c) :
    Calls Try.prog 74 #[cval c, .int .i64 t] w (Ret (.bool (inTimeB c t)) w) := by
  obtain ⟨-, -, h1, h2, h3, h4, -, -, h5, h6, h7, -, -⟩ := hc
  cases T1 : decide (c.ea + c.pr ≤ t)
  all_goals
    have HB : Hid (inTimeB c t = (decide (c.ea + c.pr ≤ t) && decide (t ≤ c.la - c.ho))) := rfl
    rw [T1] at HB
    go_enter Try.func74, Try.ntmps74
    go_wp2_with (fail)
    go_ret
    refine ⟨?_, (Ext.refl w).alloc _⟩
    rw [HB.out]; rfl
set_option maxHeartbeats 400000 in
theorem hourOf_any (f : Nat) (cap : Array Value) (c : Camp) (t : Int) (m : Nat) (q : Int → Bool) (w : World) (ht0 : 0 ≤ t) (ht1 : t ≤ 1000) (hm : c.ho = m) (hm1 : m ≤ 1000)
    (hp : ∀ d, d < m → Asks Try.prog f cap w (.int .i64 (t + (d : Nat))) (q (t + (d : Nat)))) :
    Calls Try.prog 75 #[cval c, .int .i64 t, .func (.func f) #[] cap] w (Ret (.int .i64 (hourS q t m)) w) := by
  go_enter Try.func75, Try.ntmps75
  go_wp2_with (fail)
  generalize hw1 : World.alloc _ _ = w1
  obtain ⟨he, o1, -⟩ := alloc1 hw1
  obtain ⟨b0, b1, b2, b3, b4, b5, b6⟩ := obj_cells7 o1
  clear hw1 o1 b0 b1 b3 b4 b5 b6
  go_loopw [7] (fun i wr => ∃ k : Nat, k ≤ m ∧ i = .int .i64 (t + k) ∧ Ext w1 wr ∧ Hid (∀ j, j < k → q (t + (j : Nat)) = false)) (fun i _ => (t + m - intOf i).toNat)
  case atStart => exact ⟨0, Nat.zero_le _, by simp, Ext.refl _, fun j hj => by omega⟩
  case round =>
    obtain ⟨k, hk, rfl, hr, hf⟩ := hrel
    by_cases hlt : k < m
    · obtain ⟨hen, hq⟩ := hp k hlt
      have HQ := Lib.hid (hq wr (he.trans hr))
      have hen' := hen (#[.int .i64 (t + (k : Nat))] ++ cap) wr
      clear hq hen hp
      go_wp2_with (fail)
      refine HQ.out.mono ?_
      rintro e w' ⟨rfl, he'⟩
      have hr2 := hr.trans he'
      cases hpk : q (t + (k : Nat))
      · have hf2 := Lib.hid (all_lt_succ hf.out hpk)
        clear hpk
        go_wp2_with (fail)
        go_roundw
        case rel => exact ⟨k + 1, by omega, by go_num, hr2, hf2⟩
        case measure => simp [intOf]; omega
      · have H2 : Hid (hourS q t m = t + k) := by simp [Hid, hourS, fIdx_some hlt hpk hf.out]
        clear hpk
        go_wp2_with (fail)
        go_ret
        exact ⟨by rw [H2.out]; rfl, he.trans hr2⟩
    · have H2 : Hid (hourS q t m = -1) := by simp [Hid, hourS, fIdx_none (q := fun d => q (t + (d : Nat))) (n := m) (fun j hj => hf.out j (by omega))]
      go_wp2_with (fail)
      go_ret
      exact ⟨by rw [H2.out]; rfl, he.trans hr⟩
theorem enters76 : Enters Try.prog 76 := Enters.mk Try.func76 rfl rfl
theorem enters77 : Enters Try.prog 77 := Enters.mk Try.func77 rfl rfl
set_option maxHeartbeats 400000 in
theorem single1 (k : Nat) (st : List Int) (sa : Option Addr) (sc bh : Nat) (w : World) (hk : k < st.length) (hx : Ints w sa st) (hb : ∀ W, Ext w W → W.cell? ⟨bh, 2, none⟩ = some (.slice sa st.length sc)) :
    Calls Try.prog 76 #[.int .i64 k, .pointer (some ⟨bh, 0, none⟩)] w (Ret (.bool (nth st k == 0)) w) := by
  obtain ⟨b, o, rfl, hc⟩ := hx.at k hk
  go_enter Try.func76, Try.ntmps76
  go_wp2_with (fail)
  go_ret
  exact ⟨rfl, Ext.refl _⟩
set_option maxHeartbeats 400000 in
theorem single2 (k : Nat) (st : List Int) (sa : Option Addr) (sc bh bc : Nat) (en : Int) (w : World) (hk : k < st.length) (hx : Ints w sa st) (hb : ∀ W, Ext w W → W.cell? ⟨bh, 3, none⟩ = some (.slice sa st.length sc))
    (hc : ∀ W, Ext w W → W.cell? ⟨bc, 3, none⟩ = some (.int .i64 en)) :
    Calls Try.prog 77 #[.int .i64 k, .pointer (some ⟨bh, 0, none⟩), .pointer (some ⟨bc, 0, none⟩)] w (Ret (.bool (decide (nth st k < en))) w) := by
  obtain ⟨b, o, rfl, hd⟩ := hx.at k hk
  have he := Ext.refl w
  go_enter Try.func77, Try.ntmps77
  go_wp2_with (fail)
  refine wp_region_ext (by kernel_rfl) (by kernel_rfl) he ?_
  repeat (quiet_step (fail))
  refine wpQuiet_nil ?_
  rintro _ ⟨nq, rfl⟩
  go_wp2_with (fail)
  go_ret
  exact ⟨rfl, nq.ok⟩
end Go.Proofs.Ytjpgignbjkgjiaa
end
