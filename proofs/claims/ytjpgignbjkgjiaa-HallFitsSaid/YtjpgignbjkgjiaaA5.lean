import Derived.Test.YtjpgignbjkgjiaaA4
set_option linter.unusedVariables false
set_option linter.unusedSimpArgs false
namespace Go.Proofs.Ytjpgignbjkgjiaa
open Go.RowKit
set_option maxHeartbeats 400000 in
theorem inTime_any (c : Camp) (t : Int) (n : Nat) (w : World) (hn : n ≤ 96) (hc : CB n c) :
    Calls Try.prog 74 #[cval c, .int .i64 t] w (Ret (.bool (inTimeB c t)) w) := by
  obtain ⟨-, -, h1, h2, h3, h4, -, -, h5, h6, h7, -, -⟩ := hc
  cases T1 : decide (c.ea + c.pr ≤ t)
  all_goals
    have HB : Hid (inTimeB c t = (decide (c.ea + c.pr ≤ t) && decide (t ≤ c.la - c.ho))) := rfl
    rw [T1] at HB
    go_enter Try.func74, Try.ntmps74
    go_wp2_with (fail)
    go_ret
    refine ⟨?_, (Ext.refl w).alloc _⟩
    rw [HB.out]; rfl
set_option maxHeartbeats 400000 in
theorem hourOf_any (f : Nat) (cap : Array Value) (c : Camp) (t : Int) (m : Nat) (q : Int → Bool) (w : World) (ht0 : 0 ≤ t) (ht1 : t ≤ 1000) (hm : c.ho = m) (hm1 : m ≤ 1000)
    (hp : ∀ d, d < m → Asks Try.prog f cap w (.int .i64 (t + (d : Nat))) (q (t + (d : Nat)))) :
    Calls Try.prog 75 #[cval c, .int .i64 t, .func (.func f) #[] cap] w (Ret (.int .i64 (hourS q t m)) w) := by
  go_enter Try.func75, Try.ntmps75
  go_wp2_with (fail)
  generalize hw1 : World.alloc _ _ = w1
  obtain ⟨he, o1, -⟩ := alloc1 hw1
  obtain ⟨b0, b1, b2, b3, b4, b5, b6⟩ := obj_cells7 o1
  clear hw1 o1 b0 b1 b3 b4 b5 b6
  go_loopw [7] (fun i wr => ∃ k : Nat, k ≤ m ∧ i = .int .i64 (t + k) ∧ Ext w1 wr ∧ Hid (∀ j, j < k → q (t + (j : Nat)) = false)) (fun i _ => (t + m - intOf i).toNat)
  case atStart => exact ⟨0, Nat.zero_le _, by simp, Ext.refl _, fun j hj => by omega⟩
  case round =>
    obtain ⟨k, hk, rfl, hr, hf⟩ := hrel
    by_cases hlt : k < m
    · obtain ⟨hen, hq⟩ := hp k hlt
      have HQ := Lib.hid (hq wr (he.trans hr))
      have hen' := hen (#[.int .i64 (t + (k : Nat))] ++ cap) wr
      clear hq hen hp
      go_wp2_with (fail)
      refine HQ.out.mono ?_
      rintro e w' ⟨rfl, he'⟩
      have hr2 := hr.trans he'
      cases hpk : q (t + (k : Nat))
      · have hf2 := Lib.hid (all_lt_succ hf.out hpk)
        clear hpk
        go_wp2_with (fail)
        go_roundw
        case rel => exact ⟨k + 1, by omega, by go_num, hr2, hf2⟩
        case measure => simp [intOf]; omega
      · have H2 : Hid (hourS q t m = t + k) := by simp [Hid, hourS, fIdx_some hlt hpk hf.out]
        clear hpk
        go_wp2_with (fail)
        go_ret
        exact ⟨by rw [H2.out]; rfl, he.trans hr2⟩
    · have H2 : Hid (hourS q t m = -1) := by simp [Hid, hourS, fIdx_none (q := fun d => q (t + (d : Nat))) (n := m) (fun j hj => hf.out j (by omega))]
      go_wp2_with (fail)
      go_ret
      exact ⟨by rw [H2.out]; rfl, he.trans hr⟩
theorem enters76 : Enters Try.prog 76 := Enters.mk Try.func76 rfl rfl
theorem enters77 : Enters Try.prog 77 := Enters.mk Try.func77 rfl rfl
set_option maxHeartbeats 400000 in
theorem single1 (k : Nat) (st : List Int) (sa : Option Addr) (sc bh : Nat) (w : World) (hk : k < st.length) (hx : Ints w sa st) (hb : ∀ W, Ext w W → W.cell? ⟨bh, 2, none⟩ = some (.slice sa st.length sc)) :
    Calls Try.prog 76 #[.int .i64 k, .pointer (some ⟨bh, 0, none⟩)] w (Ret (.bool (nth st k == 0)) w) := by
  obtain ⟨b, o, rfl, hc⟩ := hx.at k hk
  go_enter Try.func76, Try.ntmps76
  go_wp2_with (fail)
  go_ret
  exact ⟨rfl, Ext.refl _⟩
set_option maxHeartbeats 400000 in
theorem single2 (k : Nat) (st : List Int) (sa : Option Addr) (sc bh bc : Nat) (en : Int) (w : World) (hk : k < st.length) (hx : Ints w sa st) (hb : ∀ W, Ext w W → W.cell? ⟨bh, 3, none⟩ = some (.slice sa st.length sc))
    (hc : ∀ W, Ext w W → W.cell? ⟨bc, 3, none⟩ = some (.int .i64 en)) :
    Calls Try.prog 77 #[.int .i64 k, .pointer (some ⟨bh, 0, none⟩), .pointer (some ⟨bc, 0, none⟩)] w (Ret (.bool (decide (nth st k < en))) w) := by
  obtain ⟨b, o, rfl, hd⟩ := hx.at k hk
  have he := Ext.refl w
  go_enter Try.func77, Try.ntmps77
  go_wp2_with (fail)
  refine wp_region_ext (by kernel_rfl) (by kernel_rfl) he ?_
  repeat (quiet_step (fail))
  refine wpQuiet_nil ?_
  rintro _ ⟨nq, rfl⟩
  go_wp2_with (fail)
  go_ret
  exact ⟨rfl, nq.ok⟩
end Go.Proofs.Ytjpgignbjkgjiaa
