import Derived.Test.YtjpgignbjkgjiaaA12
set_option linter.unusedVariables false
set_option linter.unusedSimpArgs false
namespace Go.Proofs.Ytjpgignbjkgjiaa
open Go.RowKit
set_option maxHeartbeats 1000000 in
theorem least_any (X : Nat) (bs : Nat) (l : List Camp) (la : Option Addr) (lc : Nat) (a : Option Addr) (n c : Nat) (ss : List SL) (w : World) (hb : ∀ W, Ext w W → W.cell? ⟨bs, 4, none⟩ = some (.slice la l.length lc))
    (hl : Camps w la l) (hx : SLsX X w a ss) (hn : ss.length = n) (hln : l.length = n) (hl16 : l.length ≤ 16) (m : Int) (hc : ∀ i, i < l.length → CB m (cth l i)) (h0 : ∀ i, i < l.length → 0 < (sth ss i).xs.length)
    (ht : ∀ i, i < l.length → 0 ≤ nth (lth (lsts ss) i) 0 ∧ nth (lth (lsts ss) i) 0 ≤ 96) :
    Calls Try.prog 83 #[.pointer (some ⟨bs, 0, none⟩), .slice a n c] w (Ret (.int .i64 (leastTo l (lsts ss) l.length)) w) := by
  have HCB := Lib.hid hc; have HT := Lib.hid ht; have H0 := Lib.hid h0; clear hc ht h0
  have HN := Lib.hid hn; have HLN := Lib.hid hln
  have hle : l.length ≤ n := by omega
  clear hn hln
  have hr := Ext.refl w
  go_enter Try.func83, Try.ntmps83
  go_wp2_with (fail)
  clear hr
  go_loopw [5, 13] (fun s i wr => ∃ k : Nat, k ≤ l.length ∧ i = .int .i64 k ∧ s = .int .i64 (leastTo l (lsts ss) k) ∧ Ext w wr) (fun _ i _ => l.length - (intOf i).toNat)
  case atStart => exact ⟨0, Nat.zero_le _, rfl, rfl, Ext.refl _⟩
  case round =>
    obtain ⟨k, hk, rfl, rfl, hr⟩ := hrel
    by_cases hlt : k < l.length
    · obtain ⟨b, o, rfl, c0, c1, c2, c3, c4, c5, c6⟩ := hl.at k hlt
      have hks : k < ss.length := by rw [HN.out]; omega
      obtain ⟨b', o', rfl, d0⟩ := hx.at k hks
      have hi0 := H0.out k hlt
      have hii := (hx.2 k hks).ints
      have hlth := lth_lsts ss k hks
      obtain ⟨⟨sa, sxs, sc⟩, hs⟩ : ∃ s, s = sth ss k := ⟨_, rfl⟩
      rw [← hs] at d0 hi0 hii hlth
      dsimp only at d0 hi0 hii hlth
      obtain ⟨b2, o2, rfl, f0⟩ := hii.at 0 hi0
      have HLT := Lib.hid hlth
      clear hii hlth hs
      rw [Nat.add_zero] at f0
      have hkn : k < n := by omega
      go_wp2_with (fail)
      generalize hw2 : World.alloc _ _ = w2
      obtain ⟨he2, o1, -⟩ := alloc1 hw2
      obtain ⟨a0, a1, a2, a3, a4, a5, a6⟩ := obj_cells7 o1
      clear hw2 o1 c0 c1 c2 c3 c4 c5 c6 a0 a1 a3 a4 a5
      have hr2 := hr.trans he2
      have hr0 := Ext.refl w2
      replace d0 := fun W (h : Ext w2 W) => d0 W (hr2.trans h)
      replace f0 := fun W (h : Ext w2 W) => f0 W (hr2.trans h)
      refine wp_region_ext (by kernel_rfl) (by kernel_rfl) hr0 ?_
      repeat (quiet_step (fail))
      refine wpQuiet_nil ?_
      rintro _ ⟨nq, rfl⟩
      have e1 : IntKind.i64.wrap (leastTo l (lsts ss) k + IntKind.i64.wrap ((cth l k).we * IntKind.i64.wrap (nth sxs 0 + (cth l k).ho))) = leastTo l (lsts ss) (k + 1) := by
        have q1 := we_bd (HCB.out k hlt) (HT.out k hlt).1 (HT.out k hlt).2
        have q2 := leastTo_bd HCB.out HT.out k hk
        have q3 := (HCB.out k hlt).ho0; have q4 := (HCB.out k hlt).ho1
        have q5 := HT.out k hlt
        simp only [leastTo]
        rw [HLT.out] at q1 q5 ⊢
        rw [IntWalk.i64_in (nth sxs 0 + (cth l k).ho) (by omega), IntWalk.i64_in ((cth l k).we * (nth sxs 0 + (cth l k).ho)) (by omega), IntWalk.i64_in _ (by omega)]
      rw [e1]
      clear e1
      have hr3 := hr2.trans nq.ok
      go_wp2_with (fail)
      go_roundw
      case rel => exact ⟨k + 1, by omega, by go_num, rfl, hr3⟩
      case measure => simp [intOf]; omega
    · obtain rfl : k = l.length := by omega
      go_wp2_with (fail)
      go_ret
      exact ⟨rfl, hr⟩
end Go.Proofs.Ytjpgignbjkgjiaa
