import Derived.Test.YtjpgignbjkgjiaaA2
set_option linter.unusedVariables false
set_option linter.unusedSimpArgs false
namespace Go.Proofs.Ytjpgignbjkgjiaa
open Go.RowKit
set_option maxHeartbeats 1000000 in
theorem checkC1 (c : Camp) (bh n : Nat) (sa : Option Addr) (sc : Nat) (w : World) (hb : ∀ W, Ext w W → W.cell? ⟨bh, 2, none⟩ = some (.slice sa n sc)) :
    Calls Try.prog 62 #[cval c, .pointer (some ⟨bh, 0, none⟩)] w (Ret (.bool (!campB n c)) w) := by
  have HB : Hid (campB n c = (wi c.cu 0 20 && wi c.pr 0 24 && wi c.ho 1 24 && wi c.en 0 1000 && !decide (c.ea < 0) && !decide (c.la < c.ea) && !decide ((n : Int) < c.la) && wi c.we 0 100)) := by
    simp only [Hid, campB, le_lt]
  cases T1 : wi c.cu 0 20; rotate_left
  cases T2 : wi c.pr 0 24; rotate_left
  cases T3 : wi c.ho 1 24; rotate_left
  cases T4 : wi c.en 0 1000; rotate_left
  cases T5 : decide (c.ea < 0)
  cases T6 : decide (c.la < c.ea)
  cases T7 : decide ((n : Int) < c.la)
  cases T8 : wi c.we 0 100; rotate_left
  all_goals
    try rw [T1] at HB
    try rw [T2] at HB
    try rw [T3] at HB
    try rw [T4] at HB
    try rw [T5] at HB
    try rw [T6] at HB
    try rw [T7] at HB
    try rw [T8] at HB
    go_enter Try.func62, Try.ntmps62
    go_wp2_with (fail)
    generalize hw1 : World.alloc _ _ = w1
    obtain ⟨he, o1, -⟩ := alloc1 hw1
    obtain ⟨b0, b1, b2, b3, b4, b5, b6⟩ := obj_cells7 o1
    clear hw1 o1
    replace hb := fun W (h : Ext w1 W) => hb W (he.trans h)
    have hr := Ext.refl w1
    go_wp2_with (go_at_call 48; (with_reducible refine (within_any _ _ _ _).mono ?_); rintro e w' ⟨rfl, rfl⟩)
    go_ret
    refine ⟨?_, he⟩
    rw [HB.out]
    rfl
end Go.Proofs.Ytjpgignbjkgjiaa
