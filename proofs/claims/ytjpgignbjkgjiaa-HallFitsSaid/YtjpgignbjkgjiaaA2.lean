import Derived.Test.YtjpgignbjkgjiaaA1
set_option linter.unusedVariables false
set_option linter.unusedSimpArgs false
namespace Go.Proofs.Ytjpgignbjkgjiaa
open Go.RowKit
theorem enters69 : Enters Try.prog 69 := Enters.mk Try.func69 rfl rfl
theorem enters70 : Enters Try.prog 70 := Enters.mk Try.func70 rfl rfl
def out1000 (x : Int) : Bool := !wi x 0 1000
def anyOut (xs : List Int) : Bool := xs.any out1000
theorem contains69 (a : Option Addr) (c : Nat) (xs : List Int) (w : World) (hm : xs.length ≤ 1000000) (hx : Ints w a xs) :
    Calls Try.prog 71 #[.slice a xs.length c, .func (.func 69) #[] #[]] w (Ret (.bool (anyOut xs)) w) :=
  containsFunc_int 69 #[] a xs.length c xs out1000 w rfl hm hx fun i _ => ⟨enters69, fun w' _ => (checkHall1 (nth xs i) w').mono fun e w'' ⟨h1, h2⟩ => ⟨h1, h2 ▸ Ext.refl _⟩⟩
theorem contains70 (a : Option Addr) (c : Nat) (xs : List Int) (w : World) (hm : xs.length ≤ 1000000) (hx : Ints w a xs) :
    Calls Try.prog 71 #[.slice a xs.length c, .func (.func 70) #[] #[]] w (Ret (.bool (anyOut xs)) w) :=
  containsFunc_int 70 #[] a xs.length c xs out1000 w rfl hm hx fun i _ => ⟨enters70, fun w' _ => (checkHall2 (nth xs i) w').mono fun e w'' ⟨h1, h2⟩ => ⟨h1, h2 ▸ Ext.refl _⟩⟩
theorem all_out (xs : List Int) : (xs.all fun x => wi x 0 1000) = !(anyOut xs) := by
  simp [anyOut, out1000, List.not_any_eq_all_not]
theorem len_ne (a b : Nat) : (a == b) = !((a : Int) != (b : Int)) := by
  rw [Bool.eq_iff_iff]; simp; omega
set_option maxHeartbeats 1000000 in
theorem checkHall (ha : Hal) (x : HP) (w : World) (hh : HallAt w ha x) :
    Calls Try.prog 42 #[hval ha x] w (Ret (.int .i64 (errIf (halB ha) 2)) w) := by
  obtain ⟨sa, sc, ea, ec⟩ := x
  have HH := Lib.hid hh; clear hh
  have HB : Hid (halB ha = (wi ha.st.length 1 96 && !((ha.en.length : Int) != (ha.st.length : Int)) && !(anyOut ha.st) && !(anyOut ha.en) && wi ha.ro 1 4 && wi ha.cl 0 6)) := by
    simp only [halB, all_out, Hid, len_ne]
  cases T1 : wi (ha.st.length : Int) 1 96
  rotate_left; cases T2 : ((ha.en.length : Int) != (ha.st.length : Int)) 
  cases T3 : anyOut ha.st
  cases T4 : anyOut ha.en
  cases T5 : wi ha.ro 1 4
  rotate_left; cases T6 : wi ha.cl 0 6
  all_goals
    try rw [T1] at HB
    try rw [T2] at HB
    try rw [T3] at HB
    try rw [T4] at HB
    try rw [T5] at HB
    try rw [T6] at HB
    go_enter Try.func42, Try.ntmps42
    go_wp2_with (fail)
    generalize hw1 : World.alloc _ _ = w1
    obtain ⟨he, o1, -⟩ := alloc1 hw1
    obtain ⟨b0, b1, b2, b3⟩ := obj_cells4 o1
    clear hw1 o1
    have hr := Ext.refl w1
    have HS := Lib.hid (HH.out.st.ext he)
    have HE := Lib.hid (HH.out.en.ext he)
    have hwi : wi (ha.st.length : Int) 1 96 = true → ((ha.en.length : Int) != (ha.st.length : Int)) = false → ha.st.length ≤ 1000000 ∧ ha.en.length ≤ 1000000 := fun a b => by
      have := wi_iff.1 a; simp at b; omega
    have HW := Lib.hid hwi; clear hwi
    go_wp2_with (first
      | (go_at_call 48; (with_reducible refine (within_any _ _ _ _).mono ?_); rintro e w' ⟨rfl, rfl⟩)
      | (go_at_call 71; have h71 := contains69 sa sc ha.st w1 (HW.out T1 T2).1 HS.out; (with_reducible refine h71.mono ?_); clear h71; rintro e w2 ⟨rfl, he2⟩)
      | (go_at_call 71; have h71 := contains70 ea ec ha.en _ (HW.out T1 T2).2 (HE.out.ext he2); (with_reducible refine h71.mono ?_); clear h71; rintro e w3 ⟨rfl, he3⟩; replace he3 := he2.trans he3))
    go_ret
    refine ⟨?_, he.trans (by with_reducible assumption)⟩
    rw [HB.out]; rfl
end Go.Proofs.Ytjpgignbjkgjiaa
