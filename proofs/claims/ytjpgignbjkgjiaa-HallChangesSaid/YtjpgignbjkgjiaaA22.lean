/-
  Texts merged: A22, A23.
-/
import Derived.Test.YtjpgignbjkgjiaaA21
section
set_option linter.unusedVariables false
set_option linter.unusedSimpArgs false
namespace Go.Proofs.Ytjpgignbjkgjiaa
open Go.RowKit
set_option maxRecDepth 100000 in
set_option maxHeartbeats 2000000 in
theorem View_far (ha : Hal) (x : HP) (l : List Camp) (la : Option Addr) (lc : Nat) (p : List Int) (pa : Option Addr) (pn pc : Nat) (cu : Int) (w : World) (hh : HallAt w ha x) (hl : Camps w la l) (hp : Ints w pa p) (hpn : p.length = pn) (h0 : errS ha l p = 0) (hcu : wi cu 0 20 = false) :
    Calls Try.prog 14 #[hval ha x, .slice la l.length lc, .slice pa pn pc, .int .i64 cu] w (fun e w' => e = .returned (.tuple #[.slice none 0 0, .int .i64 3]) ∧ Ext w w') := by
  have hcheck := fun W (h : Ext w W) => Check_any ha x l la lc p pa pn pc W (hh.ext h) (hl.ext h) (hp.ext h) hpn
  rw [h0] at hcheck
  have HC := Lib.hid hcheck
  clear hcheck hh hl hp hpn h0
  obtain ⟨sa, sc, ea, ec⟩ := x
  go_enter Try.func14, Try.ntmps14
  go_wp2_with (fail)
  generalize hw1 : World.alloc _ _ = w1
  obtain ⟨he, o1, -⟩ := alloc1 hw1
  obtain ⟨b0, b1, b2, b3⟩ := obj_cells4 o1
  clear hw1 o1
  (with_reducible refine (HC.out _ he).mono ?_); rintro e w2 ⟨rfl, he2⟩
  go_wp2_with (go_at_call 48; (with_reducible refine (within_any _ _ _ _).mono ?_); rintro e w' ⟨rfl, rfl⟩)
  generalize hw3 : w2.alloc _ = w3
  obtain ⟨he3, -, hz3⟩ := alloc1 hw3
  have hx := (he.trans he2).trans he3
  go_ret2
  exact ⟨rfl, hx⟩
end Go.Proofs.Ytjpgignbjkgjiaa
end
section
set_option linter.unusedVariables false
set_option linter.unusedSimpArgs false
namespace Go.Proofs.Ytjpgignbjkgjiaa
open Go.RowKit
set_option maxRecDepth 100000 in
set_option maxHeartbeats 2000000 in
theorem View_errs (ha : Hal) (x : HP) (l : List Camp) (la : Option Addr) (lc : Nat) (p : List Int) (pa : Option Addr) (pn pc : Nat) (cu : Int) (w : World) (hh : HallAt w ha x) (hl : Camps w la l) (hp : Ints w pa p) (hpn : p.length = pn) (h0 : errS ha l p ≠ 0) :
    Calls Try.prog 14 #[hval ha x, .slice la l.length lc, .slice pa pn pc, .int .i64 cu] w (fun e w' => e = .returned (.tuple #[.slice none 0 0, .int .i64 (errS ha l p)]) ∧ Ext w w') := by
  have hcheck := fun W (h : Ext w W) => Check_any ha x l la lc p pa pn pc W (hh.ext h) (hl.ext h) (hp.ext h) hpn
  have HC := Lib.hid hcheck
  clear hcheck hh hl hp hpn
  generalize errS ha l p = er at *
  have T : (er != 0) = true := by simp [h0]
  clear h0
  obtain ⟨sa, sc, ea, ec⟩ := x
  go_enter Try.func14, Try.ntmps14
  go_wp2_with (fail)
  generalize hw1 : World.alloc _ _ = w1
  obtain ⟨he, o1, -⟩ := alloc1 hw1
  obtain ⟨b0, b1, b2, b3⟩ := obj_cells4 o1
  clear hw1 o1
  (with_reducible refine (HC.out _ he).mono ?_); rintro e w2 ⟨rfl, he2⟩
  go_wp2_with (fail)
  generalize hw3 : w2.alloc _ = w3
  obtain ⟨he3, -, hz3⟩ := alloc1 hw3
  have hx := (he.trans he2).trans he3
  go_ret2
  exact ⟨rfl, hx⟩
theorem View_any (ha : Hal) (x : HP) (l : List Camp) (la : Option Addr) (lc : Nat) (p : List Int) (pa : Option Addr) (pn pc : Nat) (cu : Int) (w : World) (hh : HallAt w ha x) (hl : Camps w la l) (hp : Ints w pa p) (hpn : p.length = pn) :
    Calls Try.prog 14 #[hval ha x, .slice la l.length lc, .slice pa pn pc, .int .i64 cu] w (RetView ha l p cu w) := by
  by_cases h0 : errS ha l p = 0
  · cases hcu : wi cu 0 20
    · refine (View_far ha x l la lc p pa pn pc cu w hh hl hp hpn h0 hcu).mono ?_
      rintro e w' ⟨rfl, h⟩
      have hE : viewE ha l p cu = 3 := by rw [viewE, if_pos h0, hcu]; rfl
      have hL : viewL ha l p cu = [] := by rw [viewL, if_neg (by omega)]
      exact ⟨none, 0, by rw [hE, hL]; rfl, h, by rw [hL]; exact .inl rfl⟩
    · exact View_ok ha x l la lc p pa pn pc cu w hh hl hp hpn h0 hcu
  · refine (View_errs ha x l la lc p pa pn pc cu w hh hl hp hpn h0).mono ?_
    rintro e w' ⟨rfl, h⟩
    have hE : viewE ha l p cu = errS ha l p := by rw [viewE, if_neg h0]
    have hL : viewL ha l p cu = [] := by rw [viewL, if_neg (by rw [hE]; exact h0)]
    exact ⟨none, 0, by rw [hE, hL]; rfl, h, by rw [hL]; exact .inl rfl⟩
end Go.Proofs.Ytjpgignbjkgjiaa
end
