/-
  Walks: Order, and Least where it is refused.
-/
import Derived.Test.YtplbofhgmflnlaaGreatM19
set_option linter.unusedVariables false
set_option linter.unusedSimpArgs false
namespace Go.Proofs.YtplbofhgmflnlaaGreat
open Go.RowKit
/-- The order of settings. -/
abbrev ordS (P : Pw) (ss : List Se) (sd : Int) : List Int := ordL (fun i => gL P.fs (eth ss i)) ss.length sd
set_option maxRecDepth 100000 in
set_option maxHeartbeats 2000000 in
theorem Order_no (P : Pw) (a : Option Addr) (ss : List Se) (sc : Nat) (sd : Int) (w : World) (hp : PlanAt w P) (hb : PlanB P) (hs : SetsAt w a ss) (hn : ss.length ≤ 9223372036854775807) (hl : ∀ i, i < ss.length → (eth ss i).lv.xs.length ≤ 9223372036854775807) (v : Int) (hv : checkE P ss = v) (h0 : v ≠ 0) :
    Calls Tryz.prog 47 #[planV P, .slice a ss.length sc, .int .u64 sd] w (Ret (.tuple #[.slice none 0 0, .int .i64 v]) w) := by
  have hck := fun W (e : Ext w W) => check_any P a ss sc W (hp.ext e) hb (hs.ext e) hn hl
  rw [hv] at hck
  obtain ⟨fs, fa, fc, fo, ga, gc⟩ := P
  have HCK := Lib.hid hck
  clear hck hp hb hs hl hv
  go_enter Tryz.func47, Tryz.ntmps47
  go_wp2_with (fail)
  generalize hw1 : World.alloc _ _ = w1
  obtain ⟨he, o1, -⟩ := alloc1 hw1
  obtain ⟨b0, b1⟩ := obj_cells2 o1
  have E1 := Ext.refl w1
  clear hw1 o1
  have HE := Lib.hid he
  clear he
  have hv0 : (v != 0) = true := by simpa using h0
  go_wp2_with (go_at_call 69; (with_reducible refine (HCK.out _ HE.out).mono ?_); rintro e w2 ⟨rfl, he2⟩)
  go_ret2
  exact ⟨rfl, HE.out.trans he2⟩
set_option maxRecDepth 100000 in
set_option maxHeartbeats 2000000 in
theorem Order_ok (P : Pw) (a : Option Addr) (ss : List Se) (sc : Nat) (sd : Int) (w : World) (hp : PlanAt w P) (hb : PlanB P) (hs : SetsAt w a ss) (hl : ∀ i, i < ss.length → (eth ss i).lv.xs.length ≤ 9223372036854775807) (hv : checkE P ss = 0) (hsd : 0 ≤ sd ∧ sd < 18446744073709551616) :
    Calls Tryz.prog 47 #[planV P, .slice a ss.length sc, .int .u64 sd] w (fun e w' => ∃ a' c', e = .returned (.tuple #[.slice a' (ordS P ss sd).length c', .int .i64 0]) ∧ Ext w w' ∧ OwnI w' w.heap.size (.slice a' (ordS P ss sd).length c') (ordS P ss sd)) := by
  have hn := (checkE_ok hv).2.1
  have hck := fun W (e : Ext w W) => check_any P a ss sc W (hp.ext e) hb (hs.ext e) (by omega) hl
  have hor := fun W (e : Ext w W) => order_any P a ss sc sd W (hp.ext e) hb (hs.ext e) hn hv hsd
  rw [hv] at hck
  obtain ⟨L, hL⟩ : ∃ L, L = ordS P ss sd := ⟨_, rfl⟩
  rw [show ordL (fun i => gL P.fs (eth ss i)) ss.length sd = L from hL.symm] at hor
  rw [← hL]
  obtain ⟨fs, fa, fc, fo, ga, gc⟩ := P
  have HCK := Lib.hid hck; have HOR := Lib.hid hor
  clear hck hor hp hb hs hl hv hL
  go_enter Tryz.func47, Tryz.ntmps47
  go_wp2_with (fail)
  generalize hw1 : World.alloc _ _ = w1
  obtain ⟨he, o1, -⟩ := alloc1 hw1
  obtain ⟨b0, b1⟩ := obj_cells2 o1
  have E1 := Ext.refl w1
  clear hw1 o1
  have HE := Lib.hid he
  clear he
  go_wp2_with (first | (go_at_call 69; (with_reducible refine (HCK.out _ HE.out).mono ?_); rintro e w2 ⟨rfl, he2⟩) | (go_at_call 93; (with_reducible refine (HOR.out _ (HE.out.trans he2)).mono ?_); rintro e w3 ⟨a3, c3, rfl, he3, ho3⟩; have HO := Lib.hid ho3; clear ho3))
  go_ret2
  exact ⟨a3, c3, rfl, HE.out.trans (he2.trans he3), own_down HO.out (HE.out.trans he2).size⟩
set_option maxRecDepth 100000 in
set_option maxHeartbeats 2000000 in
theorem least_no (P : Pw) (a : Option Addr) (ss : List Se) (sc : Nat) (w : World) (hp : PlanAt w P) (hb : PlanB P) (hs : SetsAt w a ss) (hn : ss.length ≤ 9223372036854775807) (hl : ∀ i, i < ss.length → (eth ss i).lv.xs.length ≤ 9223372036854775807) (v : Int) (hv : checkE P ss = v) (h0 : v ≠ 0) :
    Calls Tryz.prog 20 #[planV P, .slice a ss.length sc] w (Ret (.tuple #[.int .i64 0, .int .i64 v]) w) := by
  have hck := fun W (e : Ext w W) => check_any P a ss sc W (hp.ext e) hb (hs.ext e) hn hl
  rw [hv] at hck
  obtain ⟨fs, fa, fc, fo, ga, gc⟩ := P
  have HCK := Lib.hid hck
  clear hck hp hb hs hl hv
  go_enter Tryz.func20, Tryz.ntmps20
  go_wp2_with (fail)
  generalize hw1 : World.alloc _ _ = w1
  obtain ⟨he, o1, -⟩ := alloc1 hw1
  obtain ⟨b0, b1⟩ := obj_cells2 o1
  clear hw1 o1
  have HE := Lib.hid he
  clear he
  (with_reducible refine (HCK.out _ HE.out).mono ?_); rintro e w2 ⟨rfl, he2⟩
  have hv0 : (v != 0) = true := by simpa using h0
  go_wp2_with (fail)
  go_ret2
  exact ⟨rfl, HE.out.trans he2⟩
end Go.Proofs.YtplbofhgmflnlaaGreat
