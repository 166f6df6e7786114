/-
  Walks: Cheapest where it is refused.
-/
import Derived.Test.YtplbofhgmflnlaaGreatM9
set_option linter.unusedVariables false
set_option linter.unusedSimpArgs false
namespace Go.Proofs.YtplbofhgmflnlaaGreat
open Go.RowKit
set_option maxRecDepth 100000 in
set_option maxHeartbeats 2000000 in
theorem cheapest_no (P : Pw) (a : Option Addr) (ss : List Se) (sc : Nat) (w : World) (hp : PlanAt w P) (hb : PlanB P) (hs : SetsAt w a ss) (hn : ss.length ≤ 9223372036854775807) (hl : ∀ i, i < ss.length → (eth ss i).lv.xs.length ≤ 9223372036854775807) (v : Int) (hv : checkE P ss = v) (h0 : v ≠ 0) :
    Calls Tryz.prog 18 #[planV P, .slice a ss.length sc] w (Ret (.tuple #[.slice none 0 0, .int .i64 0, .int .i64 v]) w) := by
  have hck := fun W (e : Ext w W) => check_any P a ss sc W (hp.ext e) hb (hs.ext e) hn hl
  rw [hv] at hck
  obtain ⟨fs, fa, fc, fo, ga, gc⟩ := P
  have HCK := Lib.hid hck
  clear hck hp hb hs hl hv
  go_enter Tryz.func18, Tryz.ntmps18
  go_wp2_with (fail)
  generalize hw1 : World.alloc _ _ = w1
  obtain ⟨he, o1, -⟩ := alloc1 hw1
  obtain ⟨b0, b1⟩ := obj_cells2 o1
  clear hw1 o1
  have HE := Lib.hid he
  clear he
  (with_reducible refine (HCK.out _ HE.out).mono ?_); rintro e w2 ⟨rfl, he2⟩
  have hv0 : (v != 0) = true := by simpa using h0
  go_wp2_with (fail)
  go_ret3
  exact ⟨rfl, HE.out.trans he2⟩
set_option maxRecDepth 100000 in
set_option maxHeartbeats 2000000 in
theorem cheapest_long (P : Pw) (a : Option Addr) (ss : List Se) (sc : Nat) (w : World) (hp : PlanAt w P) (hb : PlanB P) (hs : SetsAt w a ss) (hn : ss.length ≤ 9223372036854775807) (hl : ∀ i, i < ss.length → (eth ss i).lv.xs.length ≤ 9223372036854775807) (hv : checkE P ss = 0) (h9 : 9 < ss.length) :
    Calls Tryz.prog 18 #[planV P, .slice a ss.length sc] w (Ret (.tuple #[.slice none 0 0, .int .i64 0, .int .i64 5]) w) := by
  have hck := fun W (e : Ext w W) => check_any P a ss sc W (hp.ext e) hb (hs.ext e) hn hl
  rw [hv] at hck
  obtain ⟨fs, fa, fc, fo, ga, gc⟩ := P
  have HCK := Lib.hid hck
  clear hck hp hb hs hl hv
  go_enter Tryz.func18, Tryz.ntmps18
  go_wp2_with (fail)
  generalize hw1 : World.alloc _ _ = w1
  obtain ⟨he, o1, -⟩ := alloc1 hw1
  obtain ⟨b0, b1⟩ := obj_cells2 o1
  clear hw1 o1
  have HE := Lib.hid he
  clear he
  (with_reducible refine (HCK.out _ HE.out).mono ?_); rintro e w2 ⟨rfl, he2⟩
  have h9i : 9 < (ss.length : Int) := by omega
  go_wp2_with (fail)
  go_ret3
  exact ⟨rfl, HE.out.trans he2⟩
set_option maxRecDepth 100000 in
set_option maxHeartbeats 2000000 in
theorem cheapest_none (P : Pw) (a : Option Addr) (sc : Nat) (w : World) (hp : PlanAt w P) (hb : PlanB P) (hs : SetsAt w a []) (hv : checkE P [] = 0) :
    Calls Tryz.prog 18 #[planV P, .slice a 0 sc] w (Ret (.tuple #[.slice none 0 0, .int .i64 0, .int .i64 0]) w) := by
  have hck := fun W (e : Ext w W) => check_any P a [] sc W (hp.ext e) hb (hs.ext e) (by simp) (fun i hi => by simp at hi)
  rw [hv] at hck
  simp only [List.length_nil] at hck
  obtain ⟨fs, fa, fc, fo, ga, gc⟩ := P
  have HCK := Lib.hid hck
  clear hck hp hb hs hv
  go_enter Tryz.func18, Tryz.ntmps18
  go_wp2_with (fail)
  generalize hw1 : World.alloc _ _ = w1
  obtain ⟨he, o1, -⟩ := alloc1 hw1
  obtain ⟨b0, b1⟩ := obj_cells2 o1
  clear hw1 o1
  have HE := Lib.hid he
  clear he
  (with_reducible refine (HCK.out _ HE.out).mono ?_); rintro e w2 ⟨rfl, he2⟩
  go_wp2_with (fail)
  go_ret3
  exact ⟨rfl, HE.out.trans he2⟩
end Go.Proofs.YtplbofhgmflnlaaGreat
