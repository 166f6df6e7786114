import Derived.Test.YtjpgignbjkgjiaaA9
import Derived.Test.YtjpgignbjkgjiaaB3
set_option linter.unusedVariables false
set_option linter.unusedSimpArgs false
namespace Go.Proofs.Ytjpgignbjkgjiaa
open Go.RowKit
theorem ints_none {w : World} {xs : List Int} (h : Ints w none xs) : xs = [] := by
  rcases h with h | ⟨b, o, h1, _⟩
  · exact h
  · cases h1
theorem grown_ext {w w1 w' : World} {v : Value} (he : Ext w w1) (hg : w1.grownBy w' v.ownBlock) (hb : ∀ k, v.ownBlock = some k → w.heap.size ≤ k) : Ext w w' := Below.grown he hg he.size hb
theorem own_block {w : World} {B : Nat} {v : Value} {xs : List Int} (h : OwnI w B v xs) : ∀ k, v.ownBlock = some k → B ≤ k := fun k hk => (h.lt k hk).1
theorem own_slice {w : World} {B : Nat} {v : Value} {xs : List Int} (h : OwnI w B v xs) : ∃ a n c, v = .slice a n c := by
  rcases h.2 with ⟨h, _⟩ | ⟨g, cap, cur, h, _⟩
  · exact ⟨_, _, _, h⟩
  · exact ⟨_, _, _, h⟩
set_option maxHeartbeats 400000 in
theorem clone_int (a : Option Addr) (c : Nat) (xs : List Int) (w : World) (hx : Ints w a xs) (hn : xs.length ≤ 1000000) :
    Calls Try.prog 55 #[.slice a xs.length c] w (RetI xs w) := by
  have hnil := fun (W : World) (a : Option Addr) (n c : Nat) => Lib.run_eql_slice_nil (P := Try.prog) W 22 3 a n c 0 0 Try.underlying22
  cases a with
  | none =>
    obtain rfl := ints_none hx
    have HN := Lib.hid hn; clear hn
    go_enter Try.func55, Try.ntmps55
    go_wp2_with (fail)
    go_ret
    exact ⟨none, 0, rfl, Ext.refl w, by exact World.ownsRow_nil _ _ _ _⟩
  | some ad =>
    have happ := app_ints (w.alloc (.cells #[] 3)) w.heap.size 22 _ [] xs (some ad) c (own_empty w 3 1) (hx.ext ((Ext.refl w).alloc _)) (by simp; omega) (by simp)
    have HA := Lib.hid happ
    clear hx hn happ
    go_enter Try.func55, Try.ntmps55
    go_wp2_with (at_builtin; refine wpList_app _ rfl _ _ 22 rfl _ HA.out ?_; rintro v' w' ⟨hv, hg⟩)
    obtain ⟨a', n', c', rfl⟩ := own_slice hv
    obtain ⟨-, hn', -⟩ := hv.ints
    go_ret
    refine ⟨a', c', by rw [hn']; rfl, grown_ext ((Ext.refl w).alloc _) hg (by simp [Value.ownBlock]), ?_⟩
    rw [hn'] at hv
    exact hv
end Go.Proofs.Ytjpgignbjkgjiaa
