import Derived.Test.YtjpgignbjkgjiaaA11
import Derived.Test.YtjpgignbjkgjiaaB4
set_option linter.unusedVariables false
set_option linter.unusedSimpArgs false
namespace Go.Proofs.Ytjpgignbjkgjiaa
open Go.RowKit
set_option maxHeartbeats 400000 in
theorem isEmpty_any (a : Option Addr) (n c : Nat) (w : World) : Calls Try.prog 81 #[.slice a n c] w (Ret (.bool ((n : Int) == 0)) w) := by
  go_enter Try.func81, Try.ntmps81
  go_wp2_with (fail)
  go_ret
  exact ⟨rfl, Ext.refl _⟩
theorem enters81 : Enters Try.prog 81 := Enters.mk Try.func81 rfl rfl
theorem sth_fun (ss : List SL) (i : Nat) (h : i < ss.length) : sth ss i = ss[i] := sth_eq ss i h
set_option maxHeartbeats 400000 in
theorem indexFunc_sl (f : Nat) (cap : Array Value) (X : Nat) (a : Option Addr) (n c : Nat) (xs : List SL) (p : SL → Bool) (w : World) (hn : xs.length = n) (hm : n ≤ 1000000) (hx : SLsX X w a xs)
    (hp : ∀ i, i < n → Asks Try.prog f cap w (.slice (sth xs i).a (sth xs i).xs.length (sth xs i).c) (p (sth xs i))) :
    Calls Try.prog 88 #[.slice a n c, .func (.func f) #[] cap] w (Ret (.int .i64 (idxOr (xs.findIdx? p))) w) := by
  have HN := Lib.hid hn; clear hn
  go_enter Try.func88, Try.ntmps88
  go_wp2_with (fail)
  go_loopw [5, 8] (fun _ i wr => ∃ k : Nat, k ≤ n ∧ i = .int .i64 k ∧ Ext w wr ∧ Hid (∀ j, j < k → p (sth xs j) = false)) (fun _ i _ => n - (intOf i).toNat)
  case atStart => exact ⟨0, Nat.zero_le _, rfl, Ext.refl _, fun j hj => by omega⟩
  case round =>
    obtain ⟨k, hk, rfl, he, hf⟩ := hrel
    by_cases hlt : k < n
    · obtain ⟨b, o, rfl, c0⟩ := hx.at k (by rw [HN.out]; exact hlt)
      obtain ⟨hen, hq⟩ := hp k hlt
      have HQ := Lib.hid (hq wr he)
      have hen' := hen (#[.slice (sth xs k).a (sth xs k).xs.length (sth xs k).c] ++ cap) wr
      clear hq hen hp
      go_wp2_with (fail)
      refine HQ.out.mono ?_
      rintro e w' ⟨rfl, he'⟩
      have he2 := he.trans he'
      cases hpk : p (sth xs k)
      · have hf2 := Lib.hid (all_lt_succ hf.out hpk)
        clear hpk
        go_wp2_with (fail)
        go_roundw
        case rel => exact ⟨k + 1, by omega, by go_num, he2, hf2⟩
        case measure => simp [intOf]; omega
      · have H2 := Lib.hid (findIdx_some sth sth_fun p xs k (by rw [HN.out]; exact hlt) hpk hf.out)
        clear hpk
        go_wp2_with (fail)
        go_ret
        exact ⟨by rw [H2.out]; rfl, he2⟩
    · have H2 := Lib.hid (findIdx_none sth sth_fun p xs (fun j hj => hf.out j (by rw [HN.out] at hj; omega)))
      go_wp2_with (fail)
      go_ret
      exact ⟨by rw [H2.out]; rfl, he⟩
def lsts (ss : List SL) : List (List Int) := ss.map SL.xs
theorem lsts_len (ss : List SL) : (lsts ss).length = ss.length := by simp [lsts]
theorem lth_lsts (ss : List SL) (i : Nat) (h : i < ss.length) : lth (lsts ss) i = (sth ss i).xs := by simp [lth, lsts, sth, h]
set_option maxHeartbeats 400000 in
theorem contains81 (X : Nat) (a : Option Addr) (c : Nat) (ss : List SL) (w : World) (hm : ss.length ≤ 1000000) (hx : SLsX X w a ss) :
    Calls Try.prog 82 #[.slice a ss.length c, .func (.func 81) #[] #[]] w (Ret (.bool (anyEmpty (lsts ss))) w) := by
  have e : anyEmpty (lsts ss) = ss.any fun s => isNone0 s.xs := by simp [anyEmpty, lsts, List.any_map]; rfl
  have h0 := indexFunc_sl 81 #[] X a ss.length c ss (fun s => isNone0 s.xs) w rfl hm hx fun i hi => ⟨enters81, fun w' _ => by
    have := isEmpty_any (sth ss i).a (sth ss i).xs.length (sth ss i).c w'
    have e2 : (((sth ss i).xs.length : Int) == 0) = isNone0 (sth ss i).xs := by rw [Bool.eq_iff_iff]; simp [isNone0]
    rw [e2] at this
    exact this⟩
  have H := Lib.hid h0; clear h0
  rw [e, any_idx]
  clear e
  go_enter Try.func82, Try.ntmps82
  go_wp2_with (go_at_call 88; refine H.out.mono ?_; rintro e w' ⟨rfl, he⟩)
  go_ret
  exact ⟨rfl, he⟩
set_option maxHeartbeats 400000 in
theorem clone_sl (X : Nat) (a : Option Addr) (c : Nat) (ss : List SL) (w : World) (hx : SLsX X w a ss) (hn : ss.length ≤ 1000) (h0 : 0 < ss.length) :
    Calls Try.prog 84 #[.slice a ss.length c] w (fun e w' => ∃ g c', e = .returned (.slice (some ⟨g, 0, none⟩) ss.length c') ∧ Ext w w' ∧ w.heap.size ≤ g ∧ w'.ownsRow w.heap.size 22 1 (.slice (some ⟨g, 0, none⟩) ss.length c') ss.length (rowS ss)) := by
  have hnil := fun (W : World) (a : Option Addr) (n c : Nat) => Lib.run_eql_slice_nil (P := Try.prog) W 62 22 a n c 0 0 Try.underlying62
  obtain ⟨b, o, rfl, -⟩ := hx.at 0 h0
  have happ := app_sls (w.alloc (.cells #[] 22)) w.heap.size 62 _ [] ss (some ⟨b, o, none⟩) c (own_empty w 22 1) (hx.ext ((Ext.refl w).alloc _)).src (by simp; omega) (by simp)
  have HA := Lib.hid happ
  clear hx hn happ
  go_enter Try.func84, Try.ntmps84
  go_wp2_with (at_builtin; refine wpList_app _ rfl _ _ 62 rfl _ HA.out ?_; rintro v' w' ⟨hv, hg⟩)
  rw [List.nil_append] at hv
  rcases hv.2 with ⟨rfl, h⟩ | ⟨g, cap, cur, rfl, hb, _⟩
  · omega
  · go_ret
    exact ⟨g, cap, rfl, grown_ext ((Ext.refl w).alloc _) hg (by simp [Value.ownBlock]), hb, hv⟩
end Go.Proofs.Ytjpgignbjkgjiaa
