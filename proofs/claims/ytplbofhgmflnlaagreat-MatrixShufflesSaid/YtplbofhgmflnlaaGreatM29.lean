/-
  Walks: CheckFraction, Runs.
-/
import Derived.Test.YtplbofhgmflnlaaGreatM28
set_option linter.unusedVariables false
set_option linter.unusedSimpArgs false
namespace Go.Proofs.YtplbofhgmflnlaaGreat
open Go.RowKit
/-- A fraction as a value. -/
structure Fr where
  n : Int
  ws : List Wd
  wa : Option Addr
  wc : Nat
abbrev frV (F : Fr) : Value := .agg #[.int .i64 F.n, .slice F.wa F.ws.length F.wc]
def FrAt (w : World) (F : Fr) : Prop := Wds w F.wa F.ws
theorem FrAt.ext {w w' : World} {F : Fr} (h : FrAt w F) (e : Ext w w') : FrAt w' F := RowAt.ext wdC_len h e
def FrB (F : Fr) : Prop := (∀ i, i < F.ws.length → (wth F.ws i).mask < 65536) ∧ F.ws.length ≤ 9223372036854775807
def outW (m : Nat) (x : Wd) : Bool := x.mask / 2 ^ m != 0
theorem enters88 : Enters Tryz.prog 88 := Enters.mk Tryz.func88 rfl rfl
theorem enters85 : Enters Tryz.prog 85 := Enters.mk Tryz.func85 rfl rfl
set_option maxHeartbeats 1000000 in
theorem chkF1_any (m : Nat) (x : Wd) (B : Nat) (w : World) (hm : m ≤ 12) (c0 : ∀ W, Ext w W → W.cell? ⟨B, 0, none⟩ = some (.int .i64 (m : Int))) :
    Calls Tryz.prog 88 #[wdV x, .pointer (some ⟨B, 0, none⟩)] w (Ret (.bool (outW m x)) w) := by
  obtain ⟨k, o⟩ := x
  have h0 : (0 : Int) ≤ (m : Int) := by omega
  go_enter Tryz.func88, Tryz.ntmps88
  go_wp2_with (fail)
  generalize hw1 : World.alloc _ _ = w1
  obtain ⟨he, o1, -⟩ := alloc1 hw1
  obtain ⟨b0, b1⟩ := obj_cells2 o1
  have d0 := fun W (e : Ext w1 W) => c0 W (he.trans e)
  have E1 := Ext.refl w1
  have HE := Lib.hid he
  clear hw1 o1 he c0
  go_wp2_with (fail)
  go_ret
  refine ⟨?_, HE.out⟩
  have e : ((k : Int) / 2 ^ m) = ((k / 2 ^ m : Nat) : Int) := by rw [Int.natCast_ediv, Int.natCast_pow]; rfl
  rw [e]
  refine ret_bool ?_
  show (((k / 2 ^ m : Nat) : Int) != 0) = (k / 2 ^ m != 0)
  generalize k / 2 ^ m = z
  cases z with
  | zero => rfl
  | succ z =>
    rw [show ((z + 1 : Nat) != 0) = true by simp, show (((z + 1 : Nat) : Int) != 0) = true by rw [bne_iff_ne]; omega]
/-- What CheckFraction answers. -/
def checkF (F : Fr) : Int := if F.n < 1 ∨ 12 < F.n ∨ 12 < F.ws.length then 2 else if F.ws.any (outW F.n.toNat) then 2 else 0
set_option maxHeartbeats 2000000 in
theorem checkF_any (F : Fr) (w : World) (h : FrAt w F) (hb : FrB F) : Calls Tryz.prog 33 #[frV F] w (Ret (.int .i64 (checkF F)) w) := by
  obtain ⟨n, ws, wa, wc⟩ := F
  by_cases h1 : n < 1
  · have HC : Hid (checkF ⟨n, ws, wa, wc⟩ = 2) := by rw [Hid, checkF, if_pos (.inl h1)]
    rw [HC.out]
    clear h hb HC
    go_enter Tryz.func33, Tryz.ntmps33
    go_wp2_with (fail)
    generalize hw1 : World.alloc _ _ = w1
    obtain ⟨he, o1, -⟩ := alloc1 hw1
    obtain ⟨b0, b1⟩ := obj_cells2 o1
    have E1 := Ext.refl w1
    clear hw1 o1
    go_wp2_with (fail)
    go_ret
    exact ⟨rfl, he⟩
  · by_cases h2 : 12 < n
    · have HC : Hid (checkF ⟨n, ws, wa, wc⟩ = 2) := by rw [Hid, checkF, if_pos (.inr (.inl h2))]
      rw [HC.out]
      clear h hb HC
      go_enter Tryz.func33, Tryz.ntmps33
      go_wp2_with (fail)
      generalize hw1 : World.alloc _ _ = w1
      obtain ⟨he, o1, -⟩ := alloc1 hw1
      obtain ⟨b0, b1⟩ := obj_cells2 o1
      have E1 := Ext.refl w1
      clear hw1 o1
      go_wp2_with (fail)
      go_ret
      exact ⟨rfl, he⟩
    · by_cases h3 : 12 < ws.length
      · have HC : Hid (checkF ⟨n, ws, wa, wc⟩ = 2) := by rw [Hid, checkF, if_pos (.inr (.inr h3))]
        have h3i : 12 < (ws.length : Int) := by omega
        rw [HC.out]
        clear h hb HC
        go_enter Tryz.func33, Tryz.ntmps33
        go_wp2_with (fail)
        generalize hw1 : World.alloc _ _ = w1
        obtain ⟨he, o1, -⟩ := alloc1 hw1
        obtain ⟨b0, b1⟩ := obj_cells2 o1
        have E1 := Ext.refl w1
        clear hw1 o1
        go_wp2_with (fail)
        go_ret
        exact ⟨rfl, he⟩
      · have HC : Hid (checkF ⟨n, ws, wa, wc⟩ = if ws.any (outW n.toNat) then 2 else 0) := by
          have hno : ¬ (n < 1 ∨ 12 < n ∨ 12 < ws.length) := by omega
          rw [Hid, checkF, if_neg hno]
        obtain ⟨m, rfl⟩ : ∃ m : Nat, n = (m : Int) := ⟨n.toNat, by omega⟩
        rw [HC.out, Int.toNat_natCast]
        have hm : m ≤ 12 := by omega
        have h3i : ¬ 12 < (ws.length : Int) := by omega
        have H := Lib.hid h
        obtain ⟨S, hS⟩ : ∃ S, S = ws.any (outW m) := ⟨_, rfl⟩
        rw [← hS]
        have HSH := Lib.hid hS
        clear h hb HC hS
        cases S <;> (
        go_enter Tryz.func33, Tryz.ntmps33
        go_wp2_with (fail)
        generalize hw1 : World.alloc _ _ = w1
        obtain ⟨he, o1, -⟩ := alloc1 hw1
        obtain ⟨b0, b1⟩ := obj_cells2 o1
        have E1 := Ext.refl w1
        have HE := Lib.hid he
        obtain ⟨bb, hbb⟩ : ∃ bb, bb = w.heap.size := ⟨_, rfl⟩
        rw [← hbb] at b0 b1 ⊢
        have hcf := containsFunc_wd 88 #[.pointer (some ⟨bb, 0, none⟩)] wa ws.length wc ws (outW m) w1 rfl (by omega) (H.out.ext he) (fun i hi => ⟨enters88, fun W e => chkF1_any m _ bb W hm (fun W' e' => b0 W' (e.trans e'))⟩)
        rw [← HSH.out] at hcf
        have HCF := Lib.hid hcf
        clear hw1 o1 hbb hcf HSH
        go_wp2_with (go_at_call 84; (with_reducible refine HCF.out.mono ?_); rintro e w2 ⟨rfl, he2⟩)
        go_ret
        exact ⟨rfl, HE.out.trans he2⟩)
end Go.Proofs.YtplbofhgmflnlaaGreat
