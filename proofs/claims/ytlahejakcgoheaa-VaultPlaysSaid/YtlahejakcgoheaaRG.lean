/-
  Walks of the reference: Records, Shares' words.
-/
import Derived.Test.YtlahejakcgoheaaRF
set_option linter.unusedVariables false
set_option linter.unusedSimpArgs false
namespace Go.Proofs.Ytlahejakcgoheaa
open Go.RowKit
set_option maxRecDepth 100000 in
set_option maxHeartbeats 4000000 in
theorem rrec_any (N : Bool) (a : Option Addr) (xs : List Lv) (c : Nat) (nm : ByteArray) (r : Nat) (w : World) (h : Links w a xs) (ho : LksOk xs) (hl : xs.length ≤ 1000000) (h1 : ∀ j, j < r → versL nm ((j : Int) + 1) (lks xs) ≠ []) (h2 : versL nm ((r : Int) + 1) (lks xs) = []) (hr : r ≤ 1000000) :
    Calls Try.prog 80 #[rv N a xs.length c, .string nm] w (Ret (.int .i64 r) w) := by
  have hv := fun (k : Nat) W (e : Ext w W) => rvers_any N a xs c nm ((k : Int) + 1) W (h.ext e) ho hl
  obtain ⟨n, hn⟩ : ∃ n, n = xs.length := ⟨_, rfl⟩
  rw [← hn] at hv ⊢
  have HV := Lib.hid hv; have H1 := Lib.hid h1; have H2 := Lib.hid h2
  clear h ho hl hn hv h1 h2
  go_enter Try.func80, Try.ntmps80
  go_upto_region 1 with fail
  generalize hw1 : World.alloc _ _ = w1
  obtain ⟨he, o1, -⟩ := alloc1 hw1
  obtain ⟨b0, b1⟩ := obj_cells2 o1
  clear hw1 o1
  have HB0 := Lib.hid b0; have HB1 := Lib.hid b1; have HE := Lib.hid he
  clear b0 b1
  go_wp2_with (fail)
  go_loopw [5] (fun i wr => ∃ k : Nat, k ≤ r ∧ i = .int .i64 k ∧ Hid (Ext w1 wr)) (fun i _ => r - (intOf i).toNat)
  case atStart => exact ⟨0, Nat.zero_le _, rfl, Ext.refl _⟩
  case round =>
    obtain ⟨k, hk, rfl, her⟩ := hrel
    have E0 := Ext.refl wr
    have b0 := fun W (e : Ext wr W) => HB0.out W (her.out.trans e)
    have b1 := fun W (e : Ext wr W) => HB1.out W (her.out.trans e)
    have hc := HV.out k wr (HE.out.trans her.out)
    have HC := Lib.hid hc
    clear hc
    go_wp2_with (fail)
    (with_reducible refine HC.out.mono ?_); rintro e w2 ⟨la, lc, ys, rfl, hro, hlk⟩
    have HRO := Lib.hid hro; have HLK := Lib.hid hlk
    obtain ⟨m, hm⟩ : ∃ m, m = ys.length := ⟨_, rfl⟩
    rw [← hm]
    have hm2 : m = (versL nm ((k : Int) + 1) (lks xs)).length := by rw [hm, ← hlk, lks_len]
    have HM := Lib.hid hm2
    clear hro hlk hm hm2 b0 b1 E0 HC
    by_cases hlt : k < r
    · have hpos : (0 : Int) < (m : Int) := by
        have := List.length_pos_iff.2 (H1.out k hlt)
        rw [← HM.out] at this; omega
      go_wp2_with (fail)
      go_roundw
      case rel => exact ⟨k + 1, by omega, by go_num, her.out.trans HRO.out.old⟩
      case measure => simp [intOf]; omega
    · obtain rfl : k = r := by omega
      have hz : m = 0 := by rw [HM.out, H2.out]; rfl
      subst hz
      go_wp2_with (fail)
      go_ret
      exact ⟨rfl, HE.out.trans (her.out.trans HRO.out.old)⟩
end Go.Proofs.Ytlahejakcgoheaa
