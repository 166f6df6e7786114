/-
  Walks of the reference: Check.
-/
import Derived.Test.YtlahejakcgoheaaRR
set_option linter.unusedVariables false
set_option linter.unusedSimpArgs false
namespace Go.Proofs.Ytlahejakcgoheaa
open Go.RowKit
set_option maxRecDepth 100000 in
set_option maxHeartbeats 4000000 in
theorem rcheck_any (a : Option Addr) (xs : List Lv) (c : Nat) (w : World) (h : Links w a xs) (ho : LksOk xs) (hsm : ∀ l ∈ lks xs, SmL l) (hl : xs.length ≤ 1000000) :
    Calls Try.prog 33 #[.slice a xs.length c] w (Ret (.int .i64 (checkI 7 0 (lks xs))) w) := by
  have HX := Lib.hid h; have HO := Lib.hid ho; have HSM := Lib.hid hsm
  clear h ho hsm
  go_enter Try.func33, Try.ntmps33
  go_wp2_with (fail)
  go_loopw [3, 4] (fun s i wr => ∃ k g : Nat, k ≤ xs.length ∧ i = .int .i64 k ∧ s = u64 g ∧ Hid (g < 18446744073709551616 ∧ checkI 7 0 (lks xs) = checkI g k ((lks xs).drop k)) ∧ Ext w wr) (fun _ i _ => xs.length - (intOf i).toNat)
  case atStart => exact ⟨0, 7, Nat.zero_le _, rfl, rfl, ⟨by omega, rfl⟩, Ext.refl w⟩
  case round =>
    obtain ⟨k, g, hk, rfl, rfl, hg, he⟩ := hrel
    by_cases hlt : k < xs.length
    · obtain ⟨b, o, rfl, hc⟩ := HX.out.at k hlt
      obtain ⟨x, hx⟩ : ∃ x, x = lth xs k := ⟨_, rfl⟩
      have hby := (HX.out.2 k hlt).ext he
      have hok := HO.out k hlt
      have hsm : SmL (lth xs k).l := HSM.out _ (by rw [lth_eq _ _ hlt]; exact List.mem_map.2 ⟨_, List.getElem_mem hlt, rfl⟩)
      have hdr := lks_drop xs k hlt
      rw [← hx] at hby hok hdr hc hsm
      have hcl := fun W (e : Ext wr W) => hc W (he.trans e)
      have c0 := fun W (e : Ext wr W) => (hcl W e).1
      have c1 := fun W (e : Ext wr W) => (hcl W e).2.1
      have c2 := fun W (e : Ext wr W) => (hcl W e).2.2.1
      have c3 := fun W (e : Ext wr W) => (hcl W e).2.2.2.1
      have c4 := fun W (e : Ext wr W) => (hcl W e).2.2.2.2.1
      have c5 := fun W (e : Ext wr W) => (hcl W e).2.2.2.2.2.1
      have c6 := fun W (e : Ext wr W) => (hcl W e).2.2.2.2.2.2.1
      have c7 := fun W (e : Ext wr W) => (hcl W e).2.2.2.2.2.2.2.1
      have c8 := fun W (e : Ext wr W) => (hcl W e).2.2.2.2.2.2.2.2.1
      have c9 := fun W (e : Ext wr W) => (hcl W e).2.2.2.2.2.2.2.2.2
      have hch := fun W (e : Ext wr W) => rchain_any g x W hg.out.1 hok hsm (hby.ext e)
      have HOK := Lib.hid hok; have HDR := Lib.hid hdr; have HCH := Lib.hid hch
      have hi0 : (0 : Int) ≤ (k : Int) := by omega
      have hi1 : (k : Int) < (xs.length : Int) := by omega
      have hr0 := Ext.refl wr
      clear hx hc hcl hby hok hdr hsm hch
      go_upto_region 5 with fail
      refine wp_region_ext (by kernel_rfl) (by kernel_rfl) hr0 ?_
      repeat (first | go_big_quiet_step (((go_at_call 32; exact Calls.later (HCH.out _ (Later.ok _))))) | quiet_step (((go_at_call 32; exact Calls.later (HCH.out _ (Later.ok _))))))
      refine wpQuiet_nil ?_
      rintro _ ⟨nq, rfl⟩
      have he1 := nq.ok
      have he3 := he.trans he1
      cases T : ((x.l.ch : Int) != (chainN g x.l : Int))
      · have hch : chainN g x.l = x.l.ch := by simp at T; omega
        have hg2 : Hid (x.l.ch < 18446744073709551616 ∧ checkI 7 0 (lks xs) = checkI x.l.ch (k + 1) ((lks xs).drop (k + 1))) := by
          refine ⟨HOK.out.ch, ?_⟩
          rw [hg.out.2, HDR.out, checkI, if_pos hch]
        have HCC := Lib.hid hch
        clear hch
        go_wp2_with (fail)
        go_roundw
        case rel => exact ⟨k + 1, x.l.ch, by omega, by go_num, rfl, hg2, he3⟩
        case measure => simp [intOf]; omega
      · have hch : ¬ chainN g x.l = x.l.ch := by simp at T; omega
        have hg2 : Hid (checkI 7 0 (lks xs) = (k : Int)) := by
          rw [Hid, hg.out.2, HDR.out, checkI, if_neg hch]
        clear hch
        go_wp2_with (fail)
        go_ret
        exact ⟨by rw [hg2.out]; rfl, he3⟩
    · obtain rfl : k = xs.length := by omega
      have hg2 : Hid (checkI 7 0 (lks xs) = -1) := by
        rw [Hid, hg.out.2, List.drop_of_length_le (by rw [lks_len]; exact Nat.le_refl _), checkI]
      go_wp2_with (fail)
      go_ret
      exact ⟨by rw [hg2.out]; rfl, he⟩
end Go.Proofs.Ytlahejakcgoheaa
