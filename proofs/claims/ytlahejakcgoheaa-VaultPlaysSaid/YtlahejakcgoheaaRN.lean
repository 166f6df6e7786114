/-
  Walks of the reference: unsealed.
-/
import Derived.Test.YtlahejakcgoheaaRL
set_option linter.unusedVariables false
set_option linter.unusedSimpArgs false
namespace Go.Proofs.Ytlahejakcgoheaa
open Go.RowKit
set_option maxRecDepth 100000 in
set_option maxHeartbeats 4000000 in
theorem runsealed_any (key : Nat) (x : Lv) (w : World) (hk : key < 18446744073709551616) (ho : LkOk x.l) (hkb : x.l.ki.size ≤ 100000000000000) (hb : Byts w x.ba x.l.bo) (hl : x.l.bo.length ≤ 1000000) (h32 : x.l.bo.length % 32 = 0) : Calls Try.prog 84 #[u64 key, lval x] w (Ret (unshV key x.l) w) := by
  have h1 := fun W => rsealKey_any key x W ho hkb
  have h3 := fun W (q : Byts W x.ba x.l.bo) => rcipher_any (sealK key x.l) x.ba x.l.bo x.bc W (p61_64 (sealK_lt _ _)) q hl
  have h4 := fun W (q : Byts W x.ba x.l.bo) => rdigest_any (sealK key x.l) x.ba x.l.bo x.bc W q (by omega)
  have h5 := fun a c W (q : Byts W a (ciph (sealK key x.l) x.l.bo)) (hc : (ciph (sealK key x.l) x.l.bo).length ≤ c) => runpad_any a (ciph (sealK key x.l) x.l.bo) c W q hc (by rw [ciph_len]; omega) (by rw [ciph_len]; exact h32)
  have H1 := Lib.hid h1; have H3 := Lib.hid h3; have H4 := Lib.hid h4; have H5 := Lib.hid h5; have HB := Lib.hid hb
  clear h1 h3 h4 h5 ho hk hb hl h32
  go_enter Try.func84, Try.ntmps84
  go_upto_region 1 with fail
  generalize hw1 : World.alloc _ _ = w1
  obtain ⟨he, o1, -⟩ := alloc1 hw1
  have HE := Lib.hid he
  obtain ⟨d0, d1, d2, d3, d4, d5, d6, d7, d8, d9⟩ := obj_cells10 o1
  have D7 := Lib.hid d7; have D8 := Lib.hid d8
  clear hw1 o1
  have E1 := Ext.refl w1
  go_wp2_with (fail)
  (with_reducible refine (H1.out _).mono ?_); rintro e w2 ⟨rfl, he2⟩
  clear d0 d1 d2 d3 d4 d5 d6 d7 d8 d9 E1
  have d7 := fun W (e : Ext w2 W) => D7.out W (he2.trans e)
  have E2 := Ext.refl w2
  go_wp2_with (fail)
  (with_reducible refine (H3.out _ (HB.out.ext (HE.out.trans he2))).mono ?_); rintro e w3 ⟨a3, c3, rfl, he3, o3⟩
  clear d7 E2
  go_wp2_with (fail)
  (with_reducible refine (H5.out _ _ _ o3.byts.1 o3.byts.2.2).mono ?_); rintro e w4 ⟨rfl, he4⟩
  have hx := ((he2.trans he3).trans he4)
  have HX := Lib.hid (HE.out.trans hx)
  have HBB := Lib.hid (HB.out.ext HX.out)
  have hr0 := Ext.refl w4
  have d7 := fun W (e : Ext w4 W) => D7.out W (hx.trans e)
  have d8 := fun W (e : Ext w4 W) => D8.out W (hx.trans e)
  clear o3 he he2 he3 he4 hx
  unfold unpV
  go_upto_region 3 with fail
  refine wp_region_ext (by kernel_rfl) (by kernel_rfl) hr0 ?_
  repeat (first | go_big_quiet_step (((go_at_call 15; exact Calls.later (H4.out _ (HBB.out.ext (Later.ok _)))))) | quiet_step (((go_at_call 15; exact Calls.later (H4.out _ (HBB.out.ext (Later.ok _)))))))
  refine wpQuiet_nil ?_
  rintro _ ⟨nq, rfl⟩
  have he5 := nq.ok
  go_wp2_with (fail)
  go_ret3
  refine ⟨?_, HX.out.trans he5⟩
  show Ending.returned (.tuple #[.string ⟨(unpT (ciph (sealK key x.l) x.l.bo)).toArray⟩, .bool (((x.l.tag : Nat) : Int) == ((hbs (nh (sealK key x.l)) x.l.bo : Nat) : Int)), .bool (unpOk (ciph (sealK key x.l) x.l.bo))]) = _
  rw [beq_cast]; rfl
end Go.Proofs.Ytlahejakcgoheaa
