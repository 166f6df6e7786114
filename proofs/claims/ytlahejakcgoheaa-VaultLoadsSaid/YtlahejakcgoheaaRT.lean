/-
  Walks of the reference: Advance.
-/
import Derived.Test.YtlahejakcgoheaaRS
set_option linter.unusedVariables false
set_option linter.unusedSimpArgs false
namespace Go.Proofs.Ytlahejakcgoheaa
open Go.RowKit
theorem advE_1 {S : PV} {d : Int} (h : d ≤ S.day ∨ 1000000 < d) : advE S d = 3 := by unfold advE; rw [if_pos h]
theorem advE_2 {S : PV} {d : Int} (h : ¬ (d ≤ S.day ∨ 1000000 < d)) : advE S d = if 2000 ≤ S.adv then 8 else 0 := by unfold advE; rw [if_neg h]
theorem advS_no {S : PV} {d : Int} {q : Int} (h : advE S d = q) (h0 : q ≠ 0) : advS S d = S := by unfold advS; rw [h, if_neg h0]
theorem advS_yes {S : PV} {d : Int} (h : advE S d = 0) : (advS S d).chain = S.chain ++ [chained S (advL d)] := by unfold advS; rw [if_pos h, putS_chain]
set_option maxRecDepth 100000 in
set_option maxHeartbeats 4000000 in
theorem radv_any (S : PV) (al : Option Addr) (xs : List Lv) (c : Nat) (d : Int) (w : World) (hR : RvAt w S al xs) (hd0 : -9223372036854775808 ≤ d) (hd1 : d ≤ 9223372036854775807) :
    Calls Try.prog 50 #[rv false al xs.length c, .int .i64 d] w (RetVE (advS S d).chain (Grow w al xs) (.int .i64 (advE S d)) w) := by
  have hdy := hR.day false c
  obtain ⟨dy, hdd⟩ : ∃ z, z = S.day := ⟨_, rfl⟩
  obtain ⟨ad, had⟩ : ∃ z, z = S.adv := ⟨_, rfl⟩
  obtain ⟨n, hnn⟩ : ∃ z, z = xs.length := ⟨_, rfl⟩
  have hd2 := hR.good.ok.d0
  have e1 := advE_1 (S := S) (d := d)
  have e2 := advE_2 (S := S) (d := d)
  rw [← hdd] at hdy e1 e2 hd2; rw [← had] at hdy e2; rw [← hnn] at hdy ⊢
  have HDY := Lib.hid hdy; have HR := Lib.hid hR; have HE1 := Lib.hid e1; have HE2 := Lib.hid e2; have HN := Lib.hid hnn; have HD2 := Lib.hid hd2
  clear hdy hdd had hnn hR e1 e2 hd2
  go_enter Try.func50, Try.ntmps50
  go_upto_region 1 with fail
  generalize hw1 : World.alloc _ _ = w1
  obtain ⟨he, o1, o2, hs1⟩ := alloc2 hw1
  have O1 := Lib.hid o1; have O2 := Lib.hid o2; have HE := Lib.hid he
  obtain ⟨v0, v1⟩ := obj_cells2 o1
  obtain ⟨z0, z1⟩ := obj_cells2 o2
  have f1 := obj_free o2
  have E1 := Ext.refl w1
  clear hw1 o1 o2
  have hend : ∀ (W : World) (q : Int), Ext w1 W → advE S d = q → q ≠ 0 → RetVE (advS S d).chain (Grow w al xs) (.int .i64 (advE S d)) w (.returned (.tuple #[rv false al n c, .int .i64 q])) ((W.setCell ⟨w.heap.size + 1, 0, none⟩ (.bool false)).setCell ⟨w.heap.size + 1, 1, none⟩ (.slice al n c)) := fun W q e hq h0 => by
    obtain ⟨k1, k2⟩ := same40 (N := false) (c := c) HR.out.lk HR.out.ok HN.out (HE.out.trans e) (by omega) (e.block O2.out)
    rw [advS_no hq h0, hq]
    exact ⟨al, c, xs, by rw [HN.out], k1, k2, HR.out.ok, HR.out.ch, Grow.same _ _ _⟩
  have HEND := Lib.hid hend
  clear hend
  go_wp2_with (fail)
  (with_reducible refine (HDY.out _ he).mono ?_); rintro e w2 ⟨rfl, he2⟩
  have E2 := Ext.refl w2
  by_cases h1 : d ≤ dy
  · go_wp2_with (fail)
    refine bodyPost_ret (v := .tuple #[rv false al n c, .int .i64 3]) (by simp [results, Try.results50, go_sem, z0 _ he2, z1 _ he2]) rfl (HEND.out w2 3 he2 (HE1.out (.inl h1)) (by omega))
  · by_cases h2 : 1000000 < d
    · go_wp2_with (fail)
      refine bodyPost_ret (v := .tuple #[rv false al n c, .int .i64 3]) (by simp [results, Try.results50, go_sem, z0 _ he2, z1 _ he2]) rfl (HEND.out w2 3 he2 (HE1.out (.inr h2)) (by omega))
    · have h4 := HE2.out (by omega)
      by_cases h20 : 2000 ≤ ad
      · rw [if_pos h20] at h4
        have H4 := Lib.hid h4
        clear h4
        go_wp2_with (fail)
        refine bodyPost_ret (v := .tuple #[rv false al n c, .int .i64 8]) (by simp [results, Try.results50, go_sem, z0 _ he2, z1 _ he2]) rfl (HEND.out w2 8 he2 H4.out (by omega))
      · rw [if_neg h20] at h4
        have hch := advS_yes h4
        have H4 := Lib.hid h4; have HCHN := Lib.hid hch
        have HJ0 := Lib.hid (JS.start (L := S.chain ++ [chained S (advL d)]) (G := Grow w al xs) (HE.out.trans he2) (show w.heap.size ≤ w.heap.size + 1 by omega) (show w.heap.size ≠ w.heap.size + 1 by omega) (he2.block O1.out) (he2.block O2.out) undef)
        have hlo : LkOk (advL d) := ⟨by show 2 < 256; omega, by show 0 ≤ _; omega, by show 0 ≤ _; omega, by show -9223372036854775808 ≤ (0 : Int); omega, by show (0 : Int) ≤ _; omega, by show -9223372036854775808 ≤ (0 : Int); omega, by show (0 : Int) ≤ _; omega, hd0, hd1, by show -9223372036854775808 ≤ (0 : Int); omega, by show (0 : Int) ≤ _; omega, by show 0 ≤ _; omega, by show 0 < _; omega, by show 0 < _; omega⟩
        have hW : Calls Try.prog 78 #[.agg #[.bool false, .slice al n c], .agg #[.int .u8 2, .string ⟨#[]⟩, .string ⟨#[]⟩, .int .i64 0, .int .i64 0, .int .i64 d, .int .i64 0, .slice none 0 0, .int .u64 0, .int .u64 0]] w2 (RetV (S.chain ++ [chained S (advL d)]) (Grow w al xs) w2) := by
          have := HR.out.put false c ⟨advL d, none, 0⟩ w2 (HE.out.trans he2) hlo ⟨by show 0 ≤ _; omega, by show 0 ≤ _; omega, by show 0 ≤ _; omega⟩ (.inl rfl) (fun ad hd => (by cases hd))
          rw [← HN.out] at this
          exact this
        have HW := Lib.hid hW
        clear h4 hch hW hlo
        go_wp2_with (fail)
        (with_reducible refine HW.out.mono ?_); rintro e w3 hr
        obtain ⟨v, rfl, he3, hj⟩ := HJ0.out.call hr
        obtain ⟨ra, rn, rc, rfl, z0, z1, f1, hj2, -⟩ := hj.store
        have HJ2 := Lib.hid hj2
        clear hr hj hj2 HJ0 v0 v1 E1 E2 he2 he3
        go_wp2_with (fail)
        obtain ⟨ra', rc', ys, hv, h1, h2, h3, h6, h4⟩ := HJ2.out.ac rfl
        simp only [Value.agg.injEq, Array.mk.injEq, List.cons.injEq, Value.slice.injEq, and_true, true_and] at hv
        obtain ⟨rfl, rfl, rfl⟩ := hv
        refine bodyPost_ret (v := .tuple #[rv false ra ys.length rc, .int .i64 0]) (by simp [results, Try.results50, go_sem, z0, z1]) rfl ⟨ra, rc, ys, by rw [H4.out], HJ2.out.x, h1, h2, by rw [h3, HCHN.out], h6⟩
end Go.Proofs.Ytlahejakcgoheaa
