/-
  Walks of the reference: Open.
-/
import Derived.Test.YtlahejakcgoheaaRV
set_option linter.unusedVariables false
set_option linter.unusedSimpArgs false
namespace Go.Proofs.Ytlahejakcgoheaa
open Go.RowKit
section
variable {S : PV} {n p : ByteArray} {num ver : Int}
theorem open_0 (h : enterR S n p ≠ 0) : openR S n p num ver = (⟨#[]⟩, 0, enterR S n p) := by unfold openR; rw [if_pos h]
theorem open_1 {q : Int} (h : enterR S n p = 0) (h1 : recAt S n num = ([], q)) (hq : q ≠ 0) : openR S n p num ver = (⟨#[]⟩, 0, q) := by unfold openR; rw [if_neg (by simpa using h), h1, if_pos hq]
theorem open_2 (h : enterR S n p = 0) (h1 : recAt S n num = (recV S n num, 0)) (h2 : ver < 0 ∨ ((recV S n num).length : Int) < ver) : openR S n p num ver = (⟨#[]⟩, 0, 3) := by unfold openR; rw [if_neg (by simpa using h), h1, if_neg (by simp), if_pos h2]
theorem open_3 (h : enterR S n p = 0) (h1 : recAt S n num = (recV S n num, 0)) (h2 : ¬ (ver < 0 ∨ ((recV S n num).length : Int) < ver)) (j : Nat) (hj : j + 1 = if ver = 0 then (recV S n num).length else ver.toNat) (l : Lk) (hl : l = (recV S n num).getD j Lk.nil) : openR S n p num ver = if (fitsL (keyN n p) l && okL (keyN n p) l) = true then (textB (keyN n p) l, ((j + 1 : Nat) : Int), 0) else (⟨#[]⟩, 0, 112) := by
  unfold openR; rw [if_neg (by simpa using h), h1, if_neg (by simp), if_neg h2]
  simp only [← hj, Nat.add_sub_cancel, ← hl]
end
set_option maxRecDepth 100000 in
set_option maxHeartbeats 4000000 in
theorem ropen_any (S : PV) (al : Option Addr) (xs : List Lv) (c : Nat) (nm ps : ByteArray) (num ver : Int) (w : World) (hR : RvAt w S al xs) (hn : nm.size ≤ 1000) (hp : ps.size ≤ 1000) (hv0 : -9223372036854775808 ≤ ver) (hv1 : ver ≤ 9223372036854775807) :
    Calls Try.prog 53 #[rv false al xs.length c, .string nm, .string ps, .int .i64 num, .int .i64 ver] w (Ret (OpenV S nm ps num ver) w) := by
  have hen := hR.ent c nm ps (by omega) (by omega)
  have hvs := hR.vers false c nm num
  have hgn := hR.gone false c
  obtain ⟨en, hen2⟩ : ∃ z, z = enterR S nm ps := ⟨_, rfl⟩
  obtain ⟨dy, hdd⟩ : ∃ z, z = S.day := ⟨_, rfl⟩
  obtain ⟨n, hnn⟩ : ∃ z, z = xs.length := ⟨_, rfl⟩
  obtain ⟨R, hRR⟩ : ∃ z, z = recV S nm num := ⟨_, rfl⟩
  have hRl := hR.good.recV_len nm num
  have hRb := hR.good.said.recBody nm num
  have hRs : ∀ l ∈ recV S nm num, SmL l := fun l hl => by
    rw [← hR.good.said.vers] at hl
    unfold versL at hl
    exact hR.good.small.2 l (List.mem_filter.1 hl).1
  have r1 := hR.good.rec_1 (n := nm) (p := ps) (num := num)
  have r2 := hR.good.rec_2 (n := nm) (p := ps) (num := num)
  have r3 := hR.good.rec_3 (n := nm) (p := ps) (num := num)
  have s0 := open_0 (S := S) (n := nm) (p := ps) (num := num) (ver := ver)
  have s1 := fun q => open_1 (S := S) (n := nm) (p := ps) (num := num) (ver := ver) (q := q)
  have s2 := open_2 (S := S) (n := nm) (p := ps) (num := num) (ver := ver)
  have s3 := open_3 (S := S) (n := nm) (p := ps) (num := num) (ver := ver)
  rw [← hen2] at hen r1 r2 r3 s0 s1 s2 s3; rw [← hdd] at hgn r2 r3; rw [← hRR] at hvs hRl hRb hRs r1 r2 r3 s2 s3; rw [← hnn] at hen hvs hgn ⊢
  have HEN := Lib.hid hen; have HVS := Lib.hid hvs; have HGN := Lib.hid hgn; have HR := Lib.hid hR
  have R1 := Lib.hid r1; have R2 := Lib.hid r2; have R3 := Lib.hid r3; have S0 := Lib.hid s0; have S1 := Lib.hid s1; have S2 := Lib.hid s2; have S3 := Lib.hid s3; have HRL := Lib.hid hRl; have HRB := Lib.hid hRb; have HRS := Lib.hid hRs
  have hN := Lib.hid hn; have hP := Lib.hid hp
  have hend : Hid (∀ t k q, openR S nm ps num ver = (t, k, q) → ∀ W, Ext w W → Ret (OpenV S nm ps num ver) w (.returned (.tuple #[.string t, .int .i64 q])) W) := fun t k q h W e => by
    unfold OpenV; rw [h]; exact ⟨rfl, e⟩
  clear hen hvs hgn hen2 hdd hnn hR s0 s1 s2 s3 r1 r2 r3 hn hp hRR hRl hRb hRs
  go_enter Try.func53, Try.ntmps53
  go_upto_region 1 with fail
  generalize hw1 : World.alloc _ _ = w1
  obtain ⟨he, o1, hs1⟩ := alloc1 hw1
  have HE := Lib.hid he
  obtain ⟨v0, v1⟩ := obj_cells2 o1
  have E1 := Ext.refl w1
  clear hw1 o1
  go_wp2_with (fail)
  (with_reducible refine (HEN.out _ he).mono ?_); rintro e w2 ⟨rfl, he2⟩
  have E2 := Ext.refl w2
  by_cases h0 : en = 0
  · subst h0
    go_wp2_with (fail)
    (with_reducible refine (HVS.out _ (HE.out.trans he2)).mono ?_); rintro e w4 ⟨la, lc, ys, rfl, he4, hyl, hyo, hyr⟩
    have he14 := he2.trans he4
    have E4 := Ext.refl w4
    obtain ⟨m, hm⟩ : ∃ m, m = ys.length := ⟨_, rfl⟩
    have hm2 : m = R.length := by rw [hm, ← hyr, lks_len]
    have HYL := Lib.hid hyl; have HYO := Lib.hid hyo; have HYR := Lib.hid hyr; have HM := Lib.hid hm; have HM2 := Lib.hid hm2
    rw [← hm]
    have hm20 : m ≤ 20 := by rw [hm2]; exact HRL.out
    clear E2 he2 he4 hyl hyo hyr hm hm2
    by_cases hz : m = 0
    · have hnil : Hid (R = []) := List.length_eq_zero_iff.1 (by rw [← HM2.out]; exact hz)
      subst hz
      go_wp2_with (fail)
      go_ret2
      exact hend.out _ _ _ (S1.out 3 (by simp) (R1.out (by simp) hnil.out) (by omega)) _ (HE.out.trans he14)
    · have hnn : Hid (R ≠ []) := fun e => hz (by rw [HM2.out, e]; rfl)
      have hz1 : ¬ ((m : Int) = 0) := by omega
      have hgo := HGN.out la ys lc w4 (HE.out.trans he14) HYL.out (by rw [← HM.out]; omega)
      rw [← HM.out, HYR.out] at hgo
      obtain ⟨g, hg⟩ : ∃ g, g = decide (untilR R < dy) := ⟨_, rfl⟩
      rw [← hg] at hgo
      have HGO := Lib.hid hgo; have HG := Lib.hid hg
      clear hgo hg
      go_wp2_with (fail)
      (with_reducible refine HGO.out.mono ?_); rintro e w5 ⟨rfl, he5⟩
      have he15 := he14.trans he5
      have E5 := Ext.refl w5
      have HYL5 := Lib.hid (HYL.out.ext he5)
      clear E4 he14 he5
      cases g
      · have hrc := R3.out (by simp) hnn.out (by have := of_decide_eq_false HG.out.symm; omega)
        have HRC := Lib.hid hrc
        clear hrc
        by_cases h1 : ver < 0
        · go_wp2_with (fail)
          go_ret2
          exact hend.out _ _ _ (S2.out (by simp) HRC.out (.inl h1)) _ (HE.out.trans he15)
        · by_cases h2 : (m : Int) < ver
          · go_wp2_with (fail)
            go_ret2
            exact hend.out _ _ _ (S2.out (by simp) HRC.out (.inr (by rw [← HM2.out]; exact h2))) _ (HE.out.trans he15)
          · have hnb : Hid (¬ (ver < 0 ∨ (R.length : Int) < ver)) := by rw [Hid, ← HM2.out]; omega
            have htail : ∀ j : Nat, j < m → (j + 1 = if ver = 0 then R.length else ver.toNat) → ∃ x b o tb b1 b2, la = some ⟨b, o, none⟩ ∧ (∀ W, Ext w5 W → LinkC W b (o + j * 10) x) ∧ (∀ W, Ext w5 W → Calls Try.prog 84 #[u64 (keyN nm ps), lval x] W (Ret (.tuple #[.string tb, .bool b1, .bool b2]) W)) ∧ openR S nm ps num ver = if (b1 && b2) = true then (tb, ((j + 1 : Nat) : Int), 0) else (⟨#[]⟩, 0, 112) := fun j hj hjk => by
              have hjl : j < ys.length := by rw [← HM.out]; exact hj
              obtain ⟨b, o, hla, hc⟩ := HYL5.out.at j hjl
              have hxl : (lth ys j).l = R.getD j Lk.nil := by
                rw [← HYR.out, lth_eq _ _ hjl, List.getD_eq_getElem?_getD]
                simp [lks, hjl]
              have hmem : (lth ys j).l ∈ R := by
                rw [hxl, getD_lt _ (by rw [← HM2.out]; exact hj)]; exact List.getElem_mem _
              obtain ⟨q1, q2⟩ := HRB.out _ hmem
              refine ⟨lth ys j, b, o, textB (keyN nm ps) (lth ys j).l, fitsL (keyN nm ps) (lth ys j).l, okL (keyN nm ps) (lth ys j).l, hla, fun W e => hc W e, fun W e => ?_, S3.out (by simp) HRC.out hnb.out j hjk _ hxl⟩
              exact runsealed_any (keyN nm ps) (lth ys j) W (p61_64 (keyN_lt _ _)) (HYO.out j hjl) (by have := (HRS.out _ hmem).ki; omega) ((HYL5.out.2 j hjl).ext e) (by omega) q1
            have HT := Lib.hid htail
            have HK : Hid (∀ W, Calls Try.prog 17 #[.string nm, .string ps] W (Ret (u64 (keyN nm ps)) W)) := fun W => rkey_any nm ps W (by have := hN.out; omega) (by have := hP.out; omega)
            clear htail
            by_cases hv : ver = 0
            · obtain ⟨j, rfl⟩ : ∃ j, m = j + 1 := ⟨m - 1, by omega⟩
              obtain ⟨x, b, o, tb, b1, b2, rfl, hc, hu, hq⟩ := HT.out j (by omega) (by rw [if_pos hv, ← HM2.out])
              have hvv : ver = 0 := hv
              have HU := Lib.hid hu; have HQ := Lib.hid hq
              have c0 := fun W (e : Ext w5 W) => (hc W e).1
              have c1 := fun W (e : Ext w5 W) => (hc W e).2.1
              have c2 := fun W (e : Ext w5 W) => (hc W e).2.2.1
              have c3 := fun W (e : Ext w5 W) => (hc W e).2.2.2.1
              have c4 := fun W (e : Ext w5 W) => (hc W e).2.2.2.2.1
              have c5 := fun W (e : Ext w5 W) => (hc W e).2.2.2.2.2.1
              have c6 := fun W (e : Ext w5 W) => (hc W e).2.2.2.2.2.2.1
              have c7 := fun W (e : Ext w5 W) => (hc W e).2.2.2.2.2.2.2.1
              have c8 := fun W (e : Ext w5 W) => (hc W e).2.2.2.2.2.2.2.2.1
              have c9 := fun W (e : Ext w5 W) => (hc W e).2.2.2.2.2.2.2.2.2
              have hi0 : (0 : Int) ≤ (j : Int) := by omega
              have hr0 := Ext.refl w5
              clear hu hq hc
              go_upto_region 13 with fail
              refine wp_region_ext (by kernel_rfl) (by kernel_rfl) hr0 ?_
              repeat (first | go_big_quiet_step ((first | (go_at_call 17; exact Calls.later (HK.out _)) | (go_at_call 84; exact Calls.later (HU.out _ (Later.ok _))))) | quiet_step ((first | (go_at_call 17; exact Calls.later (HK.out _)) | (go_at_call 84; exact Calls.later (HU.out _ (Later.ok _))))))
              refine wpQuiet_nil ?_
              rintro _ ⟨nq, rfl⟩
              have he6 := nq.ok
              clear c0 c1 c2 c3 c4 c5 c6 c7 c8 c9
              cases b1 <;> cases b2
              all_goals
                have hq := HQ.out
                simp only [Bool.and_true, Bool.and_false, Bool.true_and, Bool.false_and, if_true, if_false, reduceCtorEq] at hq
                have HQ2 := Lib.hid hq
                clear hq
                go_wp2_with (fail)
                go_ret2
                exact hend.out _ _ _ HQ2.out _ ((HE.out.trans he15).trans he6)
            · obtain ⟨j, hj⟩ : ∃ j : Nat, ver = (j : Int) + 1 := ⟨ver.toNat - 1, by omega⟩
              obtain ⟨x, b, o, tb, b1, b2, rfl, hc, hu, hq⟩ := HT.out j (by omega) (by rw [if_neg hv]; omega)
              have HU := Lib.hid hu; have HQ := Lib.hid hq
              have c0 := fun W (e : Ext w5 W) => (hc W e).1
              have c1 := fun W (e : Ext w5 W) => (hc W e).2.1
              have c2 := fun W (e : Ext w5 W) => (hc W e).2.2.1
              have c3 := fun W (e : Ext w5 W) => (hc W e).2.2.2.1
              have c4 := fun W (e : Ext w5 W) => (hc W e).2.2.2.2.1
              have c5 := fun W (e : Ext w5 W) => (hc W e).2.2.2.2.2.1
              have c6 := fun W (e : Ext w5 W) => (hc W e).2.2.2.2.2.2.1
              have c7 := fun W (e : Ext w5 W) => (hc W e).2.2.2.2.2.2.2.1
              have c8 := fun W (e : Ext w5 W) => (hc W e).2.2.2.2.2.2.2.2.1
              have c9 := fun W (e : Ext w5 W) => (hc W e).2.2.2.2.2.2.2.2.2
              have hi0 : (0 : Int) ≤ (j : Int) := by omega
              have hr0 := Ext.refl w5
              clear hu hq hc
              go_upto_region 13 with fail
              refine wp_region_ext (by kernel_rfl) (by kernel_rfl) hr0 ?_
              repeat (first | go_big_quiet_step ((first | (go_at_call 17; exact Calls.later (HK.out _)) | (go_at_call 84; exact Calls.later (HU.out _ (Later.ok _))))) | quiet_step ((first | (go_at_call 17; exact Calls.later (HK.out _)) | (go_at_call 84; exact Calls.later (HU.out _ (Later.ok _))))))
              refine wpQuiet_nil ?_
              rintro _ ⟨nq, rfl⟩
              have he6 := nq.ok
              clear c0 c1 c2 c3 c4 c5 c6 c7 c8 c9
              cases b1 <;> cases b2
              all_goals
                have hq := HQ.out
                simp only [Bool.and_true, Bool.and_false, Bool.true_and, Bool.false_and, if_true, if_false, reduceCtorEq] at hq
                have HQ2 := Lib.hid hq
                clear hq
                go_wp2_with (fail)
                go_ret2
                exact hend.out _ _ _ HQ2.out _ ((HE.out.trans he15).trans he6)
      · have hrc := R2.out (by simp) hnn.out (of_decide_eq_true HG.out.symm)
        have h4 := S1.out 111 (by simp) hrc (by omega)
        have H4 := Lib.hid h4
        clear h4 hrc
        go_wp2_with (fail)
        go_ret2
        exact hend.out _ _ _ H4.out _ (HE.out.trans he15)
  · have h0' : (en == 0) = false := by simpa using h0
    go_wp2_with (fail)
    go_ret2
    exact hend.out _ _ _ (S0.out h0) _ (HE.out.trans he2)
end Go.Proofs.Ytlahejakcgoheaa
