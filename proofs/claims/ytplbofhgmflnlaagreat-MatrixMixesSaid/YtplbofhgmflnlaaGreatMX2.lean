/-
  Walk: the law MatrixMixes.
-/
import Derived.Test.YtplbofhgmflnlaaGreatMX1
set_option linter.unusedVariables false
set_option linter.unusedSimpArgs false
namespace Go.Proofs.YtplbofhgmflnlaaGreat
open Go.RowKit
theorem mx_check {P : Pw} {vs : List (Sl Int)} (hb : planBad P = false) (hn : vs.length ≤ 2000) (h : ∀ i, i < vs.length → levB P.fs (vth vs i).xs = true ∧ alwB P.fo (vth vs i).xs = true) : checkE P (seOf vs) = 0 := by
  unfold checkE
  rw [hb, if_neg (by simp), if_neg (by rw [seOf_len]; omega), if_neg]
  unfold anySetBad
  simp only [Bool.not_eq_true, List.any_eq_false]
  intro s hs
  obtain ⟨i, hi, rfl⟩ := List.getElem_of_mem hs
  rw [seOf_len] at hi
  obtain ⟨h1, h2⟩ := h i hi
  rw [← eth_eq _ _ (by rw [seOf_len]; exact hi), seOf_at _ _ hi]
  simp [setBad, h1, h2]
set_option maxRecDepth 100000 in
set_option maxHeartbeats 4000000 in
theorem mx_wide (P : Pw) (sd : Int) (w : World) (hp : PlanAt w P) (hgl : ∀ i, i < P.fo.length → (gth P.fo i).xs.length ≤ 9223372036854775807) (h : wideP P.fs P.fo = true) :
    Calls Tryz.prog 4 #[planV P, .int .u64 sd] w (Ret (.bool true) w) := by
  have hwp := fun W (e : Ext w W) => wideP_any P.fs P.fo P.fa P.ga P.fc P.gc W (hp.ext e).fo hgl
  obtain ⟨fs, fa, fc, fo, ga, gc⟩ := P
  simp only at hwp h
  rw [h] at hwp
  have HWP := Lib.hid hwp
  clear hwp hp hgl h
  go_enter Tryz.func4, Tryz.ntmps4
  go_wp2_with (fail)
  generalize hw1 : World.alloc _ _ = w1
  obtain ⟨he, o1, -⟩ := alloc1 hw1
  obtain ⟨b0, b1⟩ := obj_cells2 o1
  have E1 := Ext.refl w1
  have HE := Lib.hid he
  clear hw1 o1 he
  go_wp2_with (first
    | (go_at_call 15; (with_reducible refine (HWP.out _ HE.out).mono ?_); rintro e w2 ⟨rfl, he2⟩; have HE2 : Hid (Ext w w2) := HE.out.trans he2)
    | (go_at_call 17; (with_reducible refine (known_any _).mono ?_); rintro e w4 ⟨rfl, he4⟩))
  go_ret
  exact ⟨rfl, HE2.out.trans he4⟩
set_option maxRecDepth 100000 in
set_option maxHeartbeats 4000000 in
theorem mx_err (P : Pw) (sd : Int) (w : World) (hp : PlanAt w P) (hb : PlanB P) (h : wideP P.fs P.fo = false) (q : Int) (hq0 : q ≠ 0) (hst : ∀ W, Ext w W → Calls Tryz.prog 22 #[planV P] W (Ret (.tuple #[.slice none 0 0, .int .i64 q]) W)) :
    Calls Tryz.prog 4 #[planV P, .int .u64 sd] w (Ret (.bool true) w) := by
  have hwp := fun W (e : Ext w W) => wideP_any P.fs P.fo P.fa P.ga P.fc P.gc W (hp.ext e).fo (fun i hi => by have := hb.pl i hi; omega)
  obtain ⟨fs, fa, fc, fo, ga, gc⟩ := P
  simp only at hwp h
  rw [h] at hwp
  have HWP := Lib.hid hwp; have HST := Lib.hid hst
  have hq : (q != 0) = true := by simpa using hq0
  clear hwp hp hb h hst hq0
  go_enter Tryz.func4, Tryz.ntmps4
  go_wp2_with (fail)
  generalize hw1 : World.alloc _ _ = w1
  obtain ⟨he, o1, -⟩ := alloc1 hw1
  obtain ⟨b0, b1⟩ := obj_cells2 o1
  have E1 := Ext.refl w1
  have HE := Lib.hid he
  clear hw1 o1 he
  go_wp2_with (first
    | (go_at_call 15; (with_reducible refine (HWP.out _ HE.out).mono ?_); rintro e w2 ⟨rfl, he2⟩; have HE2 : Hid (Ext w w2) := HE.out.trans he2)
    | (go_at_call 22; (with_reducible refine (HST.out _ HE2.out).mono ?_); rintro e w3 ⟨rfl, he3⟩; have HE3 : Hid (Ext w w3) := HE2.out.trans he3)
    | (go_at_call 17; (with_reducible refine (known_any _).mono ?_); rintro e w4 ⟨rfl, he4⟩))
  go_ret
  exact ⟨rfl, HE3.out.trans he4⟩
set_option maxRecDepth 100000 in
set_option maxHeartbeats 4000000 in
theorem mx_long (P : Pw) (sd : Int) (w : World) (hp : PlanAt w P) (hb : PlanB P) (h : wideP P.fs P.fo = false) (n : Nat) (hn : 30 < n) (hst : ∀ W, Ext w W → Calls Tryz.prog 22 #[planV P] W (fun e w' => ∃ a c, e = .returned (.tuple #[.slice a n c, .int .i64 0]) ∧ Ext W w')) :
    Calls Tryz.prog 4 #[planV P, .int .u64 sd] w (Ret (.bool true) w) := by
  have hwp := fun W (e : Ext w W) => wideP_any P.fs P.fo P.fa P.ga P.fc P.gc W (hp.ext e).fo (fun i hi => by have := hb.pl i hi; omega)
  obtain ⟨fs, fa, fc, fo, ga, gc⟩ := P
  simp only at hwp h
  rw [h] at hwp
  have HWP := Lib.hid hwp; have HST := Lib.hid hst
  have hq : 30 < (n : Int) := by omega
  clear hwp hp hb h hst hn
  go_enter Tryz.func4, Tryz.ntmps4
  go_wp2_with (fail)
  generalize hw1 : World.alloc _ _ = w1
  obtain ⟨he, o1, -⟩ := alloc1 hw1
  obtain ⟨b0, b1⟩ := obj_cells2 o1
  have E1 := Ext.refl w1
  have HE := Lib.hid he
  clear hw1 o1 he
  go_wp2_with (first
    | (go_at_call 15; (with_reducible refine (HWP.out _ HE.out).mono ?_); rintro e w2 ⟨rfl, he2⟩; have HE2 : Hid (Ext w w2) := HE.out.trans he2)
    | (go_at_call 22; (with_reducible refine (HST.out _ HE2.out).mono ?_); rintro e w3 ⟨va, vc, rfl, he3⟩; have HE3 : Hid (Ext w w3) := HE2.out.trans he3)
    | (go_at_call 17; (with_reducible refine (known_any _).mono ?_); rintro e w4 ⟨rfl, he4⟩))
  go_ret
  exact ⟨rfl, HE3.out.trans he4⟩
/-- What the settings are: sorted, allowed. -/
structure MxL (P : Pw) (vs : List (Sl Int)) : Prop where
  lex : ∀ i, i + 1 < vs.length → lexN P.fs.length (vth vs i).xs (vth vs (i + 1)).xs
  ok : ∀ i, i < vs.length → levB P.fs (vth vs i).xs = true ∧ alwB P.fo (vth vs i).xs = true
theorem mxL_of {P : Pw} {vs : List (Sl Int)} (hb : planBad P = false) (h : vs.map (·.xs) = settingsS P) : MxL P vs := by
  have hf := fun i hi => (anyFac_off (planOk hb).2.2.1 i hi).1
  have hf1 : ∀ i, i < P.fs.length → 1 ≤ (fth P.fs i).lev := fun i hi => hf i hi
  have hlen : ∀ i (hi : i < vs.length), (vth vs i).xs = (settingsS P)[i]'(by rw [← h]; simpa using hi) := fun i hi => by
    rw [vth_eq _ _ hi]
    simp only [← h, List.getElem_map]
  have hl : (settingsS P).length = vs.length := by rw [← h]; simp
  refine ⟨fun i hi => ?_, fun i hi => ?_⟩
  · rw [hlen i (by omega), hlen (i + 1) hi]
    exact List.pairwise_iff_getElem.1 (outK_lex P.fo hf1 (Nat.le_refl _)) i (i + 1) _ _ (by omega)
  · rw [hlen i hi]
    exact outK_mem hf1 (List.getElem_mem _)
set_option maxRecDepth 100000 in
set_option maxHeartbeats 8000000 in
theorem mx_main (P : Pw) (sd : Int) (w : World) (hp : PlanAt w P) (hb : PlanB P) (h : wideP P.fs P.fo = false) (hpb : planBad P = false) (n : Nat) (hn : n ≤ 30) (hst : ∀ W, Ext w W → Calls Tryz.prog 22 #[planV P] W (fun e w' => ∃ a vs c, e = .returned (.tuple #[.slice a n c, .int .i64 0]) ∧ Ext W w' ∧ vs.length = n ∧ MxL P vs ∧ Vecs w' a vs ∧ ∀ i, i < vs.length → Ints w' (vth vs i).a (vth vs i).xs)) :
    Calls Tryz.prog 4 #[planV P, .int .u64 sd] w (Ret (.bool true) w) := by
  have hwp := fun W (e : Ext w W) => wideP_any P.fs P.fo P.fa P.ga P.fc P.gc W (hp.ext e).fo (fun i hi => by have := hb.pl i hi; omega)
  have hal := fun W (e : Ext w W) (v : Sl Int) (h1 : levB P.fs v.xs = true) (h2 : alwB P.fo v.xs = true) (h3 : Ints W v.a v.xs) => Allowed_any P v.a v.xs v.c W (hp.ext e) hb h3 (by rw [levB_len h1]; have := hb.fl; omega)
  have HAL : Hid (∀ W, Ext w W → ∀ v : Sl Int, levB P.fs v.xs = true → alwB P.fo v.xs = true → Ints W v.a v.xs → Calls Tryz.prog 23 #[planV P, .slice v.a v.xs.length v.c] W (Ret (.tuple #[.bool true, .int .i64 0]) W)) := fun W e v h1 h2 h3 => by
    have := hal W e v h1 h2 h3
    unfold AllowedV at this
    rw [hpb, h1, h2] at this
    exact this
  have HMN := Lib.hid (run_madeT 50 Tryz.underlying50 n (by omega))
  have HSH : Hid (∀ W, Calls Tryz.prog 21 #[.int .u64 sd, .int .i64 n] W (fun e w' => ∃ g c, e = .returned (.tuple #[.slice (some ⟨g, 0, none⟩) n c, .int .i64 0]) ∧ Ext W w' ∧ Ints w' (some ⟨g, 0, none⟩) (shufL sd (rngI n)) ∧ n ≤ c)) := fun W =>
    (Shuffle_ok sd n W (by omega)).mono (by
      rintro e w' ⟨g, c, rfl, he, ho⟩
      exact ⟨g, c, rfl, he, ho.ints.1, ho.ints.2.2⟩)
  obtain ⟨xs, hxs⟩ : ∃ xs, xs = shufL sd (rngI n) := ⟨_, rfl⟩
  have hperm : xs.Perm (rngI n) := by rw [hxs]; exact shufL_perm _ _ (by rw [rngI_len]; omega)
  rw [← hxs] at HSH
  have hpl := planOk hpb
  have hfc := fun i hi => (anyFac_off hpl.2.2.1 i hi).2.2
  have HCL : Hid (∀ W a c (vs : List (Sl Int)) oa oc, Ext w W → vs.length = n → MxL P vs → SetsAt W a (seOf vs) → n ≤ c → Ints W oa xs → n ≤ oc →
      Calls Tryz.prog 19 #[planV P, .slice a n c, .slice oa n oc] W (Ret (.tuple #[.int .i64 (chgV P.fs (seOf vs) xs), .int .i64 0]) W) ∧
      ∀ W2, Ext W W2 → Calls Tryz.prog 20 #[planV P, .slice a n c] W2 (fun e w' => ∃ z, e = .returned (.tuple #[.int .i64 z, .int .i64 0]) ∧ Ext W2 w' ∧ z ≤ chgV P.fs (seOf vs) xs)) := fun W a c vs oa oc e hl hm hs hc hi hoc => by
    have h0 := mx_check hpb (by omega) hm.ok
    have hls : (seOf vs).length = n := by rw [seOf_len, hl]
    have hle : ∀ i, i < (seOf vs).length → (eth (seOf vs) i).lv.xs.length ≤ 9223372036854775807 := fun i hi => by
      rw [seOf_len] at hi
      rw [seOf_at _ _ hi]
      show (vth vs i).xs.length ≤ _
      rw [levB_len (hm.ok i hi).1]; have := hb.fl; omega
    have hxl : xs.length = n := by rw [hperm.length_eq, rngI_len]
    constructor
    · have := Changes_ok P a (seOf vs) c oa xs oc W (hp.ext e) hb hs (by omega) hle h0 hi (by omega) (by omega)
      rw [hls, hxl, if_pos hperm] at this
      exact this
    · intro W2 e2
      have := least_ok sortEd sortEdN P a (seOf vs) c W2 (hp.ext (e.trans e2)) hb (hs.ext e2) (by omega) (by omega) hle h0
      rw [hls] at this
      refine this.mono ?_
      rintro e w' ⟨es, p1, p2, rfl, he⟩
      refine ⟨_, rfl, he, ?_⟩
      rcases Nat.eq_zero_or_pos n with h0 | h0
      · subst h0
        have : es = [] := p1.eq_nil
        have : xs = [] := hperm.eq_nil
        subst_vars
        rw [this]; exact Int.le_refl _
      · exact kru_path (M := 8000) p1 p2 h0 (fun a b _ _ => costM_bd _ hpl.1 hfc a b) (costM_sym _ _) (perm_nat hperm)
  obtain ⟨fs, fa, fc, fo, ga, gc⟩ := P
  simp only at hwp h
  rw [h] at hwp
  have HWP := Lib.hid hwp; have HST := Lib.hid hst
  have HPM := Lib.hid hperm; have HFC := Lib.hid hfc; have HPL := Lib.hid hpl.1
  have HP := Lib.hid hp
  have hn1 : ¬ 30 < (n : Int) := by omega
  clear hwp hst hp hb h hxs hperm hal hpl hfc hpb
  go_enter Tryz.func4, Tryz.ntmps4
  go_wp2_with (fail)
  generalize hw1 : World.alloc _ _ = w1
  obtain ⟨he, o1, -⟩ := alloc1 hw1
  obtain ⟨b0, b1⟩ := obj_cells2 o1
  have E1 := Ext.refl w1
  have HE := Lib.hid he
  clear hw1 o1 he
  go_wp2_with (first
    | (go_at_call 15; (with_reducible refine (HWP.out _ HE.out).mono ?_); rintro e w2 ⟨rfl, he2⟩; have HE2 : Hid (Ext w w2) := HE.out.trans he2)
    | (go_at_call 22; (with_reducible refine (HST.out _ HE2.out).mono ?_); rintro e w3 ⟨va, vs, vc, rfl, he3, hvl, hm3, hv3, hi3⟩; have HE3 : Hid (Ext w1 w3) := he2.trans he3; have HVL := Lib.hid hvl; have HM := Lib.hid hm3; have HV3 := Lib.hid hv3; have HI3 := Lib.hid hi3; clear hvl hm3 hv3 hi3))
  obtain ⟨B, hB⟩ : ∃ B, B = w3.heap.size := ⟨_, rfl⟩
  have HO4 : Hid (OwnS (w3.alloc (.cells #[] 49)) B (.slice (some ⟨B, 0, none⟩) 0 0) (seOf (vs.take 0))) := by rw [hB]; exact own_empty w3 49 2
  have HX4 : Hid (Ext w3 (w3.alloc (.cells #[] 49))) := (Ext.refl _).alloc _
  have HB := Lib.hid hB
  rw [← hB]
  have HEW : Hid (Ext w w3) := HE.out.trans HE3.out
  clear HWP HST HE2 he2 he3 hB
  go_loopw [7, 8, 9, 10] (fun v i _ _ wr => ∃ (k : Nat), k ≤ n ∧ i = .int .i64 k ∧ Hid (Ext w3 wr) ∧ Hid (OwnS wr B v (seOf (vs.take k)))) (fun _ i _ _ _ => n - (intOf i).toNat)
  case atStart => exact ⟨0, Nat.zero_le _, rfl, HX4.out, HO4.out⟩
  case round =>
    obtain ⟨k, hk, rfl, HX, HO⟩ := hrel
    by_cases hlt : k < n
    · have hkv : k < vs.length := by rw [HVL.out]; exact hlt
      obtain ⟨vb, vo, rfl, c0⟩ := vec_at (HV3.out.ext vecC_len HX.out) k hkv
      have HIK := Lib.hid ((HI3.out k hkv).ext HX.out)
      obtain ⟨hm1, hm2⟩ := HM.out.ok k hkv
      have HTK := Lib.hid (seOf_take vs k hkv)
      have p0 := fun W (e : Ext wr W) => b0 W ((HE3.out.trans HX.out).trans e)
      have p1 := fun W (e : Ext wr W) => b1 W ((HE3.out.trans HX.out).trans e)
      obtain ⟨x, hx⟩ : ∃ x, x = vth vs k := ⟨_, rfl⟩
      rw [← hx] at c0 HIK hm1 hm2 HTK
      have HA1 : Hid (∀ W, Ext wr W → Calls Tryz.prog 23 #[.agg #[.slice fa fs.length fc, .slice ga fo.length gc], .slice x.a x.xs.length x.c] W (Ret (.tuple #[.bool true, .int .i64 0]) W)) := fun W e =>
        HAL.out W ((HEW.out.trans HX.out).trans e) x hm1 hm2 (HIK.out.ext e)
      have Er := Ext.refl wr
      have HXL : Hid (x.xs.length = fs.length) := levB_len hm1
      have HXE := Lib.hid hx
      clear hm1 hm2 hkv hx
      by_cases hk0 : k = 0
      · subst hk0
        rw [Nat.add_zero] at c0
        go_upto_region 10 with fail
        refine wp_region_ext (by kernel_rfl) (by kernel_rfl) Er ?_
        repeat (first | go_big_quiet_step ((go_at_call 23; exact Calls.later (HA1.out _ (Later.ok _)))) | quiet_step ((go_at_call 23; exact Calls.later (HA1.out _ (Later.ok _)))))
        refine wpQuiet_nil ?_
        rintro _ ⟨nq, rfl⟩
        have hq := nq.ok
        go_upto_region 11 with fail
        refine wp_region_ext (by kernel_rfl) (by kernel_rfl) hq ?_
        repeat (first | go_big_quiet_step (fail) | quiet_step (fail))
        refine wpQuiet_nil ?_
        rintro _ ⟨nq2, rfl⟩
        have hq2 := nq2.ok
        generalize nq2.val = w5 at *
        have HX5 : Hid (Ext w3 w5) := HX.out.trans hq2
        have HAP := Lib.hid (app_set (w5.alloc (.cells #[.slice x.a x.xs.length x.c, .int .i64 0] 49)) B 26 _ (seOf (vs.take 0)) [⟨x, 0⟩] (some ⟨w5.heap.size, 0, none⟩) 1 ((HO.out.ext hq2).ext ((Ext.refl _).alloc _)) (set_one (x := ⟨x, 0⟩) (heap_new _ _)) (by simp [seOf_len]) (by have := HX5.out.size; rw [heap_size, HB.out]; omega))
        rw [← HTK.out] at HAP
        have d0 := fun W (e : Ext w5 W) => c0 W (hq2.trans e)
        have HBK := Lib.hid (ownS_block HO.out)
        go_wp2_with (at_builtin; refine wpList_app _ rfl _ _ 26 rfl _ HAP.out ?_; rintro v2 w6 ⟨hv, hg⟩; have HG : Hid (Ext w3 w6) := grown_ext (HX5.out.alloc _) hg (fun k hk => by have := HBK.out k hk; rw [HB.out] at this; exact this); have HV2 := Lib.hid hv; clear HAP hg hv)
        go_roundw
        case rel => exact ⟨0 + 1, by omega, by go_num, HG.out, HV2.out⟩
        case measure => simp [intOf]; omega
      · obtain ⟨y, rfl⟩ : ∃ y, k = y + 1 := ⟨k - 1, by omega⟩
        have hyv : y < vs.length := by rw [HVL.out]; omega
        obtain ⟨vb', vo', hvb, c1⟩ := vec_at (HV3.out.ext vecC_len HX.out) y hyv
        simp only [Option.some.injEq, Addr.mk.injEq, and_true] at hvb
        obtain ⟨rfl, rfl⟩ := hvb
        have HLX := Lib.hid (HM.out.lex y (by rw [HVL.out]; exact hlt))
        have HIZ := Lib.hid ((HI3.out y hyv).ext HX.out)
        have HZL : Hid ((vth vs y).xs.length = fs.length) := levB_len (HM.out.ok y hyv).1
        rw [← HXE.out] at HLX
        obtain ⟨z, hz⟩ : ∃ z, z = vth vs y := ⟨_, rfl⟩
        rw [← hz] at c1 HLX HIZ HZL
        have HLS : Hid (∀ W, Ext wr W → Calls Tryz.prog 24 #[.slice z.a z.xs.length z.c, .slice x.a x.xs.length x.c] W (Ret (.bool true) W)) := fun W e => by
          have hzx : x.xs.length = z.xs.length := by rw [HXL.out, HZL.out]
          rw [hzx]
          refine less_any z.xs x.xs z.a x.a z.xs.length z.c x.c W (HIZ.out.ext e) (HIK.out.ext e) rfl hzx ?_ ?_
          · have := HPL.out; have := HZL.out; simp only at *; omega
          · have := HLX.out; rw [HZL.out]; exact this
        have hyx : ((y + 1 : Nat) : Int) - 1 = (y : Int) := by omega
        have hwx : IntKind.i64.wrap (y : Int) = (y : Int) := by rw [IntKind.wrap_i64]; omega
        have hyn : (y : Int) < (n : Int) := by omega
        have hy0 : (0 : Int) ≤ (y : Int) := by omega
        have hy1 : (0 : Int) < ((y + 1 : Nat) : Int) := by omega
        clear hz hyv HIZ HZL HLX
        go_upto_region 10 with fail
        refine wp_region_ext (by kernel_rfl) (by kernel_rfl) Er ?_
        repeat (first | go_big_quiet_step ((go_at_call 23; exact Calls.later (HA1.out _ (Later.ok _)))) | quiet_step ((go_at_call 23; exact Calls.later (HA1.out _ (Later.ok _)))))
        refine wpQuiet_nil ?_
        rintro _ ⟨nq, rfl⟩
        have hq := nq.ok
        go_upto_region 11 with fail
        refine wp_region_ext (by kernel_rfl) (by kernel_rfl) hq ?_
        repeat (first | go_big_quiet_step ((go_at_call 24; exact Calls.later (HLS.out _ (Later.ok _)))) | quiet_step ((go_at_call 24; exact Calls.later (HLS.out _ (Later.ok _)))))
        refine wpQuiet_nil ?_
        rintro _ ⟨nq2, rfl⟩
        have hq2 := nq2.ok
        generalize nq2.val = w5 at *
        have HX5 : Hid (Ext w3 w5) := HX.out.trans hq2
        have HAP := Lib.hid (app_set (w5.alloc (.cells #[.slice x.a x.xs.length x.c, .int .i64 0] 49)) B 26 _ (seOf (vs.take (y + 1))) [⟨x, 0⟩] (some ⟨w5.heap.size, 0, none⟩) 1 ((HO.out.ext hq2).ext ((Ext.refl _).alloc _)) (set_one (x := ⟨x, 0⟩) (heap_new _ _)) (by rw [seOf_len, List.length_take]; simp; omega) (by have := HX5.out.size; rw [heap_size, HB.out]; omega))
        rw [← HTK.out] at HAP
        have d0 := fun W (e : Ext w5 W) => c0 W (hq2.trans e)
        have HBK := Lib.hid (ownS_block HO.out)
        go_wp2_with (at_builtin; refine wpList_app _ rfl _ _ 26 rfl _ HAP.out ?_; rintro v2 w6 ⟨hv, hg⟩; have HG : Hid (Ext w3 w6) := grown_ext (HX5.out.alloc _) hg (fun k hk => by have := HBK.out k hk; rw [HB.out] at this; exact this); have HV2 := Lib.hid hv; clear HAP hg hv)
        go_roundw
        case rel => exact ⟨y + 1 + 1, by omega, by go_num, HG.out, HV2.out⟩
        case measure => simp [intOf]; omega
    · obtain rfl : k = n := by omega
      obtain ⟨sa, sn, scap, rfl⟩ := ownS_slice HO.out
      have htk : vs.take k = vs := List.take_of_length_le (by rw [HVL.out]; exact Nat.le_refl _)
      rw [htk] at HO
      obtain ⟨hsn, hcap⟩ := OwnF.lens HO.out
      rw [seOf_len, HVL.out] at hsn
      subst hsn
      have HS : Hid (SetsAt wr sa (seOf vs)) := ⟨RowAt.own setC_len HO.out, fun i hi => by
        rw [seOf_len] at hi
        rw [seOf_at _ _ hi]
        exact (HI3.out i hi).ext HX.out⟩
      have HCP := Lib.hid hcap
      have HE1R : Hid (Ext w1 wr) := HE3.out.trans HX.out
      have HEWR : Hid (Ext w wr) := HEW.out.trans HX.out
      have HVR : Hid (Vecs wr va vs) := HV3.out.ext vecC_len HX.out
      have HIR : Hid (∀ i, i < vs.length → Ints wr (vth vs i).a (vth vs i).xs) := fun i hi => (HI3.out i hi).ext HX.out
      have hmn := HMN.out
      clear HO HX HV3 HI3 HB HEW HE3 HO4 HX4 HAL htk hlt hk HMN hcap
      go_wp2_with (first
        | (go_at_call 21; (with_reducible refine (HSH.out _).mono ?_); rintro e w6 ⟨og, oc, rfl, he6, hi6, hoc6⟩; have HI6 := Lib.hid hi6; have HC := Lib.hid (HCL.out w6 sa scap vs (some ⟨og, 0, none⟩) oc (HEWR.out.trans he6) HVL.out HM.out (HS.out.ext he6) HCP.out hi6 hoc6); have he16 : Ext w1 w6 := HE1R.out.trans he6; clear hi6 hoc6)
        | (go_at_call 19; (with_reducible refine HC.out.1.mono ?_); rintro e w7 ⟨rfl, he7⟩; have he17 : Ext w1 w7 := he16.trans he7)
        | (go_at_call 20; (with_reducible refine (HC.out.2 _ he7).mono ?_); rintro e w8 ⟨z, rfl, he8, hz8⟩))
      have HXL : Hid (xs.length = sn) := by rw [Hid, HPM.out.length_eq, rngI_len]
      have HND : Hid (∀ k, k < sn → ¬ nth xs k ∈ xs.take k) := fun k hk hm => by
        have hnd : xs.Nodup := HPM.out.nodup_iff.2 (by rw [rngI_nat]; unfold natI; exact List.Pairwise.map _ (fun a b h => by omega) List.nodup_range)
        have hkl : k < xs.length := by rw [HXL.out]; exact hk
        rw [nth_eq _ _ hkl] at hm
        obtain ⟨i, hi, he⟩ := List.getElem_of_mem hm
        rw [List.getElem_take] at he
        rw [List.length_take] at hi
        have := (List.getElem_inj hnd).1 he
        omega
      have HIX : Hid (∀ k, k < sn → ∃ p : Nat, p < sn ∧ nth xs k = (p : Int)) := fun k hk => by
        have : nth xs k ∈ xs := by rw [nth_eq _ _ (by rw [HXL.out]; exact hk)]; exact List.getElem_mem _
        exact rngI_mem.1 (HPM.out.mem_iff.1 this)
      have HCH : Hid (∀ k, k + 1 < sn → chgV fs (seOf vs) (xs.take (k + 2)) = chgV fs (seOf vs) (xs.take (k + 1)) + costM fs (seOf vs) (nth xs k).toNat (nth xs (k + 1)).toNat) := fun k hk => chg_succ _ _ _ k (by rw [HXL.out]; omega)
      have HC1 : Hid (chgV fs (seOf vs) (xs.take 1) = 0) := chg_one _ _ _
      have HC0 : Hid (chgV fs (seOf vs) (xs.take 0) = 0) := rfl
      have HCN : Hid (chgV fs (seOf vs) (xs.take sn) = chgV fs (seOf vs) xs) := by rw [Hid, List.take_of_length_le (by rw [HXL.out]; exact Nat.le_refl _)]
      have HTK : Hid (∀ k, k < sn → xs.take (k + 1) = xs.take k ++ [nth xs k]) := fun k hk => take_nth (by rw [HXL.out]; exact hk)
      obtain ⟨CH, hCH⟩ : ∃ CH : Nat → Int, CH = fun k => chgV fs (seOf vs) (xs.take k) := ⟨_, rfl⟩
      have e0 : ∀ k, chgV fs (seOf vs) (xs.take k) = CH k := fun k => by rw [hCH]
      simp only [e0] at HCH HC1 HC0 HCN
      have HCB : Hid (∀ p q, 0 ≤ costM fs (seOf vs) p q ∧ costM fs (seOf vs) p q ≤ 8000) := fun p q => costM_bd _ HPL.out HFC.out p q
      have HBD : Hid (∀ k, k ≤ sn → 0 ≤ CH k ∧ CH k ≤ 8000 * (k : Int)) := fun k => by
        match k with
        | 0 => intro _; rw [HC0.out]; omega
        | 1 => intro _; rw [HC1.out]; omega
        | k + 2 =>
          intro h
          induction k with
          | zero => rw [HCH.out 0 h, HC1.out]; have := HCB.out (nth xs 0).toNat (nth xs (0 + 1)).toNat; omega
          | succ k ih =>
            rw [HCH.out (k + 1) h]
            have h1 := ih (by omega)
            have e : CH (k + 1 + 1) = CH (k + 2) := rfl
            have := HCB.out (nth xs (k + 1)).toNat (nth xs (k + 1 + 1)).toNat
            omega
      rw [← HCN.out] at hz8 ⊢
      obtain ⟨S, hS⟩ : ∃ S, S = CH sn := ⟨_, rfl⟩
      have HSN := Lib.hid hS
      rw [← hS] at hz8 ⊢
      have HW18 : Hid (Ext w1 w8) := he17.trans he8
      have HW8 : Hid (Ext w w8) := HEWR.out.trans (he6.trans (he7.trans he8))
      have HV8 : Hid (Vecs w8 va vs) := HVR.out.ext vecC_len (he6.trans (he7.trans he8))
      have HI8 : Hid (∀ i, i < vs.length → Ints w8 (vth vs i).a (vth vs i).xs) := fun i hi => (HIR.out i hi).ext (he6.trans (he7.trans he8))
      have HO8 : Hid (Ints w8 (some ⟨og, 0, none⟩) xs) := HI6.out.ext (he7.trans he8)
      generalize hw9 : madeT w8 sn = w9
      obtain ⟨he9, ho9, hs9⟩ := madeT_facts (by omega) hw9
      obtain ⟨g, hg⟩ : ∃ g, g = w8.heap.size := ⟨_, rfl⟩
      rw [← hg] at ho9 hs9 ⊢
      rw [← BIT_nil] at ho9
      have HX9 := Lib.hid he9; have HO9 := Lib.hid ho9; have HGG := Lib.hid hg
      clear hmn HC he16 he17 he6 he7 he8 HI6 HIR HVR HEWR HE1R HS hw9 he9 ho9 hs9 hg e0 hCH HCN hS HSH HCL
      go_loopw [16, 18, 19] (fun t i _ wr => ∃ k : Nat, k ≤ sn ∧ i = .int .i64 k ∧ t = .int .i64 (CH k) ∧ Hid (Ext w8 wr) ∧ Hid (OwnT wr g (.slice (some ⟨g, 0, none⟩) sn sn) (BIT sn (xs.take k)))) (fun _ i _ _ => sn - (intOf i).toNat)
      case atStart => exact ⟨0, Nat.zero_le _, rfl, by rw [HC0.out], HX9.out, HO9.out⟩
      case round =>
        obtain ⟨k, hk, rfl, rfl, HX, HT⟩ := hrel
        by_cases hlt : k < sn
        · obtain ⟨p, hp, hpe⟩ := HIX.out k hlt
          obtain ⟨b', o', h1, e1⟩ := (HO8.out.ext HX.out).at k (by rw [HXL.out]; exact hlt)
          simp only [Option.some.injEq, Addr.mk.injEq, and_true] at h1
          obtain ⟨rfl, rfl⟩ := h1
          rw [hpe, Nat.zero_add] at e1
          have hpl : p < (BIT sn (xs.take k)).length := by rw [BIT_len]; exact hp
          have hseen : wr.cell? ⟨g, p, none⟩ = some (.bool false) := by
            obtain ⟨g', hg', -, -, hc⟩ := OwnF.cell bitC_len HT.out p hpl
            simp only [Option.some.injEq, Addr.mk.injEq, and_true] at hg'
            obtain rfl := hg'
            have := hc 0 (by omega)
            have hnd := HND.out k hlt
            rw [hpe] at hnd
            rw [BIT_at _ _ _ hp, decide_eq_false hnd] at this
            simpa [bitC] using this
          have hfr : wr.frozen? ⟨g, p, none⟩ = false := by
            have h := HT.out
            unfold OwnT OwnF at h
            rw [BIT_len] at h
            exact World.ownsRow.frozenAt h p
          have HT2 : Hid (OwnT (wr.setCell ⟨g, p, none⟩ (.bool true)) g (.slice (some ⟨g, 0, none⟩) sn sn) (BIT sn (xs.take (k + 1)))) := by
            have := OwnF.setCell1 bitC_len HT.out p hpl 0 (by omega) (.bool true) true (by rw [BIT_at _ _ _ hp]; rfl)
            rw [Nat.mul_one, Nat.add_zero, BIT_set] at this
            rw [HTK.out k hlt, hpe]; exact this
          have HX2 : Hid (Ext w8 (wr.setCell ⟨g, p, none⟩ (.bool true))) := HX.out.set (by rw [HGG.out]; exact Nat.le_refl _) _
          have hp0 : (0 : Int) ≤ (p : Int) := by omega
          have hpn : (p : Int) < (sn : Int) := by omega
          clear hpl HT
          go_upto_region 27 with fail
          generalize hw10 : World.setCell wr _ _ = w10
          rw [hw10] at HT2 HX2
          clear hw10 hseen hfr e1
          obtain ⟨wo, rfl⟩ : ∃ wo : World, wo = w10 := ⟨_, rfl⟩
          have q0 := fun W (e : Ext wo W) => b0 W ((HW18.out.trans HX2.out).trans e)
          by_cases hk0 : k = 0
          · subst hk0
            have HCC : Hid (CH 0 = CH (0 + 1)) := by rw [Hid, HC0.out, HC1.out]
            go_wp2_with (fail)
            go_loopw [16, 19] (fun t j wr2 => t = .int .i64 (CH 0) ∧ j = .int .i64 0 ∧ wr2 = wo) (fun _ _ _ => 0)
            case atStart => exact ⟨rfl, rfl, rfl⟩
            case round =>
              obtain ⟨rfl, rfl, rfl⟩ := hrel
              have Er := Ext.refl wr
              go_wp2_with (fail)
              all_goals
                go_roundw
                case rel => exact ⟨0 + 1, by omega, by go_num, by rw [HCC.out], HX2.out, HT2.out⟩
                case measure => simp [intOf]; omega
          · obtain ⟨y, rfl⟩ : ∃ y, k = y + 1 := ⟨k - 1, by omega⟩
            obtain ⟨r, hr, hre⟩ := HIX.out y (by omega)
            have HCC : Hid (CH (y + 1 + 1) = CH (y + 1) + costTo fs (vth vs r).xs (vth vs p).xs fs.length) := by
              have := HCH.out y hlt
              rw [hre, hpe, Int.toNat_natCast, Int.toNat_natCast] at this
              rw [Hid, this]
              unfold costM costS
              rw [seOf_at _ _ (by rw [HVL.out]; exact hr), seOf_at _ _ (by rw [HVL.out]; exact hp)]
            have hb := HBD.out (y + 1) hk
            have HCT := Lib.hid (costTo_bd (vth vs r).xs (vth vs p).xs HFC.out)
            have HLR := Lib.hid (HM.out.ok r (by rw [HVL.out]; exact hr))
            have HLP := Lib.hid (HM.out.ok p (by rw [HVL.out]; exact hp))
            have HIR := Lib.hid (HI8.out r (by rw [HVL.out]; exact hr))
            have HIP := Lib.hid (HI8.out p (by rw [HVL.out]; exact hp))
            have hrn : (r : Int) < (sn : Int) := by omega
            have hr0 : (0 : Int) ≤ (r : Int) := by omega
            have hyx : ((y + 1 : Nat) : Int) - 1 = (y : Int) := by omega
            have hwx : IntKind.i64.wrap (y : Int) = (y : Int) := by rw [IntKind.wrap_i64]; omega
            have hyn : (y : Int) < (sn : Int) := by omega
            have hy0 : (0 : Int) ≤ (y : Int) := by omega
            have hy1 : (0 : Int) < ((y + 1 : Nat) : Int) := by omega
            obtain ⟨s0, hs0⟩ : ∃ s0, s0 = CH (y + 1) := ⟨_, rfl⟩
            rw [← hs0] at hb HCC ⊢
            have HPE := Lib.hid hpe; have HRE := Lib.hid hre
            clear hpe hre hs0
            go_wp2_with (fail)
            go_loopw [16, 19] (fun t j wr2 => ∃ i : Nat, i ≤ fs.length ∧ j = .int .i64 i ∧ t = .int .i64 (s0 + costTo fs (vth vs r).xs (vth vs p).xs i) ∧ Hid (Ext wo wr2)) (fun _ j _ => fs.length - (intOf j).toNat)
            case atStart => exact ⟨0, Nat.zero_le _, rfl, by simp [costTo], Ext.refl _⟩
            case round =>
              obtain ⟨i, hi, rfl, rfl, HY⟩ := hrel
              have Er := Ext.refl wr
              have p0 := fun W (e : Ext wr W) => q0 W (HY.out.trans e)
              by_cases hil : i < fs.length
              · obtain ⟨fb, fu, rfl, g0, g1, g2⟩ := fac_at (HP.out.fs.ext facC_len (HW8.out.trans (HX2.out.trans HY.out))) i hil
                obtain ⟨vb, vo, rfl, c0⟩ := vec_at (HV8.out.ext vecC_len (HX2.out.trans HY.out)) p (by rw [HVL.out]; exact hp)
                obtain ⟨vb', vo', h1, c1⟩ := vec_at (HV8.out.ext vecC_len (HX2.out.trans HY.out)) r (by rw [HVL.out]; exact hr)
                simp only [Option.some.injEq, Addr.mk.injEq, and_true] at h1
                obtain ⟨rfl, rfl⟩ := h1
                obtain ⟨lb, lo, hla, d0⟩ := (HIP.out.ext (HX2.out.trans HY.out)).at i (by rw [levB_len HLP.out.1]; exact hil)
                obtain ⟨mb, mo, hma, d1⟩ := (HIR.out.ext (HX2.out.trans HY.out)).at i (by rw [levB_len HLR.out.1]; exact hil)
                have e1 : ∀ W, Ext wr W → W.cell? ⟨og, y + 1, none⟩ = some (.int .i64 (p : Int)) := fun W e => by
                  obtain ⟨b', o', h1, h2⟩ := (HO8.out.ext (HX2.out.trans HY.out)).at (y + 1) (by rw [HXL.out]; exact hlt)
                  simp only [Option.some.injEq, Addr.mk.injEq, and_true] at h1
                  obtain ⟨rfl, rfl⟩ := h1
                  have := h2 W e
                  rw [Nat.zero_add, HPE.out] at this; exact this
                have e2 : ∀ W, Ext wr W → W.cell? ⟨og, y, none⟩ = some (.int .i64 (r : Int)) := fun W e => by
                  obtain ⟨b', o', h1, h2⟩ := (HO8.out.ext (HX2.out.trans HY.out)).at y (by rw [HXL.out]; omega)
                  simp only [Option.some.injEq, Addr.mk.injEq, and_true] at h1
                  obtain ⟨rfl, rfl⟩ := h1
                  have := h2 W e
                  rw [Nat.zero_add, HRE.out] at this; exact this
                rw [hla, levB_len HLP.out.1] at c0
                rw [hma, levB_len HLR.out.1] at c1
                have hct := HCT.out i hi
                have hcf := HFC.out i hil
                obtain ⟨cc, hcc⟩ : ∃ cc, cc = costTo fs (vth vs r).xs (vth vs p).xs i := ⟨_, rfl⟩
                obtain ⟨qq, hqq⟩ : ∃ qq, qq = (fth fs i).cost := ⟨_, rfl⟩
                have HNX : Hid (costTo fs (vth vs r).xs (vth vs p).xs (i + 1) = cc + if nth (vth vs r).xs i != nth (vth vs p).xs i then qq else 0) := by rw [Hid, hcc, hqq]; rfl
                rw [← hcc] at hct ⊢
                rw [← hqq] at hcf g1
                obtain ⟨u, hu⟩ : ∃ u, u = nth (vth vs r).xs i := ⟨_, rfl⟩
                obtain ⟨v, hv⟩ : ∃ v, v = nth (vth vs p).xs i := ⟨_, rfl⟩
                rw [← hu] at d1 HNX
                rw [← hv] at d0 HNX
                have hii : (i : Int) < (fs.length : Int) := by omega
                have hi0 : (0 : Int) ≤ (i : Int) := by omega
                have hfl : fs.length ≤ 8 := HPL.out
                clear hcc hqq hu hv hla hma
                go_upto_region 30 with fail
                refine wp_region_ext (by kernel_rfl) (by kernel_rfl) Er ?_
                repeat (first | go_big_quiet_step (fail) | quiet_step (fail))
                refine wpQuiet_nil ?_
                rintro _ ⟨nq, rfl⟩
                have hq := nq.ok
                have HY2 : Hid (Ext wo nq.val) := HY.out.trans hq
                cases T : (u != v)
                · rw [T] at HNX
                  have HN2 : Hid (costTo fs (vth vs r).xs (vth vs p).xs (i + 1) = cc) := by have := HNX.out; rw [if_neg (by simp)] at this; rw [Hid, this]; omega
                  clear HNX
                  go_wp2_with (fail)
                  go_roundw
                  case rel => exact ⟨i + 1, by omega, by go_num, by rw [HN2.out], HY2.out⟩
                  case measure => simp [intOf]; omega
                · rw [T] at HNX
                  have HN2 : Hid (costTo fs (vth vs r).xs (vth vs p).xs (i + 1) = cc + qq) := by have := HNX.out; rw [if_pos rfl] at this; exact this
                  have p0' := fun W (e : Ext nq.val W) => p0 W (hq.trans e)
                  have g1' := fun W (e : Ext nq.val W) => g1 W (hq.trans e)
                  have E0 := Ext.refl nq.val
                  clear HNX
                  go_wp2_with (fail)
                  go_roundw
                  case rel => exact ⟨i + 1, by omega, by go_num, by rw [HN2.out]; go_num, HY2.out⟩
                  case measure => simp [intOf]; omega
              · obtain rfl : i = fs.length := by omega
                go_wp2_with (fail)
                go_roundw
                case rel => exact ⟨y + 1 + 1, by omega, by go_num, by rw [HCC.out], HX2.out.trans HY.out, OwnF.ext HT2.out HY.out⟩
                case measure => simp [intOf]; omega
        · obtain rfl : k = sn := by omega
          have hCS : CH k = S := HSN.out.symm
          rw [hCS]
          clear hCS
          have hz8' : z ≤ S := hz8
          go_wp2_with (go_at_call 17; (with_reducible refine (known_any _).mono ?_); rintro e w11 ⟨rfl, he11⟩)
          go_ret
          exact ⟨rfl, (HW8.out.trans HX.out).trans he11⟩
end Go.Proofs.YtplbofhgmflnlaaGreat
