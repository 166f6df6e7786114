/-
  Walk: the reference's Cheapest.
-/
import Derived.Test.YtplbofhgmflnlaaGreatCH3
set_option linter.unusedVariables false
set_option linter.unusedSimpArgs false
namespace Go.Proofs.YtplbofhgmflnlaaGreat
open Go.RowKit
theorem bestC_mem {T : Nat → Nat → Int} {W : Nat → List Nat} {b : List Nat} : ∀ (k : Nat) (x : List Nat), bestC T W b k = some x → ∃ i, i < k ∧ x = W i
  | 0, x, h => by simp [bestC] at h
  | k + 1, x, h => by
    have ih := bestC_mem (T := T) (W := W) (b := b) k
    simp only [bestC] at h
    split at h
    · obtain ⟨i, hi, e⟩ := ih x h
      exact ⟨i, by omega, e⟩
    · cases hb : bestC T W b k with
      | none =>
        rw [hb] at h
        simp only [Option.some.injEq] at h
        exact ⟨k, by omega, h.symm⟩
      | some y =>
        rw [hb] at h
        simp only at h
        split at h
        · simp only [Option.some.injEq] at h
          exact ⟨k, by omega, h.symm⟩
        · simp only [Option.some.injEq] at h
          subst h
          obtain ⟨i, hi, e⟩ := ih y hb
          exact ⟨i, by omega, e⟩
theorem bestC_in {T : Nat → Nat → Int} {W : Nat → List Nat} {b : List Nat} {k : Nat} (h : k ∈ b) : bestC T W b (k + 1) = bestC T W b k := by simp [bestC, h]
theorem bestC_first' {T : Nat → Nat → Int} {W : Nat → List Nat} {b : List Nat} {k : Nat} (h : k ∉ b) (h2 : bestC T W b k = none) : bestC T W b (k + 1) = some (W k) := by simp [bestC, h, h2]
theorem bestC_less {T : Nat → Nat → Int} {W : Nat → List Nat} {b : List Nat} {k : Nat} {x : List Nat} (h : k ∉ b) (h2 : bestC T W b k = some x) (h3 : pathC T (W k) < pathC T x) : bestC T W b (k + 1) = some (W k) := by simp [bestC, h, h2, h3]
theorem bestC_keep {T : Nat → Nat → Int} {W : Nat → List Nat} {b : List Nat} {k : Nat} {x : List Nat} (h : k ∉ b) (h2 : bestC T W b k = some x) (h3 : ¬ pathC T (W k) < pathC T x) : bestC T W b (k + 1) = bestC T W b k := by simp [bestC, h, h2, h3]
theorem refC_ok {T : Nat → Nat → Int} {n : Nat} : ∀ (f : Nat) (b : List Nat), (∀ x ∈ b, x < n) → (∀ x ∈ refC T n f b, x < n) ∧ (refC T n f b).length ≤ b.length + f
  | 0, b, h => ⟨h, Nat.le_refl _⟩
  | f + 1, b, h => by
    simp only [refC]
    cases hb : bestC T (fun i => refC T n f (b ++ [i])) b n with
    | none => exact ⟨by simp, by simp⟩
    | some x =>
      obtain ⟨i, hi, rfl⟩ := bestC_mem n x hb
      have ih := refC_ok (T := T) (n := n) f (b ++ [i]) (fun x hx => by
        rw [List.mem_append, List.mem_singleton] at hx
        rcases hx with hx | rfl
        · exact h x hx
        · exact hi)
      rw [List.length_append, List.length_singleton] at ih
      simp only [Option.getD_some]
      exact ⟨ih.1, by omega⟩
theorem natI_get (l : List Nat) (q : Nat) (hq : q < l.length) : nth (natI l) q = ((l.getD q 0 : Nat) : Int) := by
  rw [nth_eq _ _ (by rw [natI_len]; exact hq)]
  simp [natI, hq]
theorem chgV_nat (fs : List Fac) (ss : List Se) (l : List Nat) : chgV fs ss (natI l) = pathC (costM fs ss) l := by unfold chgV; rw [natI_nat]
theorem natI_app (l : List Nat) (x : Nat) : natI (l ++ [x]) = natI l ++ [(x : Int)] := by simp [natI]
theorem in_take {b : List Nat} {i k : Nat} (hk : k < b.length) : decide (i ∈ b.take (k + 1)) = (decide (i ∈ b.take k) || decide (b.getD k 0 = i)) := by
  rw [List.take_add_one, List.getElem?_eq_getElem hk]
  simp only [Option.toList_some, List.mem_append, List.mem_singleton]
  rw [Bool.decide_or]
  congr 1
  rw [decide_eq_decide]
  simp [List.getD, hk, eq_comm]
set_option maxRecDepth 100000 in
set_option maxHeartbeats 4000000 in
theorem rCheap_any (P : Pw) (a : Option Addr) (ss : List Se) (sc : Nat) (hf : P.fs.length ≤ 8) (hc : ∀ i, i < P.fs.length → 0 ≤ (fth P.fs i).cost ∧ (fth P.fs i).cost ≤ 1000) (hn : ss.length ≤ 2000) (hl : ∀ j, j < ss.length → (eth ss j).lv.xs.length = P.fs.length) :
    ∀ (f : Nat) (b : List Nat) (w : World) (la : Option Addr) (lc : Nat), b.length + f = ss.length → (∀ x ∈ b, x < ss.length) → PlanAt w P → SetsAt w a ss → Ints w la (natI b) →
    Calls Tryz.prog 68 #[planV P, .slice a ss.length sc, .slice la (natI b).length lc] w (fun e w' => ∃ ra rc, e = .returned (.slice ra (natI (refC (costM P.fs ss) ss.length f b)).length rc) ∧ Ext w w' ∧ Ints w' ra (natI (refC (costM P.fs ss) ss.length f b)))
  | 0, b, w, la, lc, hbf, hbn, hp, hs, hb => by
    obtain ⟨fs, fa, fc, fo, ga, gc⟩ := P
    obtain ⟨n, hnn⟩ : ∃ n, n = ss.length := ⟨_, rfl⟩
    have hbl : (natI b).length = n := by rw [natI_len]; omega
    have HB : Hid (Ints w la (natI (refC (costM fs ss) n 0 b)) ∧ (natI (refC (costM fs ss) n 0 b)).length = n) := ⟨hb, hbl⟩
    simp only
    rw [← hnn] at hbf ⊢
    rw [hbl]
    generalize natI (refC (costM fs ss) n 0 b) = R at HB ⊢
    clear hp hs hb hc hl hf hnn hbl
    go_enter Tryz.func68, Tryz.ntmps68
    go_wp2_with (fail)
    generalize hw1 : World.alloc _ _ = w1
    obtain ⟨he, o1, -⟩ := alloc1 hw1
    have HE := Lib.hid he
    clear hw1 o1 he
    go_wp2_with (fail)
    go_ret
    exact ⟨la, lc, by rw [HB.out.2]; rfl, HE.out, HB.out.1.ext HE.out⟩
  | f + 1, b, w, la, lc, hbf, hbn, hp, hs, hb => by
    have ih := fun i (hi : i < ss.length) W (e : Ext w W) la' lc' (hx : Ints W la' (natI (b ++ [i]))) => rCheap_any P a ss sc hf hc hn hl f (b ++ [i]) W la' lc' (by simp; omega) (fun x hx => by
      rw [List.mem_append, List.mem_singleton] at hx
      rcases hx with hx | rfl
      · exact hbn x hx
      · exact hi) (hp.ext e) (hs.ext e) hx
    have hok := fun i (hi : i < ss.length) => refC_ok (T := costM P.fs ss) (n := ss.length) f (b ++ [i]) (fun x hx => by
      rw [List.mem_append, List.mem_singleton] at hx
      rcases hx with hx | rfl
      · exact hbn x hx
      · exact hi)
    have hch := fun W (e : Ext w W) (xs : List Nat) oa oc (hx : ∀ x ∈ xs, x < ss.length) (hxl : xs.length ≤ 100000) (ho : Ints W oa (natI xs)) => rChanges_any P a ss sc oa (natI xs) oc W (hp.ext e) hf hc (hs.ext e) (by omega) hl ho (by rw [natI_len]; exact hxl) (fun k hk => by
      rw [natI_len] at hk
      rw [natI_get xs k hk]
      have : xs.getD k 0 ∈ xs := by simp [List.getElem_mem, hk]
      have := hx _ this
      omega)
    simp only [chgV_nat] at hch
    obtain ⟨T, hT⟩ : ∃ T, T = costM P.fs ss := ⟨_, rfl⟩
    rw [← hT] at ih hok hch ⊢
    obtain ⟨W, hW⟩ : ∃ W : Nat → List Nat, W = fun i => refC T ss.length f (b ++ [i]) := ⟨_, rfl⟩
    have hWi : ∀ i, refC T ss.length f (b ++ [i]) = W i := fun i => by rw [hW]
    simp only [hWi] at ih hok
    have HRES : Hid (refC T ss.length (f + 1) b = (bestC T W b ss.length).getD []) := by rw [hW]; rfl
    obtain ⟨fs, fa, fc, fo, ga, gc⟩ := P
    try simp only at ih
    try simp only at hch
    obtain ⟨n, hnn⟩ : ∃ n, n = ss.length := ⟨_, rfl⟩
    have HIH := Lib.hid ih; have HOK := Lib.hid hok; have HCH := Lib.hid hch; have HB := Lib.hid hb
    rw [← hnn] at HIH HOK HCH HRES hbf hn ⊢
    have hbl : (natI b).length < n := by rw [natI_len]; omega
    have HBN : Hid (b.length = (natI b).length ∧ b.length + (f + 1) = n) := ⟨(natI_len b).symm, hbf⟩
    rw [HRES.out]
    clear ih hok hch hb hp hs hl hc hf hT hW hWi hnn hbf hbn HRES
    obtain ⟨m, hm⟩ : ∃ m, m = (natI b).length := ⟨_, rfl⟩
    have HM := Lib.hid hm
    rw [← hm] at hbl HBN ⊢
    clear hm
    have hne : ((m : Int) == (n : Int)) = false := by rw [beq_eq_false_iff_ne]; omega
    go_enter Tryz.func68, Tryz.ntmps68
    go_upto_region 1 with fail
    generalize hw1 : World.alloc _ _ = w1
    obtain ⟨he, o1, -⟩ := alloc1 hw1
    obtain ⟨b0, b1⟩ := obj_cells2 o1
    have E1 := Ext.refl w1
    have HE := Lib.hid he
    clear hw1 o1 he
    go_wp2_with (fail)
    have HX0 : Hid (Ext w1 (w1.alloc (.cells #[] 3))) := E1.alloc _
    obtain ⟨g0, hg0⟩ : ∃ g0, g0 = w1.heap.size := ⟨_, rfl⟩
    rw [← hg0]
    clear hg0
    go_loopw [7, 8, 9] (fun bv sv iv wr => ∃ (i : Nat) (ra : Option Addr) (rc : Nat), i ≤ n ∧ iv = .int .i64 i ∧ bv = .slice ra (natI ((bestC T W b i).getD [])).length rc ∧ sv = .bool (bestC T W b i).isSome ∧ Hid (Ext w1 wr ∧ Ints wr ra (natI ((bestC T W b i).getD [])))) (fun _ _ iv _ => n - (intOf iv).toNat)
    case atStart => exact ⟨0, _, _, Nat.zero_le _, rfl, rfl, rfl, HX0.out, .inl rfl⟩
    case round =>
      obtain ⟨i, ra, rc, hi, rfl, rfl, rfl, HX⟩ := hrel
      have hx := HX.out.1
      by_cases hlt : i < n
      · obtain ⟨wo, rfl⟩ : ∃ wo : World, wo = wr := ⟨_, rfl⟩
        have HTK := Lib.hid (fun k (hk : k < b.length) => in_take (b := b) (i := i) hk)
        rw [HBN.out.1] at HTK
        obtain ⟨Q, hQ⟩ : ∃ Q : Nat → Bool, Q = fun k => decide (i ∈ b.take k) := ⟨_, rfl⟩
        have HQ0 : Hid (Q 0 = false) := by rw [hQ]; simp [Hid]
        have HQM : Hid (Q m = decide (i ∈ b)) := by rw [hQ, ← HBN.out.1]; simp [Hid]
        have HQK : Hid (∀ k, k < m → Q (k + 1) = (Q k || decide (b.getD k 0 = i))) := fun k hk => by rw [hQ]; exact HTK.out k hk
        clear hQ HTK
        go_wp2_with (fail)
        go_loopw [10, 11] (fun u kv wr => ∃ (k : Nat), k ≤ m ∧ kv = .int .i64 k ∧ u = .bool (Q k) ∧ Hid (Ext wo wr)) (fun _ kv _ => m - (intOf kv).toNat)
        case atStart => exact ⟨0, Nat.zero_le _, rfl, by rw [HQ0.out], Ext.refl _⟩
        case round =>
          obtain ⟨k, hk, rfl, rfl, HXk⟩ := hrel
          have hxk := HXk.out
          have Er := Ext.refl wr
          by_cases hlk : k < m
          · obtain ⟨bb, bo, rfl, d0⟩ := (HB.out.ext (HE.out.trans (hx.trans hxk))).at k (by rw [← HM.out]; exact hlk)
            rw [natI_get b k (by rw [HBN.out.1]; exact hlk)] at d0
            have HQ1 := Lib.hid (HQK.out k hlk)
            obtain ⟨y, hy⟩ : ∃ y, y = b.getD k 0 := ⟨_, rfl⟩
            rw [← hy] at d0 HQ1
            obtain ⟨u, hu⟩ : ∃ u, u = Q k := ⟨_, rfl⟩
            rw [← hu] at HQ1 ⊢
            clear hy hu
            cases u
            · by_cases hyi : y = i
              · subst hyi
                have HQ2 : Hid (Q (k + 1) = true) := by rw [Hid, HQ1.out]; simp
                clear HQ1
                go_wp2_with (fail)
                go_roundw
                case rel => exact ⟨k + 1, by omega, by go_num, by rw [HQ2.out], hxk⟩
                case measure => simp [intOf]; omega
              · have hyf : ((y : Int) == (i : Int)) = false := by rw [beq_eq_false_iff_ne]; omega
                have HQ2 : Hid (Q (k + 1) = false) := by rw [Hid, HQ1.out]; simp [hyi]
                clear HQ1
                go_wp2_with (fail)
                go_roundw
                case rel => exact ⟨k + 1, by omega, by go_num, by rw [HQ2.out], hxk⟩
                case measure => simp [intOf]; omega
            · have HQ2 : Hid (Q (k + 1) = true) := by rw [Hid, HQ1.out]; rfl
              clear HQ1
              go_wp2_with (fail)
              go_roundw
              case rel => exact ⟨k + 1, by omega, by go_num, by rw [HQ2.out], hxk⟩
              case measure => simp [intOf]; omega
          · obtain rfl : k = m := by omega
            rw [HQM.out]
            by_cases hib : i ∈ b
            · rw [decide_eq_true hib]
              have HBI := Lib.hid (bestC_in (T := T) (W := W) hib)
              clear hib
              have HX2 := Lib.hid (⟨hx.trans hxk, HX.out.2.ext hxk⟩ : Ext w1 wr ∧ Ints wr ra (natI ((bestC T W b i).getD [])))
              go_wp2_with (fail)
              go_roundw
              case rel => exact ⟨i + 1, ra, rc, by omega, by go_num, by rw [HBI.out], by rw [HBI.out], by rw [HBI.out]; exact HX2.out⟩
              case measure => simp [intOf]; omega
            · rw [decide_eq_false hib]
              have HXM := Lib.hid (hx.trans hxk)
              have hmm := HM.out
              subst hmm
              have HC0 : Hid (∀ W', Ext wr W' → W'.cell? ⟨w.heap.size, 0, none⟩ = some (.slice fa fs.length fc)) := fun W' e => b0 W' (HXM.out.trans e)
              have HC1 : Hid (∀ W', Ext wr W' → W'.cell? ⟨w.heap.size, 1, none⟩ = some (.slice ga fo.length gc)) := fun W' e => b1 W' (HXM.out.trans e)
              have HI : Hid (Ints wr la (natI b) ∧ (natI b).length ≤ 100000) := ⟨HB.out.ext (HE.out.trans HXM.out), by omega⟩
              have HCALL : Hid (∀ W', Ext wr W' → ∀ a' c', Ints W' a' (natI b ++ [(i : Int)]) → Calls Tryz.prog 68 #[.agg #[.slice fa fs.length fc, .slice ga fo.length gc], .slice a n sc, .slice a' ((natI b).length + 1) c'] W' (fun e w' => ∃ a'' c'', e = .returned (.slice a'' (natI (W i)).length c'') ∧ Ext W' w' ∧ Ints w' a'' (natI (W i)))) := fun W' e a' c' hx' => by
                have := HIH.out i hlt W' (HE.out.trans (HXM.out.trans e)) a' c' (by rw [natI_app]; exact hx')
                rw [show (natI (b ++ [i])).length = (natI b).length + 1 by rw [natI_app]; simp] at this
                exact this
              go_upto_region 13 with fail
              refine ch_law HC0 HC1 HI HCALL _ (by rfl) rfl rfl rfl rfl ?_
              intro vs w9 ls9 hl9 hJ9 e0 e1 e2 e3 e4 e5 e6 e7 e8 e9
              simp only [Act.put, List.setIfInBounds_toArray, List.set_cons_zero, List.set_cons_succ]
              rw [e0, e1, e3, e5]
              obtain ⟨he9, -, -, -, -, j8, j9⟩ := hJ9
              obtain ⟨wa, wc, hv8, hi8⟩ := j8 (hl9 8 (by omega))
              have hv9 := j9 (hl9 9 (by omega))
              rw [hv9, hv8]
              have HX9 := Lib.hid (HXM.out.trans he9)
              have HI8 := Lib.hid hi8
              have HR9 := Lib.hid (HX.out.2.ext (hxk.trans he9))
              have HOi := HOK.out i hlt
              have HWC : Hid (∀ n' : Later w9, Calls Tryz.prog 66 #[.agg #[.slice fa fs.length fc, .slice ga fo.length gc], .slice a n sc, .slice wa (natI (W i)).length wc] n'.val (Ret (.int .i64 (pathC T (W i))) n'.val)) := fun n' => HCH.out n'.val (HE.out.trans (HX9.out.trans n'.ok)) (W i) wa wc HOi.1 (by have h2 := HOi.2; rw [List.length_append, List.length_singleton] at h2; have h3 := HBN.out.2; omega) (HI8.out.ext n'.ok)
              have D0 := fun W' (e : Ext w9 W') => b0 W' (HX9.out.trans e)
              have D1 := fun W' (e : Ext w9 W') => b1 W' (HX9.out.trans e)
              have HBC : Hid (∀ x, bestC T W b i = some x → ∀ n' : Later w9, Calls Tryz.prog 66 #[.agg #[.slice fa fs.length fc, .slice ga fo.length gc], .slice a n sc, .slice ra (natI x).length rc] n'.val (Ret (.int .i64 (pathC T x)) n'.val)) := fun x hxx n' => by
                obtain ⟨i', hi', rfl⟩ := bestC_mem i x hxx
                have h1 := HOK.out i' (by omega)
                have h2 := HR9.out
                rw [hxx] at h2
                exact HCH.out n'.val (HE.out.trans (HX9.out.trans n'.ok)) (W i') ra rc h1.1 (by have h4 := h1.2; rw [List.length_append, List.length_singleton] at h4; have h3 := HBN.out.2; omega) (h2.ext n'.ok)
              have hr0 := Ext.refl w9
              clear hv8 hv9 hi8 he9 j8 j9 hl9 e0 e1 e2 e3 e4 e5 e6 e7 e8 e9 HC0 HC1 HI HCALL HX HOi hx hxk HXk
              generalize vs 2 = v2
              generalize vs 4 = v4
              generalize vs 6 = v6
              generalize vs 7 = v7
              obtain ⟨o, ho⟩ : ∃ o, o = bestC T W b i := ⟨_, rfl⟩
              have HO := Lib.hid ho
              rw [← ho] at HBC HR9 ⊢
              clear ho
              cases o with
              | none =>
                have HNX : Hid (bestC T W b (i + 1) = some (W i)) := bestC_first' hib HO.out.symm
                clear hib HBC
                simp only [Option.isSome_none, Option.getD_none]
                go_upto_region 14 with fail
                refine wp_region_ext (by kernel_rfl) (by kernel_rfl) hr0 ?_
                repeat (first | go_big_quiet_step (((fail))) | quiet_step (((fail))))
                refine wpQuiet_nil ?_
                rintro _ ⟨nq, rfl⟩
                have HX10 : Hid (Ext w1 nq.val ∧ Ints nq.val wa (natI (W i))) := ⟨HX9.out.trans nq.ok, HI8.out.ext nq.ok⟩
                go_wp2_with (fail)
                go_roundw
                case rel => exact ⟨i + 1, wa, wc, by omega, by go_num, by rw [HNX.out]; rfl, by rw [HNX.out]; rfl, by rw [HNX.out]; exact HX10.out⟩
                case measure => simp [intOf]; omega
              | some x =>
                have HBX := Lib.hid (HBC.out x rfl)
                have HLE := Lib.hid (fun h => bestC_less (T := T) (W := W) hib HO.out.symm h)
                have HKE := Lib.hid (fun h => bestC_keep (T := T) (W := W) hib HO.out.symm h)
                simp only [Option.isSome_some, Option.getD_some] at HR9 ⊢
                obtain ⟨c1, hc1⟩ : ∃ c1, c1 = pathC T (W i) := ⟨_, rfl⟩
                obtain ⟨c2, hc2⟩ : ∃ c2, c2 = pathC T x := ⟨_, rfl⟩
                rw [← hc1] at HWC HLE HKE
                rw [← hc2] at HBX HLE HKE
                clear hib HBC hc1 hc2
                by_cases hcc : c1 < c2
                · have HNX := Lib.hid (HLE.out hcc)
                  clear HLE HKE
                  go_upto_region 14 with fail
                  refine wp_region_ext (by kernel_rfl) (by kernel_rfl) hr0 ?_
                  repeat (first | go_big_quiet_step (((go_at_call 66; first | with_reducible exact Calls.later (HWC.out _) | with_reducible exact Calls.later (HBX.out _)))) | quiet_step (((go_at_call 66; first | with_reducible exact Calls.later (HWC.out _) | with_reducible exact Calls.later (HBX.out _)))))
                  refine wpQuiet_nil ?_
                  rintro _ ⟨nq, rfl⟩
                  have HX10 : Hid (Ext w1 nq.val ∧ Ints nq.val wa (natI (W i))) := ⟨HX9.out.trans nq.ok, HI8.out.ext nq.ok⟩
                  go_wp2_with (fail)
                  go_roundw
                  case rel => exact ⟨i + 1, wa, wc, by omega, by go_num, by rw [HNX.out]; rfl, by rw [HNX.out]; rfl, by rw [HNX.out]; exact HX10.out⟩
                  case measure => simp [intOf]; omega
                · have HNX := Lib.hid (HKE.out hcc)
                  clear HLE HKE
                  go_upto_region 14 with fail
                  refine wp_region_ext (by kernel_rfl) (by kernel_rfl) hr0 ?_
                  repeat (first | go_big_quiet_step (((go_at_call 66; first | with_reducible exact Calls.later (HWC.out _) | with_reducible exact Calls.later (HBX.out _)))) | quiet_step (((go_at_call 66; first | with_reducible exact Calls.later (HWC.out _) | with_reducible exact Calls.later (HBX.out _)))))
                  refine wpQuiet_nil ?_
                  rintro _ ⟨nq, rfl⟩
                  have HX10 : Hid (Ext w1 nq.val ∧ Ints nq.val ra (natI x)) := ⟨HX9.out.trans nq.ok, HR9.out.ext nq.ok⟩
                  go_wp2_with (fail)
                  go_roundw
                  case rel => exact ⟨i + 1, ra, rc, by omega, by go_num, by rw [HNX.out, ← HO.out]; rfl, by rw [HNX.out, ← HO.out]; rfl, by rw [HNX.out, ← HO.out]; exact HX10.out⟩
                  case measure => simp [intOf]; omega
      · obtain rfl : i = n := by omega
        go_wp2_with (fail)
        go_ret
        exact ⟨ra, rc, rfl, HE.out.trans hx, HX.out.2⟩
end Go.Proofs.YtplbofhgmflnlaaGreat
