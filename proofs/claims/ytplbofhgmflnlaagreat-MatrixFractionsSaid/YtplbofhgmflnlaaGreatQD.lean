/-
  Walk: the reference's Put.
-/
import Derived.Test.YtplbofhgmflnlaaGreatQC
set_option linter.unusedVariables false
set_option linter.unusedSimpArgs false
namespace Go.Proofs.YtplbofhgmflnlaaGreat
open Go.RowKit
theorem rowAt_take {α : Type} {sz : Nat} {f : α → List Value} {w : World} {a : Option Addr} {xs : List α} (h : RowAt sz f w a xs) (k : Nat) : RowAt sz f w a (xs.take k) := by
  rcases h with rfl | ⟨b, o, h1, h2⟩
  · exact .inl (by simp)
  · refine .inr ⟨b, o, h1, fun i hi j hj => ?_⟩
    rw [List.length_take] at hi
    rw [List.getElem_take]
    exact h2 i (by omega) j hj
theorem rowAt_drop {α : Type} {sz : Nat} {f : α → List Value} {w : World} {b o : Nat} {xs : List α} (h : RowAt sz f w (some ⟨b, o, none⟩) xs) (k : Nat) : RowAt sz f w (some ⟨b, o + k * sz, none⟩) (xs.drop k) := by
  rcases h with rfl | ⟨b', o', h1, h2⟩
  · exact .inl (by simp)
  · simp only [Option.some.injEq, Addr.mk.injEq, and_true] at h1
    obtain ⟨rfl, rfl⟩ := h1
    refine .inr ⟨b, o + k * sz, rfl, fun i hi j hj => ?_⟩
    rw [List.length_drop] at hi
    rw [List.getElem_drop]
    have := h2 (k + i) (by omega) j hj
    rw [Nat.add_mul] at this
    rw [show o + k * sz + i * sz + j = o + (k * sz + i * sz) + j by omega]
    exact this
set_option maxRecDepth 100000 in
set_option maxHeartbeats 4000000 in
theorem rPut_any (xs : List Wd) (x : Wd) (gb c : Nat) (w : World) (h : Wds w (some ⟨gb, 0, none⟩) xs) (hn : xs.length ≤ 100000) (hc : xs.length ≤ c) (hm : ∀ j, j < xs.length → (wth xs j).mask < 65536) (hx : x.mask < 65536) :
    Calls Tryz.prog 90 #[.slice (some ⟨gb, 0, none⟩) xs.length c, wdV x] w (fun e w' => ∃ g' c', e = .returned (.slice (some ⟨g', 0, none⟩) (putW xs x).length c') ∧ Ext w w' ∧ Wds w' (some ⟨g', 0, none⟩) (putW xs x) ∧ (putW xs x).length ≤ c') := by
  have HX := Lib.hid h; have HM := Lib.hid hm
  have HLT := Lib.hid (fun j (hj : j < xs.length) W => before_any (wth xs j) x W (hm j hj) hx)
  have HSP := Lib.hid (fun k (hk : k ≤ xs.length) h1 h2 => putW_split (xs := xs) (x := x) (k := k) hk h1 h2)
  obtain ⟨xm, xo⟩ := x
  obtain ⟨n, hnn⟩ : ∃ n, n = xs.length := ⟨_, rfl⟩
  have HN := Lib.hid hnn
  rw [← hnn] at hn hc HLT HSP ⊢
  clear h hm hnn
  go_enter Tryz.func90, Tryz.ntmps90
  go_upto_region 1 with fail
  generalize hw1 : World.alloc _ _ = w1
  obtain ⟨he, o1, -⟩ := alloc1 hw1
  obtain ⟨b0, b1⟩ := obj_cells2 o1
  have HE := Lib.hid he
  have E1 := Ext.refl w1
  clear hw1 o1 he
  go_wp2_with (fail)
  go_loopw [5] (fun i wr => ∃ k : Nat, k ≤ n ∧ i = .int .i64 k ∧ Hid (Ext w1 wr) ∧ Hid (∀ j, j < k → ltW (wth xs j) ⟨xm, xo⟩ = true)) (fun i _ => n - (intOf i).toNat)
  case atStart => exact ⟨0, Nat.zero_le _, rfl, Ext.refl _, fun j hj => by omega⟩
  case round =>
    obtain ⟨k, hk, rfl, HR, hh⟩ := hrel
    have hr := HR.out
    have B0 := fun W (e : Ext wr W) => b0 W (hr.trans e)
    have B1 := fun W (e : Ext wr W) => b1 W (hr.trans e)
    have hr0 := Ext.refl wr
    by_cases hlt : k < n
    · obtain ⟨b', o', hb', q0, q1⟩ := wd_at (RowAt.ext wdC_len HX.out (HE.out.trans hr)) k (by rw [← HN.out]; exact hlt)
      simp only [Option.some.injEq, Addr.mk.injEq, and_true] at hb'
      obtain ⟨rfl, rfl⟩ := hb'
      simp only [Nat.zero_add] at q0 q1
      have HC : Hid (∀ n' : Later wr, Calls Tryz.prog 124 #[wdV (wth xs k), wdV ⟨xm, xo⟩] n'.val (Ret (.bool (ltW (wth xs k) ⟨xm, xo⟩)) n'.val)) := fun n' => HLT.out k hlt n'.val
      obtain ⟨y, hy⟩ : ∃ y, y = wth xs k := ⟨_, rfl⟩
      have HY := Lib.hid hy
      rw [← hy] at q0 q1 HC
      obtain ⟨ym, yo⟩ := y
      obtain ⟨t, ht⟩ : ∃ t, t = ltW ⟨ym, yo⟩ ⟨xm, xo⟩ := ⟨_, rfl⟩
      have HT := Lib.hid ht
      rw [← ht] at HC
      clear hy ht
      have HIX : Hid (xs[k]? = some ⟨ym, yo⟩) := by
        have h1 : k < xs.length := by rw [← HN.out]; exact hlt
        rw [Hid, List.getElem?_eq_getElem h1, ← wth_eq xs k h1, HY.out]
      cases t
      · have HF : Hid (k < n → ltW (wth xs k) ⟨xm, xo⟩ = false) := fun _ => by rw [← HY.out]; exact HT.out.symm
        go_upto_region 2 with fail
        refine wp_region_ext (by kernel_rfl) (by kernel_rfl) hr0 ?_
        repeat (first | go_big_quiet_step (((go_at_call 124; exact Calls.later (HC.out _)))) | quiet_step (((go_at_call 124; exact Calls.later (HC.out _)))))
        refine wpQuiet_nil ?_
        rintro _ ⟨nq, rfl⟩
        have HX2 : Hid (Ext w1 nq.val) := hr.trans nq.ok
        have D0 := fun W (e : Ext nq.val W) => b0 W (HX2.out.trans e)
        have D1 := fun W (e : Ext nq.val W) => b1 W (HX2.out.trans e)
        have Q0 := fun W (e : Ext nq.val W) => q0 W (nq.ok.trans e)
        have Q1 := fun W (e : Ext nq.val W) => q1 W (nq.ok.trans e)
        obtain ⟨wq, hwq⟩ : ∃ wq, wq = nq.val := ⟨_, rfl⟩
        rw [← hwq] at HX2 D0 D1 Q0 Q1 ⊢
        clear hwq HC q0 q1 B0 B1 hr0 HT
        have hr0 := Ext.refl wq
        by_cases e : ym = xm ∧ yo = xo
        · obtain ⟨rfl, rfl⟩ := e
          have HRES : Hid (putW xs ⟨ym, yo⟩ = xs) := by
            obtain ⟨-, t2⟩ := HSP.out k hk hh.out HF.out
            unfold putW
            rw [Hid, t2, if_pos (by rw [List.head?_drop]; exact HIX.out)]
          go_upto_region 4 with fail
          refine wp_region_ext (by kernel_rfl) (by kernel_rfl) hr0 ?_
          repeat (first | go_big_quiet_step (((fail))) | quiet_step (((fail))))
          refine wpQuiet_nil ?_
          rintro _ ⟨nq, rfl⟩
          have HX3 : Hid (Ext w1 nq.val) := HX2.out.trans nq.ok
          go_wp2_with (fail)
          go_ret
          refine ⟨gb, c, ?_, HE.out.trans HX3.out, ?_, ?_⟩
          · rw [HRES.out, ← HN.out]; rfl
          · rw [HRES.out]; exact RowAt.ext wdC_len HX.out (HE.out.trans HX3.out)
          · rw [HRES.out, ← HN.out]; exact hc
        · have HNE : Hid (¬ (xs.drop k).head? = some ⟨xm, xo⟩) := by
            rw [Hid, List.head?_drop, HIX.out]
            intro h2
            simp only [Option.some.injEq, Wd.mk.injEq] at h2
            exact e h2
          by_cases e1 : ym = xm
          · subst e1
            have e2 : ¬ yo = xo := fun h => e ⟨rfl, h⟩
            clear e
            go_upto_region 4 with fail
            refine wp_region_ext (by kernel_rfl) (by kernel_rfl) hr0 ?_
            repeat (first | go_big_quiet_step (((fail))) | quiet_step (((fail))))
            refine wpQuiet_nil ?_
            rintro _ ⟨nq, rfl⟩
            have HRES : Hid (putW xs ⟨ym, xo⟩ = xs.take k ++ ⟨ym, xo⟩ :: xs.drop k) := by
              obtain ⟨t1, t2⟩ := HSP.out k hk hh.out HF.out
              unfold putW
              rw [Hid, t1, t2, if_neg HNE.out]
            have HX1 : Hid (Ext w1 nq.val) := HX2.out.trans nq.ok
            have hk0 : (0 : Int) ≤ (k : Int) := by omega
            have hkn : (k : Int) ≤ (n : Int) := by omega
            have hnc : (n : Int) ≤ (c : Int) := by omega
            have HK : Hid (k ≤ xs.length ∧ xs.length ≤ 500000 ∧ (xs.drop k).length = n - k) := by
              have := HN.out
              refine ⟨by omega, by omega, ?_⟩
              rw [List.length_drop]; omega
            have HW : Hid (Wds nq.val (some ⟨gb, 0, none⟩) (xs.take k)) := rowAt_take (RowAt.ext wdC_len HX.out (HE.out.trans HX1.out)) k
            obtain ⟨A, hA⟩ : ∃ A : Addr, (if c = k then (some ⟨gb, 0, none⟩ : Option Addr) else some ⟨gb, k * 2, none⟩) = some A := by split <;> exact ⟨_, rfl⟩
            have HA := Lib.hid hA
            have HD : Hid (Wds nq.val (some A) (xs.drop k)) := by
              by_cases hck : c = k
              · have h3 : xs.drop k = [] := List.drop_eq_nil_of_le (by have := HN.out; omega)
                rw [h3]; exact .inl rfl
              · rw [if_neg hck] at hA
                simp only [Option.some.injEq] at hA
                rw [← hA]
                have := rowAt_drop (RowAt.ext wdC_len HX.out (HE.out.trans HX1.out)) k
                rwa [Nat.zero_add] at this
            clear hA
            have hkl : k ≤ c := by omega
            have hkm : k ≤ n := by omega
            have c0 : ∀ W, Ext nq.val W → W.cell? ⟨w.heap.size, 0, none⟩ = some (.int .u16 (ym : Int)) := fun W e => b0 W (HX1.out.trans e)
            have c1 : ∀ W, Ext nq.val W → W.cell? ⟨w.heap.size, 1, none⟩ = some (.bool xo) := fun W e => b1 W (HX1.out.trans e)
            go_upto_region 6 with fail
            refine put_law (x := ⟨ym, xo⟩) hk0 hkn hnc hkl hkm HA rfl HK HW HD c0 c1 _ (by rfl) rfl rfl rfl ?_
            intro vs w9 ls9 hl9 hJ9 e0 e1 e2 e3 e4 e5 e6 e7 e8 e9 e10 e11 e12
            simp only [Act.put, List.setIfInBounds_toArray, List.set_cons_zero, List.set_cons_succ]
            rw [e1, e2, e3, e5, e8, e9, e10, HA.out]
            have h12 := hJ9.2 (hl9 12 (by omega))
            have hj := hJ9.1
            rw [hl9 11 (by omega)] at hj
            have hex := hj.ext
            have hown := hj.done
            rw [← HRES.out] at hown
            rw [h12]
            obtain ⟨ra, rc, hv⟩ := ownF_slice hown
            rw [hv] at hown ⊢
            have hln := (OwnF.lens hown).2
            obtain ⟨g', hg', -, -, -⟩ := OwnF.cell wdC_len hown 0 (by rw [HRES.out, List.length_append, List.length_cons]; omega)
            subst hg'
            have HOW := Lib.hid (RowAt.own wdC_len hown)
            have HXE := Lib.hid (HX1.out.trans hex)
            have HLN := Lib.hid hln
            clear hJ9 hj hown hv h12 hl9 e0 e1 e2 e3 e4 e5 e6 e7 e8 e9 e10 e11 e12 hex hln HK HW HD
            generalize vs 0 = v0
            generalize vs 4 = v4
            generalize vs 6 = v6
            generalize vs 7 = v7
            try generalize vs 11 = v11
            try generalize vs 12 = v12
            go_wp2_with (fail)
            go_ret
            exact ⟨g', rc, rfl, HE.out.trans HXE.out, HOW.out, HLN.out⟩
          · have e2 : ¬ (ym : Int) = (xm : Int) := by omega
            clear e e1
            go_upto_region 4 with fail
            refine wp_region_ext (by kernel_rfl) (by kernel_rfl) hr0 ?_
            repeat (first | go_big_quiet_step (((fail))) | quiet_step (((fail))))
            refine wpQuiet_nil ?_
            rintro _ ⟨nq, rfl⟩
            have HRES : Hid (putW xs ⟨xm, xo⟩ = xs.take k ++ ⟨xm, xo⟩ :: xs.drop k) := by
              obtain ⟨t1, t2⟩ := HSP.out k hk hh.out HF.out
              unfold putW
              rw [Hid, t1, t2, if_neg HNE.out]
            have HX1 : Hid (Ext w1 nq.val) := HX2.out.trans nq.ok
            have hk0 : (0 : Int) ≤ (k : Int) := by omega
            have hkn : (k : Int) ≤ (n : Int) := by omega
            have hnc : (n : Int) ≤ (c : Int) := by omega
            have HK : Hid (k ≤ xs.length ∧ xs.length ≤ 500000 ∧ (xs.drop k).length = n - k) := by
              have := HN.out
              refine ⟨by omega, by omega, ?_⟩
              rw [List.length_drop]; omega
            have HW : Hid (Wds nq.val (some ⟨gb, 0, none⟩) (xs.take k)) := rowAt_take (RowAt.ext wdC_len HX.out (HE.out.trans HX1.out)) k
            obtain ⟨A, hA⟩ : ∃ A : Addr, (if c = k then (some ⟨gb, 0, none⟩ : Option Addr) else some ⟨gb, k * 2, none⟩) = some A := by split <;> exact ⟨_, rfl⟩
            have HA := Lib.hid hA
            have HD : Hid (Wds nq.val (some A) (xs.drop k)) := by
              by_cases hck : c = k
              · have h3 : xs.drop k = [] := List.drop_eq_nil_of_le (by have := HN.out; omega)
                rw [h3]; exact .inl rfl
              · rw [if_neg hck] at hA
                simp only [Option.some.injEq] at hA
                rw [← hA]
                have := rowAt_drop (RowAt.ext wdC_len HX.out (HE.out.trans HX1.out)) k
                rwa [Nat.zero_add] at this
            clear hA
            have hkl : k ≤ c := by omega
            have hkm : k ≤ n := by omega
            have c0 : ∀ W, Ext nq.val W → W.cell? ⟨w.heap.size, 0, none⟩ = some (.int .u16 (xm : Int)) := fun W e => b0 W (HX1.out.trans e)
            have c1 : ∀ W, Ext nq.val W → W.cell? ⟨w.heap.size, 1, none⟩ = some (.bool xo) := fun W e => b1 W (HX1.out.trans e)
            go_upto_region 6 with fail
            refine put_law (x := ⟨xm, xo⟩) hk0 hkn hnc hkl hkm HA rfl HK HW HD c0 c1 _ (by rfl) rfl rfl rfl ?_
            intro vs w9 ls9 hl9 hJ9 e0 e1 e2 e3 e4 e5 e6 e7 e8 e9 e10 e11 e12
            simp only [Act.put, List.setIfInBounds_toArray, List.set_cons_zero, List.set_cons_succ]
            rw [e1, e2, e3, e5, e8, e9, e10, HA.out]
            have h12 := hJ9.2 (hl9 12 (by omega))
            have hj := hJ9.1
            rw [hl9 11 (by omega)] at hj
            have hex := hj.ext
            have hown := hj.done
            rw [← HRES.out] at hown
            rw [h12]
            obtain ⟨ra, rc, hv⟩ := ownF_slice hown
            rw [hv] at hown ⊢
            have hln := (OwnF.lens hown).2
            obtain ⟨g', hg', -, -, -⟩ := OwnF.cell wdC_len hown 0 (by rw [HRES.out, List.length_append, List.length_cons]; omega)
            subst hg'
            have HOW := Lib.hid (RowAt.own wdC_len hown)
            have HXE := Lib.hid (HX1.out.trans hex)
            have HLN := Lib.hid hln
            clear hJ9 hj hown hv h12 hl9 e0 e1 e2 e3 e4 e5 e6 e7 e8 e9 e10 e11 e12 hex hln HK HW HD
            generalize vs 0 = v0
            generalize vs 4 = v4
            generalize vs 6 = v6
            generalize vs 7 = v7
            try generalize vs 11 = v11
            try generalize vs 12 = v12
            go_wp2_with (fail)
            go_ret
            exact ⟨g', rc, rfl, HE.out.trans HXE.out, HOW.out, HLN.out⟩
      · have HF : Hid (∀ j, j < k + 1 → ltW (wth xs j) ⟨xm, xo⟩ = true) := fun j hj => by
          rcases Nat.lt_succ_iff_lt_or_eq.1 hj with h1 | h1
          · exact hh.out j h1
          · subst h1; rw [← HY.out]; exact HT.out.symm
        clear hh HT
        go_upto_region 2 with fail
        refine wp_region_ext (by kernel_rfl) (by kernel_rfl) hr0 ?_
        repeat (first | go_big_quiet_step (((go_at_call 124; exact Calls.later (HC.out _)))) | quiet_step (((go_at_call 124; exact Calls.later (HC.out _)))))
        refine wpQuiet_nil ?_
        rintro _ ⟨nq, rfl⟩
        have HX2 : Hid (Ext w1 nq.val) := hr.trans nq.ok
        go_wp2_with (fail)
        go_roundw
        case rel => exact ⟨k + 1, by omega, by go_num, HX2.out, HF.out⟩
        case measure => simp [intOf]; omega
    · have hkn' : k = n := by omega
      have hnl : ¬ (k : Int) < (n : Int) := by omega
      have HNE : Hid (¬ (xs.drop k).head? = some ⟨xm, xo⟩) := by
        have h1 : xs.length ≤ k := by rw [← HN.out]; omega
        rw [Hid, List.drop_eq_nil_of_le h1]; simp
      have HF : Hid (k < n → ltW (wth xs k) ⟨xm, xo⟩ = false) := fun h => by omega
      clear hkn'
      go_upto_region 2 with fail
      refine wp_region_ext (by kernel_rfl) (by kernel_rfl) hr0 ?_
      repeat (first | go_big_quiet_step (((fail))) | quiet_step (((fail))))
      refine wpQuiet_nil ?_
      rintro _ ⟨nq, rfl⟩
      have HX2 : Hid (Ext w1 nq.val) := hr.trans nq.ok
      have D0 := fun W (e : Ext nq.val W) => b0 W (HX2.out.trans e)
      have D1 := fun W (e : Ext nq.val W) => b1 W (HX2.out.trans e)
      obtain ⟨wq, hwq⟩ : ∃ wq, wq = nq.val := ⟨_, rfl⟩
      rw [← hwq] at HX2 D0 D1 ⊢
      clear hwq B0 B1 hr0
      have hr0 := Ext.refl wq
      go_upto_region 4 with fail
      refine wp_region_ext (by kernel_rfl) (by kernel_rfl) hr0 ?_
      repeat (first | go_big_quiet_step (((fail))) | quiet_step (((fail))))
      refine wpQuiet_nil ?_
      rintro _ ⟨nq, rfl⟩
      have HRES : Hid (putW xs ⟨xm, xo⟩ = xs.take k ++ ⟨xm, xo⟩ :: xs.drop k) := by
        obtain ⟨t1, t2⟩ := HSP.out k hk hh.out HF.out
        unfold putW
        rw [Hid, t1, t2, if_neg HNE.out]
      have HX1 : Hid (Ext w1 nq.val) := HX2.out.trans nq.ok
      have hk0 : (0 : Int) ≤ (k : Int) := by omega
      have hkn : (k : Int) ≤ (n : Int) := by omega
      have hnc : (n : Int) ≤ (c : Int) := by omega
      have HK : Hid (k ≤ xs.length ∧ xs.length ≤ 500000 ∧ (xs.drop k).length = n - k) := by
        have := HN.out
        refine ⟨by omega, by omega, ?_⟩
        rw [List.length_drop]; omega
      have HW : Hid (Wds nq.val (some ⟨gb, 0, none⟩) (xs.take k)) := rowAt_take (RowAt.ext wdC_len HX.out (HE.out.trans HX1.out)) k
      obtain ⟨A, hA⟩ : ∃ A : Addr, (if c = k then (some ⟨gb, 0, none⟩ : Option Addr) else some ⟨gb, k * 2, none⟩) = some A := by split <;> exact ⟨_, rfl⟩
      have HA := Lib.hid hA
      have HD : Hid (Wds nq.val (some A) (xs.drop k)) := by
        by_cases hck : c = k
        · have h3 : xs.drop k = [] := List.drop_eq_nil_of_le (by have := HN.out; omega)
          rw [h3]; exact .inl rfl
        · rw [if_neg hck] at hA
          simp only [Option.some.injEq] at hA
          rw [← hA]
          have := rowAt_drop (RowAt.ext wdC_len HX.out (HE.out.trans HX1.out)) k
          rwa [Nat.zero_add] at this
      clear hA
      have hkl : k ≤ c := by omega
      have hkm : k ≤ n := by omega
      have c0 : ∀ W, Ext nq.val W → W.cell? ⟨w.heap.size, 0, none⟩ = some (.int .u16 (xm : Int)) := fun W e => b0 W (HX1.out.trans e)
      have c1 : ∀ W, Ext nq.val W → W.cell? ⟨w.heap.size, 1, none⟩ = some (.bool xo) := fun W e => b1 W (HX1.out.trans e)
      go_upto_region 6 with fail
      refine put_law (x := ⟨xm, xo⟩) hk0 hkn hnc hkl hkm HA rfl HK HW HD c0 c1 _ (by rfl) rfl rfl rfl ?_
      intro vs w9 ls9 hl9 hJ9 e0 e1 e2 e3 e4 e5 e6 e7 e8 e9 e10 e11 e12
      simp only [Act.put, List.setIfInBounds_toArray, List.set_cons_zero, List.set_cons_succ]
      rw [e1, e2, e3, e5, e8, e9, e10, HA.out]
      have h12 := hJ9.2 (hl9 12 (by omega))
      have hj := hJ9.1
      rw [hl9 11 (by omega)] at hj
      have hex := hj.ext
      have hown := hj.done
      rw [← HRES.out] at hown
      rw [h12]
      obtain ⟨ra, rc, hv⟩ := ownF_slice hown
      rw [hv] at hown ⊢
      have hln := (OwnF.lens hown).2
      obtain ⟨g', hg', -, -, -⟩ := OwnF.cell wdC_len hown 0 (by rw [HRES.out, List.length_append, List.length_cons]; omega)
      subst hg'
      have HOW := Lib.hid (RowAt.own wdC_len hown)
      have HXE := Lib.hid (HX1.out.trans hex)
      have HLN := Lib.hid hln
      clear hJ9 hj hown hv h12 hl9 e0 e1 e2 e3 e4 e5 e6 e7 e8 e9 e10 e11 e12 hex hln HK HW HD
      generalize vs 0 = v0
      generalize vs 4 = v4
      generalize vs 6 = v6
      generalize vs 7 = v7
      try generalize vs 11 = v11
      try generalize vs 12 = v12
      go_wp2_with (fail)
      go_ret
      exact ⟨g', rc, rfl, HE.out.trans HXE.out, HOW.out, HLN.out⟩
end Go.Proofs.YtplbofhgmflnlaaGreat
