import Derived.Test.YtjpgignbjkgjiaaA1
set_option linter.unusedVariables false
set_option linter.unusedSimpArgs false
namespace Go.Proofs.Ytjpgignbjkgjiaa
open Go.RowKit
theorem inTime_bd {n : Int} {c : Camp} {t : Int} (h : CB n c) (hi : inTimeB c t = true) : 0 ≤ t ∧ t + c.ho ≤ n ∧ 1 ≤ c.ho ∧ c.ho ≤ 24 ∧ c.ea + c.pr ≤ t ∧ t ≤ c.la - c.ho := by
  have := h.pr0; have := h.ea0; have := h.la1; have := h.ho0; have := h.ho1
  simp [inTimeB] at hi
  omega
set_option maxHeartbeats 1000000 in
theorem single_any (ha : Hal) (x : HP) (l : List Camp) (la : Option Addr) (lc : Nat) (p : List Int) (pa : Option Addr) (pn pc : Nat) (w : World) (hh : HallAt w ha x) (hl : Camps w la l) (hp : Ints w pa p) (hpl : l.length ≤ p.length) (hpn : p.length = pn)
    (hv : VH ha l) : Calls Try.prog 59 #[hval ha x, .slice la l.length lc, .slice pa pn pc] w (Ret (bval (singleS ha l p)) w) := by
  obtain ⟨sa, sc, ea, ec⟩ := x
  have HH := Lib.hid hh; clear hh
  have HV := Lib.hid hv
  have hl16 := hv.ll
  clear hv
  have HPN := Lib.hid hpn; clear hpn
  have hpl' : l.length ≤ pn := by rw [← HPN.out]; exact hpl
  go_enter Try.func59, Try.ntmps59
  go_wp2_with (fail)
  generalize hw1 : World.alloc _ _ = w1
  obtain ⟨he, o1, o2, -⟩ := alloc2 hw1
  obtain ⟨b0, b1, b2, b3⟩ := obj_cells4 o1
  obtain ⟨r0, r1, r2, r3⟩ := obj_cells4 o2
  have rf := obj_free o2
  clear hw1 o1 o2
  have HL := Lib.hid (hl.ext he)
  have HP' := Lib.hid (hp.ext he)
  clear hl hp
  go_loopw [17] (fun i wr => ∃ k : Nat, k ≤ l.length ∧ i = .int .i64 k ∧ Ext w1 wr ∧ Hid (∀ j, j < k → (!inTimeB (cth l j) (nth p j)) = false)) (fun i _ => l.length - (intOf i).toNat)
  case atStart => exact ⟨0, Nat.zero_le _, rfl, Ext.refl _, fun j hj => by omega⟩
  case round =>
    obtain ⟨k, hk, rfl, hr, hf⟩ := hrel
    by_cases hlt : k < l.length
    · obtain ⟨b, o, rfl, c0, c1, c2, c3, c4, c5, c6⟩ := HL.out.at k hlt
      obtain ⟨b', o', rfl, d0⟩ := HP'.out.at k (by omega)
      have hkp : k < pn := by omega
      go_wp2_with (fail)
      generalize hw2 : World.alloc _ _ = w2
      obtain ⟨he2, o1, -⟩ := alloc1 hw2
      obtain ⟨a0, a1, a2, a3, a4, a5, a6⟩ := obj_cells7 o1
      clear hw2 o1
      have hr2 := hr.trans he2
      have hr0 := Ext.refl w2
      replace c0 := d0
      clear c0 c1 c2 c3 c4 c5 c6
      replace d0 := fun W (h : Ext w2 W) => d0 W (hr2.trans h)
      refine wp_region_ext (by kernel_rfl) (by kernel_rfl) hr0 ?_
      repeat (quiet_step ((go_at_call 74; exact Calls.later (inTime_any _ _ ha.st.length _ (HV.out.n2) (HV.out.cb k hlt)))))
      refine wpQuiet_nil ?_
      rintro _ ⟨nq, rfl⟩
      cases hpk : inTimeB (cth l k) (nth p k)
      · have H2 : Hid (singleS ha l p = ⟨1, k, 0, 0⟩) := by simp [Hid, singleS, fIdx_some (q := fun i => !inTimeB (cth l i) (nth p i)) hlt (by simp [hpk]) hf.out]
        have hr3 := hr2.trans nq.ok
        have rf0 := rf nq.val hr3
        go_wp2_with (fail)
        refine bodyPost_ret (v := bval (singleS ha l p)) (by rw [H2.out]; simp [results, Try.results59, go_sem, r0 _ hr3, r1 _ hr3, r2 _ hr3, r3 _ hr3]) rfl ⟨rfl, ?_⟩
        exact ((((he.trans hr3).set (by simp) _).set (by simp) _).set (by simp) _).set (by simp) _
      · have hf2 := Lib.hid (all_lt_succ (q := fun j => !inTimeB (cth l j) (nth p j)) hf.out (by simp [hpk]))
        clear hpk
        have hr3 := hr2.trans nq.ok
        go_wp2_with (fail)
        go_roundw
        case rel => exact ⟨k + 1, by omega, by go_num, hr3, hf2⟩
        case measure => simp [intOf]; omega
    · obtain rfl : k = l.length := by omega
      have S1 : Hid (singleS ha l p = sgl2 ha l p) := by simp [Hid, singleS, fIdx_none hf.out]
      have I1 : Hid (∀ j, j < l.length → inTimeB (cth l j) (nth p j) = true) := fun j hj => by simpa using hf.out j hj
      clear hf hlt
      go_wp2_with (fail)
      obtain ⟨wo, rfl⟩ : ∃ wo : World, wo = wr := ⟨_, rfl⟩
      have hro := Lib.hid hr
      clear hr
      go_loopw [34] (fun i wr => ∃ k : Nat, k ≤ l.length ∧ i = .int .i64 k ∧ Ext w1 wr ∧ Hid (∀ j, j < k → decide (0 ≤ hStaff ha (cth l j) (nth p j)) = false)) (fun i _ => l.length - (intOf i).toNat)
      case atStart => exact ⟨0, Nat.zero_le _, rfl, hro.out, fun j hj => by omega⟩
      case round =>
        obtain ⟨k, hk, rfl, hr, hf⟩ := hrel
        by_cases hlt : k < l.length
        · obtain ⟨b, o, rfl, c0, c1, c2, c3, c4, c5, c6⟩ := HL.out.at k hlt
          obtain ⟨b', o', rfl, d0⟩ := HP'.out.at k (by omega)
          have hkp : k < pn := by omega
          go_wp2_with (fail)
          generalize hw2 : World.alloc _ _ = w2
          obtain ⟨he2, o1, -⟩ := alloc1 hw2
          obtain ⟨a0, a1, a2, a3, a4, a5, a6⟩ := obj_cells7 o1
          clear hw2 o1
          have hr2 := hr.trans he2
          have hr0 := Ext.refl w2
          clear c0 c1 c2 c3 c4 c5 c6
          replace d0 := fun W (h : Ext w2 W) => d0 W (hr2.trans h)
          have ht := inTime_bd (HV.out.cb k hlt) (I1.out k hlt)
          have hS : ∀ n : Later w2, Calls Try.prog 75 #[cval (cth l k), .int .i64 (nth p k), .func (.func 76) #[] #[.pointer (some ⟨w.heap.size, 0, none⟩)]] n.val (Ret (.int .i64 (hStaff ha (cth l k) (nth p k))) n.val) := fun n =>
            hourOf_any 76 _ (cth l k) (nth p k) _ _ n.val (by omega) (by have := HV.out.n2; omega) (by omega) (by omega) fun d hd => ⟨enters76, fun W hW => by
              have e1 : nth p k + (d : Nat) = ((nth p k + (d : Nat)).toNat : Int) := by omega
              have := single1 (nth p k + (d : Nat)).toNat ha.st sa sc w.heap.size W (by omega) (((HH.out.st.ext he).ext (hr2.trans n.ok)).ext hW) fun W' hW' => b2 W' ((hr2.trans n.ok).trans (hW.trans hW'))
              rw [← e1] at this
              exact this⟩
          have HS := Lib.hid hS; clear hS ht
          refine wp_region_ext (by kernel_rfl) (by kernel_rfl) hr0 ?_
          repeat (quiet_step ((go_at_call 75; exact Calls.later (HS.out _))))
          refine wpQuiet_nil ?_
          rintro _ ⟨nq, rfl⟩
          have hr3 := hr2.trans nq.ok
          clear HS
          cases hpk : decide (0 ≤ hStaff ha (cth l k) (nth p k))
          · have hf2 := Lib.hid (all_lt_succ (q := fun j => decide (0 ≤ hStaff ha (cth l j) (nth p j))) hf.out hpk)
            go_wp2_with (fail)
            go_roundw
            case rel => exact ⟨k + 1, by omega, by go_num, hr3, hf2⟩
            case measure => simp [intOf]; omega
          · have H2 : Hid (singleS ha l p = ⟨2, k, 0, hStaff ha (cth l k) (nth p k)⟩) := by simp [Hid, S1.out, sgl2, fIdx_some (q := fun i => decide (0 ≤ hStaff ha (cth l i) (nth p i))) hlt hpk hf.out]
            have rf0 := rf nq.val hr3
            go_wp2_with (fail)
            refine bodyPost_ret (v := bval (singleS ha l p)) (by rw [H2.out]; simp [results, Try.results59, go_sem, r0 _ hr3, r1 _ hr3, r2 _ hr3, r3 _ hr3]) rfl ⟨rfl, ?_⟩
            exact ((((he.trans hr3).set (by simp) _).set (by simp) _).set (by simp) _).set (by simp) _
        · obtain rfl : k = l.length := by omega
          have S2 : Hid (singleS ha l p = sgl3 ha l p) := by simp [Hid, S1.out, sgl2, fIdx_none hf.out]
          clear hf hlt
          go_wp2_with (fail)
          obtain ⟨wo2, rfl⟩ : ∃ wo2 : World, wo2 = wr := ⟨_, rfl⟩
          have hro2 := Lib.hid hr
          clear hr
          go_loopw [54] (fun i wr => ∃ k : Nat, k ≤ l.length ∧ i = .int .i64 k ∧ Ext w1 wr ∧ Hid (∀ j, j < k → decide (0 ≤ hEnergy ha (cth l j) (nth p j)) = false)) (fun i _ => l.length - (intOf i).toNat)
          case atStart => exact ⟨0, Nat.zero_le _, rfl, hro2.out, fun j hj => by omega⟩
          case round =>
            obtain ⟨k, hk, rfl, hr, hf⟩ := hrel
            by_cases hlt : k < l.length
            · obtain ⟨b, o, rfl, c0, c1, c2, c3, c4, c5, c6⟩ := HL.out.at k hlt
              obtain ⟨b', o', rfl, d0⟩ := HP'.out.at k (by omega)
              have hkp : k < pn := by omega
              go_wp2_with (fail)
              generalize hw2 : World.alloc _ _ = w2
              obtain ⟨he2, o1, -⟩ := alloc1 hw2
              obtain ⟨a0, a1, a2, a3, a4, a5, a6⟩ := obj_cells7 o1
              clear hw2 o1
              have hr2 := hr.trans he2
              have hr0 := Ext.refl w2
              clear c0 c1 c2 c3 c4 c5 c6
              replace d0 := fun W (h : Ext w2 W) => d0 W (hr2.trans h)
              have ht := inTime_bd (HV.out.cb k hlt) (I1.out k hlt)
              have hS : ∀ n : Later w2, Calls Try.prog 75 #[cval (cth l k), .int .i64 (nth p k), .func (.func 77) #[] #[.pointer (some ⟨w.heap.size, 0, none⟩), .pointer (some ⟨wr.heap.size, 0, none⟩)]] n.val (Ret (.int .i64 (hEnergy ha (cth l k) (nth p k))) n.val) := fun n =>
                hourOf_any 77 _ (cth l k) (nth p k) _ _ n.val (by omega) (by have := HV.out.n2; omega) (by omega) (by omega) fun d hd => ⟨enters77, fun W hW => by
                  have e1 : nth p k + (d : Nat) = ((nth p k + (d : Nat)).toNat : Int) := by omega
                  have := single2 (nth p k + (d : Nat)).toNat ha.en ea ec w.heap.size wr.heap.size (cth l k).en W (by have := HV.out.en; omega) (((HH.out.en.ext he).ext (hr2.trans n.ok)).ext hW) (fun W' hW' => b3 W' ((hr2.trans n.ok).trans (hW.trans hW'))) fun W' hW' => a3 W' (n.ok.trans (hW.trans hW'))
                  rw [← e1] at this
                  exact this⟩
              have HS := Lib.hid hS; clear hS ht
              refine wp_region_ext (by kernel_rfl) (by kernel_rfl) hr0 ?_
              repeat (quiet_step ((go_at_call 75; exact Calls.later (HS.out _))))
              refine wpQuiet_nil ?_
              rintro _ ⟨nq, rfl⟩
              have hr3 := hr2.trans nq.ok
              clear HS
              cases hpk : decide (0 ≤ hEnergy ha (cth l k) (nth p k))
              · have hf2 := Lib.hid (all_lt_succ (q := fun j => decide (0 ≤ hEnergy ha (cth l j) (nth p j))) hf.out hpk)
                go_wp2_with (fail)
                go_roundw
                case rel => exact ⟨k + 1, by omega, by go_num, hr3, hf2⟩
                case measure => simp [intOf]; omega
              · have H2 : Hid (singleS ha l p = ⟨3, k, 0, hEnergy ha (cth l k) (nth p k)⟩) := by simp [Hid, S2.out, sgl3, fIdx_some (q := fun i => decide (0 ≤ hEnergy ha (cth l i) (nth p i))) hlt hpk hf.out]
                have rf0 := rf nq.val hr3
                go_wp2_with (fail)
                refine bodyPost_ret (v := bval (singleS ha l p)) (by rw [H2.out]; simp [results, Try.results59, go_sem, r0 _ hr3, r1 _ hr3, r2 _ hr3, r3 _ hr3]) rfl ⟨rfl, ?_⟩
                exact ((((he.trans hr3).set (by simp) _).set (by simp) _).set (by simp) _).set (by simp) _
            · obtain rfl : k = l.length := by omega
              have S3 : Hid (singleS ha l p = Br.zero) := by simp [Hid, S2.out, sgl3, fIdx_none hf.out]
              have rf0 := rf wr hr
              go_wp2_with (fail)
              refine bodyPost_ret (v := bval (singleS ha l p)) (by rw [S3.out]; simp [results, Try.results59, go_sem, r0 _ hr, r1 _ hr, r2 _ hr, r3 _ hr, Br.zero]) rfl ⟨rfl, ?_⟩
              exact ((((he.trans hr).set (by simp) _).set (by simp) _).set (by simp) _).set (by simp) _
end Go.Proofs.Ytjpgignbjkgjiaa
