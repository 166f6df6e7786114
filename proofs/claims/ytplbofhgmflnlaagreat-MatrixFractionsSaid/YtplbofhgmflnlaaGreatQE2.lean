/-
  Walk: the reference's Relation.
-/
import Derived.Test.YtplbofhgmflnlaaGreatQD
import Derived.Test.YtplbofhgmflnlaaGreatQE1
set_option linter.unusedVariables false
set_option linter.unusedSimpArgs false
namespace Go.Proofs.YtplbofhgmflnlaaGreat
open Go.RowKit
theorem selTo_mask {ws : List Wd} (h : ∀ j, j < ws.length → (wth ws j).mask < 65536) (s : Nat) : ∀ i, i ≤ ws.length → (selTo ws s i).mask < 65536
  | 0, _ => by simp [selTo, oneW]
  | i + 1, hi => by
    have ih := selTo_mask h s i (by omega)
    simp only [selTo]
    split
    · exact mulW_lt ih (h i (by omega))
    · exact ih
theorem putW_mem {l : List Wd} {w x : Wd} (h : x ∈ putW l w) : x = w ∨ x ∈ l := by
  unfold putW at h
  split at h
  · exact .inr h
  · rw [List.mem_append, List.mem_cons] at h
    rcases h with h | h | h
    · exact .inr ((List.takeWhile_sublist _).subset h)
    · exact .inl h
    · exact .inr ((List.dropWhile_sublist _).subset h)
theorem putW_len (l : List Wd) (w : Wd) : (putW l w).length ≤ l.length + 1 := by
  unfold putW
  split
  · omega
  · rw [List.length_append, List.length_cons]
    have := congrArg List.length (List.takeWhile_append_dropWhile (p := fun x => ltW x w) (l := l))
    rw [List.length_append] at this
    omega
theorem relTo_mask {ws : List Wd} (h : ∀ j, j < ws.length → (wth ws j).mask < 65536) : ∀ s, ∀ x ∈ relTo ws s, x.mask < 65536
  | 0, x, hx => by simp [relTo] at hx
  | s + 1, x, hx => by
    simp only [relTo] at hx
    split at hx
    · exact relTo_mask h s x hx
    · rcases putW_mem hx with rfl | hx
      · exact selTo_mask h s _ (Nat.le_refl _)
      · exact relTo_mask h s x hx
theorem relTo_len (ws : List Wd) : ∀ s, (relTo ws s).length ≤ s
  | 0 => by simp [relTo]
  | s + 1 => by
    have ih := relTo_len ws s
    simp only [relTo]
    split
    · omega
    · have := putW_len (relTo ws s) (selTo ws s ws.length); omega
theorem sel_on {ws : List Wd} {s k : Nat} (h : s.testBit k = true) : selTo ws s (k + 1) = mulW (selTo ws s k) (wth ws k) := by
  rw [Nat.testBit_eq_decide_div_mod_eq, decide_eq_true_eq] at h
  simp only [selTo, h, if_true]
  rfl
theorem sel_off {ws : List Wd} {s k : Nat} (h : s.testBit k = false) : selTo ws s (k + 1) = selTo ws s k := by
  rw [Nat.testBit_eq_decide_div_mod_eq, decide_eq_false_iff_not] at h
  simp only [selTo, if_neg h]
theorem clash_at {ws : List Wd} {s : Nat} (hs : s < 2 ^ ws.length) (h : selTo ws s ws.length = ⟨0, true⟩) : clashW ws = true := by
  rw [clashW_sel, List.any_eq_true]
  exact ⟨s, List.mem_range.2 hs, by simpa using h⟩
theorem clash_no {ws : List Wd} (h : ∀ s, s < 2 ^ ws.length → selTo ws s ws.length ≠ ⟨0, true⟩) : clashW ws = false := by
  rw [clashW_sel, List.any_eq_false]
  intro s hs
  have := h s (List.mem_range.1 hs)
  simpa using this
def RetRelR (ws : List Wd) (w : World) (e : Ending) (w' : World) : Prop :=
  Ext w w' ∧ ((clashW ws = true ∧ e = .returned (.tuple #[.slice none 0 0, .bool false])) ∨ (clashW ws = false ∧ ∃ g c, e = .returned (.tuple #[.slice (some ⟨g, 0, none⟩) (relTo ws (2 ^ ws.length)).length c, .bool true]) ∧ Wds w' (some ⟨g, 0, none⟩) (relTo ws (2 ^ ws.length)) ∧ (relTo ws (2 ^ ws.length)).length ≤ c))
set_option maxRecDepth 100000 in
set_option maxHeartbeats 4000000 in
theorem rRel_any (F : Fr) (w : World) (h : FrAt w F) (hl : F.ws.length ≤ 8) (hm : ∀ j, j < F.ws.length → (wth F.ws j).mask < 65536) :
    Calls Tryz.prog 35 #[frV F] w (RetRelR F.ws w) := by
  have H := Lib.hid h
  obtain ⟨fn, ws, wa, wc⟩ := F
  simp only at hl hm
  show Calls Tryz.prog 35 #[frV ⟨fn, ws, wa, wc⟩] w (RetRelR ws w)
  have HM := Lib.hid hm
  have HSM := Lib.hid (selTo_mask hm)
  have HRM := Lib.hid (relTo_mask hm)
  have HRL := Lib.hid (relTo_len ws)
  have HON := Lib.hid (fun s k => sel_on (ws := ws) (s := s) (k := k))
  have HOFF := Lib.hid (fun s k => sel_off (ws := ws) (s := s) (k := k))
  have HCA := Lib.hid (fun s => clash_at (ws := ws) (s := s))
  have HCN := Lib.hid (clash_no (ws := ws))
  have HRS : Hid (∀ s, relTo ws (s + 1) = if (selTo ws s ws.length).mask = 0 then relTo ws s else putW (relTo ws s) (selTo ws s ws.length)) := fun s => rfl
  have HRR : Hid (∀ e w', RetRelR ws w e w' ↔ (Ext w w' ∧ ((clashW ws = true ∧ e = .returned (.tuple #[.slice none 0 0, .bool false])) ∨ (clashW ws = false ∧ ∃ g c, e = .returned (.tuple #[.slice (some ⟨g, 0, none⟩) (relTo ws (2 ^ ws.length)).length c, .bool true]) ∧ Wds w' (some ⟨g, 0, none⟩) (relTo ws (2 ^ ws.length)) ∧ (relTo ws (2 ^ ws.length)).length ≤ c)))) := fun e w' => Iff.rfl
  obtain ⟨n, hnn⟩ : ∃ n, n = ws.length := ⟨_, rfl⟩
  have HN := Lib.hid hnn
  rw [← hnn] at hl HM HSM HCA HCN HRS HRR
  obtain ⟨Q, hQ⟩ : ∃ Q : Nat, Q = 2 ^ n := ⟨_, rfl⟩
  have hpow : Q ≤ 256 := by
    have : (2 : Nat) ^ n ≤ 2 ^ 8 := Nat.pow_le_pow_right (by omega) hl
    omega
  have hQi : (2 : Int) ^ n = (Q : Int) := by rw [hQ]; norm_cast
  rw [← hQ] at HCA HCN HRR
  have hfv : frV ⟨fn, ws, wa, wc⟩ = .agg #[.int .i64 fn, .slice wa n wc] := by rw [hnn]
  rw [hfv]
  clear h hm hQ hnn hfv
  go_enter Tryz.func35, Tryz.ntmps35
  go_upto_region 1 with fail
  generalize hw1 : World.alloc _ _ = w1
  obtain ⟨he, o1, -⟩ := alloc1 hw1
  obtain ⟨b0, b1⟩ := obj_cells2 o1
  have HE := Lib.hid he
  have E1 := Ext.refl w1
  clear hw1 o1 he
  go_wp2_with (fail)
  have HX0 : Hid (Ext w1 (w1.alloc (.cells #[] 75))) := E1.alloc _
  go_loopw [4, 5] (fun ov sv wr => ∃ (s g c : Nat), s ≤ Q ∧ sv = .int .i64 s ∧ ov = .slice (some ⟨g, 0, none⟩) (relTo ws s).length c ∧ Hid (Ext w1 wr ∧ Wds wr (some ⟨g, 0, none⟩) (relTo ws s) ∧ (relTo ws s).length ≤ c ∧ ∀ j, j < s → selTo ws j n ≠ ⟨0, true⟩)) (fun _ sv _ => Q - (intOf sv).toNat)
  case atStart => exact ⟨0, _, 0, Nat.zero_le _, rfl, rfl, HX0.out, .inl rfl, Nat.le_refl _, fun j hj => by omega⟩
  case round =>
    obtain ⟨s, g, c, hs, rfl, rfl, HX⟩ := hrel
    have hx := HX.out.1
    obtain ⟨wo, rfl⟩ : ∃ wo : World, wo = wr := ⟨_, rfl⟩
    have B0 := fun W (e : Ext wo W) => b0 W (hx.trans e)
    have B1 := fun W (e : Ext wo W) => b1 W (hx.trans e)
    have Er := Ext.refl wo
    by_cases hlt : s < Q
    · go_upto_region 6 with fail
      generalize hwy : World.alloc wo _ = wy
      obtain ⟨hey, oy, -⟩ := alloc1 hwy
      obtain ⟨tb, htb⟩ : ∃ tb, tb = wo.heap.size := ⟨_, rfl⟩
      have HTB : Hid (wo.heap.size ≤ tb) := by rw [htb]; exact Nat.le_refl _
      rw [← htb] at oy ⊢
      have HEY := Lib.hid hey; have HOY := Lib.hid oy
      clear hwy hey oy htb B0 B1 Er
      have B0 := fun W (e : Ext wy W) => b0 W (hx.trans (HEY.out.trans e))
      have B1 := fun W (e : Ext wy W) => b1 W (hx.trans (HEY.out.trans e))
      have Ey := Ext.refl wy
      go_wp2_with (fail)
      go_loopw [7] (fun iv wr => ∃ (k : Nat), k ≤ n ∧ iv = .int .i64 k ∧ Hid (Ext wo wr) ∧ Hid (wr.heap[tb]? = some (.cells #[.int .u16 ((selTo ws s k).mask : Int), .bool (selTo ws s k).odd] 75 (0, 0)))) (fun iv _ => n - (intOf iv).toNat)
      case atStart => exact ⟨0, Nat.zero_le _, rfl, HEY.out, HOY.out⟩
      case round =>
        obtain ⟨k, hk, rfl, HXk, HOk⟩ := hrel
        have hxk := HXk.out
        obtain ⟨y0, y1⟩ := obj_cells2 HOk.out
        have yfz := obj_free HOk.out
        have B0 := fun W (e : Ext wr W) => b0 W (hx.trans (hxk.trans e))
        have B1 := fun W (e : Ext wr W) => b1 W (hx.trans (hxk.trans e))
        have Er := Ext.refl wr
        by_cases hlk : k < n
        · have hbit := shr_and s (by omega) k (by omega)
          cases TB : s.testBit k
          · rw [TB] at hbit
            simp only [Bool.false_eq_true, if_false] at hbit
            have HNX : Hid (selTo ws s (k + 1) = selTo ws s k) := HOFF.out s k TB
            clear TB y0 y1 yfz
            have hOk2 := HOk.out
            rw [← HNX.out] at hOk2
            have HO2 := Lib.hid hOk2
            clear hOk2 HNX
            go_wp2_with (fail)
            go_roundw
            case rel => exact ⟨k + 1, by omega, by go_num, hxk, HO2.out⟩
            case measure => simp [intOf]; omega
          · rw [TB] at hbit
            simp only [if_true] at hbit
            have HNX : Hid (selTo ws s (k + 1) = mulW (selTo ws s k) (wth ws k)) := HON.out s k TB
            obtain ⟨sb, so, rfl, q0, q1⟩ := wd_at (RowAt.ext wdC_len H.out (HE.out.trans (hx.trans hxk))) k (by rw [← HN.out]; exact hlk)
            have hm1 := HSM.out s k (by omega)
            have hm2 := HM.out k hlk
            obtain ⟨x, hxe⟩ : ∃ x, x = selTo ws s k := ⟨_, rfl⟩
            obtain ⟨y, hye⟩ : ∃ y, y = wth ws k := ⟨_, rfl⟩
            rw [← hxe] at y0 y1 hm1 HNX HOk
            rw [← hye] at q0 q1 hm2 HNX
            clear hxe hye TB
            obtain ⟨xm, xo⟩ := x
            obtain ⟨ym, yo⟩ := y
            simp only at y0 y1 q0 q1 hm1 hm2
            obtain ⟨z, hz⟩ : ∃ z, z = xm ^^^ ym := ⟨_, rfl⟩
            have hxor : bits .xor .u16 (xm : Int) (ym : Int) = (z : Int) := by rw [hz]; exact bits_xor_u16_nat xm ym hm1 hm2
            have HNZ : Hid (selTo ws s (k + 1) = ⟨z, !(xo == yo)⟩) := by
              rw [Hid, HNX.out, mulW, ← hz]
              cases xo <;> cases yo <;> rfl
            have hk0 : (0 : Int) ≤ (k : Int) := by omega
            have hkn : (k : Int) < (n : Int) := by omega
            have HX0 : Hid (∀ W, Ext wr W → W.cell? ⟨tb, 0, none⟩ = some (.int .u16 (xm : Int))) := y0
            have HX1 : Hid (∀ W, Ext wr W → W.cell? ⟨tb, 1, none⟩ = some (.bool xo)) := y1
            have HF1 : Hid (∀ W, Ext wr W → W.cell? ⟨w.heap.size, 1, none⟩ = some (.slice (some ⟨sb, so, none⟩) n wc)) := B1
            have HY0 : Hid (∀ W, Ext wr W → W.cell? ⟨sb, so + k * 2, none⟩ = some (.int .u16 (ym : Int))) := q0
            have HY1 : Hid (∀ W, Ext wr W → W.cell? ⟨sb, so + k * 2 + 1, none⟩ = some (.bool yo)) := q1
            have HFZ : Hid (∀ W, Ext wr W → ∀ i, W.frozen? ⟨tb, i, none⟩ = false) := yfz
            obtain ⟨R, hR⟩ : ∃ R : World → Prop, R = fun W => Ext wo W ∧ W.heap[tb]? = some (.cells #[.int .u16 (z : Int), .bool (!(xo == yo))] 75 (0, 0)) := ⟨_, rfl⟩
            have HST : Hid (∀ W, Ext wr W → R ((W.setCell ⟨tb, 0, none⟩ (.int .u16 (z : Int))).setCell ⟨tb, 1, none⟩ (.bool (!(xo == yo))))) := fun W e => by
              rw [hR]
              refine ⟨((hxk.trans e).set HTB.out _).set HTB.out _, ?_⟩
              have h2 := block_set (block_set (e.block HOk.out) 0 (.int .u16 (z : Int))) 1 (.bool (!(xo == yo)))
              exact h2
            have HRR2 := Lib.hid hR
            clear hz hm1 hm2 y0 y1 q0 q1 yfz hR HNX
            go_upto_region 10 with fail
            refine rl_law hk0 hkn hxor HX0 HX1 HF1 HY0 HY1 HFZ HST _ (by rfl) rfl rfl rfl ?_
            intro vs w9 ls9 hl9 hJ9 e0 e1 e2 e3 e4 e5 e6 e7 e8 e9 e10 e11 e12 e13 e14 e15 e16 e17 e18
            simp only [Act.put, List.setIfInBounds_toArray, List.set_cons_zero, List.set_cons_succ]
            rw [e0, e1, e2, e3, e4, e5, e6, e7, e8, e9, e10, e11, e12, e13, e14, e15, e16, e17, e18]
            have hr9 := hJ9.2 (hl9 19 (by omega))
            rw [HRR2.out] at hr9
            have HX9 : Hid (Ext wo w9) := hr9.1
            have HO9 : Hid (w9.heap[tb]? = some (.cells #[.int .u16 ((selTo ws s (k + 1)).mask : Int), .bool (selTo ws s (k + 1)).odd] 75 (0, 0))) := by rw [HNZ.out]; exact hr9.2
            clear hJ9 hl9 e0 e1 e2 e3 e4 e5 e6 e7 e8 e9 e10 e11 e12 e13 e14 e15 e16 e17 e18 hr9 HX0 HX1 HF1 HY0 HY1 HFZ HST HRR2 hxor HOk HXk
            obtain ⟨zb, hzb⟩ : ∃ zb, zb = !(xo == yo) := ⟨_, rfl⟩
            rw [← hzb]
            clear hzb
            go_wp2_with (fail)
            go_roundw
            case rel => exact ⟨k + 1, by omega, by go_num, HX9.out, HO9.out⟩
            case measure => simp [intOf]; omega
        · obtain rfl : k = n := by omega
          have HRN := Lib.hid (HRS.out s)
          have hym := HSM.out s k (Nat.le_refl _)
          have HCS := Lib.hid (HCA.out s hlt)
          have HNC : Hid (selTo ws s k ≠ ⟨0, true⟩ → ∀ j, j < s + 1 → selTo ws j k ≠ ⟨0, true⟩) := fun h j hj => by
            rcases Nat.lt_succ_iff_lt_or_eq.1 hj with h1 | h1
            · exact HX.out.2.2.2 j h1
            · subst h1; exact h
          obtain ⟨y, hye⟩ : ∃ y, y = selTo ws s k := ⟨_, rfl⟩
          rw [← hye] at y0 y1 HRN hym HCS HNC
          clear hye HOk yfz
          obtain ⟨ym, yo⟩ := y
          simp only at y0 y1 hym
          have hxx : Ext w1 wr := hx.trans hxk
          by_cases hm0 : ym = 0
          · subst hm0
            cases yo
            · have HRE : Hid (relTo ws (s + 1) = relTo ws s) := by rw [Hid, HRN.out, if_pos rfl]
              have HNC2 := Lib.hid (HNC.out (by intro h; cases h))
              have HX2 : Hid (Ext w1 wr ∧ Wds wr (some ⟨g, 0, none⟩) (relTo ws (s + 1)) ∧ (relTo ws (s + 1)).length ≤ c ∧ ∀ j, j < s + 1 → selTo ws j k ≠ ⟨0, true⟩) := by
                rw [HRE.out]
                exact ⟨hxx, RowAt.ext wdC_len HX.out.2.1 hxk, HX.out.2.2.1, HNC2.out⟩
              clear HRN HNC HNC2 HCS hym
              go_wp2_with (fail)
              go_roundw
              case rel => exact ⟨s + 1, g, c, by omega, by go_num, by rw [HRE.out], HX2.out⟩
              case measure => simp [intOf]; omega
            · have HC1 : Hid (clashW ws = true) := HCS.out rfl
              clear HRN HNC HCS hym
              go_wp2_with (fail)
              go_ret2
              exact (HRR.out _ _).2 ⟨HE.out.trans hxx, .inl ⟨HC1.out, rfl⟩⟩
          · have hmi : ((ym : Int) == 0) = false := by rw [beq_eq_false_iff_ne]; omega
            have hmj : ((ym : Int) != 0) = true := by rw [bne_iff_ne]; omega
            have HRE : Hid (relTo ws (s + 1) = putW (relTo ws s) ⟨ym, yo⟩) := by rw [Hid, HRN.out, if_neg hm0]
            have HNC2 := Lib.hid (HNC.out (by intro h; exact hm0 (congrArg Wd.mask h)))
            have hpu := fun W (e : Ext wr W) => rPut_any (relTo ws s) ⟨ym, yo⟩ g c W (RowAt.ext wdC_len HX.out.2.1 (hxk.trans e)) (by have := HRL.out s; omega) HX.out.2.2.1 (fun j hj => HRM.out s _ (by rw [wth_eq _ _ hj]; exact List.getElem_mem _)) hym
            have HPU := Lib.hid hpu
            clear HRN HNC HCS hym hpu
            cases yo
            · go_wp2_with (fail)
              (with_reducible refine (HPU.out _ (by first | exact Ext.refl _ | assumption)).mono ?_); rintro e w9 ⟨g9, c9, rfl, he9, hw9, hc9⟩
              rw [← HRE.out] at hw9 hc9 ⊢
              have HX2 : Hid (Ext w1 w9 ∧ Wds w9 (some ⟨g9, 0, none⟩) (relTo ws (s + 1)) ∧ (relTo ws (s + 1)).length ≤ c9 ∧ ∀ j, j < s + 1 → selTo ws j k ≠ ⟨0, true⟩) := ⟨hxx.trans he9, hw9, hc9, HNC2.out⟩
              clear HPU hw9 hc9 he9
              go_wp2_with (fail)
              go_roundw
              case rel => exact ⟨s + 1, g9, c9, by omega, by go_num, rfl, HX2.out⟩
              case measure => simp [intOf]; omega
            · go_wp2_with (fail)
              (with_reducible refine (HPU.out _ (by first | exact Ext.refl _ | assumption)).mono ?_); rintro e w9 ⟨g9, c9, rfl, he9, hw9, hc9⟩
              rw [← HRE.out] at hw9 hc9 ⊢
              have HX2 : Hid (Ext w1 w9 ∧ Wds w9 (some ⟨g9, 0, none⟩) (relTo ws (s + 1)) ∧ (relTo ws (s + 1)).length ≤ c9 ∧ ∀ j, j < s + 1 → selTo ws j k ≠ ⟨0, true⟩) := ⟨hxx.trans he9, hw9, hc9, HNC2.out⟩
              clear HPU hw9 hc9 he9
              go_wp2_with (fail)
              go_roundw
              case rel => exact ⟨s + 1, g9, c9, by omega, by go_num, rfl, HX2.out⟩
              case measure => simp [intOf]; omega
    · obtain rfl : s = Q := by omega
      have HNO : Hid (clashW ws = false) := HCN.out (fun j hj => by
        have := HX.out.2.2.2 j hj
        exact this)
      go_wp2_with (fail)
      go_ret2
      exact (HRR.out _ _).2 ⟨HE.out.trans hx, .inr ⟨HNO.out, g, c, rfl, HX.out.2.1, HX.out.2.2.1⟩⟩
end Go.Proofs.YtplbofhgmflnlaaGreat
