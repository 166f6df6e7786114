/-
  Walk: the reference's Settings.
-/
import Derived.Test.YtplbofhgmflnlaaGreatNN5
import Derived.Test.YtplbofhgmflnlaaGreatPS
set_option linter.unusedVariables false
set_option linter.unusedSimpArgs false
namespace Go.Proofs.YtplbofhgmflnlaaGreat
open Go.RowKit
/-- A row of rows of numbers that is the call's own, the rows too. -/
def OwnVs (w : World) (B : Nat) (v : Value) (vs : List (Sl Int)) : Prop := OwnV w B v vs ∧ RowsI w B vs
theorem OwnVs.ext {w w' : World} {B : Nat} {v : Value} {vs : List (Sl Int)} (h : OwnVs w B v vs) (e : Ext w w') : OwnVs w' B v vs := ⟨OwnF.ext h.1 e, h.2.ext e⟩
theorem OwnVs.push {w W : World} {B g c : Nat} {a : Option Addr} {v : Value} {vs : List (Sl Int)} {xs : List Int} (h : OwnVs w B v vs) (hB : B ≤ w.heap.size) (he : Ext w W) (ho : OwnI W w.heap.size (.slice a xs.length c) xs) (hg : W.heap[g]? = some (.cells #[.slice a xs.length c] 31 (0, 0))) (hn : vs.length ≤ 100000) :
    ∃ v' w', (Builtin.append_ #[42, 42] 42 #[v, .slice (some ⟨g, 0, none⟩) 1 1]).run Tryz.prog W = .ok v' w' ∧ OwnVs w' B v' (vs ++ [⟨a, xs, c⟩]) ∧ (∀ w0, Ext w0 w → w0.heap.size ≤ B → Ext w0 w') ∧ w.heap.size ≤ w'.heap.size := by
  obtain ⟨v', w', r1, r2, r3⟩ := app_vec W B 42 v vs [⟨a, xs, c⟩] (some ⟨g, 0, none⟩) 1 (OwnF.ext h.1 he) (vec_one (x := ⟨a, xs, c⟩) hg) (by simp; omega) (Nat.le_trans hB he.size)
  refine ⟨v', w', r1, ⟨r2, ?_⟩, fun w0 e0 hb => grown_ext (e0.trans he) r3 (fun k hk => Nat.le_trans hb (h.1.lt k hk).1), Nat.le_trans he.size r3.size⟩
  refine RowsI.push (M := w.heap.size) ?_ ?_ hB ?_
  · refine RowsI.far (h.2.ext he) r3 fun i hi k hk e => ?_
    exact own_types_ne ((h.2.ext he).own i hi) (OwnF.ext h.1 he) (by decide) k k hk e rfl
  · show OwnI w' _ (.slice a xs.length c) xs
    refine own_of_block ho fun k hk => ?_
    exact r3.block k (ho.lt k hk).2 (fun e => by
      have h1 := (h.1.lt k (by first | exact e | exact e.symm)).2
      have h2 := (ho.lt k hk).1
      omega)
  · intro i hi p hp
    have := h.2.own i hi
    rw [hp] at this
    exact (ownI_lt this).2
def RetSetsR (P : Pw) (w : World) (e : Ending) (w' : World) : Prop :=
  ∃ a vs c, e = .returned (.tuple #[.slice a vs.length c, .bool true]) ∧ Ext w w' ∧ OwnV w' w.heap.size (.slice a vs.length c) vs ∧ RowsI w' w.heap.size vs ∧ vs.map (·.xs) = settingsS P
/-- The digits from place k on are written. -/
def dgRow (fs : List Fac) (n m k : Nat) : List Int := fl n fun i => if i < k then 0 else (dg fs n m i : Nat)
theorem dgRow_len (fs : List Fac) (n m k : Nat) : (dgRow fs n m k).length = n := fl_len _ _
theorem dgRow_all (fs : List Fac) (n m : Nat) : dgRow fs n m n = fl n fun _ => 0 := fl_congr _ _ _ fun i hi => by simp [hi]
theorem dgRow_set {fs : List Fac} {n m k r : Nat} (hk : k < n) (h : ∀ i, i < k + 1 → dg fs n m i = dg fs (k + 1) r i) : (dgRow fs n m (k + 1)).set k ((r % levN (fth fs k) : Nat) : Int) = dgRow fs n m k := by
  refine List.ext_getElem (by simp [dgRow, fl_len]) fun i h1 h2 => ?_
  rw [List.length_set, dgRow_len] at h1
  have e1 : ((dgRow fs n m (k + 1)).set k ((r % levN (fth fs k) : Nat) : Int))[i]'(by rw [List.length_set, dgRow_len]; exact h1) = nth ((dgRow fs n m (k + 1)).set k ((r % levN (fth fs k) : Nat) : Int)) i := by simp [nth, dgRow_len, h1]
  have e2 : (dgRow fs n m k)[i]'h2 = nth (dgRow fs n m k) i := by simp [nth, dgRow_len, h1]
  rw [e1, e2, nth_set _ _ _ _ (by rw [dgRow_len]; exact h1)]
  unfold dgRow
  rw [nth_fl _ _ _ h1, nth_fl _ _ _ h1]
  by_cases e : i = k
  · subst e
    have := h i (by omega)
    rw [if_pos rfl, if_neg (by omega), this]
    simp [dg]
  · rw [if_neg e]
    by_cases e3 : i < k
    · rw [if_pos (by omega), if_pos e3]
    · rw [if_neg (by omega), if_neg e3]
theorem dg_step {fs : List Fac} {n m k r : Nat} (h : ∀ i, i < k + 1 → dg fs n m i = dg fs (k + 1) r i) : ∀ i, i < k → dg fs n m i = dg fs k (r / levN (fth fs k)) i := fun i hi => by
  rw [h i (by omega)]
  simp only [dg]
  rw [if_neg (by omega)]
theorem dgRow_zero {fs : List Fac} (h : ∀ i, i < fs.length → 1 ≤ (fth fs i).lev) (j : Nat) : dgRow fs fs.length j 0 = atK fs j := by
  rw [atK_dg h]
  exact fl_congr _ _ _ fun i hi => by simp
set_option maxRecDepth 100000 in
set_option maxHeartbeats 4000000 in
theorem rSettings_any (P : Pw) (w : World) (hp : PlanAt w P) (hb : PlanB P) (h : planBad P = false) :
    Calls Tryz.prog 45 #[planV P] w (fun e w' => (2000 < prodTo P.fs P.fs.length ∧ Ret (.tuple #[.slice none 0 0, .bool false]) w e w') ∨ (prodTo P.fs P.fs.length ≤ 2000 ∧ RetSetsR P w e w')) := by
  have hal := fun W (e : Ext w W) a c (ls : List Int) (hl : ls.length = P.fs.length) (hi : Ints W a ls) => rAllowed_any P a ls c W (by rw [hl]; exact FoOk.of (hp.ext e) hb h) hi
  have HP := Lib.hid hp
  have HFB := Lib.hid (anyFac_off (planOk h).2.2.1)
  have hf8 := (planOk h).1
  obtain ⟨fs, fa, fc, fo, ga, gc⟩ := P
  simp only at hal HFB hf8 ⊢
  have HAL := Lib.hid hal
  clear hal hp hb h
  have HMK := Lib.hid (run_madeI fs.length (by omega))
  go_enter Tryz.func45, Tryz.ntmps45
  go_wp2_with (fail)
  generalize hw1 : World.alloc _ _ = w1
  obtain ⟨he, o1, -⟩ := alloc1 hw1
  obtain ⟨b0, b1⟩ := obj_cells2 o1
  have E1 := Ext.refl w1
  have HE := Lib.hid he
  clear hw1 o1 he
  go_loopw [4, 5] (fun a i wr => ∃ k p : Nat, k ≤ fs.length ∧ i = .int .i64 k ∧ a = .int .i64 p ∧ Ext w1 wr ∧ Hid (p = prodTo fs k ∧ 1 ≤ p ∧ p ≤ 8 ^ k)) (fun _ i _ => fs.length - (intOf i).toNat)
  case atStart => exact ⟨0, 1, Nat.zero_le _, rfl, rfl, Ext.refl _, rfl, Nat.le_refl _, by simp⟩
  case round =>
    obtain ⟨k, p, hk, rfl, rfl, hr, hpp⟩ := hrel
    obtain ⟨wo, rfl⟩ : ∃ wo : World, wo = wr := ⟨_, rfl⟩
    have h88 : p ≤ 16777216 := Nat.le_trans hpp.out.2.2 (Nat.le_trans (Nat.pow_le_pow_right (n := 8) (by omega) (show k ≤ 8 by omega)) (by decide))
    by_cases hlt : k < fs.length
    · obtain ⟨fb, fu, rfl, g0, g1, g2⟩ := fac_at (HP.out.fs.ext facC_len (HE.out.trans hr)) k hlt
      have hbd := HFB.out k hlt
      obtain ⟨L, hL⟩ : ∃ L : Nat, (fth fs k).lev = (L : Int) := ⟨(fth fs k).lev.toNat, by omega⟩
      have HL : Hid (levN (fth fs k) = L) := by unfold levN Hid; rw [hL]; rfl
      rw [hL] at g0 hbd
      have hmul : p * L ≤ 16777216 * 8 := Nat.mul_le_mul h88 (by omega)
      have hmul1 : 1 ≤ p * L := Nat.mul_pos hpp.out.2.1 (by omega)
      have hm0 : (0 : Int) ≤ (p : Int) * (L : Int) := by have := Int.natCast_mul p L; omega
      have hm1 : (p : Int) * (L : Int) ≤ 134217728 := by have := Int.natCast_mul p L; omega
      have HNX : Hid (p * L = prodTo fs (k + 1) ∧ 1 ≤ p * L ∧ p * L ≤ 8 ^ (k + 1)) := by
        refine ⟨by show _ = prodTo fs k * levN (fth fs k); rw [HL.out, hpp.out.1], hmul1, ?_⟩
        rw [Nat.pow_succ]
        exact Nat.mul_le_mul hpp.out.2.2 (by omega)
      have Er := Ext.refl wo
      have B0 := fun W (e : Ext wo W) => b0 W (hr.trans e)
      clear hL hbd hmul hmul1 hpp HL g1 g2
      go_wp2_with (fail)
      go_roundw
      case rel => exact ⟨k + 1, p * L, by omega, by go_num, by rw [Int.natCast_mul], hr, HNX.out⟩
      case measure => simp [intOf]; omega
    · obtain rfl : k = fs.length := by omega
      have HPP := hpp
      have Er := Ext.refl wo
      cases T : decide ((2000 : Int) < (p : Int))
      · have hp2 : p ≤ 2000 := by simp only [decide_eq_false_iff_not] at T; omega
        have HMK2 := HMK.out
        go_wp2_with (fail)
        have HO1 : Hid (OwnVs (wo.alloc (.cells #[] 31)) wo.heap.size (.slice (some ⟨wo.heap.size, 0, none⟩) 0 0) []) := ⟨own_empty wo 31 1, RowsI.nil _ _⟩
        have HX1 : Hid (Ext w1 (wo.alloc (.cells #[] 31))) := hr.alloc _
        obtain ⟨G, hG⟩ : ∃ G, G = wo.heap.size := ⟨_, rfl⟩
        have HG : Hid (w1.heap.size ≤ G) := by rw [hG]; exact hr.size
        have HGS : Hid (G ≤ (wo.alloc (.cells #[] 31)).heap.size) := by rw [hG, heap_size]; exact Nat.le_succ _
        rw [← hG] at HO1 ⊢
        clear hG
        go_loopw [6, 7] (fun y i wr => ∃ (j : Nat) (vs : List (Sl Int)), j ≤ p ∧ i = .int .i64 j ∧ Hid (Ext w1 wr ∧ G ≤ wr.heap.size) ∧ Hid (OwnVs wr G y vs ∧ vs.map (·.xs) = outK fs fo j)) (fun _ i _ => p - (intOf i).toNat)
        case atStart => exact ⟨0, [], Nat.zero_le _, rfl, ⟨HX1.out, HGS.out⟩, HO1.out, rfl⟩
        case round =>
          obtain ⟨j, vs, hj, rfl, hrr, hvs⟩ := hrel
          have hr := hrr.out.1
          by_cases hlt : j < p
          · obtain ⟨wj, rfl⟩ : ∃ wj : World, wj = wr := ⟨_, rfl⟩
            have B0 := fun W (e : Ext wj W) => b0 W (hr.trans e)
            have B1 := fun W (e : Ext wj W) => b1 W (hr.trans e)
            have Er := Ext.refl wj
            go_upto_region 13 with fail
            generalize hwm : madeI _ _ = wm
            obtain ⟨hem, hown, hsz⟩ := madeI_facts (n := fs.length) (by omega) hwm
            obtain ⟨g, hg⟩ : ∃ g, g = wj.heap.size := ⟨_, rfl⟩
            have HGG : Hid (g = wj.heap.size) := hg
            rw [← hg] at hown ⊢
            have HOM := Lib.hid hown
            have hem2 := hem
            clear hwm hown hsz hg Er
            have B0m := fun W (e : Ext wm W) => B0 W (hem.trans e)
            have B1m := fun W (e : Ext wm W) => B1 W (hem.trans e)
            clear hem
            go_wp2_with (fail)
            go_loopw [9, 10] (fun s i wr => ∃ (k r : Nat), k ≤ fs.length ∧ i = .int .i64 ((k : Int) - 1) ∧ s = .int .i64 r ∧ r ≤ 2000 ∧ Hid (Ext wj wr) ∧ OwnI wr g (.slice (some ⟨g, 0, none⟩) fs.length fs.length) (dgRow fs fs.length j k) ∧ Hid (∀ i, i < k → dg fs fs.length j i = dg fs k r i)) (fun _ i _ => (intOf i + 1).toNat)
            case atStart => exact ⟨fs.length, j, Nat.le_refl _, by go_num, rfl, by omega, hem2, by rw [dgRow_all]; exact HOM.out, fun i hi => rfl⟩
            case round =>
              obtain ⟨k, r, hk, rfl, rfl, hr2, hrx, hown, hdg⟩ := hrel
              by_cases hlt2 : 1 ≤ k
              · obtain ⟨x, rfl⟩ : ∃ x, k = x + 1 := ⟨k - 1, by omega⟩
                have ez : (((x + 1 : Nat) : Int) - 1) = (x : Int) := by omega
                rw [ez]
                clear ez
                have hxn : x < fs.length := by omega
                have hx0 : (0 : Int) ≤ (x : Int) := by omega
                have hx1 : (x : Int) < (fs.length : Int) := by omega
                have hcell := ownI_cell (dgRow_len _ _ _ _) hown x hxn
                have hfr := ownI_free (dgRow_len _ _ _ _) hown x
                have hbl := HFB.out x hxn
                obtain ⟨L, hL⟩ : ∃ L : Nat, (fth fs x).lev = (L : Int) := ⟨(fth fs x).lev.toNat, by omega⟩
                have HL : Hid (levN (fth fs x) = L) := by unfold levN Hid; rw [hL]; rfl
                obtain ⟨fb, fu, rfl, g0, g1, g2⟩ := fac_at (HP.out.fs.ext facC_len (HE.out.trans (hr.trans hrx.out))) x hxn
                rw [hL] at hbl g0
                have HLI := Lib.hid hL
                have hL1 : 1 ≤ L := by omega
                have hL8 : L ≤ 8 := by omega
                have B0r := fun W (e : Ext wr W) => B0 W (hrx.out.trans e)
                have Er := Ext.refl wr
                have HOW := Lib.hid hown
                clear hL hbl hown g1 g2
                go_upto_region 18 with fail
                have em : ((r : Int) % (L : Int)) = ((r % L : Nat) : Int) := rfl
                have ED : Hid (((r : Int) / (L : Int)) = ((r / L : Nat) : Int)) := rfl
                have hq0 : (0 : Int) ≤ (r : Int) / (L : Int) := by rw [ED.out]; exact Int.natCast_nonneg _
                have hq1 : (r : Int) / (L : Int) ≤ 2000 := by rw [ED.out]; exact Int.ofNat_le.2 (Nat.le_trans (Nat.div_le_self _ _) hr2)
                have hrl : r / L ≤ 2000 := Nat.le_trans (Nat.div_le_self _ _) hr2
                rw [em]
                generalize hw7 : World.setCell wr _ _ = w7
                have HX7 : Hid (Ext wj w7 ∧ OwnI w7 g (.slice (some ⟨g, 0, none⟩) fs.length fs.length) (dgRow fs fs.length j x)) := by
                  subst hw7
                  refine ⟨hrx.out.set (by rw [HGG.out]; exact Nat.le_refl _) _, ?_⟩
                  have := ownI_set2 (j := x) (dgRow_len _ _ _ _) HOW.out ((r % L : Nat) : Int)
                  have e1 := dgRow_set hxn hdg.out
                  rw [HL.out] at e1
                  rw [e1] at this
                  exact this
                have HD7 : Hid (∀ i, i < x → dg fs fs.length j i = dg fs x (r / L) i) := by
                  have := dg_step hdg.out
                  rw [HL.out] at this; exact this
                have g7 : ∀ W, Ext w7 W → W.cell? ⟨fb, fu + x * 3, none⟩ = some (.int .i64 L) := fun W e => by
                  obtain ⟨fb', fu', e', g0', -, -⟩ := fac_at (HP.out.fs.ext facC_len (HE.out.trans (hr.trans (HX7.out.1.trans e)))) x hxn
                  simp only [Option.some.injEq, Addr.mk.injEq, and_true] at e'
                  obtain ⟨rfl, rfl⟩ := e'
                  rw [g0' W (Ext.refl W), HLI.out]
                have B07 := fun W (e : Ext w7 W) => B0 W (HX7.out.1.trans e)
                have Er7 := Ext.refl w7
                clear hw7 hcell hfr hdg hrx HOW g0 Er B0r em
                go_wp2_with (fail)
                go_roundw
                case rel => exact ⟨x, r / L, by omega, by go_num, by rw [← ED.out], hrl, HX7.out.1, HX7.out.2, HD7.out⟩
                case measure => first | (simp [intOf]; done) | (simp [intOf]; omega)
              · obtain rfl : k = 0 := by omega
                rw [dgRow_zero (fun i hi => (HFB.out i hi).1)] at hown
                have hrx1 := hrx.out
                have hal : Calls Tryz.prog 44 #[.agg #[.slice fa fs.length fc, .slice ga fo.length gc], .slice (some ⟨g, 0, none⟩) fs.length fs.length] wr (Ret (.bool (alwB fo (atK fs j))) wr) := by
                  have := HAL.out wr (HE.out.trans (hr.trans hrx1)) (some ⟨g, 0, none⟩) fs.length (atK fs j) (atK_len fs j) hown.ints.1
                  rw [atK_len] at this; exact this
                obtain ⟨q, hq⟩ : ∃ q, q = alwB fo (atK fs j) := ⟨_, rfl⟩
                rw [← hq] at hal
                have HQ := Lib.hid hq
                have HOWN := Lib.hid hown
                have HA1 := Lib.hid hal
                have B0r := fun W (e : Ext wr W) => B0 W (hrx1.trans e)
                have B1r := fun W (e : Ext wr W) => B1 W (hrx1.trans e)
                have Er := Ext.refl wr
                clear hal hq hown hdg
                cases q
                · go_wp2_with (fail)
                  (with_reducible refine HA1.out.mono ?_); rintro e wz ⟨rfl, he4⟩
                  have HV4 : Hid (OwnVs wz G u6 vs ∧ vs.map (·.xs) = outK fs fo (j + 1)) := ⟨hvs.out.1.ext (hrx1.trans he4), by rw [outK_succ, ← HQ.out]; exact hvs.out.2⟩
                  have HR4 : Hid (Ext w1 wz ∧ G ≤ wz.heap.size) := ⟨hr.trans (hrx1.trans he4), Nat.le_trans hrr.out.2 (hrx1.trans he4).size⟩
                  clear hvs HOWN HA1 HQ he4
                  go_wp2_with (fail)
                  go_roundw
                  case rel => exact ⟨j + 1, vs, by omega, by go_num, HR4.out, HV4.out⟩
                  case measure => simp [intOf]; omega
                · go_wp2_with (fail)
                  (with_reducible refine HA1.out.mono ?_); rintro e wz ⟨rfl, he4⟩
                  have HAP := Lib.hid (hvs.out.1.push (W := wz.alloc (.cells #[.slice (some ⟨g, 0, none⟩) fs.length fs.length] 31)) (g := wz.heap.size) (xs := atK fs j) hrr.out.2 ((hrx1.trans he4).alloc _) (by rw [atK_len, ← HGG.out]; exact (HOWN.out.ext he4).ext ((Ext.refl wz).alloc _)) (by rw [atK_len]; exact heap_new _ _) (by have := vxs_len hvs.out.2; omega))
                  have HHX : Hid (Ext w1 wj) := hr
                  have HQQ : Hid (vs.map (·.xs) ++ [atK fs j] = outK fs fo (j + 1)) := by rw [Hid, outK_succ, ← HQ.out, hvs.out.2]; rfl
                  obtain ⟨vs2, hvs2⟩ : ∃ v, v = vs ++ [(⟨some ⟨g, 0, none⟩, atK fs j, fs.length⟩ : Sl Int)] := ⟨_, rfl⟩
                  rw [← hvs2] at HAP
                  have HVS2 := Lib.hid hvs2
                  have HGW : Hid (G ≤ wj.heap.size) := hrr.out.2
                  clear hvs2 hvs HOWN HA1 HQ hrr
                  go_wp2_with (at_builtin; refine wpList_app _ rfl _ _ 42 rfl _ HAP.out ?_; rintro v' w6 ⟨hv6, hg6, hz6⟩)
                  have HV4 : Hid (OwnVs w6 G v' vs2 ∧ vs2.map (·.xs) = outK fs fo (j + 1)) := ⟨hv6, by rw [HVS2.out, List.map_append]; exact HQQ.out⟩
                  have HR4 : Hid (Ext w1 w6 ∧ G ≤ w6.heap.size) := ⟨hg6 w1 HHX.out HG.out, Nat.le_trans HGW.out hz6⟩
                  clear hv6 hg6 hz6 HAP he4
                  go_wp2_with (fail)
                  go_roundw
                  case rel => exact ⟨j + 1, vs2, by omega, by go_num, HR4.out, HV4.out⟩
                  case measure => simp [intOf]; omega
          · obtain rfl : j = p := by omega
            have HPQ : Hid (prodTo fs fs.length ≤ 2000 ∧ outK fs fo j = outK fs fo (prodTo fs fs.length)) := by rw [← hpp.out.1]; exact ⟨hp2, rfl⟩
            obtain ⟨a, c, rfl⟩ := ownF_slice hvs.out.1.1
            go_wp2_with (fail)
            go_ret2
            exact .inr ⟨HPQ.out.1, a, vs, c, rfl, HE.out.trans hr, own_base hvs.out.1.1 (Nat.le_trans HE.out.size HG.out), hvs.out.1.2.down (Nat.le_trans HE.out.size HG.out), by rw [hvs.out.2]; exact HPQ.out.2⟩
      · have hp2 : (2000 : Int) < (p : Int) := by simpa using T
        have hpn : 2000 < p := by omega
        have HN : Hid (2000 < prodTo fs fs.length) := by rw [← hpp.out.1]; exact hpn
        clear T
        go_wp2_with (fail)
        go_ret2
        exact .inl ⟨HN.out, rfl, HE.out.trans hr⟩
end Go.Proofs.YtplbofhgmflnlaaGreat
