/-
  Walks: Settings.
-/
import Derived.Test.YtplbofhgmflnlaaGreatM5
set_option linter.unusedVariables false
set_option linter.unusedSimpArgs false
namespace Go.Proofs.YtplbofhgmflnlaaGreat
open Go.RowKit
theorem info31 : (Tryz.prog.info? 31).map (fun i => (i.zero, i.size, i.bytes)) = some (some (.slice none 0 0), 1, 24) := by kernel_rfl
abbrev OwnV (w : World) (B : Nat) (v : Value) (vs : List (Sl Int)) : Prop := OwnF 31 1 vecC w B v vs
theorem app_vec (w : World) (B : Nat) (ty : TypeId) (v : Value) (xs ys : List (Sl Int)) (a : Option Addr) (c : Nat) (hv : OwnV w B v xs) (hx : Vecs w a ys) (hn : xs.length + ys.length ≤ 1000000) (hB : B ≤ w.heap.size) :
    ∃ v' w', (Builtin.append_ #[42, 42] ty #[v, .slice a ys.length c]).run Tryz.prog w = .ok v' w' ∧ OwnV w' B v' (xs ++ ys) ∧ w.grownBy w' v.ownBlock := by
  obtain ⟨i0, hi, hz0, hz1, hz2⟩ := info_parts info31
  exact app_row vecC_len vecC_one Tryz.underlying42 hi hz0 hz1 hz2 rfl (by omega) (by omega) w B ty v xs ys a c hv hx hn hB
theorem vec_one {w : World} {b : Nat} {x : Sl Int} {T : TypeId} {fz : Nat × Nat} (h : w.heap[b]? = some (.cells #[.slice x.a x.xs.length x.c] T fz)) : Vecs w (some ⟨b, 0, none⟩) [x] := by
  have c0 := obj_cells1 h
  refine .inr ⟨b, 0, rfl, fun i hi j hj => ?_⟩
  obtain rfl : i = 0 := by simp at hi; omega
  obtain rfl : j = 0 := by omega
  exact c0 w (Ext.refl w)
/-- Each of these rows of numbers is the call's own, and no two lie in one block. -/
structure RowsI (w : World) (B : Nat) (vs : List (Sl Int)) : Prop where
  own : ∀ i, i < vs.length → OwnI w B (.slice (vth vs i).a (vth vs i).xs.length (vth vs i).c) (vth vs i).xs
  apart : ∀ i j, i < j → j < vs.length → ∀ p q, (vth vs i).a = some p → (vth vs j).a = some q → p.block ≠ q.block
theorem RowsI.nil (w : World) (B : Nat) : RowsI w B [] := ⟨fun i hi => by simp at hi, fun i j _ hj => by simp at hj⟩
theorem ownI_lt {w : World} {B n c : Nat} {p : Addr} {xs : List Int} (h : OwnI w B (.slice (some p) n c) xs) : B ≤ p.block ∧ p.block < w.heap.size := h.lt p.block rfl
theorem vth_app (vs : List (Sl Int)) (x : Sl Int) (i : Nat) (hi : i < vs.length) : vth (vs ++ [x]) i = vth vs i := by simp [vth, List.getElem?_append_left hi]
theorem vth_last (vs : List (Sl Int)) (x : Sl Int) : vth (vs ++ [x]) vs.length = x := by simp [vth]
theorem RowsI.kept {w w' : World} {B : Nat} {vs : List (Sl Int)} (h : RowsI w B vs) (hk : ∀ k, B ≤ k → k < w.heap.size → w'.heap[k]? = w.heap[k]?) : RowsI w' B vs :=
  ⟨fun i hi => own_of_block (h.own i hi) fun k hkk => hk k ((h.own i hi).lt k hkk).1 ((h.own i hi).lt k hkk).2, h.apart⟩
theorem RowsI.ext {w w' : World} {B : Nat} {vs : List (Sl Int)} (h : RowsI w B vs) (e : Ext w w') : RowsI w' B vs := ⟨fun i hi => (h.own i hi).ext e, h.apart⟩
theorem RowsI.down {w : World} {B B' : Nat} {vs : List (Sl Int)} (h : RowsI w B vs) (e : B' ≤ B) : RowsI w B' vs := ⟨fun i hi => own_down (h.own i hi) e, h.apart⟩
theorem RowsI.push {w : World} {B M : Nat} {vs : List (Sl Int)} {x : Sl Int} (h : RowsI w B vs) (hx : OwnI w M (.slice x.a x.xs.length x.c) x.xs) (hB : B ≤ M) (hl : ∀ i, i < vs.length → ∀ p, (vth vs i).a = some p → p.block < M) : RowsI w B (vs ++ [x]) := by
  refine ⟨fun i hi => ?_, fun i j hij hj p q hp hq => ?_⟩
  · rw [List.length_append, List.length_singleton] at hi
    by_cases e : i < vs.length
    · rw [vth_app _ _ _ e]; exact h.own i e
    · obtain rfl : i = vs.length := by omega
      rw [vth_last]; exact own_down hx hB
  · rw [List.length_append, List.length_singleton] at hj
    rw [vth_app _ _ _ (by omega)] at hp
    by_cases e : j < vs.length
    · rw [vth_app _ _ _ e] at hq; exact h.apart i j hij e p q hp hq
    · obtain rfl : j = vs.length := by omega
      rw [vth_last] at hq
      rw [hq] at hx
      have := (ownI_lt hx).1
      have := hl i (by omega) p hp
      omega
theorem own_types_ne {w : World} {B B' e e' sz sz' : Nat} {v v' : Value} {n n' : Nat} {xs xs' : List Value} (h : w.ownsRow B e sz v n xs) (h' : w.ownsRow B' e' sz' v' n' xs') (hne : e ≠ e') : ∀ k k', v.ownBlock = some k → v'.ownBlock = some k' → k ≠ k' := by
  intro k k' hk hk' heq
  subst heq
  rcases h.2 with ⟨hv, -⟩ | ⟨g, cap, cur, hv, -, hh, -⟩
  · rw [hv] at hk; cases hk
  · rcases h'.2 with ⟨hv', -⟩ | ⟨g', cap', cur', hv', -, hh', -⟩
    · rw [hv'] at hk'; cases hk'
    · rw [hv] at hk; rw [hv'] at hk'
      simp only [Value.ownBlock, Option.some.injEq] at hk hk'
      subst hk; subst hk'
      rw [hh] at hh'
      simp only [Option.some.injEq, Obj.cells.injEq] at hh'
      exact hne hh'.2.1
theorem RowsI.far {w w' : World} {B : Nat} {vs : List (Sl Int)} {o : Option Nat} (h : RowsI w B vs) (hg : w.grownBy w' o) (hne : ∀ i, i < vs.length → ∀ k, (Value.slice (vth vs i).a (vth vs i).xs.length (vth vs i).c).ownBlock = some k → o ≠ some k) : RowsI w' B vs :=
  ⟨fun i hi => own_of_block (h.own i hi) fun k hkk => hg.block k ((h.own i hi).lt k hkk).2 (fun e => hne i hi k hkk (by first | exact e | exact e.symm)), h.apart⟩
/-! ### plain -/
def levN (f : Fac) : Nat := f.lev.toNat
def prodTo (fs : List Fac) : Nat → Nat
  | 0 => 1
  | k + 1 => prodTo fs k * levN (fth fs k)
theorem prodTo_pos {fs : List Fac} (h : ∀ i, i < fs.length → 1 ≤ (fth fs i).lev) : ∀ k, k ≤ fs.length → 1 ≤ prodTo fs k
  | 0, _ => Nat.le_refl _
  | k + 1, hk => Nat.mul_pos (prodTo_pos h k (by omega)) (by have := h k (by omega); unfold levN; omega)
theorem prodTo_mono {fs : List Fac} (h : ∀ i, i < fs.length → 1 ≤ (fth fs i).lev) (k : Nat) : ∀ d, k + d ≤ fs.length → prodTo fs k ≤ prodTo fs (k + d)
  | 0, _ => Nat.le_refl _
  | d + 1, hd => Nat.le_trans (prodTo_mono h k d (by omega)) (by
      show prodTo fs (k + d) ≤ prodTo fs (k + d) * levN (fth fs (k + d))
      exact Nat.le_mul_of_pos_right _ (by have := h (k + d) (by omega); unfold levN; omega))
/-- The next levels: the places below k are still to be looked at. -/
def nxtK (fs : List Fac) : Nat → List Int → List Int
  | 0, l => l
  | k + 1, l => if nth l k + 1 < (fth fs k).lev then l.set k (nth l k + 1) else nxtK fs k (l.set k 0)
theorem nxtK_len (fs : List Fac) : ∀ k l, (nxtK fs k l).length = l.length
  | 0, _ => rfl
  | k + 1, l => by
    simp only [nxtK]; split
    · simp
    · rw [nxtK_len fs k]; simp
def atK (fs : List Fac) : Nat → List Int
  | 0 => fl fs.length fun _ => 0
  | j + 1 => nxtK fs fs.length (atK fs j)
theorem atK_len (fs : List Fac) : ∀ j, (atK fs j).length = fs.length
  | 0 => fl_len _ _
  | j + 1 => by simp only [atK]; rw [nxtK_len, atK_len fs j]
/-- All levels stay within 0 .. lev - 1. -/
theorem nxtK_bd {fs : List Fac} (h : ∀ i, i < fs.length → 1 ≤ (fth fs i).lev) : ∀ k (l : List Int), k ≤ fs.length → l.length = fs.length → (∀ i, i < fs.length → 0 ≤ nth l i ∧ nth l i < (fth fs i).lev) → ∀ i, i < fs.length → 0 ≤ nth (nxtK fs k l) i ∧ nth (nxtK fs k l) i < (fth fs i).lev
  | 0, _, _, _, hb => hb
  | k + 1, l, hk, hl, hb => by
    simp only [nxtK]; split
    · rename_i hlt
      intro i hi
      rw [nth_set _ _ _ _ (by omega)]
      split
      · rename_i e; subst e; have := hb i hi; exact ⟨by omega, hlt⟩
      · exact hb i hi
    · refine nxtK_bd h k _ (by omega) (by simpa using hl) fun i hi => ?_
      rw [nth_set _ _ _ _ (by omega)]
      split
      · rename_i e; subst e; have := h i hi; exact ⟨by omega, by omega⟩
      · exact hb i hi
theorem atK_bd {fs : List Fac} (h : ∀ i, i < fs.length → 1 ≤ (fth fs i).lev) : ∀ j i, i < fs.length → 0 ≤ nth (atK fs j) i ∧ nth (atK fs j) i < (fth fs i).lev
  | 0, i, hi => by
    simp only [atK]; rw [nth_fl _ _ _ hi]; have := h i hi; omega
  | j + 1, i, hi => nxtK_bd h _ _ (Nat.le_refl _) (atK_len fs j) (atK_bd h j) i hi
def outK (fs : List Fac) (fo : List (Sl Pr)) (j : Nat) : List (List Int) := ((List.range j).map (atK fs)).filter (alwB fo)
theorem outK_succ (fs : List Fac) (fo : List (Sl Pr)) (j : Nat) : outK fs fo (j + 1) = if alwB fo (atK fs j) then outK fs fo j ++ [atK fs j] else outK fs fo j := by
  unfold outK
  rw [List.range_succ, List.map_append, List.filter_append]
  by_cases h : alwB fo (atK fs j) = true
  · simp [h]
  · simp [h]
theorem outK_len (fs : List Fac) (fo : List (Sl Pr)) (j : Nat) : (outK fs fo j).length ≤ j := by
  unfold outK
  exact Nat.le_trans (List.length_filter_le _ _) (by simp)
def settingsS (P : Pw) : List (List Int) := outK P.fs P.fo (prodTo P.fs P.fs.length)
def settE (P : Pw) : Int := if planBad P then 2 else if 2000 < prodTo P.fs P.fs.length then 5 else 0
def RetSets (P : Pw) (w : World) (e : Ending) (w' : World) : Prop :=
  ∃ a vs c, e = .returned (.tuple #[.slice a vs.length c, .int .i64 0]) ∧ Ext w w' ∧ OwnV w' w.heap.size (.slice a vs.length c) vs ∧ RowsI w' w.heap.size vs ∧ vs.map (·.xs) = settingsS P
theorem vxs_len {fs : List Fac} {fo : List (Sl Pr)} {j : Nat} {vs : List (Sl Int)} (h : vs.map (·.xs) = outK fs fo j) : vs.length ≤ j := by
  have := outK_len fs fo j
  rw [← h] at this; simpa using this
set_option maxHeartbeats 1000000 in
theorem settings_err1 (P : Pw) (w : World) (hp : PlanAt w P) (hb : PlanB P) (h : planBad P = true) : Calls Tryz.prog 22 #[planV P] w (Ret (.tuple #[.slice none 0 0, .int .i64 2]) w) := by
  have hcp := fun W (e : Ext w W) => checkPlan_any P W (hp.ext e) (fun i hi => by have := hb.pl i hi; omega) (by have := hb.fl; omega) (by have := hb.gl; omega)
  rw [show planE P = 2 by unfold planE; rw [h]; rfl] at hcp
  obtain ⟨fs, fa, fc, fo, ga, gc⟩ := P
  have HCP := Lib.hid hcp
  clear hcp hp hb h
  go_enter Tryz.func22, Tryz.ntmps22
  go_wp2_with (fail)
  generalize hw1 : World.alloc _ _ = w1
  obtain ⟨he, o1, -⟩ := alloc1 hw1
  obtain ⟨b0, b1⟩ := obj_cells2 o1
  have E1 := Ext.refl w1
  have HE := Lib.hid he
  clear hw1 o1 he
  go_wp2_with (fail)
  (with_reducible refine (HCP.out _ HE.out).mono ?_); rintro e w2 ⟨rfl, he2⟩
  go_wp2_with (fail)
  go_ret2
  exact ⟨rfl, HE.out.trans he2⟩
set_option maxRecDepth 100000 in
set_option maxHeartbeats 4000000 in
theorem settings_ok (P : Pw) (w : World) (hp : PlanAt w P) (hb : PlanB P) (h : planBad P = false) :
    Calls Tryz.prog 22 #[planV P] w (fun e w' => (2000 < prodTo P.fs P.fs.length ∧ Ret (.tuple #[.slice none 0 0, .int .i64 5]) w e w') ∨ (prodTo P.fs P.fs.length ≤ 2000 ∧ RetSets P w e w')) := by
  have hcp := fun W (e : Ext w W) => checkPlan_any P W (hp.ext e) (fun i hi => by have := hb.pl i hi; omega) (by have := hb.fl; omega) (by have := hb.gl; omega)
  rw [show planE P = 0 by unfold planE; rw [h]; rfl] at hcp
  have hal := fun W (e : Ext w W) a c (ls : List Int) (hl : ls.length = P.fs.length) (hi : Ints W a ls) => allowed_any P a ls c W (by rw [hl]; exact FoOk.of (hp.ext e) hb h) hi
  have HP := Lib.hid hp
  have HFB := Lib.hid (anyFac_off (planOk h).2.2.1)
  have hf8 := (planOk h).1
  obtain ⟨fs, fa, fc, fo, ga, gc⟩ := P
  simp only at hal HFB hf8 hcp ⊢
  have HCP := Lib.hid hcp; have HAL := Lib.hid hal
  clear hcp hal hp hb h
  have HMK := Lib.hid (run_madeI fs.length (by omega))
  go_enter Tryz.func22, Tryz.ntmps22
  go_wp2_with (fail)
  generalize hw1 : World.alloc _ _ = w1
  obtain ⟨he, o1, -⟩ := alloc1 hw1
  obtain ⟨b0, b1⟩ := obj_cells2 o1
  have E1 := Ext.refl w1
  have HE := Lib.hid he
  clear hw1 o1 he
  go_wp2_with (fail)
  (with_reducible refine (HCP.out _ HE.out).mono ?_); rintro e w2 ⟨rfl, he2⟩
  have HE2 := Lib.hid he2
  clear HCP E1
  go_wp2_with (fail)
  go_loopw [5, 19] (fun a i wr => ∃ k p : Nat, k ≤ fs.length ∧ i = .int .i64 k ∧ a = .int .i64 p ∧ Ext w1 wr ∧ Hid (p = prodTo fs k ∧ 1 ≤ p ∧ p ≤ 2000)) (fun _ i _ => fs.length - (intOf i).toNat)
  case atStart => exact ⟨0, 1, Nat.zero_le _, rfl, rfl, HE2.out, rfl, Nat.le_refl _, by omega⟩
  case round =>
    obtain ⟨k, p, hk, rfl, rfl, hr, hpp⟩ := hrel
    obtain ⟨wo, rfl⟩ : ∃ wo : World, wo = wr := ⟨_, rfl⟩
    clear he2
    by_cases hlt : k < fs.length
    · obtain ⟨fb, fu, rfl, g0, g1, g2⟩ := fac_at (HP.out.fs.ext facC_len (HE.out.trans hr)) k hlt
      have hbd := HFB.out k hlt
      obtain ⟨L, hL⟩ : ∃ L : Nat, (fth fs k).lev = (L : Int) := ⟨(fth fs k).lev.toNat, by omega⟩
      have HL : Hid (levN (fth fs k) = L) := by unfold levN Hid; rw [hL]; rfl
      rw [hL] at g0 hbd
      have hmul : p * L ≤ 2000 * 8 := Nat.mul_le_mul hpp.out.2.2 (by omega)
      have hmul1 : 1 ≤ p * L := Nat.mul_pos hpp.out.2.1 (by omega)
      have hm0 : (0 : Int) ≤ (p : Int) * (L : Int) := by have := Int.natCast_mul p L; omega
      have hm1 : (p : Int) * (L : Int) ≤ 16000 := by have := Int.natCast_mul p L; omega
      have Er := Ext.refl wo
      clear hL hbd
      cases T : decide ((2000 : Int) < (p : Int) * (L : Int))
      · have HNX : Hid (p * L = prodTo fs (k + 1) ∧ 1 ≤ p * L ∧ p * L ≤ 2000) := by
          refine ⟨by show _ = prodTo fs k * levN (fth fs k); rw [HL.out, hpp.out.1], hmul1, ?_⟩
          simp only [decide_eq_false_iff_not] at T
          have := Int.natCast_mul p L; omega
        go_upto_region 8 with fail
        generalize hw3 : World.alloc wo _ = w3
        obtain ⟨he3, o3, hs3⟩ := alloc1 hw3
        obtain ⟨z0, z1, z2⟩ := obj_cells3 o3
        have hr3 := hr.trans he3
        clear hw3 o3 g0 g1 g2 Er hmul hmul1 hpp HL he3 hs3
        have Er := Ext.refl w3
        go_wp2_with (fail)
        go_roundw
        case rel => exact ⟨k + 1, p * L, by omega, by go_num, by rw [Int.natCast_mul], hr3, HNX.out⟩
        case measure => simp [intOf]; omega
      · have HNX : Hid (2000 < prodTo fs fs.length) := by
          have h1 : 2000 < prodTo fs (k + 1) := by
            show _ < prodTo fs k * levN (fth fs k)
            rw [HL.out, ← hpp.out.1]
            simp only [decide_eq_true_eq] at T
            have := Int.natCast_mul p L; omega
          have h2 := prodTo_mono (fs := fs) (fun i hi => (HFB.out i hi).1) (k + 1) (fs.length - (k + 1)) (by omega)
          rw [show k + 1 + (fs.length - (k + 1)) = fs.length by omega] at h2
          exact Nat.lt_of_lt_of_le h1 h2
        go_upto_region 8 with fail
        generalize hw3 : World.alloc wo _ = w3
        obtain ⟨he3, o3, hs3⟩ := alloc1 hw3
        obtain ⟨z0, z1, z2⟩ := obj_cells3 o3
        have hr3 := hr.trans he3
        clear hw3 o3 g0 g1 g2 Er hmul hmul1 hpp HL he3 hs3
        have Er := Ext.refl w3
        go_wp2_with (fail)
        go_ret2
        exact .inl ⟨HNX.out, rfl, HE.out.trans hr3⟩
    · obtain rfl : k = fs.length := by omega
      have HPP := hpp
      have HMK2 := HMK.out
      go_wp2_with (fail)
      generalize hwm : madeI _ _ = wm
      obtain ⟨hem, hown, hsz⟩ := madeI_facts (n := fs.length) (by omega) hwm
      obtain ⟨g, hg⟩ : ∃ g, g = wo.heap.size := ⟨_, rfl⟩
      rw [← hg] at hown hsz ⊢
      have hp2 : p ≤ 2000 := hpp.out.2.2
      have HG : Hid (g = wo.heap.size ∧ wm.heap.size = g + 1 ∧ w1.heap.size ≤ g) := ⟨hg, hsz, by have := hr.size; omega⟩
      have HRM := Lib.hid (hr.trans hem)
      have HOM := Lib.hid hown
      clear hwm hem hown hsz hg HMK2 hr HMK
      go_loopw [8, 35] (fun out i wr => ∃ (j : Nat) (vs : List (Sl Int)) (a : Option Addr) (c : Nat), j ≤ p ∧ i = .int .i64 j ∧ out = .slice a vs.length c ∧ Hid (Ext w1 wr) ∧ OwnI wr g (.slice (some ⟨g, 0, none⟩) fs.length fs.length) (atK fs j) ∧ Hid (OwnV wr (g + 1) (.slice a vs.length c) vs ∧ RowsI wr (g + 1) vs ∧ vs.map (·.xs) = outK fs fo j ∧ g + 1 ≤ wr.heap.size)) (fun _ i _ => p - (intOf i).toNat)
      case atStart => exact ⟨0, [], none, 0, Nat.zero_le _, rfl, rfl, HRM.out, HOM.out, OwnF.nil _ _ _ _ _, RowsI.nil _ _, rfl, by have := HG.out.2.1; omega⟩
      case round =>
        obtain ⟨j, vs, a, c, hj, rfl, rfl, hr, hown, hvs⟩ := hrel
        by_cases hlt : j < p
        · have hal : Calls Tryz.prog 81 #[.agg #[.slice fa fs.length fc, .slice ga fo.length gc], .slice (some ⟨g, 0, none⟩) fs.length fs.length] wr (Ret (.bool (alwB fo (atK fs j))) wr) := by
            have := HAL.out wr (HE.out.trans hr.out) (some ⟨g, 0, none⟩) fs.length (atK fs j) (atK_len fs j) hown.ints.1
            rw [atK_len] at this; exact this
          obtain ⟨q, hq⟩ : ∃ q, q = alwB fo (atK fs j) := ⟨_, rfl⟩
          rw [← hq] at hal
          have HA1 := Lib.hid hal
          have HQ := Lib.hid hq
          have HOWN := Lib.hid hown
          have hrr := hr.out
          clear hal hq hown
          cases q
          · go_wp2_with (fail)
            (with_reducible refine HA1.out.mono ?_); rintro e wz ⟨rfl, he4⟩
            have HV4 : Hid (OwnV wz (g + 1) (.slice a vs.length c) vs ∧ RowsI wz (g + 1) vs ∧ vs.map (·.xs) = outK fs fo (j + 1) ∧ g + 1 ≤ wz.heap.size) := by
              refine ⟨hvs.out.1.ext he4, hvs.out.2.1.ext he4, ?_, Nat.le_trans hvs.out.2.2.2 he4.size⟩
              rw [outK_succ, ← HQ.out]; exact hvs.out.2.2.1
            have HO4 := Lib.hid (HOWN.out.ext he4)
            have HR4 := Lib.hid (hr.out.trans he4)
            clear hvs HOWN HA1 HQ he4 hrr
            go_wp2_with (fail)
            go_loopw [10] (fun i wr => ∃ (k : Nat) (ys : List Int), k ≤ fs.length ∧ i = .int .i64 ((k : Int) - 1) ∧ Hid (Ext w1 wr ∧ ExtX g wz wr) ∧ OwnI wr g (.slice (some ⟨g, 0, none⟩) fs.length fs.length) ys ∧ Hid (ys.length = fs.length ∧ nxtK fs k ys = atK fs (j + 1) ∧ ∀ i, i < fs.length → 0 ≤ nth ys i ∧ nth ys i < (fth fs i).lev)) (fun i _ => (intOf i + 1).toNat)
            case atStart => exact ⟨fs.length, atK fs j, Nat.le_refl _, rfl, ⟨HR4.out, ExtX.refl _ _⟩, HO4.out, atK_len _ _, rfl, atK_bd (fun i hi => (HFB.out i hi).1) j⟩
            case round =>
              obtain ⟨k, ys, hk, rfl, hrx, hown, hys⟩ := hrel
              by_cases hlt2 : 1 ≤ k
              · obtain ⟨x, rfl⟩ : ∃ x, k = x + 1 := ⟨k - 1, by omega⟩
                have ez : (((x + 1 : Nat) : Int) - 1) = (x : Int) := by omega
                rw [ez]
                clear ez
                have hxn : x < fs.length := by omega
                have hx0 : (0 : Int) ≤ (x : Int) := by omega
                have hx1 : (x : Int) < (fs.length : Int) := by omega
                have hcell := ownI_cell hys.out.1 hown x hxn
                have hfr := ownI_free hys.out.1 hown x
                have hbz := hys.out.2.2 x hxn
                have hbl := HFB.out x hxn
                obtain ⟨z, hz⟩ : ∃ z, z = nth ys x := ⟨_, rfl⟩
                obtain ⟨L, hL⟩ : ∃ L, L = (fth fs x).lev := ⟨_, rfl⟩
                rw [← hz] at hcell hbz
                rw [← hL] at hbz hbl
                have hz0 : 0 ≤ z := hbz.1
                have hz8 : z ≤ 7 := by omega
                have hzL : z < L := hbz.2
                have HZ := Lib.hid hz; have HL := Lib.hid hL
                have HOW := Lib.hid hown
                clear hz hL hbz hbl hown
                go_upto_region 22 with fail
                generalize hw7 : World.setCell wr _ _ = w7
                have HX7 : Hid (Ext w1 w7 ∧ ExtX g wz w7 ∧ OwnI w7 g (.slice (some ⟨g, 0, none⟩) fs.length fs.length) (ys.set x (z + 1))) := by
                  subst hw7
                  exact ⟨hrx.out.1.set HG.out.2.2 _, hrx.out.2.set _ _, ownI_set2 hys.out.1 HOW.out _⟩
                have hc7 : ∀ W, Ext w7 W → W.cell? ⟨g, x, none⟩ = some (.int .i64 (z + 1)) := fun W e => by
                  rw [ownI_cell (by rw [List.length_set]; exact hys.out.1) (HX7.out.2.2.ext e) x hxn, nth_set _ _ _ _ (by rw [hys.out.1]; exact hxn), if_pos rfl]
                obtain ⟨fb, fu, rfl, g0, g1, g2⟩ := fac_at (HP.out.fs.ext facC_len (HE.out.trans HX7.out.1)) x hxn
                rw [← HL.out] at g0
                have b0' := fun W (e : Ext w7 W) => b0 W (HX7.out.1.trans e)
                have hr0 := Ext.refl w7
                clear hw7 hcell hfr g1 g2
                refine wp_region_ext (by kernel_rfl) (by kernel_rfl) hr0 ?_
                repeat (first | go_big_quiet_step (((fail))) | quiet_step (((fail))))
                refine wpQuiet_nil ?_
                rintro _ ⟨nq, rfl⟩
                have hq := nq.ok
                cases T : decide (z + 1 < L)
                · have hfr8 := ownI_free (by rw [List.length_set]; exact hys.out.1) (HX7.out.2.2.ext hq) x
                  have hc8 := hc7 nq.val hq
                  have HNX : Hid (Ext w1 (nq.val.setCell ⟨g, x, none⟩ (.int .i64 0)) ∧ ExtX g wz (nq.val.setCell ⟨g, x, none⟩ (.int .i64 0))) := ⟨(HX7.out.1.trans hq).set HG.out.2.2 _, (HX7.out.2.1.trans hq.x).set _ _⟩
                  have HNO : Hid (OwnI (nq.val.setCell ⟨g, x, none⟩ (.int .i64 0)) g (.slice (some ⟨g, 0, none⟩) fs.length fs.length) (ys.set x 0)) := by
                    have := ownI_set2 (j := x) (by rw [List.length_set]; exact hys.out.1) (HX7.out.2.2.ext hq) 0
                    rw [List.set_set] at this; exact this
                  have HNY : Hid ((ys.set x 0).length = fs.length ∧ nxtK fs x (ys.set x 0) = atK fs (j + 1) ∧ ∀ i, i < fs.length → 0 ≤ nth (ys.set x 0) i ∧ nth (ys.set x 0) i < (fth fs i).lev) := by
                    refine ⟨by rw [List.length_set]; exact hys.out.1, ?_, fun i hi => ?_⟩
                    · have := hys.out.2.1
                      simp only [nxtK] at this
                      rw [← HZ.out, ← HL.out, if_neg (by simpa using T)] at this
                      exact this
                    · rw [nth_set _ _ _ _ (by rw [hys.out.1]; exact hi)]
                      split
                      · have := (HFB.out i hi).1; omega
                      · exact hys.out.2.2 i hi
                  clear HX7 hys
                  go_wp2_with (fail)
                  go_roundw
                  case rel => exact ⟨x, ys.set x 0, by omega, by go_num, HNX.out, HNO.out, HNY.out⟩
                  case measure => first | (simp [intOf]; done) | (simp [intOf]; omega)
                · have HAT : Hid (ys.set x (z + 1) = atK fs (j + 1)) := by
                    have := hys.out.2.1
                    simp only [nxtK] at this
                    rw [← HZ.out, ← HL.out, if_pos (by simpa using T)] at this
                    exact this
                  have HFI := Lib.hid (HX7.out.1.trans hq)
                  have HFX : Hid (ExtX g wz nq.val) := HX7.out.2.1.trans hq.x
                  have HFO := Lib.hid (HX7.out.2.2.ext hq)
                  rw [HAT.out] at HFO
                  have HFV : Hid (g + 1 ≤ wz.heap.size) := HV4.out.2.2.2
                  clear HX7 hys
                  go_wp2_with (fail)
                  go_roundw
                  case rel => exact ⟨j + 1, _, _, _, by omega, by go_num, rfl, HFI.out, HFO.out, own_of_block HV4.out.1 (fun k hk => HFX.out.block k (HV4.out.1.lt k hk).2 (by have := (HV4.out.1.lt k hk).1; omega)), HV4.out.2.1.kept (fun k h1 h2 => HFX.out.block k h2 (by omega)), HV4.out.2.2.1, Nat.le_trans HV4.out.2.2.2 HFX.out.size⟩
                  case measure => first | (simp [intOf]; done) | (simp [intOf]; omega)
              · obtain rfl : k = 0 := by omega
                have HAT : Hid (ys = atK fs (j + 1)) := hys.out.2.1
                rw [HAT.out] at hown
                have HFO := Lib.hid hown
                clear hown hys
                go_wp2_with (fail)
                go_roundw
                case rel => exact ⟨j + 1, _, _, _, by omega, by go_num, rfl, hrx.out.1, HFO.out, own_of_block HV4.out.1 (fun k hk => hrx.out.2.block k (HV4.out.1.lt k hk).2 (by have := (HV4.out.1.lt k hk).1; omega)), HV4.out.2.1.kept (fun k h1 h2 => hrx.out.2.block k h2 (by omega)), HV4.out.2.2.1, Nat.le_trans HV4.out.2.2.2 hrx.out.2.size⟩
                case measure => first | (simp [intOf]; done) | (simp [intOf]; omega)
          · have hcl := fun W (e : Ext wr W) => clone_int (some ⟨g, 0, none⟩) fs.length (atK fs j) W (HOWN.out.ext e).ints.1 (by rw [atK_len]; omega)
            rw [atK_len] at hcl
            have HCL := Lib.hid hcl
            clear hcl
            go_wp2_with (fail)
            (with_reducible refine HA1.out.mono ?_); rintro e w4 ⟨rfl, he4⟩
            go_wp2_with (fail)
            (with_reducible refine (HCL.out w4 he4).mono ?_); rintro e w5 ⟨ca, cc, rfl, he5, hoc⟩
            rw [atK_len] at hoc ⊢
            have he45 := he4.trans he5
            have HEN := Lib.hid hvs.out.2.2.2
            have happ := app_vec (w5.alloc (.cells #[.slice ca fs.length cc] 31)) (g + 1) 42 _ vs [⟨ca, atK fs j, cc⟩] (some ⟨w5.heap.size, 0, none⟩) 1 ((hvs.out.1.ext he45).ext ((Ext.refl w5).alloc _)) (vec_one (by show _ = some (Obj.cells #[.slice ca (atK fs j).length cc] 31 (0, 0)); rw [atK_len]; exact heap_new _ _))
              (by have := vxs_len hvs.out.2.2.1; have := hpp.out.2.2; simp; omega) (by rw [heap_size]; have := hvs.out.2.2.2; have := he45.size; omega)
            have HAP := Lib.hid happ
            have HBK : Hid (∀ k, (Value.slice a vs.length c).ownBlock = some k → g + 1 ≤ k) := fun k hk => (hvs.out.1.lt k hk).1
            have HHO := Lib.hid hoc
            have HE4 := Lib.hid he4; have HE5 := Lib.hid he5
            clear happ HCL HA1 hoc he4 he5
            go_wp2_with (at_builtin; refine wpList_app _ rfl _ _ 42 rfl _ HAP.out ?_; rintro v' w6 ⟨hv6, hg6⟩; obtain ⟨vs2, hvs2⟩ : ∃ v, v = vs ++ [(⟨ca, atK fs j, cc⟩ : Sl Int)] := ⟨_, rfl⟩; rw [← hvs2] at hv6; have HVS2 := Lib.hid hvs2; clear hvs2; obtain ⟨a6, c6, rfl⟩ := ownF_slice hv6)
            have HV4 : Hid (OwnV w6 (g + 1) (.slice a6 vs2.length c6) vs2 ∧ RowsI w6 (g + 1) vs2 ∧ vs2.map (·.xs) = outK fs fo (j + 1) ∧ g + 1 ≤ w6.heap.size) := by
              rw [HVS2.out] at hv6 ⊢
              have hsz5 : w5.heap.size ≤ w6.heap.size := by have := hg6.size; rw [heap_size] at this; omega
              have h45 := HE4.out.size; have h55 := HE5.out.size
              refine ⟨hv6, RowsI.push (M := w4.heap.size) ?_ ?_ (by have := HEN.out; omega) ?_, ?_, by have := HEN.out; omega⟩
              · refine RowsI.far ((hvs.out.2.1.ext he45).ext ((Ext.refl w5).alloc _)) hg6 fun i hi k hk e => ?_
                exact own_types_ne (hvs.out.2.1.own i hi) hvs.out.1 (by decide) k k hk e rfl
              · show OwnI w6 _ (.slice ca (atK fs j).length cc) (atK fs j)
                rw [atK_len]
                refine own_of_block (own_ext HHO.out ((Ext.refl w5).alloc (.cells #[.slice ca fs.length cc] 31))) fun k hk => ?_
                exact hg6.block k (by rw [heap_size]; have := (HHO.out.lt k hk).2; omega) (fun e => by
                  have h1 := (hvs.out.1.lt k (by first | exact e | exact e.symm)).2
                  have h2 := (HHO.out.lt k hk).1
                  omega)
              · intro i hi p hp
                have := hvs.out.2.1.own i hi
                rw [hp] at this
                have := (ownI_lt this).2
                omega
              · rw [List.map_append, hvs.out.2.2.1, outK_succ, ← HQ.out]; rfl
            have HO4 : Hid (OwnI w6 g (.slice (some ⟨g, 0, none⟩) fs.length fs.length) (atK fs j)) := by
              refine own_of_block ((HOWN.out.ext he45).ext ((Ext.refl w5).alloc (.cells #[.slice ca fs.length cc] 31))) fun k hk => ?_
              simp only [Value.ownBlock, Option.some.injEq] at hk
              subst hk
              exact hg6.block g (by rw [heap_size]; have := (own_lt HOWN.out).2; have := he45.size; omega) (fun e => by
                have h1 := HBK.out g (by first | exact e | exact e.symm)
                omega)
            have HR4 : Hid (Ext w1 w6) := grown_ext ((hrr.trans he45).alloc _) hg6 (fun k hk => by have := HBK.out k hk; have := HG.out.2.2; omega)
            clear HAP hv6 hg6 HEN HHO HE4 HE5 HBK hvs HOWN HQ hrr he45
            generalize w6 = wz at *
            go_wp2_with (fail)
            go_loopw [10] (fun i wr => ∃ (k : Nat) (ys : List Int), k ≤ fs.length ∧ i = .int .i64 ((k : Int) - 1) ∧ Hid (Ext w1 wr ∧ ExtX g wz wr) ∧ OwnI wr g (.slice (some ⟨g, 0, none⟩) fs.length fs.length) ys ∧ Hid (ys.length = fs.length ∧ nxtK fs k ys = atK fs (j + 1) ∧ ∀ i, i < fs.length → 0 ≤ nth ys i ∧ nth ys i < (fth fs i).lev)) (fun i _ => (intOf i + 1).toNat)
            case atStart => exact ⟨fs.length, atK fs j, Nat.le_refl _, rfl, ⟨HR4.out, ExtX.refl _ _⟩, HO4.out, atK_len _ _, rfl, atK_bd (fun i hi => (HFB.out i hi).1) j⟩
            case round =>
              obtain ⟨k, ys, hk, rfl, hrx, hown, hys⟩ := hrel
              by_cases hlt2 : 1 ≤ k
              · obtain ⟨x, rfl⟩ : ∃ x, k = x + 1 := ⟨k - 1, by omega⟩
                have ez : (((x + 1 : Nat) : Int) - 1) = (x : Int) := by omega
                rw [ez]
                clear ez
                have hxn : x < fs.length := by omega
                have hx0 : (0 : Int) ≤ (x : Int) := by omega
                have hx1 : (x : Int) < (fs.length : Int) := by omega
                have hcell := ownI_cell hys.out.1 hown x hxn
                have hfr := ownI_free hys.out.1 hown x
                have hbz := hys.out.2.2 x hxn
                have hbl := HFB.out x hxn
                obtain ⟨z, hz⟩ : ∃ z, z = nth ys x := ⟨_, rfl⟩
                obtain ⟨L, hL⟩ : ∃ L, L = (fth fs x).lev := ⟨_, rfl⟩
                rw [← hz] at hcell hbz
                rw [← hL] at hbz hbl
                have hz0 : 0 ≤ z := hbz.1
                have hz8 : z ≤ 7 := by omega
                have hzL : z < L := hbz.2
                have HZ := Lib.hid hz; have HL := Lib.hid hL
                have HOW := Lib.hid hown
                clear hz hL hbz hbl hown
                go_upto_region 22 with fail
                generalize hw7 : World.setCell wr _ _ = w7
                have HX7 : Hid (Ext w1 w7 ∧ ExtX g wz w7 ∧ OwnI w7 g (.slice (some ⟨g, 0, none⟩) fs.length fs.length) (ys.set x (z + 1))) := by
                  subst hw7
                  exact ⟨hrx.out.1.set HG.out.2.2 _, hrx.out.2.set _ _, ownI_set2 hys.out.1 HOW.out _⟩
                have hc7 : ∀ W, Ext w7 W → W.cell? ⟨g, x, none⟩ = some (.int .i64 (z + 1)) := fun W e => by
                  rw [ownI_cell (by rw [List.length_set]; exact hys.out.1) (HX7.out.2.2.ext e) x hxn, nth_set _ _ _ _ (by rw [hys.out.1]; exact hxn), if_pos rfl]
                obtain ⟨fb, fu, rfl, g0, g1, g2⟩ := fac_at (HP.out.fs.ext facC_len (HE.out.trans HX7.out.1)) x hxn
                rw [← HL.out] at g0
                have b0' := fun W (e : Ext w7 W) => b0 W (HX7.out.1.trans e)
                have hr0 := Ext.refl w7
                clear hw7 hcell hfr g1 g2
                refine wp_region_ext (by kernel_rfl) (by kernel_rfl) hr0 ?_
                repeat (first | go_big_quiet_step (((fail))) | quiet_step (((fail))))
                refine wpQuiet_nil ?_
                rintro _ ⟨nq, rfl⟩
                have hq := nq.ok
                cases T : decide (z + 1 < L)
                · have hfr8 := ownI_free (by rw [List.length_set]; exact hys.out.1) (HX7.out.2.2.ext hq) x
                  have hc8 := hc7 nq.val hq
                  have HNX : Hid (Ext w1 (nq.val.setCell ⟨g, x, none⟩ (.int .i64 0)) ∧ ExtX g wz (nq.val.setCell ⟨g, x, none⟩ (.int .i64 0))) := ⟨(HX7.out.1.trans hq).set HG.out.2.2 _, (HX7.out.2.1.trans hq.x).set _ _⟩
                  have HNO : Hid (OwnI (nq.val.setCell ⟨g, x, none⟩ (.int .i64 0)) g (.slice (some ⟨g, 0, none⟩) fs.length fs.length) (ys.set x 0)) := by
                    have := ownI_set2 (j := x) (by rw [List.length_set]; exact hys.out.1) (HX7.out.2.2.ext hq) 0
                    rw [List.set_set] at this; exact this
                  have HNY : Hid ((ys.set x 0).length = fs.length ∧ nxtK fs x (ys.set x 0) = atK fs (j + 1) ∧ ∀ i, i < fs.length → 0 ≤ nth (ys.set x 0) i ∧ nth (ys.set x 0) i < (fth fs i).lev) := by
                    refine ⟨by rw [List.length_set]; exact hys.out.1, ?_, fun i hi => ?_⟩
                    · have := hys.out.2.1
                      simp only [nxtK] at this
                      rw [← HZ.out, ← HL.out, if_neg (by simpa using T)] at this
                      exact this
                    · rw [nth_set _ _ _ _ (by rw [hys.out.1]; exact hi)]
                      split
                      · have := (HFB.out i hi).1; omega
                      · exact hys.out.2.2 i hi
                  clear HX7 hys
                  go_wp2_with (fail)
                  go_roundw
                  case rel => exact ⟨x, ys.set x 0, by omega, by go_num, HNX.out, HNO.out, HNY.out⟩
                  case measure => first | (simp [intOf]; done) | (simp [intOf]; omega)
                · have HAT : Hid (ys.set x (z + 1) = atK fs (j + 1)) := by
                    have := hys.out.2.1
                    simp only [nxtK] at this
                    rw [← HZ.out, ← HL.out, if_pos (by simpa using T)] at this
                    exact this
                  have HFI := Lib.hid (HX7.out.1.trans hq)
                  have HFX : Hid (ExtX g wz nq.val) := HX7.out.2.1.trans hq.x
                  have HFO := Lib.hid (HX7.out.2.2.ext hq)
                  rw [HAT.out] at HFO
                  have HFV : Hid (g + 1 ≤ wz.heap.size) := HV4.out.2.2.2
                  clear HX7 hys
                  go_wp2_with (fail)
                  go_roundw
                  case rel => exact ⟨j + 1, _, _, _, by omega, by go_num, rfl, HFI.out, HFO.out, own_of_block HV4.out.1 (fun k hk => HFX.out.block k (HV4.out.1.lt k hk).2 (by have := (HV4.out.1.lt k hk).1; omega)), HV4.out.2.1.kept (fun k h1 h2 => HFX.out.block k h2 (by omega)), HV4.out.2.2.1, Nat.le_trans HV4.out.2.2.2 HFX.out.size⟩
                  case measure => first | (simp [intOf]; done) | (simp [intOf]; omega)
              · obtain rfl : k = 0 := by omega
                have HAT : Hid (ys = atK fs (j + 1)) := hys.out.2.1
                rw [HAT.out] at hown
                have HFO := Lib.hid hown
                clear hown hys
                go_wp2_with (fail)
                go_roundw
                case rel => exact ⟨j + 1, _, _, _, by omega, by go_num, rfl, hrx.out.1, HFO.out, own_of_block HV4.out.1 (fun k hk => hrx.out.2.block k (HV4.out.1.lt k hk).2 (by have := (HV4.out.1.lt k hk).1; omega)), HV4.out.2.1.kept (fun k h1 h2 => hrx.out.2.block k h2 (by omega)), HV4.out.2.2.1, Nat.le_trans HV4.out.2.2.2 hrx.out.2.size⟩
                case measure => first | (simp [intOf]; done) | (simp [intOf]; omega)
        · obtain rfl : j = p := by omega
          have hq0 : vs.map (·.xs) = outK fs fo (prodTo fs fs.length) := by rw [← hpp.out.1]; exact hvs.out.2.2.1
          have HQ0 := Lib.hid hq0
          clear hq0
          go_wp2_with (fail)
          go_ret2
          refine .inr ⟨by rw [← hpp.out.1]; exact hpp.out.2.2, a, vs, c, rfl, HE.out.trans hr.out, own_base hvs.out.1 ?_, hvs.out.2.1.down ?_, HQ0.out⟩
          · have := HG.out.2.2; have := HE.out.size; omega
          · have := HG.out.2.2; have := HE.out.size; omega
end Go.Proofs.YtplbofhgmflnlaaGreat
