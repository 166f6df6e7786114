/-
  Walks: sameInts, slices.Clone, isLevels, allowed, Allowed.
-/
import Derived.Test.YtplbofhgmflnlaaGreatM1
import Derived.Test.YtplbofhgmflnlaaGreatMC
set_option linter.unusedVariables false
set_option linter.unusedSimpArgs false
namespace Go.Proofs.YtplbofhgmflnlaaGreat
open Go.RowKit
def sameB (xs ys : List Int) : Bool := decide (xs = ys)
set_option maxHeartbeats 400000 in
theorem same_any (xs ys : List Int) (a b : Option Addr) (n m c d : Nat) (w : World) (hx : Ints w a xs) (hy : Ints w b ys) (hn : xs.length = n) (hm : ys.length = m) (hn1 : n ≤ 1000000) (hm1 : m ≤ 1000000) :
    Calls Tryz.prog 25 #[.slice a n c, .slice b m d] w (Ret (.bool (sameB xs ys)) w) := by
  have HN := Lib.hid hn; have HM := Lib.hid hm
  have hns : n ≤ xs.length := by omega
  have hms : m ≤ ys.length := by omega
  clear hn hm
  cases T : ((n : Int) != (m : Int))
  · have hnm : n ≤ m := by simp at T; omega
    have hmn : m ≤ n := by simp at T; omega
    go_enter Tryz.func25, Tryz.ntmps25
    go_wp2_with (fail)
    go_loopw [5] (fun i wr => ∃ k : Nat, k ≤ n ∧ i = .int .i64 k ∧ Ext w wr ∧ Hid (∀ j, j < k → nth xs j = nth ys j)) (fun i _ => n - (intOf i).toNat)
    case atStart => exact ⟨0, Nat.zero_le _, rfl, Ext.refl _, fun j hj => by omega⟩
    case round =>
      obtain ⟨k, hk, rfl, hr, hf⟩ := hrel
      by_cases hlt : k < n
      · obtain ⟨b', o', rfl, c0⟩ := hx.at k (by omega)
        obtain ⟨b'', o'', rfl, d0⟩ := hy.at k (by omega)
        have hkm : k < m := by omega
        go_wp2_with (fail)
        refine wp_region_ext (by kernel_rfl) (by kernel_rfl) hr ?_
        repeat (first | go_big_quiet_step (fail) | quiet_step (fail))
        refine wpQuiet_nil ?_
        rintro _ ⟨nq, rfl⟩
        have hq := nq.ok
        cases T2 : (nth xs k != nth ys k)
        · have hf2 : Hid (∀ j, j < k + 1 → nth xs j = nth ys j) := fun j hj => by
            rcases Nat.lt_succ_iff_lt_or_eq.1 hj with h | h
            · exact hf.out j h
            · rw [h]; simpa using T2
          go_wp2_with (fail)
          go_roundw
          case rel => exact ⟨k + 1, by omega, by go_num, hq, hf2⟩
          case measure => simp [intOf]; omega
        · have H2 : Hid (sameB xs ys = false) := by
            have : ¬ nth xs k = nth ys k := by simpa using T2
            refine decide_eq_false fun e => this (by rw [e])
          go_wp2_with (fail)
          go_ret
          exact ⟨by rw [H2.out]; rfl, hq⟩
      · obtain rfl : k = n := by omega
        have H2 : Hid (sameB xs ys = true) := decide_eq_true (ext_nth _ _ (by rw [HN.out, HM.out]; omega) fun i hi => hf.out i (by rw [HN.out] at hi; exact hi))
        go_wp2_with (fail)
        go_ret
        exact ⟨by rw [H2.out]; rfl, hr⟩
  · have H2 : Hid (sameB xs ys = false) := by
      have : ¬ n = m := by simp at T; omega
      exact decide_eq_false fun e => this (by rw [← HN.out, ← HM.out, e])
    go_enter Tryz.func25, Tryz.ntmps25
    go_wp2_with (fail)
    go_ret
    exact ⟨by rw [H2.out]; rfl, Ext.refl _⟩
set_option maxHeartbeats 400000 in
theorem clone_int (a : Option Addr) (c : Nat) (xs : List Int) (w : World) (hx : Ints w a xs) (hn : xs.length ≤ 1000000) :
    Calls Tryz.prog 82 #[.slice a xs.length c] w (RetI xs w) := by
  have hnil := fun (W : World) (a : Option Addr) (n c : Nat) => Lib.run_eql_slice_nil (P := Tryz.prog) W 31 3 a n c 0 0 Tryz.underlying31
  cases a with
  | none =>
    obtain rfl := ints_none hx
    have HN := Lib.hid hn; clear hn
    go_enter Tryz.func82, Tryz.ntmps82
    go_wp2_with (fail)
    go_ret
    exact ⟨none, 0, rfl, Ext.refl w, by exact World.ownsRow_nil _ _ _ _⟩
  | some ad =>
    have happ := app_ints (w.alloc (.cells #[] 3)) w.heap.size 31 _ [] xs (some ad) c (own_empty w 3 1) (hx.ext ((Ext.refl w).alloc _)) (by simp; omega) (by simp)
    have HA := Lib.hid happ
    clear hx hn happ
    go_enter Tryz.func82, Tryz.ntmps82
    go_wp2_with (at_builtin; refine wpList_app _ rfl _ _ 31 rfl _ HA.out ?_; rintro v' w' ⟨hv, hg⟩)
    obtain ⟨a', n', c', rfl⟩ := own_slice hv
    obtain ⟨-, hn', -⟩ := hv.ints
    go_ret
    refine ⟨a', c', by rw [hn']; rfl, grown_ext ((Ext.refl w).alloc _) hg (by simp [Value.ownBlock]), ?_⟩
    rw [hn'] at hv
    exact hv
/-! ### isLevels -/
def levBad (fs : List Fac) (ls : List Int) (i : Nat) : Bool := decide (nth ls i < 0) || decide ((fth fs i).lev ≤ nth ls i)
def levB (fs : List Fac) (ls : List Int) : Bool := decide (ls.length = fs.length) && !(fIdx (levBad fs ls) fs.length).isSome
theorem levB_len {fs : List Fac} {ls : List Int} (h : levB fs ls = true) : ls.length = fs.length := by
  simp only [levB, Bool.and_eq_true, decide_eq_true_eq] at h; exact h.1
theorem levB_at {fs : List Fac} {ls : List Int} (h : levB fs ls = true) (i : Nat) (hi : i < fs.length) : 0 ≤ nth ls i ∧ nth ls i < (fth fs i).lev := by
  simp only [levB, Bool.and_eq_true, Bool.not_eq_true'] at h
  have := fIdx_off h.2 i hi
  simp only [levBad, Bool.or_eq_false_iff, decide_eq_false_iff_not] at this
  omega
set_option maxRecDepth 100000 in
set_option maxHeartbeats 2000000 in
theorem isLevels_any (P : Pw) (a : Option Addr) (ls : List Int) (c : Nat) (w : World) (h : PlanAt w P) (hf : P.fs.length ≤ 1000000) (hl : Ints w a ls) (hn : ls.length ≤ 9223372036854775807) :
    Calls Tryz.prog 83 #[planV P, .slice a ls.length c] w (Ret (.bool (levB P.fs ls)) w) := by
  obtain ⟨fs, fa, fc, fo, ga, gc⟩ := P
  have HH := Lib.hid h; have HL := Lib.hid hl
  clear h hl
  simp only at hf ⊢
  cases T : ((ls.length : Int) != (fs.length : Int))
  · have hnm : ls.length ≤ fs.length := by simp at T; omega
    have hmn : fs.length ≤ ls.length := by simp at T; omega
    have HB : Hid (levB fs ls = !(fIdx (levBad fs ls) fs.length).isSome) := by
      show levB fs ls = _
      unfold levB
      rw [decide_eq_true (by omega)]; rfl
    go_enter Tryz.func83, Tryz.ntmps83
    go_wp2_with (fail)
    generalize hw1 : World.alloc _ _ = w1
    obtain ⟨he, o1, -⟩ := alloc1 hw1
    obtain ⟨b0, b1⟩ := obj_cells2 o1
    clear hw1 o1
    have HE := Lib.hid he
    have E1 := Ext.refl w1
    clear he
    go_wp2_with (fail)
    go_loopw [16] (fun i wr => ∃ k : Nat, k ≤ fs.length ∧ i = .int .i64 k ∧ Ext w1 wr ∧ Hid (∀ j, j < k → levBad fs ls j = false)) (fun i _ => fs.length - (intOf i).toNat)
    case atStart => exact ⟨0, Nat.zero_le _, rfl, Ext.refl _, fun j hj => by omega⟩
    case round =>
      obtain ⟨k, hk, rfl, hr, hfa⟩ := hrel
      by_cases hlt : k < fs.length
      · obtain ⟨fb, fu, rfl, g0, g1, g2⟩ := fac_at (HH.out.fs.ext facC_len (HE.out.trans hr)) k hlt
        obtain ⟨lb, lo, rfl, d0⟩ := (HL.out.ext (HE.out.trans hr)).at k (by omega)
        have hkl : k < ls.length := by omega
        have hbx : Hid (levBad fs ls k = (decide (nth ls k < 0) || decide ((fth fs k).lev ≤ nth ls k))) := rfl
        have Er := Ext.refl wr
        go_wp2_with (fail)
        generalize hw3 : World.alloc wr _ = w3
        obtain ⟨he3, o3, hs3⟩ := alloc1 hw3
        obtain ⟨z0, z1, z2⟩ := obj_cells3 o3
        have d3 := fun W (e : Ext w3 W) => d0 W (he3.trans e)
        have hr3 := hr.trans he3
        have hr0 := Ext.refl w3
        clear hw3 o3 d0 g0 g1 g2 Er
        cases C1 : decide (nth ls k < 0)
        · cases C2 : decide ((fth fs k).lev ≤ nth ls k)
          · have hno : Hid (∀ j, j < k + 1 → levBad fs ls j = false) := all_lt_succ hfa.out (by rw [hbx.out, C1, C2]; rfl)
            refine wp_region_ext (by kernel_rfl) (by kernel_rfl) hr0 ?_
            repeat (first | go_big_quiet_step (((fail))) | quiet_step (((fail))))
            refine wpQuiet_nil ?_
            rintro _ ⟨nq, rfl⟩
            have hq := nq.ok
            have hrq := hr3.trans hq
            go_wp2_with (fail)
            go_roundw
            case rel => exact ⟨k + 1, by omega, by go_num, hrq, hno⟩
            case measure => simp [intOf]; omega
          · have HBD : Hid (levB fs ls = false) := by rw [Hid, HB.out, fIdx_isSome hlt (by rw [hbx.out, C1, C2]; rfl)]; rfl
            refine wp_region_ext (by kernel_rfl) (by kernel_rfl) hr0 ?_
            repeat (first | go_big_quiet_step (((fail))) | quiet_step (((fail))))
            refine wpQuiet_nil ?_
            rintro _ ⟨nq, rfl⟩
            have hq := nq.ok
            have hrq := hr3.trans hq
            go_wp2_with (fail)
            go_ret
            exact ⟨by rw [HBD.out]; rfl, HE.out.trans hrq⟩
        · have HBD : Hid (levB fs ls = false) := by rw [Hid, HB.out, fIdx_isSome hlt (by rw [hbx.out, C1]; rfl)]; rfl
          refine wp_region_ext (by kernel_rfl) (by kernel_rfl) hr0 ?_
          repeat (first | go_big_quiet_step (((fail))) | quiet_step (((fail))))
          refine wpQuiet_nil ?_
          rintro _ ⟨nq, rfl⟩
          have hq := nq.ok
          have hrq := hr3.trans hq
          go_wp2_with (fail)
          go_ret
          exact ⟨by rw [HBD.out]; rfl, HE.out.trans hrq⟩
      · obtain rfl : k = fs.length := by omega
        have HBD : Hid (levB fs ls = true) := by rw [Hid, HB.out, fIdx_none hfa.out]; rfl
        go_wp2_with (fail)
        go_ret
        exact ⟨by rw [HBD.out]; rfl, HE.out.trans hr⟩
  · have H2 : Hid (levB fs ls = false) := by
      have : ¬ ls.length = fs.length := by simp at T; omega
      show levB fs ls = false
      unfold levB; rw [decide_eq_false this]; rfl
    go_enter Tryz.func83, Tryz.ntmps83
    go_wp2_with (fail)
    generalize hw1 : World.alloc _ _ = w1
    obtain ⟨he, o1, -⟩ := alloc1 hw1
    obtain ⟨b0, b1⟩ := obj_cells2 o1
    clear hw1 o1
    have E1 := Ext.refl w1
    go_wp2_with (fail)
    go_ret
    exact ⟨by rw [H2.out]; rfl, he⟩
/-! ### allowed -/
def prOff (ls : List Int) (x : Pr) : Bool := nth ls x.fac.toNat != x.lev
def grpOn (ls : List Int) (g : Sl Pr) : Bool := !(g.xs.any (prOff ls))
def alwB (fo : List (Sl Pr)) (ls : List Int) : Bool := !(fo.any (grpOn ls))
theorem enters118 : Enters Tryz.prog 118 := Enters.mk Tryz.func118 rfl rfl
theorem enters116 : Enters Tryz.prog 116 := Enters.mk Tryz.func116 rfl rfl
set_option maxHeartbeats 1000000 in
theorem off_any (B : Nat) (a : Option Addr) (ls : List Int) (c : Nat) (x : Pr) (w : World) (hl : Ints w a ls) (g0 : ∀ W, Ext w W → W.cell? ⟨B, 0, none⟩ = some (.slice a ls.length c)) (h0 : 0 ≤ x.fac) (h1 : x.fac < ls.length) :
    Calls Tryz.prog 118 #[prV x, .pointer (some ⟨B, 0, none⟩)] w (Ret (.bool (prOff ls x)) w) := by
  obtain ⟨xf, xl⟩ := x
  obtain ⟨q, rfl⟩ : ∃ q : Nat, xf = (q : Int) := ⟨xf.toNat, by simp only at h0; omega⟩
  have hq : q < ls.length := by simp only at h1; omega
  clear h0
  have HB : Hid (prOff ls ⟨(q : Int), xl⟩ = (nth ls q != xl)) := by show prOff _ _ = _; unfold prOff; rw [Int.toNat_natCast]
  obtain ⟨b, o, rfl, c0⟩ := hl.at q hq
  have hq0 : (0 : Int) ≤ (q : Int) := by omega
  have hq1 : (q : Int) < (ls.length : Int) := by omega
  clear hl h1
  go_enter Tryz.func118, Tryz.ntmps118
  go_wp2_with (fail)
  generalize hw1 : World.alloc _ _ = w1
  obtain ⟨he, o1, -⟩ := alloc1 hw1
  obtain ⟨b0, b1⟩ := obj_cells2 o1
  have c1 := fun W (e : Ext w1 W) => c0 W (he.trans e)
  have g1 := fun W (e : Ext w1 W) => g0 W (he.trans e)
  have hr0 := Ext.refl w1
  clear hw1 o1 c0 g0
  refine wp_region_ext (by kernel_rfl) (by kernel_rfl) hr0 ?_
  repeat (first | go_big_quiet_step (((fail))) | quiet_step (((fail))))
  refine wpQuiet_nil ?_
  rintro _ ⟨nq, rfl⟩
  have hq := nq.ok
  go_wp2_with (fail)
  go_ret
  exact ⟨by rw [HB.out]; rfl, he.trans hq⟩
set_option maxHeartbeats 1000000 in
theorem grpOn_any (B : Nat) (a : Option Addr) (ls : List Int) (c : Nat) (g : Sl Pr) (w : World) (hl : Ints w a ls) (g0 : ∀ W, Ext w W → W.cell? ⟨B, 0, none⟩ = some (.slice a ls.length c)) (hg : Prs w g.a g.xs) (hn : g.xs.length ≤ 1000000)
    (hb : ∀ i, i < g.xs.length → 0 ≤ (pth g.xs i).fac ∧ (pth g.xs i).fac < ls.length) :
    Calls Tryz.prog 116 #[grpV g, .pointer (some ⟨B, 0, none⟩)] w (Ret (.bool (grpOn ls g)) w) := by
  obtain ⟨ga, xs, gc⟩ := g
  have H := fun W (e : Ext w W) => containsFunc_pr 118 #[.pointer (some ⟨B, 0, none⟩)] ga xs.length gc xs (prOff ls) W rfl hn (hg.ext prC_len e) fun i hi =>
    ⟨enters118, fun W' e' => off_any B a ls c (pth xs i) W' (hl.ext (e.trans e')) (fun W'' e'' => g0 W'' ((e.trans e').trans e'')) (hb i hi).1 (hb i hi).2⟩
  have HH := Lib.hid H
  clear H hl hg hb g0
  obtain ⟨q, hq⟩ : ∃ q, q = xs.any (prOff ls) := ⟨_, rfl⟩
  have HB : Hid (grpOn ls ⟨ga, xs, gc⟩ = !q) := by rw [hq]; rfl
  rw [← hq] at HH
  clear hq
  have E := Ext.refl w
  go_enter Tryz.func116, Tryz.ntmps116
  go_wp2_with (go_at_call 117; (with_reducible refine (HH.out _ E).mono ?_); rintro e w' ⟨rfl, he⟩)
  go_ret
  exact ⟨by rw [HB.out]; rfl, he⟩
/-- What is asked of the combinations of a plan, that 'allowed' can look into levels. -/
structure FoOk (w : World) (P : Pw) (n : Nat) : Prop where
  fo : Grps w P.ga P.fo
  ps : ∀ i, i < P.fo.length → Prs w (gth P.fo i).a (gth P.fo i).xs
  fl : P.fo.length ≤ 1000000
  pl : ∀ i, i < P.fo.length → (gth P.fo i).xs.length ≤ 1000000
  bd : ∀ i, i < P.fo.length → ∀ j, j < (gth P.fo i).xs.length → 0 ≤ (pth (gth P.fo i).xs j).fac ∧ (pth (gth P.fo i).xs j).fac < n
theorem FoOk.ext {w w' : World} {P : Pw} {n : Nat} (h : FoOk w P n) (e : Ext w w') : FoOk w' P n :=
  ⟨h.fo.ext grpC_len e, fun i hi => (h.ps i hi).ext prC_len e, h.fl, h.pl, h.bd⟩
set_option maxHeartbeats 1000000 in
theorem allowed_any (P : Pw) (a : Option Addr) (ls : List Int) (c : Nat) (w : World) (h : FoOk w P ls.length) (hl : Ints w a ls) :
    Calls Tryz.prog 81 #[planV P, .slice a ls.length c] w (Ret (.bool (alwB P.fo ls)) w) := by
  obtain ⟨fs, fa, fc, fo, ga, gc⟩ := P
  have HH := Lib.hid h; have HL := Lib.hid hl
  obtain ⟨q, hq⟩ : ∃ q, q = fo.any (grpOn ls) := ⟨_, rfl⟩
  have HB : Hid (alwB fo ls = !q) := by rw [hq]; rfl
  have HQ := Lib.hid hq
  clear h hl hq
  go_enter Tryz.func81, Tryz.ntmps81
  go_wp2_with (fail)
  generalize hw1 : World.alloc _ _ = w1
  obtain ⟨he, o1, o2, -⟩ := alloc2 hw1
  obtain ⟨b0, b1⟩ := obj_cells2 o1
  have g0 := obj_cells1 o2
  have hcf := fun W (e : Ext w1 W) => containsFunc_grp 116 #[.pointer (some ⟨w.heap.size + 1, 0, none⟩)] ga fo.length gc fo (grpOn ls) W rfl HH.out.fl (HH.out.fo.ext grpC_len (he.trans e)) fun i hi =>
    ⟨enters116, fun W' e' => grpOn_any _ a ls c (gth fo i) W' (HL.out.ext ((he.trans e).trans e')) (fun W'' e'' => g0 W'' ((e.trans e').trans e'')) ((HH.out.ps i hi).ext prC_len ((he.trans e).trans e')) (HH.out.pl i hi) (HH.out.bd i hi)⟩
  rw [← HQ.out] at hcf
  have HC := Lib.hid hcf
  clear hcf hw1 o1 o2
  have E1 := Ext.refl w1
  go_wp2_with (go_at_call 115; (with_reducible refine (HC.out _ E1).mono ?_); rintro e w' ⟨rfl, he'⟩)
  go_ret
  exact ⟨by rw [HB.out]; rfl, he.trans he'⟩
end Go.Proofs.YtplbofhgmflnlaaGreat
