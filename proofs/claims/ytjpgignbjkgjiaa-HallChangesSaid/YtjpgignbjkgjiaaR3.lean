import Derived.Test.YtjpgignbjkgjiaaR2
import Derived.Test.YtjpgignbjkgjiaaA15
import Derived.Deep.RegionHeld3
import Derived.Deep.DrawnRows
import Derived.Deep.DeepCutAuto
set_option linter.unusedVariables false
set_option linter.unusedSimpArgs false
namespace Go.Proofs.Ytjpgignbjkgjiaa
open Go.RowKit
attribute [local go_sem ↓] Go.wp_at_zero Go.wp_at_succ
abbrev cobj (c : Camp) : Obj := .cells #[.int .i64 c.cu, .int .i64 c.pr, .int .i64 c.ho, .int .i64 c.en, .int .i64 c.ea, .int .i64 c.la, .int .i64 c.we] 45 (0, 0)
def TwoC (w1 : World) (A B : Camp) (s11 s12 : Value) (wx : World) : Prop :=
  ∃ g1 g2 : Nat, s11 = .pointer (some ⟨g1, 0, none⟩) ∧ s12 = .pointer (some ⟨g2, 0, none⟩) ∧ g1 ≠ g2 ∧ w1.heap.size ≤ g1 ∧ w1.heap.size ≤ g2 ∧ Ext w1 wx ∧ wx.heap[g1]? = some (cobj A) ∧ wx.heap[g2]? = some (cobj B)
theorem twoC_ab {w1 w2 : World} {A B : Camp} (h : ((w1.alloc (cobj A)).alloc (cobj B)) = w2) : TwoC w1 A B (.pointer (some ⟨w1.heap.size, 0, none⟩)) (.pointer (some ⟨w1.heap.size + 1, 0, none⟩)) w2.drew := by
  obtain ⟨he, oa, ob, -⟩ := alloc2 h
  have hd := (Ext.refl w2).drew
  exact ⟨_, _, rfl, rfl, by omega, Nat.le_refl _, by omega, he.trans hd, hd.block oa, hd.block ob⟩
theorem twoC_ba {w1 w2 : World} {A B : Camp} (h : ((w1.alloc (cobj B)).alloc (cobj A)) = w2) : TwoC w1 A B (.pointer (some ⟨w1.heap.size + 1, 0, none⟩)) (.pointer (some ⟨w1.heap.size, 0, none⟩)) w2.drew := by
  obtain ⟨he, oa, ob, -⟩ := alloc2 h
  have hd := (Ext.refl w2).drew
  exact ⟨_, _, rfl, rfl, by omega, by omega, Nat.le_refl _, he.trans hd, hd.block ob, hd.block oa⟩
theorem cobj_set {w : World} {g : Nat} {A : Camp} (h : w.heap[g]? = some (cobj A)) (v : Int) : (w.setCell ⟨g, 2, none⟩ (.int .i64 v)).heap[g]? = some (cobj { A with ho := v }) := block_set h 2 _
theorem heap_set_ne {w : World} {g g' o : Nat} (v : Value) (h : g' ≠ g) : (w.setCell ⟨g, o, none⟩ v).heap[g']? = w.heap[g']? := Below.heap_setCell _ _ _ _ (by simpa using h)
theorem twoC_gap {w1 wx : World} {A B : Camp} {g1 g2 : Nat} (h1 : w1.heap.size ≤ g1) (h2 : w1.heap.size ≤ g2) (hne : g1 ≠ g2) (he : Ext w1 wx) (ha : wx.heap[g1]? = some (cobj A)) (hb : wx.heap[g2]? = some (cobj B)) (u v : Int) :
    TwoC w1 { A with ho := u } { B with ho := v } (.pointer (some ⟨g1, 0, none⟩)) (.pointer (some ⟨g2, 0, none⟩)) ((wx.setCell ⟨g1, 2, none⟩ (.int .i64 u)).setCell ⟨g2, 2, none⟩ (.int .i64 v)) := by
  refine ⟨g1, g2, rfl, rfl, hne, h1, h2, (he.set h1 _).set h2 _, ?_, ?_⟩
  · rw [heap_set_ne _ hne]; exact cobj_set ha u
  · exact cobj_set (by rw [heap_set_ne _ hne.symm]; exact hb) v
theorem bool7 (a b c d : Bool) : (a = true ∧ b = true ∧ ((a && b) || (c && d)) = true) ∨ (a = true ∧ b = false ∧ c = true ∧ d = true ∧ ((a && b) || (c && d)) = true) ∨ (a = false ∧ c = true ∧ d = true ∧ ((a && b) || (c && d)) = true) ∨
    (a = true ∧ b = false ∧ c = true ∧ d = false ∧ ((a && b) || (c && d)) = false) ∨ (a = true ∧ b = false ∧ c = false ∧ ((a && b) || (c && d)) = false) ∨ (a = false ∧ c = true ∧ d = false ∧ ((a && b) || (c && d)) = false) ∨ (a = false ∧ c = false ∧ ((a && b) || (c && d)) = false) := by
  cases a <;> cases b <;> cases c <;> cases d <;> simp
set_option maxRecDepth 100000 in
set_option maxHeartbeats 2000000 in
theorem near_any (ha : Hal) (x : HP) (l : List Camp) (la : Option Addr) (lc : Nat) (p : List Int) (pa : Option Addr) (pn pc : Nat) (i k : Nat) (w : World) (hh : HallAt w ha x) (hl : Camps w la l) (hp : Ints w pa p) (hpl : l.length ≤ p.length) (hpn : p.length = pn) (hi : i < l.length) (hk : k < l.length)
    (hv : VH ha l) (ht : ∀ i, i < l.length → -1000 ≤ nth p i ∧ nth p i ≤ 1000) :
    Calls Try.prog 57 #[hval ha x, .slice la l.length lc, .slice pa pn pc, .int .i64 i, .int .i64 k] w (Ret (.bool (nearB ha (cth l i) (cth l k) (nth p i) (nth p k))) w) := by
  obtain ⟨sa, sc, ea, ec⟩ := x
  have HH := Lib.hid hh; clear hh
  have HT := Lib.hid ht; clear ht
  have HV := Lib.hid hv
  have hl16 := hv.ll
  clear hv
  have HPN := Lib.hid hpn; clear hpn
  have hpl' : l.length ≤ pn := by rw [← HPN.out]; exact hpl
  obtain ⟨b, o, rfl, c0, c1, c2, c3, c4, c5, c6⟩ := hl.at i hi
  obtain ⟨b', o', hbb, d0, d1, d2, d3, d4, d5, d6⟩ := hl.at k hk
  simp only [Option.some.injEq, Addr.mk.injEq, and_true] at hbb
  obtain ⟨rfl, rfl⟩ := hbb
  go_enter Try.func57, Try.ntmps57
  go_upto_region 1 with fail
  generalize hw1 : World.alloc _ _ = w1
  obtain ⟨he, o1, -⟩ := alloc1 hw1
  obtain ⟨b0, b1, b2, b3⟩ := obj_cells4 o1
  clear hw1 o1
  replace c0 := fun W (h : Ext w1 W) => c0 W (he.trans h)
  replace c1 := fun W (h : Ext w1 W) => c1 W (he.trans h)
  replace c2 := fun W (h : Ext w1 W) => c2 W (he.trans h)
  replace c3 := fun W (h : Ext w1 W) => c3 W (he.trans h)
  replace c4 := fun W (h : Ext w1 W) => c4 W (he.trans h)
  replace c5 := fun W (h : Ext w1 W) => c5 W (he.trans h)
  replace c6 := fun W (h : Ext w1 W) => c6 W (he.trans h)
  replace d0 := fun W (h : Ext w1 W) => d0 W (he.trans h)
  replace d1 := fun W (h : Ext w1 W) => d1 W (he.trans h)
  replace d2 := fun W (h : Ext w1 W) => d2 W (he.trans h)
  replace d3 := fun W (h : Ext w1 W) => d3 W (he.trans h)
  replace d4 := fun W (h : Ext w1 W) => d4 W (he.trans h)
  replace d5 := fun W (h : Ext w1 W) => d5 W (he.trans h)
  replace d6 := fun W (h : Ext w1 W) => d6 W (he.trans h)
  have hr0 := Ext.refl w1
  go_cut [11, 12] (fun s11 s12 wx => TwoC w1 (cth l i) (cth l k) s11 s12 wx)
  case first =>
    go_region_held3 (fun w' => Ext w1 w') (first | exact Ext.refl _ | exact Ext.drew (Ext.refl _) | exact ((Ext.refl _).alloc _) | exact ((Ext.refl _).alloc _).drew | exact (((Ext.refl _).alloc _).alloc _) | exact (((Ext.refl _).alloc _).alloc _).drew) (fail)
    all_goals
      go_wp2_with fail
      go_meet
      generalize hw2 : World.alloc _ _ = w2
      first | exact twoC_ab hw2 | exact twoC_ba hw2
  case rest =>
    obtain ⟨g1, g2, rfl, rfl, hne, hg1, hg2, hr, oa, ob⟩ := hcut
    have HOA := Lib.hid oa; have HOB := Lib.hid ob
    have af := obj_free oa wc (Ext.refl _) 2
    have bf := obj_free ob
    obtain ⟨x0, x1, x2, x3, x4, x5, x6⟩ := obj_cells7 oa
    obtain ⟨y0, y1, y2, y3, y4, y5, y6⟩ := obj_cells7 ob
    have hrc := Ext.refl wc
    go_upto_if 26 with fail
    have hA0 := (HV.out.cb i hi).ho0
    have hA1 := (HV.out.cb i hi).ho1
    have hB0 := (HV.out.cb k hk).ho0
    have hB1 := (HV.out.cb k hk).ho1
    have hc0 := HV.out.c0
    have hc1 := HV.out.c1
    go_cut [11, 12] (fun s11 s12 wx => TwoC w1 { cth l i with ho := (cth l i).ho + gapS ha (cth l i) (cth l k) } { cth l k with ho := (cth l k).ho + gapS ha (cth l k) (cth l i) } s11 s12 wx)
    case first =>
      cases T : ((cth l i).cu != (cth l k).cu)
      · have qe : (cth l i).cu = (cth l k).cu := by simpa using T
        have q1 : gapS ha (cth l i) (cth l k) = 0 := by rw [gapS, if_pos qe]
        have q2 : gapS ha (cth l k) (cth l i) = 0 := by rw [gapS, if_pos qe.symm]
        have G1 := Lib.hid q1; have G2 := Lib.hid q2
        clear q1 q2 qe
        go_wp2_with fail
        go_meet
        rw [G1.out, G2.out, Int.add_zero, Int.add_zero]
        exact ⟨g1, g2, rfl, rfl, hne, hg1, hg2, hr, HOA.out, HOB.out⟩
      · have qe : ¬ (cth l i).cu = (cth l k).cu := by simpa using T
        have q1 : gapS ha (cth l i) (cth l k) = ha.cl := by rw [gapS, if_neg qe]
        have q2 : gapS ha (cth l k) (cth l i) = ha.cl := by rw [gapS, if_neg (fun h => qe h.symm)]
        have G1 := Lib.hid q1; have G2 := Lib.hid q2
        clear q1 q2 qe
        have bf0 := bf wc (Ext.refl _) 2
        have e2 : ∀ v, (wc.setCell ⟨g1, 2, none⟩ v).cell? ⟨g2, 2, none⟩ = some (.int .i64 (cth l k).ho) := fun v => by
          rw [World.cell?_of_block (w := wc) (heap_set_ne v hne.symm)]; exact y2 wc hrc
        have e3 : ∀ v, (wc.setCell ⟨g1, 2, none⟩ v).cell? ⟨w.heap.size, 1, none⟩ = some (.int .i64 ha.cl) := fun v => b1 _ (hr.set hg1 v)
        have e4 : ∀ v, (wc.setCell ⟨g1, 2, none⟩ v).frozen? ⟨g2, 2, none⟩ = false := fun v => by
          have := heap_set_ne (w := wc) (g := g1) (o := 2) v hne.symm
          simp only [World.frozen?, this]; exact bf0
        clear bf
        go_wp2_with fail
        go_meet
        rw [G1.out, G2.out]
        exact twoC_gap hg1 hg2 hne hr HOA.out HOB.out _ _
    case rest =>
      clear x0 x1 x2 x3 x4 x5 x6 y0 y1 y2 y3 y4 y5 y6 hrc af bf oa ob HOA HOB hr hg1 hg2 hne hr0
      obtain ⟨g1, g2, rfl, rfl, hne, hg1, hg2, hr, oa, ob⟩ := hcut
      have HN : Hid (nearB ha (cth l i) (cth l k) (nth p i) (nth p k) = (fIdx (fun hour => (runB { cth l i with ho := (cth l i).ho + gapS ha (cth l i) (cth l k) } (nth p i) hour && runB (cth l k) (nth p k) hour) || (runB (cth l i) (nth p i) hour && runB { cth l k with ho := (cth l k).ho + gapS ha (cth l k) (cth l i) } (nth p k) hour)) ha.st.length).isSome) := by
        have qe : gapS ha (cth l k) (cth l i) = gapS ha (cth l i) (cth l k) := by unfold gapS; by_cases h : (cth l i).cu = (cth l k).cu
                                                                                  · rw [if_pos h, if_pos h.symm]
                                                                                  · rw [if_neg h, if_neg (fun e => h e.symm)]
        rw [qe]; rfl
      obtain ⟨A, hA⟩ : ∃ A : Camp, A = { cth l i with ho := (cth l i).ho + gapS ha (cth l i) (cth l k) } := ⟨_, rfl⟩
      obtain ⟨B, hB⟩ : ∃ B : Camp, B = { cth l k with ho := (cth l k).ho + gapS ha (cth l k) (cth l i) } := ⟨_, rfl⟩
      rw [← hA, ← hB] at HN
      rw [← hA] at oa
      rw [← hB] at ob
      clear hA hB
      obtain ⟨x0, x1, x2, x3, x4, x5, x6⟩ := obj_cells7 oa
      obtain ⟨y0, y1, y2, y3, y4, y5, y6⟩ := obj_cells7 ob
      clear oa ob
      have hip : i < pn := by omega
      have hkp : k < pn := by omega
      obtain ⟨bp, op, rfl, p0⟩ := hp.at i (by omega)
      obtain ⟨bp', op', hbb, p1⟩ := hp.at k (by omega)
      simp only [Option.some.injEq, Addr.mk.injEq, and_true] at hbb
      obtain ⟨rfl, rfl⟩ := hbb
      replace p0 := fun W (h : Ext wc W) => p0 W ((he.trans hr).trans h)
      replace p1 := fun W (h : Ext wc W) => p1 W ((he.trans hr).trans h)
      replace b2 := fun W (h : Ext wc W) => b2 W (hr.trans h)
      replace c0 := fun W (h : Ext wc W) => c0 W (hr.trans h)
      replace c1 := fun W (h : Ext wc W) => c1 W (hr.trans h)
      replace c2 := fun W (h : Ext wc W) => c2 W (hr.trans h)
      replace c3 := fun W (h : Ext wc W) => c3 W (hr.trans h)
      replace c4 := fun W (h : Ext wc W) => c4 W (hr.trans h)
      replace c5 := fun W (h : Ext wc W) => c5 W (hr.trans h)
      replace c6 := fun W (h : Ext wc W) => c6 W (hr.trans h)
      replace d0 := fun W (h : Ext wc W) => d0 W (hr.trans h)
      replace d1 := fun W (h : Ext wc W) => d1 W (hr.trans h)
      replace d2 := fun W (h : Ext wc W) => d2 W (hr.trans h)
      replace d3 := fun W (h : Ext wc W) => d3 W (hr.trans h)
      replace d4 := fun W (h : Ext wc W) => d4 W (hr.trans h)
      replace d5 := fun W (h : Ext wc W) => d5 W (hr.trans h)
      replace d6 := fun W (h : Ext wc W) => d6 W (hr.trans h)
      clear b0 b1 b3
      have hn96 := HV.out.n2
      have HEW := Lib.hid (he.trans hr)
      have hti := HT.out i hi
      have htk := HT.out k hk
      obtain ⟨hti0, hti1⟩ := hti
      obtain ⟨htk0, htk1⟩ := htk
      clear he hr hne hg1 hg2 hA0 hA1 hB0 hB1 hc0 hc1
      go_wp2_with fail
      go_loopw [13] (fun s wr => ∃ h : Nat, h ≤ ha.st.length ∧ s = .int .i64 h ∧ Ext wc wr ∧ Hid (∀ j, j < h → ((runB A (nth p i) (j : Nat) && runB (cth l k) (nth p k) (j : Nat)) || (runB (cth l i) (nth p i) (j : Nat) && runB B (nth p k) (j : Nat))) = false)) (fun s _ => ha.st.length - (intOf s).toNat)
      case atStart => exact ⟨0, Nat.zero_le _, rfl, Ext.refl _, fun j hj => by omega⟩
      case round =>
        obtain ⟨h, hh, rfl, hr, hf⟩ := hrel
        by_cases hlt : h < ha.st.length
        · have h7 := bool7 (runB A (nth p i) (h : Nat)) (runB (cth l k) (nth p k) (h : Nat)) (runB (cth l i) (nth p i) (h : Nat)) (runB B (nth p k) (h : Nat))
          have HA : Hid (∀ W, Calls Try.prog 50 #[cval A, .int .i64 (nth p i), .int .i64 (h : Nat)] W (Ret (.bool (runB A (nth p i) (h : Nat))) W)) := fun W => runs_any A (nth p i) h W (by omega) (by omega)
          have HK : Hid (∀ W, Calls Try.prog 50 #[cval (cth l k), .int .i64 (nth p k), .int .i64 (h : Nat)] W (Ret (.bool (runB (cth l k) (nth p k) (h : Nat))) W)) := fun W => runs_any (cth l k) (nth p k) h W (by omega) (by omega)
          have HI : Hid (∀ W, Calls Try.prog 50 #[cval (cth l i), .int .i64 (nth p i), .int .i64 (h : Nat)] W (Ret (.bool (runB (cth l i) (nth p i) (h : Nat))) W)) := fun W => runs_any (cth l i) (nth p i) h W (by omega) (by omega)
          have HBB : Hid (∀ W, Calls Try.prog 50 #[cval B, .int .i64 (nth p k), .int .i64 (h : Nat)] W (Ret (.bool (runB B (nth p k) (h : Nat))) W)) := fun W => runs_any B (nth p k) h W (by omega) (by omega)
          rcases h7 with ⟨T1, T2, HQ⟩ | ⟨T1, T2, T3, T4, HQ⟩ | ⟨T1, T3, T4, HQ⟩ | ⟨T1, T2, T3, T4, HQ⟩ | ⟨T1, T2, T3, HQ⟩ | ⟨T1, T3, T4, HQ⟩ | ⟨T1, T3, HQ⟩
          all_goals
            replace HQ := Lib.hid HQ
            go_wp2_with fail
            refine wp_region_ext (by kernel_rfl) (by kernel_rfl) hr ?_
            repeat (first | go_big_quiet_step ((first | (go_at_call 50; with_reducible exact Calls.later (HA.out _)) | (go_at_call 50; with_reducible exact Calls.later (HK.out _)) | (go_at_call 50; with_reducible exact Calls.later (HI.out _)) | (go_at_call 50; with_reducible exact Calls.later (HBB.out _)))) | quiet_step ((first | (go_at_call 50; with_reducible exact Calls.later (HA.out _)) | (go_at_call 50; with_reducible exact Calls.later (HK.out _)) | (go_at_call 50; with_reducible exact Calls.later (HI.out _)) | (go_at_call 50; with_reducible exact Calls.later (HBB.out _)))))
            refine wpQuiet_nil ?_
            rintro _ ⟨nq, rfl⟩
            have hr3 := nq.ok
            go_wp2_with fail
            first
            | (go_ret
               have HW := Lib.hid (fIdx_some (n := ha.st.length) hlt HQ.out hf.out)
               exact ⟨by rw [HN.out, HW.out]; rfl, HEW.out.trans hr3⟩)
            | (go_roundw
               case rel => exact ⟨h + 1, by omega, by go_num, hr3, all_lt_succ hf.out HQ.out⟩
               case measure => simp [intOf]; omega)
        · have HW : Hid (nearB ha (cth l i) (cth l k) (nth p i) (nth p k) = false) := by
            rw [Hid, HN.out, fIdx_none (fun j hj => hf.out j (by omega))]; rfl
          go_wp2_with fail
          go_ret
          exact ⟨by rw [HW.out]; rfl, HEW.out.trans hr⟩
end Go.Proofs.Ytjpgignbjkgjiaa
