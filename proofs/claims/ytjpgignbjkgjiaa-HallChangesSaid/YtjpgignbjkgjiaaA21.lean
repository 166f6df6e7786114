import Derived.Test.YtjpgignbjkgjiaaA20
set_option linter.unusedVariables false
set_option linter.unusedSimpArgs false
namespace Go.Proofs.Ytjpgignbjkgjiaa
open Go.RowKit
def RetView (ha : Hal) (l : List Camp) (p : List Int) (cu : Int) (w : World) (e : Ending) (w' : World) : Prop :=
  ∃ a c, e = .returned (.tuple #[.slice a (viewL ha l p cu).length c, .int .i64 (viewE ha l p cu)]) ∧ Ext w w' ∧ Byts w' a (viewL ha l p cu)
theorem enters49 : Enters Try.prog 49 := Enters.mk Try.func49 rfl rfl
set_option maxRecDepth 100000 in
set_option maxHeartbeats 2000000 in
theorem View_ok (ha : Hal) (x : HP) (l : List Camp) (la : Option Addr) (lc : Nat) (p : List Int) (pa : Option Addr) (pn pc : Nat) (cu : Int) (w : World) (hh : HallAt w ha x) (hl : Camps w la l) (hp : Ints w pa p) (hpn : p.length = pn) (h0 : errS ha l p = 0) (hcu : wi cu 0 20 = true) :
    Calls Try.prog 14 #[hval ha x, .slice la l.length lc, .slice pa pn pc, .int .i64 cu] w (RetView ha l p cu w) := by
  have hE : viewE ha l p cu = 0 := by rw [viewE, if_pos h0, if_pos hcu]
  have hLs : viewL ha l p cu = fl ha.st.length (viewF ha l p cu) := by rw [viewL, if_pos hE]
  have hcheck := fun W (h : Ext w W) => Check_any ha x l la lc p pa pn pc W (hh.ext h) (hl.ext h) (hp.ext h) hpn
  rw [h0] at hcheck
  obtain ⟨hv, hpl, hbr⟩ := errS_zero h0
  have hok := single_ok (breach_single hbr)
  have HC := Lib.hid hcheck; have HH := Lib.hid hh; have HL := Lib.hid hl; have HPP := Lib.hid hp; have HPN := Lib.hid hpn; have HV := Lib.hid hv; have HOK := Lib.hid hok.1
  have HE := Lib.hid hE; have HLS := Lib.hid hLs
  have hpn2 : l.length ≤ pn := by omega
  have hl16 := hv.ll
  have hn96 := hv.n2
  have hcl0 := hv.c0
  have hcl1 := hv.c1
  clear hcheck hh hl hp hpn h0 hv hpl hbr hok hE hLs
  obtain ⟨sa, sc, ea, ec⟩ := x
  have hmk := run_madeU ha.st.length (by omega)
  go_enter Try.func14, Try.ntmps14
  go_wp2_with (fail)
  generalize hw1 : World.alloc _ _ = w1
  obtain ⟨he, o1, -⟩ := alloc1 hw1
  obtain ⟨b0, b1, b2, b3⟩ := obj_cells4 o1
  clear hw1 o1
  (with_reducible refine (HC.out _ he).mono ?_); rintro e w2 ⟨rfl, he2⟩
  have q2 : ∀ W a n b, Ext w1 W → ((madeU (W.alloc a) n).alloc b).cell? ⟨w.heap.size, 2, none⟩ = some (.slice sa ha.st.length sc) := fun W a n b h => b2 _ ((ext_madeU (h.alloc a) n).alloc b)
  have q3 : ∀ W a n, Ext w1 W → (madeU (W.alloc a) n).cell? ⟨w.heap.size, 2, none⟩ = some (.slice sa ha.st.length sc) := fun W a n h => b2 _ (ext_madeU (h.alloc a) n)
  go_wp2_with (go_at_call 48; (with_reducible refine (within_any _ _ _ _).mono ?_); rintro e w' ⟨rfl, rfl⟩)
  clear q2 q3 hmk
  generalize hw3 : w2.alloc _ = w3
  obtain ⟨he3, -, hz3⟩ := alloc1 hw3
  generalize hw4 : madeU _ _ = w4
  obtain ⟨he4, hown, hz4⟩ := madeU_facts (n := ha.st.length) (by omega) hw4
  generalize hw5 : World.alloc _ _ = w5
  obtain ⟨he5, ob, -⟩ := alloc1 hw5
  clear hw3 hw4 hw5
  have h13 := he2.trans he3
  have h05 := he4.trans he5
  have hown5 := hown.ext he5
  rw [hz4] at ob
  rw [hz3] at ob hown5
  have hg : w3.heap.size = w2.heap.size + 1 := hz3
  generalize w2.heap.size + 1 = g at *
  clear he3 he4 he5 hz3 hz4 hown
  have d0 := fun W (h : Ext w3 W) => b0 W (h13.trans h)
  have d1 := fun W (h : Ext w3 W) => b1 W (h13.trans h)
  have d2 := fun W (h : Ext w3 W) => b2 W (h13.trans h)
  have HB3 := Lib.hid (he.trans h13)
  clear b0 b1 b2 b3 h13
  go_loopw [43] (fun i wr => ∃ k : Nat, k ≤ ha.st.length ∧ i = .int .i64 k ∧ Ext w3 wr ∧ Hid (wr.heap[g + 1]? = some (.cells #[.slice (some ⟨g, 0, none⟩) ha.st.length ha.st.length] 30 (0, 0))) ∧ Hid (OwnU wr g (.slice (some ⟨g, 0, none⟩) ha.st.length ha.st.length) (fl ha.st.length fun i => if i < k then vBase ha i else 0))) (fun i _ => ha.st.length - (intOf i).toNat)
  case atStart => exact ⟨0, Nat.zero_le _, rfl, h05, ob, by simp only [Nat.not_lt_zero, if_false]; exact hown5⟩
  case round =>
    clear h05 ob hown5
    obtain ⟨k, hk, rfl, hr, hob, hown⟩ := hrel
    by_cases hlt : k < ha.st.length
    · obtain ⟨b, o, rfl, s0⟩ := (HH.out.st.ext HB3.out).at k hlt
      have hbx := obj_cells1 hob.out wr (Ext.refl wr)
      have hcell := ownU_cell (fl_len _ _) hown.out k hlt
      have hfr := ownU_free (fl_len _ _) hown.out k
      cases T : (nth ha.st k == 0)
      · have hb0 : vBase ha k = 0 := by have : ¬ nth ha.st k = 0 := by simpa using T
                                        simp [vBase, this]
        have he : (fl ha.st.length fun i => if i < k then vBase ha i else 0) = fl ha.st.length fun i => if i < k + 1 then vBase ha i else 0 := fl_congr _ _ _ fun i _ => by
          by_cases h : i < k
          · rw [if_pos h, if_pos (by omega)]
          · rw [if_neg h]
            by_cases h2 : i = k
            · subst h2; rw [if_pos (by omega), hb0]
            · rw [if_neg (by omega)]
        have hown2 := hown
        rw [he] at hown2
        clear he hb0 hown
        go_wp2_with (fail)
        go_roundw
        case rel => exact ⟨k + 1, by omega, by go_num, hr, hob, hown2⟩
        case measure => simp [intOf]; omega
      · have hb0 : vBase ha k = 3 := by have : nth ha.st k = 0 := by simpa using T
                                        simp [vBase, this]
        have hown2 := ownU_set (j := k) hown.out 3
        have he : (fl ha.st.length fun i => if i = k then 3 else if i < k then vBase ha i else 0) = fl ha.st.length fun i => if i < k + 1 then vBase ha i else 0 := fl_congr _ _ _ fun i _ => by
          by_cases h : i = k
          · subst h; rw [if_pos rfl, if_pos (by omega), hb0]
          · rw [if_neg h]
            by_cases h2 : i < k
            · rw [if_pos h2, if_pos (by omega)]
            · rw [if_neg h2, if_neg (by omega)]
        rw [he] at hown2
        have HO2 := Lib.hid hown2
        have hr2 := hr.set (p := ⟨g, k, none⟩) (by rw [hg]; exact Nat.le_refl _) (.int .u8 3)
        have hob2 : Hid ((wr.setCell ⟨g, k, none⟩ (.int .u8 3)).heap[g + 1]? = some (.cells #[.slice (some ⟨g, 0, none⟩) ha.st.length ha.st.length] 30 (0, 0))) := by
          rw [Hid, Below.heap_setCell _ _ _ _ (by simp)]; exact hob.out
        clear he hb0 hown hown2
        go_wp2_with (fail)
        go_roundw
        case rel => exact ⟨k + 1, by omega, by go_num, hr2, hob2, HO2⟩
        case measure => simp [intOf]; omega
    · obtain rfl : k = ha.st.length := by omega
      have he : (fl ha.st.length fun i => if i < ha.st.length then vBase ha i else 0) = fl ha.st.length (vOther ha l p cu 0) := fl_congr _ _ _ fun i hi => by rw [if_pos hi]; rfl
      rw [he] at hown
      clear he
      go_wp2_with (fail)
      obtain ⟨wo, rfl⟩ : ∃ wo : World, wo = wr := ⟨_, rfl⟩
      go_loopw [56] (fun i wr => ∃ k : Nat, k ≤ l.length ∧ i = .int .i64 k ∧ Ext w3 wr ∧ Hid (wr.heap[g + 1]? = some (.cells #[.slice (some ⟨g, 0, none⟩) ha.st.length ha.st.length] 30 (0, 0))) ∧ Hid (OwnU wr g (.slice (some ⟨g, 0, none⟩) ha.st.length ha.st.length) (fl ha.st.length (vOther ha l p cu k)))) (fun i _ => l.length - (intOf i).toNat)
      case atStart => exact ⟨0, Nat.zero_le _, rfl, hr, hob, hown⟩
      case round =>
        clear hr hob hown
        obtain ⟨k, hk, rfl, hr, hob, hown⟩ := hrel
        by_cases hlt : k < l.length
        · obtain ⟨b, o, rfl, c0, c1, c2, c3, c4, c5, c6⟩ := (HL.out.ext HB3.out).at k hlt
          obtain ⟨b', o', rfl, p0⟩ := (HPP.out.ext HB3.out).at k (by rw [HPN.out]; omega)
          have hkp : k < pn := by omega
          cases T : ((cth l k).cu != cu)
          · have hvo : vOther ha l p cu (k + 1) = vOther ha l p cu k := by
              have : (cth l k).cu = cu := by simpa using T
              simp [vOther, this]
            have hown2 := hown
            rw [← hvo] at hown2
            clear hvo hown
            go_wp2_with (fail)
            generalize hw6 : World.alloc _ _ = w6
            obtain ⟨he6, -, -⟩ := alloc1 hw6
            clear hw6
            go_roundw
            case rel => exact ⟨k + 1, by omega, by go_num, hr.trans he6, he6.block hob.out, hown2.out.ext he6⟩
            case measure => simp [intOf]; omega
          · have hvo : vOther ha l p cu (k + 1) = markF (nth p k - ha.cl) (nth p k + (cth l k).ho + ha.cl) 3 (vOther ha l p cu k) := by
              have : ¬ (cth l k).cu = cu := by simpa using T
              simp [vOther, this]
            have HVO := Lib.hid hvo
            clear hvo
            go_wp2_with (fail)
            generalize hw6 : World.alloc _ _ = w6
            obtain ⟨he6, o1, -⟩ := alloc1 hw6
            obtain ⟨a0, a1, a2, a3, a4, a5, a6⟩ := obj_cells7 o1
            clear hw6 o1 c0 c1 c2 c3 c4 c5 c6 a0 a1 a3 a4 a5 a6
            have hr6 := hr.trans he6
            have e1 := fun W (h : Ext w6 W) => d1 W (hr6.trans h)
            have e2 := fun W (h : Ext w6 W) => p0 W (hr6.trans h)
            have hr0 := Ext.refl w6
            have ht := inTime_bd (HV.out.cb k hlt) (HOK.out k hlt)
            obtain ⟨ht0, ht1, ht2, ht3, -, -⟩ := ht
            have hob6 := he6.block hob.out
            have hown6 := hown.out.ext he6
            have HB6 := Lib.hid hob6; have HO6 := Lib.hid hown6
            clear d0 d1 d2 p0 hob6 hown6
            go_still_tail 18, (by kernel_rfl)
            change wpList _ _ _ _ _ (World.drew w6)
            have h67 : Ext w6 w6.drew := hr0.drew
            generalize w6.drew = w7 at *
            have hm7 := mark_any (nth p k - ha.cl) (nth p k + (cth l k).ho + ha.cl) 3 (g + 1) g ha.st.length ha.st.length g (vOther ha l p cu k) w7 (by omega) (by omega) (by omega) (by omega) (obj_cells1 (h67.block HB6.out) w7 (Ext.refl w7)) (HO6.out.ext h67)
            have HM7 := Lib.hid hm7
            clear hm7
            go_wp2_with (fail)
            (with_reducible refine HM7.out.mono ?_); rintro e w8 ⟨rfl, hx8, how8⟩
            have hE8 : Ext w3 w8 := ((hr6.trans h67).x.trans hx8).ext (by rw [hg]; exact Nat.le_refl _)
            have hob8 : Hid (w8.heap[g + 1]? = some (.cells #[.slice (some ⟨g, 0, none⟩) ha.st.length ha.st.length] 30 (0, 0))) := by
              have q := h67.block HB6.out
              rw [Hid, hx8.block (g + 1) (lt_of_block q) (by omega)]; exact q
            rw [← HVO.out] at how8
            have HO8 := Lib.hid how8
            clear how8 HM7 hx8 h67
            go_wp2_with (fail)
            go_roundw
            case rel => exact ⟨k + 1, by omega, by go_num, hE8, hob8, HO8⟩
            case measure => simp [intOf]; omega
        · obtain rfl : k = l.length := by omega
          clear d0 d1 d2
          go_wp2_with (fail)
          generalize hwl : World.alloc _ _ = wl
          obtain ⟨hel, ol, -⟩ := alloc1 hwl
          clear hwl
          have hgs := lt_of_block hob.out
          obtain ⟨bl, hbl⟩ : ∃ bl, bl = wr.heap.size := ⟨_, rfl⟩
          rw [← hbl] at ol
          rw [← hbl]
          have HBG : Hid (bl ≠ g) := by rw [Hid]; omega
          clear hgs hbl
          have hbeg : Ext w3 wl ∧ Hid (wl.heap[g + 1]? = some (.cells #[.slice (some ⟨g, 0, none⟩) ha.st.length ha.st.length] 30 (0, 0))) ∧ Hid (wl.heap[bl]? = some (.cells #[.int .u8 2, .int .u8 1] 38 (0, 0))) ∧ Hid (OwnU wl g (.slice (some ⟨g, 0, none⟩) ha.st.length ha.st.length) (fl ha.st.length (vStage ha l p cu 0))) :=
            ⟨hr.trans hel, hel.block hob.out, ol, hown.out.ext hel⟩
          have HBEG := Lib.hid hbeg
          clear hbeg hr hob hown hel ol
          go_loopw [87] (fun i wr => ∃ q : Nat, q ≤ 2 ∧ i = .int .i64 q ∧ Ext w3 wr ∧ Hid (wr.heap[g + 1]? = some (.cells #[.slice (some ⟨g, 0, none⟩) ha.st.length ha.st.length] 30 (0, 0))) ∧ Hid (wr.heap[bl]? = some (.cells #[.int .u8 2, .int .u8 1] 38 (0, 0))) ∧ Hid (OwnU wr g (.slice (some ⟨g, 0, none⟩) ha.st.length ha.st.length) (fl ha.st.length (vStage ha l p cu q)))) (fun i _ => 2 - (intOf i).toNat)
          case atStart => exact ⟨0, by omega, rfl, HBEG.out.1, HBEG.out.2.1, HBEG.out.2.2.1, HBEG.out.2.2.2⟩
          case round =>
            clear HBEG
            obtain ⟨q, hq, rfl, hr, hob, hbl, hown⟩ := hrel
            by_cases hq2 : q < 2
            · obtain ⟨z0, z1⟩ := obj_cells2 hbl.out
              have hld : wr.cell? ⟨bl, q, none⟩ = some (.int .u8 (ownOf q)) := by
                rcases (show q = 0 ∨ q = 1 by omega) with rfl | rfl
                · exact z0 wr (Ext.refl wr)
                · exact z1 wr (Ext.refl wr)
              have hstg : vStage ha l p cu (q + 1) = vOwn l p cu (ownOf q) (vStage ha l p cu q) l.length := rfl
              have HSTG := Lib.hid hstg
              clear z0 z1 hstg
              generalize ownOf q = ow at *
              obtain ⟨wo, rfl⟩ : ∃ wo : World, wo = wr := ⟨_, rfl⟩
              go_wp2_with (fail)
              clear hld
              rw [show decide ((q : Int) < 2) = true from decide_eq_true (by omega)]
              go_loopw [93] (fun i wr => ∃ k : Nat, k ≤ l.length ∧ i = .int .i64 k ∧ Ext w3 wr ∧ Hid (wr.heap[g + 1]? = some (.cells #[.slice (some ⟨g, 0, none⟩) ha.st.length ha.st.length] 30 (0, 0))) ∧ Hid (wr.heap[bl]? = some (.cells #[.int .u8 2, .int .u8 1] 38 (0, 0))) ∧ Hid (OwnU wr g (.slice (some ⟨g, 0, none⟩) ha.st.length ha.st.length) (fl ha.st.length (vOwn l p cu ow (vStage ha l p cu q) k)))) (fun i _ => l.length - (intOf i).toNat)
              case atStart => exact ⟨0, Nat.zero_le _, rfl, hr, hob, hbl, hown⟩
              case round =>
                clear hr hob hown hbl
                obtain ⟨k, hk, rfl, hr, hob, hbl, hown⟩ := hrel
                by_cases hlt : k < l.length
                · obtain ⟨b, o, rfl, c0, c1, c2, c3, c4, c5, c6⟩ := (HL.out.ext HB3.out).at k hlt
                  obtain ⟨b', o', rfl, p0⟩ := (HPP.out.ext HB3.out).at k (by rw [HPN.out]; omega)
                  have hkp : k < pn := by omega
                  cases T : ((cth l k).cu != cu)
                  rotate_left
                  · have hvo : vOwn l p cu ow (vStage ha l p cu q) (k + 1) = vOwn l p cu ow (vStage ha l p cu q) k := by
                      have : ¬ (cth l k).cu = cu := by simpa using T
                      simp [vOwn, this]
                    have hown2 := hown
                    rw [← hvo] at hown2
                    clear hvo hown
                    go_wp2_with (fail)
                    generalize hw6 : World.alloc _ _ = w6
                    obtain ⟨he6, -, -⟩ := alloc1 hw6
                    clear hw6
                    go_roundw
                    case rel => exact ⟨k + 1, by omega, by go_num, hr.trans he6, he6.block hob.out, he6.block hbl.out, hown2.out.ext he6⟩
                    case measure => simp [intOf]; omega
                  · have hcc : (cth l k).cu = cu := by simpa using T
                    have HCC := Lib.hid hcc
                    clear hcc
                    cases T2 : (ow == 1)
                    · have hvo : vOwn l p cu ow (vStage ha l p cu q) (k + 1) = markF (nth p k - (cth l k).pr) (nth p k) ow (vOwn l p cu ow (vStage ha l p cu q) k) := by
                        have : ¬ ow = 1 := by simpa using T2
                        simp [vOwn, HCC.out, this]
                      have HVO := Lib.hid hvo
                      clear hvo
                      go_wp2_with (fail)
                      generalize hw6 : World.alloc _ _ = w6
                      obtain ⟨he6, o1, -⟩ := alloc1 hw6
                      obtain ⟨a0, a1, a2, a3, a4, a5, a6⟩ := obj_cells7 o1
                      clear hw6 o1 c0 c1 c2 c3 c4 c5 c6 a0 a3 a4 a5 a6
                      have hr6 := hr.trans he6
                      have e2 := fun W (h : Ext w6 W) => p0 W (hr6.trans h)
                      have hr0 := Ext.refl w6
                      have ht := inTime_bd (HV.out.cb k hlt) (HOK.out k hlt)
                      obtain ⟨ht0, ht1, ht2, ht3, -, -⟩ := ht
                      have hpr0 := (HV.out.cb k hlt).pr0
                      have hpr1 := (HV.out.cb k hlt).pr1
                      have hob6 := he6.block hob.out
                      have hbl6 := he6.block hbl.out
                      have hown6 := hown.out.ext he6
                      have HB6 := Lib.hid hob6; have HO6 := Lib.hid hown6; have HBL6 := Lib.hid hbl6
                      clear p0 hob6 hown6 hbl6
                      go_still_tail 13, (by kernel_rfl)
                      change wpList _ _ _ _ _ (World.drew w6)
                      have h67 : Ext w6 w6.drew := hr0.drew
                      generalize w6.drew = w7 at *
                      have hm7 := mark_any (nth p k - (cth l k).pr) (nth p k) ow (g + 1) g ha.st.length ha.st.length g (vOwn l p cu ow (vStage ha l p cu q) k) w7 (by omega) (by omega) (by omega) (by omega) (obj_cells1 (h67.block HB6.out) w7 (Ext.refl w7)) (HO6.out.ext h67)
                      have HM7 := Lib.hid hm7
                      clear hm7
                      go_wp2_with (fail)
                      (with_reducible refine HM7.out.mono ?_); rintro e w8 ⟨rfl, hx8, how8⟩
                      have hE8 : Ext w3 w8 := ((hr6.trans h67).x.trans hx8).ext (by rw [hg]; exact Nat.le_refl _)
                      have hob8 : Hid (w8.heap[g + 1]? = some (.cells #[.slice (some ⟨g, 0, none⟩) ha.st.length ha.st.length] 30 (0, 0))) := by
                        have q := h67.block HB6.out
                        rw [Hid, hx8.block (g + 1) (lt_of_block q) (by omega)]; exact q
                      have hbl8 : Hid (w8.heap[bl]? = some (.cells #[.int .u8 2, .int .u8 1] 38 (0, 0))) := by
                        have q := h67.block HBL6.out
                        rw [Hid, hx8.block bl (lt_of_block q) HBG.out]; exact q
                      rw [← HVO.out] at how8
                      have HO8 := Lib.hid how8
                      clear how8 HM7 hx8 h67
                      go_wp2_with (fail)
                      go_roundw
                      case rel => exact ⟨k + 1, by omega, by go_num, hE8, hob8, hbl8, HO8⟩
                      case measure => simp [intOf]; omega
                    · have hvo : vOwn l p cu ow (vStage ha l p cu q) (k + 1) = markF (nth p k) (nth p k + (cth l k).ho) ow (vOwn l p cu ow (vStage ha l p cu q) k) := by
                        have : ow = 1 := by simpa using T2
                        simp [vOwn, HCC.out, this]
                      have HVO := Lib.hid hvo
                      clear hvo
                      go_wp2_with (fail)
                      generalize hw6 : World.alloc _ _ = w6
                      obtain ⟨he6, o1, -⟩ := alloc1 hw6
                      obtain ⟨a0, a1, a2, a3, a4, a5, a6⟩ := obj_cells7 o1
                      clear hw6 o1 c0 c1 c2 c3 c4 c5 c6 a0 a3 a4 a5 a6
                      have hr6 := hr.trans he6
                      have e2 := fun W (h : Ext w6 W) => p0 W (hr6.trans h)
                      have hr0 := Ext.refl w6
                      have ht := inTime_bd (HV.out.cb k hlt) (HOK.out k hlt)
                      obtain ⟨ht0, ht1, ht2, ht3, -, -⟩ := ht
                      have hpr0 := (HV.out.cb k hlt).pr0
                      have hpr1 := (HV.out.cb k hlt).pr1
                      have hob6 := he6.block hob.out
                      have hbl6 := he6.block hbl.out
                      have hown6 := hown.out.ext he6
                      have HB6 := Lib.hid hob6; have HO6 := Lib.hid hown6; have HBL6 := Lib.hid hbl6
                      clear p0 hob6 hown6 hbl6
                      go_still_tail 13, (by kernel_rfl)
                      change wpList _ _ _ _ _ (World.drew w6)
                      have h67 : Ext w6 w6.drew := hr0.drew
                      generalize w6.drew = w7 at *
                      have hm7 := mark_any (nth p k) (nth p k + (cth l k).ho) ow (g + 1) g ha.st.length ha.st.length g (vOwn l p cu ow (vStage ha l p cu q) k) w7 (by omega) (by omega) (by omega) (by omega) (obj_cells1 (h67.block HB6.out) w7 (Ext.refl w7)) (HO6.out.ext h67)
                      have HM7 := Lib.hid hm7
                      clear hm7
                      go_wp2_with (fail)
                      (with_reducible refine HM7.out.mono ?_); rintro e w8 ⟨rfl, hx8, how8⟩
                      have hE8 : Ext w3 w8 := ((hr6.trans h67).x.trans hx8).ext (by rw [hg]; exact Nat.le_refl _)
                      have hob8 : Hid (w8.heap[g + 1]? = some (.cells #[.slice (some ⟨g, 0, none⟩) ha.st.length ha.st.length] 30 (0, 0))) := by
                        have q := h67.block HB6.out
                        rw [Hid, hx8.block (g + 1) (lt_of_block q) (by omega)]; exact q
                      have hbl8 : Hid (w8.heap[bl]? = some (.cells #[.int .u8 2, .int .u8 1] 38 (0, 0))) := by
                        have q := h67.block HBL6.out
                        rw [Hid, hx8.block bl (lt_of_block q) HBG.out]; exact q
                      rw [← HVO.out] at how8
                      have HO8 := Lib.hid how8
                      clear how8 HM7 hx8 h67
                      go_wp2_with (fail)
                      go_roundw
                      case rel => exact ⟨k + 1, by omega, by go_num, hE8, hob8, hbl8, HO8⟩
                      case measure => simp [intOf]; omega
                · obtain rfl : k = l.length := by omega
                  rw [← HSTG.out] at hown
                  go_wp2_with (fail)
                  go_roundw
                  case rel => exact ⟨q + 1, by omega, by go_num, hr, hob, hbl, hown⟩
                  case measure => simp [intOf]; omega
            · obtain rfl : q = 2 := by omega
              have hbx := obj_cells1 hob.out
              rw [vStage_two] at hown
              have hr0 := Ext.refl wr
              go_wp2_with (fail)
              go_ret2
              have hby := hown.out.byts (fl_len _ _)
              refine ⟨some ⟨g, 0, none⟩, ha.st.length, by rw [HLS.out, HE.out, fl_len]; rfl, HB3.out.trans hr, ?_⟩
              rw [HLS.out]
              exact hby
end Go.Proofs.Ytjpgignbjkgjiaa
