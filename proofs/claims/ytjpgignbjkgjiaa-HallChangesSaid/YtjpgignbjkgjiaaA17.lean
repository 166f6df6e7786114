import Derived.Test.YtjpgignbjkgjiaaA16
set_option linter.unusedVariables false
set_option linter.unusedSimpArgs false
namespace Go.Proofs.Ytjpgignbjkgjiaa
open Go.RowKit
set_option maxRecDepth 100000 in
set_option maxHeartbeats 2000000 in
theorem place_step_y (ha : Hal) (x : HP) (l : List Camp) (d i : Nat) (hid : i + (d + 1) = l.length) (la : Option Addr) (lc bs : Nat) (hv : VH ha l) (ss : List SL) (a : Option Addr) (c : Nat) (st : St) (w : World) (hlen : ss.length = l.length) (hpl : PlC bs w ha x l la) (hbd : Bd (lsts ss)) (hss : SLsX bs w a ss)
    (hsr : Sr w bs ha x l la lc st) (hpr : pruned l (lsts ss) st = false) (F : stFound st = true)
    (ih : ∀ (ss' : List SL) (a' : Option Addr) (c' : Nat) (st' : St) (W : World), ss'.length = l.length → PlC bs W ha x l la → Bd (lsts ss') → SLsX bs W a' ss' → Sr W bs ha x l la lc st' →
      Calls Try.prog 78 #[.pointer (some ⟨bs, 0, none⟩), .int .i64 ((i + 1 : Nat) : Int), .slice a' ss'.length c'] W (RetP bs W ha x l la lc (placeS ha l d (lsts ss') st'))) :
    Calls Try.prog 78 #[.pointer (some ⟨bs, 0, none⟩), .int .i64 (i : Nat), .slice a ss.length c] w (RetP bs w ha x l la lc (placeS ha l (d + 1) (lsts ss) st)) := by
  obtain ⟨bv, hblk, hbest⟩ := hsr
  have hbs := lt_of_block hblk
  obtain ⟨s0, s1, s2, s3, s4, s5, s6, s7⟩ := obj_cells8 hblk
  have sf := obj_free hblk
  have hpr2 := hpr
  simp only [pruned, Bool.or_eq_false_iff] at hpr
  obtain ⟨hae, hpc⟩ := hpr
  have hll : (lsts ss).length = l.length := by rw [lsts_len, hlen]
  have hne : ∀ i, i < l.length → 0 < (lth (lsts ss) i).length := fun i hi => notEmpty hae i (by omega)
  have hpb : ∀ i, i < l.length → 0 ≤ nth (planOf (lsts ss)) i ∧ nth (planOf (lsts ss)) i ≤ 96 := fun i hi => by
    rw [nth_planOf _ _ (by omega)]; exact (hbd i (by omega)).2 0 (hne i hi)
  have hcon := fun W (h : Ext w W) => contains81 bs a c ss W (by rw [hlen]; have := hv.ll; omega) (hss.ext h)
  have hlea := fun W (h : Ext w W) => least_any bs bs l la lc a ss.length c ss W (fun W' h' => s4 W' (h.trans h')) (hpl.extX h.x).cs.1 (hss.ext h) rfl hlen.symm hv.ll ha.st.length hv.cb
    (fun i hi => by have := hne i hi; rwa [lth_lsts _ _ (by omega)] at this) (fun i hi => (hbd i (by omega)).2 0 (hne i hi))
  rw [hae] at hcon
  have hlen2 : (planOf (lsts ss)).length = ss.length := by rw [planOf_len, lsts_len]
  have hbr := fun W (h : Ext w W) pa (q : Ints W pa (planOf (lsts ss))) => breach_any ha x l la lc (planOf (lsts ss)) pa ss.length ss.length W (hpl.extX h.x).hall (hpl.extX h.x).cs.1 q (by omega) hlen2 hv
  have hco := fun W (h : Ext w W) pa (q : Ints W pa (planOf (lsts ss))) => cost_any l la lc ha.st.length (planOf (lsts ss)) pa ss.length ss.length W (hpl.extX h.x).cs.1 q (by omega) hlen2 hv.ll hv.cb hpb
  have HCON := Lib.hid hcon; have HLEA := Lib.hid hlea; have HBR := Lib.hid hbr; have HCO := Lib.hid hco
  have HSS := Lib.hid hss; have HBK := Lib.hid hblk; have HBV := Lib.hid hbest; have HLEN := Lib.hid hlen
  have HV := Lib.hid hv
  have HNE := Lib.hid hne
  have hl16 := hv.ll
  have hs16 : ss.length ≤ 16 := by omega
  have HEND := Lib.hid (placeS_step ha l d i hid (lsts ss) st hpr2)
  have HBD := Lib.hid hbd
  have HPL := Lib.hid hpl
  have HIH := Lib.hid ih
  clear ih
  clear hcon hlea hbr hco hblk hbest hpr2 hae hbd hpb hlen2 hv hll hne
  have hr0 := Ext.refl w
  have hlen' : ((i : Int) == (l.length : Int)) = false := by rw [beq_eq_false_iff_ne]; omega
  clear hss hpl hlen
  obtain ⟨sa, sc, ea, ec⟩ := x
  rw [F] at hpc s7
  try simp only [Bool.true_and] at hpc
  have HPC := Lib.hid hpc
  clear hpc
  go_enter Try.func78, Try.ntmps78
  go_wp2_with (fail)
  refine wp_region_ext (by kernel_rfl) (by kernel_rfl) hr0 ?_
  repeat (go_big_quiet_step ((first | (go_at_call 82; exact Calls.later (HCON.out _ (Later.ok _))) | (go_at_call 83; exact Calls.later (HLEA.out _ (Later.ok _))))))
  refine wpQuiet_nil ?_
  rintro _ ⟨nq, rfl⟩
  obtain ⟨w0, hw0⟩ : ∃ w0, w0 = nq.val := ⟨_, rfl⟩
  have h0 : Ext w w0 := hw0 ▸ nq.ok
  rw [← hw0]
  clear hw0 nq hr0
  have hil : i < l.length := by omega
  have his : i < ss.length := by rw [HLEN.out]; exact hil
  obtain ⟨b, o, rfl, d0⟩ := HSS.out.at i his
  have hii := HSS.out.2 i his
  have hlth := lth_lsts ss i his
  have hbdi := HBD.out i (by rw [lsts_len]; exact his)
  rw [hlth] at hbdi
  obtain ⟨⟨qa, qxs, qc⟩, hs⟩ : ∃ s, s = sth ss i := ⟨_, rfl⟩
  rw [← hs] at d0 hii hlth hbdi
  dsimp only at d0 hii hlth hbdi
  have HLT := Lib.hid hlth
  have HII := Lib.hid hii
  have HBI := Lib.hid hbdi
  have hql := hbdi.1
  clear hii hlth hs hbdi
  have hpc := of_decide_eq_false HPC.out
  go_wp2_with (fail)
  clear hpc
  clear hlen' d0
  go_loopw [90] (fun v wr => ∃ k : Nat, k ≤ qxs.length ∧ v = .int .i64 k ∧ ExtX bs w wr ∧ Hid (Sr wr bs ha ⟨sa, sc, ea, ec⟩ l la lc (foldTo ha l d (lsts ss) i st k))) (fun v _ => qxs.length - (intOf v).toNat)
  case atStart => exact ⟨0, Nat.zero_le _, rfl, h0.x, Sr.ext ⟨bv, HBK.out, HBV.out⟩ h0⟩
  case round =>
    obtain ⟨wo, rfl⟩ : ∃ wo : World, wo = wr := ⟨_, rfl⟩
    obtain ⟨k, hk, rfl, hrx, hsr⟩ := hrel
    by_cases hlt : k < qxs.length
    · clear s0 s1 s2 s3 s4 s5 s6 s7 sf
      obtain ⟨t, ht⟩ : ∃ t, t = nth qxs k := ⟨_, rfl⟩
      have htb := HBI.out.2 k hlt
      rw [← ht] at htb
      obtain ⟨bt, ot, rfl, ft⟩ := (HII.out.extX hrx).ints.at k hlt
      rw [← ht] at ft
      have HTT := Lib.hid ht
      clear ht
      have hssr := HSS.out.extX hrx
      have hclone := clone_sl bs (some ⟨b, o, none⟩) c ss wo hssr (by omega) (by omega)
      have HCL := Lib.hid hclone
      have HSR := Lib.hid hssr
      clear hclone hssr
      have hrr := Ext.refl wo
      go_wp2_with (fail)
      (with_reducible refine HCL.out.mono ?_); rintro e w2 ⟨g, c', rfl, he2, hgge, hown⟩
      have hg2 : g < w2.heap.size := (hown.lt g rfl).2
      have hbsr : bs < wo.heap.size := by have := hrx.size; omega
      have hown1 := hown.alloc (.cells #[.int .i64 t] 3)
      have hcel := hown1.cellAt i (by omega)
      rw [rowS_get _ _ his] at hcel
      have hfre := hown1.frozenAt i
      have hst := (hown1.stored i (.slice (some ⟨w2.heap.size, 0, none⟩) 1 1)).1
      have hset : (rowS ss).set i (.slice (some ⟨w2.heap.size, 0, none⟩) 1 1) = rowS (ss.set i ⟨some ⟨w2.heap.size, 0, none⟩, [t], 1⟩) := by
        simp only [rowS, List.map_set]; rfl
      rw [hset] at hst
      have hXg : ExtX g (w2.alloc (.cells #[.int .i64 t] 3)) ((w2.alloc (.cells #[.int .i64 t] 3)).setCell ⟨g, i, none⟩ (.slice (some ⟨w2.heap.size, 0, none⟩) 1 1)) := (ExtX.refl g _).set i _
      have hEw : Ext wo ((w2.alloc (.cells #[.int .i64 t] 3)).setCell ⟨g, i, none⟩ (.slice (some ⟨w2.heap.size, 0, none⟩) 1 1)) := (he2.alloc _).set (by exact hgge) _
      have hone : Ints (w2.alloc (.cells #[.int .i64 t] 3)) (some ⟨w2.heap.size, 0, none⟩) [t] := ints_one (heap_new _ _)
      have hinn : Hid (∀ j, j < ss.length → IntsX g ((w2.alloc (.cells #[.int .i64 t] 3)).setCell ⟨g, i, none⟩ (.slice (some ⟨w2.heap.size, 0, none⟩) 1 1)) (sth (ss.set i ⟨some ⟨w2.heap.size, 0, none⟩, [t], 1⟩) j).a (sth (ss.set i ⟨some ⟨w2.heap.size, 0, none⟩, [t], 1⟩) j).xs ∧
          IntsX bs ((w2.alloc (.cells #[.int .i64 t] 3)).setCell ⟨g, i, none⟩ (.slice (some ⟨w2.heap.size, 0, none⟩) 1 1)) (sth (ss.set i ⟨some ⟨w2.heap.size, 0, none⟩, [t], 1⟩) j).a (sth (ss.set i ⟨some ⟨w2.heap.size, 0, none⟩, [t], 1⟩) j).xs) := fun j hj => by
        rw [sth_set _ _ _ _ hj]
        by_cases hji : j = i
        · rw [if_pos hji]
          have q1 : IntsX g _ _ _ := (intsX_blk hone (show w2.heap.size ≠ g by omega)).extX hXg
          exact ⟨q1, intsX_blk q1.ints (show w2.heap.size ≠ bs by have := he2.size; omega)⟩
        · rw [if_neg hji]
          have q0 := HSR.out.2 j hj
          have q1 : IntsX g _ _ _ := ((q0.ints.x hgge).ext (he2.alloc _)).extX hXg
          exact ⟨q1, q0.ext hEw⟩
      have hl0 : Hid (lsts (ss.set i ⟨some ⟨w2.heap.size, 0, none⟩, [t], 1⟩) = nextTo ha l (lsts ss) i t 0) := by
        rw [Hid, ← nextTo_zero]; simp only [lsts, List.map_set]
      have hcomm : (w2.alloc (.cells #[.int .i64 t] 3)).setCell ⟨g, i, none⟩ (.slice (some ⟨w2.heap.size, 0, none⟩) 1 1) = (w2.setCell ⟨g, i, none⟩ (.slice (some ⟨w2.heap.size, 0, none⟩) 1 1)).alloc (.cells #[.int .i64 t] 3) := by simp [World.setCell_alloc_past, hg2]
      rw [hcomm] at hst hEw hinn
      clear hcomm
      have HST := Lib.hid hst
      have HEW := Lib.hid hEw
      clear hst hset hXg hone hown1 hown hEw hrr
      have hin2 : i < ss.length := his
      go_wp2_with (fail)
      clear hcel hfre
      generalize hwn : World.alloc _ _ = wn at *
      clear hwn
      go_loopw [103] (fun v wr => ∃ (k : Nat) (ss' : List SL), k ≤ ss.length ∧ v = .int .i64 k ∧ ss'.length = ss.length ∧ Hid (lsts ss' = nextTo ha l (lsts ss) i t k) ∧ Ext wo wr ∧
          Hid (wr.ownsRow wo.heap.size 22 1 (.slice (some ⟨g, 0, none⟩) ss.length c') ss.length (rowS ss')) ∧ Hid (∀ j, j < ss.length → IntsX g wr (sth ss' j).a (sth ss' j).xs ∧ IntsX bs wr (sth ss' j).a (sth ss' j).xs)) (fun v _ => ss.length - (intOf v).toNat)
      case atStart => exact ⟨0, _, Nat.zero_le _, rfl, List.length_set, hl0, HEW.out, HST.out, hinn⟩
      case round =>
        clear hl0 HEW HST hinn
        obtain ⟨m, ss', hm, rfl, hss', hls, hei, howi, hini⟩ := hrel
        by_cases hml : m < ss.length
        · by_cases hmi : m = i
          · have hl2 : Hid (lsts ss' = nextTo ha l (lsts ss) i t (m + 1)) := by rw [Hid, hls.out, hmi, nextTo_same]
            have hne : ((m : Int) != (i : Int)) = false := by rw [hmi]; simp
            clear hmi
            have hls3 := Lib.hid hss'
            clear hss'
            go_wp2_with (fail)
            go_roundw
            case rel => exact ⟨m + 1, ss', by omega, by go_num, hls3.out, hl2, hei, howi, hini⟩
            case measure => simp [intOf]; omega
          · have hne : ((m : Int) != (i : Int)) = true := by rw [bne_iff_ne]; omega
            have hml2 : m < ss'.length := by omega
            have hcel := howi.out.cellAt m (by omega)
            rw [rowS_get _ _ hml2] at hcel
            have hfre := howi.out.frozenAt m
            have hxs := lth_lsts ss' m hml2
            have hsr2 := Sr.ext hsr.out hei
            have hbn : Bd (nextTo ha l (lsts ss) i t m) := nextTo_bd m HBD.out htb
            have hbm := hbn m (by rw [nextTo_len, lsts_len]; exact hml)
            rw [← hls.out, hxs] at hbm
            have hsm : (lsts ss').set m (keepS ha l i m t (sth ss' m).xs) = nextTo ha l (lsts ss) i t (m + 1) := by
              rw [← nextTo_succ ha l (lsts ss) i t m (by rw [lsts_len]; exact hml) hmi, ← hls.out, hxs]
            obtain ⟨bv2, hb2, -⟩ := hsr2
            obtain ⟨s0, s1, s2, s3, s4, -, -, -⟩ := obj_cells8 hb2
            have hkeep := keep_any ha ⟨sa, sc, ea, ec⟩ l la lc bs i m t (sth ss' m).a (sth ss' m).xs.length (sth ss' m).c (sth ss' m).xs wr ((HPL.out.extX hrx).extX hei.x).cs.1 HV.out hil (by rw [← HLEN.out]; exact hml) (by omega) rfl hbm.1 (hini.out m hml).1.ints
              (fun j hj => by have := hbm.2 j hj; omega) s0 s1 s2 s3 s4
            have HKP := Lib.hid hkeep
            have HSM := Lib.hid hsm
            have HS3 := Lib.hid hss'
            clear s0 s1 s2 s3 s4 hb2 hkeep hsm hbm hbn hxs hss' hmi
            unfold SL.val at hcel
            go_wp2_with (fail)
            (with_reducible refine HKP.out.mono ?_); rintro e w3 ⟨a'', c'', rfl, he3, hown3⟩
            have how3 := own_ext howi.out he3
            have hg3 : g < w3.heap.size := (how3.lt g rfl).2
            have hgr : g < wr.heap.size := (howi.out.lt g rfl).2
            have hbr : bs < wr.heap.size := by have := hei.size; omega
            have hcel3 := how3.cellAt m (by omega)
            rw [rowS_get _ _ hml2] at hcel3
            unfold SL.val at hcel3
            have hfre3 := how3.frozenAt m
            have hst3 := (how3.stored m (.slice a'' (keepS ha l i m t (sth ss' m).xs).length c'')).1
            have hset3 : (rowS ss').set m (.slice a'' (keepS ha l i m t (sth ss' m).xs).length c'') = rowS (ss'.set m ⟨a'', keepS ha l i m t (sth ss' m).xs, c''⟩) := by
              simp only [rowS, List.map_set]; rfl
            rw [hset3] at hst3
            have hEi : Ext wo (w3.setCell ⟨g, m, none⟩ (.slice a'' (keepS ha l i m t (sth ss' m).xs).length c'')) := (hei.trans he3).set (by exact hgge) _
            have hXg : ExtX g w3 (w3.setCell ⟨g, m, none⟩ (.slice a'' (keepS ha l i m t (sth ss' m).xs).length c'')) := (ExtX.refl g _).set m _
            have hini3 : Hid (∀ j, j < ss.length → IntsX g (w3.setCell ⟨g, m, none⟩ (.slice a'' (keepS ha l i m t (sth ss' m).xs).length c'')) (sth (ss'.set m ⟨a'', keepS ha l i m t (sth ss' m).xs, c''⟩) j).a (sth (ss'.set m ⟨a'', keepS ha l i m t (sth ss' m).xs, c''⟩) j).xs ∧
                IntsX bs (w3.setCell ⟨g, m, none⟩ (.slice a'' (keepS ha l i m t (sth ss' m).xs).length c'')) (sth (ss'.set m ⟨a'', keepS ha l i m t (sth ss' m).xs, c''⟩) j).a (sth (ss'.set m ⟨a'', keepS ha l i m t (sth ss' m).xs, c''⟩) j).xs) := fun j hj => by
              rw [sth_set _ _ _ _ (by rw [HS3.out]; exact hj)]
              by_cases hjm : j = m
              · rw [if_pos hjm]
                have q1 := (hown3.intsX hgr).extX hXg
                exact ⟨q1, intsX_join q1 (hown3.intsX hbr)⟩
              · rw [if_neg hjm]
                have q1 := ((hini.out j hj).1.ext he3).extX hXg
                exact ⟨q1, intsX_join q1 ((hini.out j hj).2.ext he3)⟩
            have hl3 : Hid (lsts (ss'.set m ⟨a'', keepS ha l i m t (sth ss' m).xs, c''⟩) = nextTo ha l (lsts ss) i t (m + 1)) := by rw [Hid, lsts_set]; exact HSM.out
            have HST3 := Lib.hid hst3
            clear hst3 hset3 hXg hown3 how3 hcel hfre HKP
            go_wp2_with (fail)
            go_roundw
            case rel => exact ⟨m + 1, _, by omega, by go_num, by rw [List.length_set]; exact HS3.out, hl3, hEi, HST3.out, hini3⟩
            case measure => simp [intOf]; omega
        · obtain rfl : m = ss.length := by omega
          have hbsr2 : bs < wo.heap.size := hbsr
          have hrec := HIH.out ss' (some ⟨g, 0, none⟩) c' (foldTo ha l d (lsts ss) i st k) wr (by rw [hss']; exact HLEN.out) ((HPL.out.extX hrx).extX hei.x) (by rw [hls.out]; exact nextTo_bd _ HBD.out htb)
            (slsX_of_own howi.out hss' (by omega) (fun j hj => (hini.out j hj).2)) (Sr.ext hsr.out hei)
          have hi1 : ((i + 1 : Nat) : Int) = (i : Int) + 1 := by omega
          rw [hss', hi1] at hrec
          have hfo : placeS ha l d (lsts ss') (foldTo ha l d (lsts ss) i st k) = foldTo ha l d (lsts ss) i st (k + 1) := by
            simp only [foldTo, nextS]
            rw [HLT.out, ← HTT.out, hls.out, lsts_len]
          rw [hfo] at hrec
          have HREC := Lib.hid hrec
          clear hrec hfo hi1 hss'
          have hi16 : i < 16 := by omega
          go_wp2_with (fail)
          (with_reducible refine HREC.out.mono ?_); rintro e w5 ⟨rfl, hx5, hs5⟩
          have hxx := hrx.trans (hei.x.trans hx5)
          have HS5 := Lib.hid hs5
          clear HREC hs5
          go_wp2_with (fail)
          go_roundw
          case rel => exact ⟨k + 1, by omega, by go_num, hxx, HS5⟩
          case measure => simp [intOf]; omega
    · obtain rfl : k = qxs.length := by omega
      go_wp2_with (fail)
      go_end0
      refine ⟨rfl, hrx, ?_⟩
      rw [HEND.out, HLT.out]
      exact hsr.out

theorem stFound_none : stFound none = false := rfl
set_option maxRecDepth 100000 in
set_option maxHeartbeats 2000000 in
theorem place_no_e (ha : Hal) (x : HP) (l : List Camp) (la : Option Addr) (lc bs : Nat) (hv : VH ha l) (i d : Nat) (ss : List SL) (a : Option Addr) (c : Nat) (st : St) (w : World) (hlen : ss.length = l.length) (hss : SLsX bs w a ss)
    (hsr : Sr w bs ha x l la lc st) (hae : anyEmpty (lsts ss) = true) :
    Calls Try.prog 78 #[.pointer (some ⟨bs, 0, none⟩), .int .i64 (i : Nat), .slice a ss.length c] w (RetP bs w ha x l la lc (placeS ha l d (lsts ss) st)) := by
  have HR : Hid (placeS ha l d (lsts ss) st = st) := placeS_zero_no ha l d _ _ (by simp [pruned, hae])
  have hcon := fun W (h : Ext w W) => contains81 bs a c ss W (by rw [hlen]; have := hv.ll; omega) (hss.ext h)
  rw [hae] at hcon
  have HCON := Lib.hid hcon
  have HSR := Lib.hid hsr
  have hr0 := Ext.refl w
  clear hcon hae hss hlen hv hsr
  go_enter Try.func78, Try.ntmps78
  go_wp2_with (fail)
  refine wp_region_ext (by kernel_rfl) (by kernel_rfl) hr0 ?_
  repeat (go_big_quiet_step ((go_at_call 82; exact Calls.later (HCON.out _ (Later.ok _)))))
  refine wpQuiet_nil ?_
  rintro _ ⟨nq, rfl⟩
  go_wp2_with (fail)
  go_end0
  exact ⟨rfl, nq.ok.x, by rw [HR.out]; exact Sr.ext HSR.out nq.ok⟩
set_option maxRecDepth 100000 in
set_option maxHeartbeats 2000000 in
theorem place_no_c (ha : Hal) (x : HP) (l : List Camp) (la : Option Addr) (lc bs : Nat) (hv : VH ha l) (i d : Nat) (ss : List SL) (a : Option Addr) (c : Nat) (st : St) (w : World) (hlen : ss.length = l.length) (hpl : PlC bs w ha x l la) (hbd : Bd (lsts ss)) (hss : SLsX bs w a ss)
    (hsr : Sr w bs ha x l la lc st) (hae : anyEmpty (lsts ss) = false) (F : stFound st = true) (hc : stCost st ≤ leastTo l (lsts ss) l.length) :
    Calls Try.prog 78 #[.pointer (some ⟨bs, 0, none⟩), .int .i64 (i : Nat), .slice a ss.length c] w (RetP bs w ha x l la lc (placeS ha l d (lsts ss) st)) := by
  have HR : Hid (placeS ha l d (lsts ss) st = st) := placeS_zero_no ha l d _ _ (by simp [pruned, hae, F, hc])
  have hsr2 := hsr
  obtain ⟨bv, hblk, hbest⟩ := hsr2
  obtain ⟨s0, s1, s2, s3, s4, s5, s6, s7⟩ := obj_cells8 hblk
  have hll : (lsts ss).length = l.length := by rw [lsts_len, hlen]
  have hne : ∀ i, i < l.length → 0 < (lth (lsts ss) i).length := fun i hi => notEmpty hae i (by omega)
  have hcon := fun W (h : Ext w W) => contains81 bs a c ss W (by rw [hlen]; have := hv.ll; omega) (hss.ext h)
  have hlea := fun W (h : Ext w W) => least_any bs bs l la lc a ss.length c ss W (fun W' h' => s4 W' (h.trans h')) (hpl.extX h.x).cs.1 (hss.ext h) rfl hlen.symm hv.ll ha.st.length hv.cb
    (fun i hi => by have := hne i hi; rwa [lth_lsts _ _ (by omega)] at this) (fun i hi => (hbd i (by omega)).2 0 (hne i hi))
  rw [hae] at hcon
  rw [F] at s7
  have HCON := Lib.hid hcon
  have HLEA := Lib.hid hlea
  have HSR := Lib.hid hsr
  have HC := Lib.hid hc
  have hr0 := Ext.refl w
  clear hcon hlea hae hss hlen hv hsr hblk hbest hne hll hc hbd hpl F
  go_enter Try.func78, Try.ntmps78
  go_wp2_with (fail)
  refine wp_region_ext (by kernel_rfl) (by kernel_rfl) hr0 ?_
  repeat (go_big_quiet_step ((first | (go_at_call 82; exact Calls.later (HCON.out _ (Later.ok _))) | (go_at_call 83; exact Calls.later (HLEA.out _ (Later.ok _))))))
  refine wpQuiet_nil ?_
  rintro _ ⟨nq, rfl⟩
  have hc := HC.out
  go_wp2_with (fail)
  go_end0
  exact ⟨rfl, nq.ok.x, by rw [HR.out]; exact Sr.ext HSR.out nq.ok⟩
theorem place_any (ha : Hal) (x : HP) (l : List Camp) (la : Option Addr) (lc bs : Nat) (hv : VH ha l) : ∀ (d i : Nat) (hid : i + d = l.length) (ss : List SL) (a : Option Addr) (c : Nat) (st : St) (w : World), ss.length = l.length → PlC bs w ha x l la → Bd (lsts ss) → SLsX bs w a ss →
    Sr w bs ha x l la lc st → Calls Try.prog 78 #[.pointer (some ⟨bs, 0, none⟩), .int .i64 (i : Nat), .slice a ss.length c] w (RetP bs w ha x l la lc (placeS ha l d (lsts ss) st)) := by
  intro d
  induction d with
  | zero =>
    intro i hid ss a c st w hlen hpl hbd hss hsr
    obtain rfl : i = l.length := by omega
    cases hpr : pruned l (lsts ss) st
    · cases F : stFound st
      · exact place_end_n ha x l la lc bs hv ss a c st w hlen hpl hbd hss hsr hpr F
      · exact place_end_y ha x l la lc bs hv ss a c st w hlen hpl hbd hss hsr hpr F
    · cases hae : anyEmpty (lsts ss)
      · simp only [pruned, hae, Bool.false_or, Bool.and_eq_true, decide_eq_true_eq] at hpr
        exact place_no_c ha x l la lc bs hv _ 0 ss a c st w hlen hpl hbd hss hsr hae hpr.1 hpr.2
      · exact place_no_e ha x l la lc bs hv _ 0 ss a c st w hlen hss hsr hae
  | succ d ih =>
    intro i hid ss a c st w hlen hpl hbd hss hsr
    cases hpr : pruned l (lsts ss) st
    · cases F : stFound st
      · exact place_step_n ha x l d i hid la lc bs hv ss a c st w hlen hpl hbd hss hsr hpr F fun ss' a' c' st' W h1 h2 h3 h4 h5 => ih (i + 1) (by omega) ss' a' c' st' W h1 h2 h3 h4 h5
      · exact place_step_y ha x l d i hid la lc bs hv ss a c st w hlen hpl hbd hss hsr hpr F fun ss' a' c' st' W h1 h2 h3 h4 h5 => ih (i + 1) (by omega) ss' a' c' st' W h1 h2 h3 h4 h5
    · cases hae : anyEmpty (lsts ss)
      · simp only [pruned, hae, Bool.false_or, Bool.and_eq_true, decide_eq_true_eq] at hpr
        exact place_no_c ha x l la lc bs hv _ _ ss a c st w hlen hpl hbd hss hsr hae hpr.1 hpr.2
      · exact place_no_e ha x l la lc bs hv _ _ ss a c st w hlen hss hsr hae
end Go.Proofs.Ytjpgignbjkgjiaa
