/-
  Walk: MatrixBooks, the log told; the law joined.
-/
import Derived.Test.YtplbofhgmflnlaaGreatBRF
import Derived.Test.YtplbofhgmflnlaaGreatBRH
import Derived.Test.YtplbofhgmflnlaaGreatOL0
set_option linter.unusedVariables false
set_option linter.unusedSimpArgs false
namespace Go.Proofs.YtplbofhgmflnlaaGreat
open Go.RowKit Go.Maps
theorem ptsTo_same {ss tt : List Se} (h : SameSe ss tt) (ord : List Int) : ∀ k, ptsTo ss ord k = ptsTo tt ord k
  | 0 => by rw [ptsTo, ptsTo, h.1]
  | k + 1 => by rw [ptsTo, ptsTo, ptsTo_same h ord k, (h.all _).2]
theorem ordS_same {P Q : Pw} {ss tt : List Se} (s : SameP P Q) (s2 : SameSe ss tt) (sd : Int) : ordS Q tt sd = ordS P ss sd := by
  unfold ordS
  rw [← s.fs, ← s2.keys, s2.1]
theorem gpB_ltB {W : World} {B : Nat} {x : Bp} {pts : List Pt} {ord : List Int} (h : BkAt W B x pts ord) (h0 : 0 < W.heap.size) : gpB x < W.heap.size := by
  unfold gpB
  cases e : x.pa with
  | none => simpa using h0
  | some p =>
    have := (h.opts.lt p.block (by rw [e]; rfl)).2
    exact this
set_option maxRecDepth 100000 in
set_option maxHeartbeats 16000000 in
theorem bk_main (P : Pw) (a : Option Addr) (ss : List Se) (sc : Nat) (sd : Int) (oa : Option Addr) (os : List Op) (oc : Nat) (w : World) (hp : PlanAt w P) (hs : SetsAt w a ss) (hl : ∀ i, i < ss.length → (eth ss i).lv.xs.length ≤ 9223372036854775807)
    (h : (wideP P.fs P.fo || wideS ss || decide (40 < os.length)) = false) (h0 : checkE P ss = 0) (hsd : 0 ≤ sd ∧ sd < 18446744073709551616) (ho : RowAt 3 opC w oa os) (hor : ∀ o ∈ os, o.rs.size ≤ maxLen) (hom : os.length ≤ 40) :
    Calls Tryz.prog 11 #[logV P a ss.length sc sd oa os.length oc] w (Ret (.bool true) w) := by
  obtain ⟨c1, c2, c3⟩ := checkE_ok h0
  have hw3 := h
  simp only [Bool.or_eq_false_iff] at hw3
  obtain ⟨⟨h1, h2⟩, -⟩ := hw3
  have hb := planB_wide h1
  obtain ⟨-, -, hl10⟩ := wideS_no h2
  have hwl := fun W (e : Ext w W) => wideLog_any P a ss sc sd oa os.length oc W (hp.ext e) (fun i hi => by have := hb.pl i hi; omega) (hs.ext e) hl
  have hov := fun W (e : Ext w W) => own_wide P W (hp.ext e) h1
  have hos : ∀ W, Ext w W → Calls Tryz.prog 46 #[.slice a ss.length sc] W (fun e w' => ∃ a' c' tt, e = .returned (.slice a' ss.length c') ∧ Ext W w' ∧ SetsAt w' a' tt ∧ SameSe ss tt) := fun W e => (ownSets_any a ss sc W (hs.ext e) (by omega) (fun i hi => by have := hl10 i hi; omega)).mono (by
    rintro e w' ⟨a', c', tt, rfl, he, ho, hq⟩
    exact ⟨a', c', tt, rfl, he, OwnSs.sets ho, hq⟩)
  have hva := fun W (e : Ext w W) => rValid_any P a ss sc W (hp.ext e) hb (hs.ext e) (by omega) hl
  obtain ⟨ord, hord⟩ : ∃ ord, ord = ordS P ss sd := ⟨_, rfl⟩
  have hperm : ord.Perm (rngI ss.length) := by rw [hord]; exact ordL_perm (by omega)
  obtain ⟨pl, hst⟩ := once_start hperm
  obtain ⟨pts0, hpts⟩ : ∃ pts0, pts0 = ptsTo ss ord ss.length := ⟨_, rfl⟩
  rw [← hpts] at hst
  have hnd : ord.Nodup := hperm.nodup_iff.2 rngI_nodup
  have hbi : BkI ss.length ord pl pts0 := BkI.start hst hnd
  have hlen : ord.length = ss.length := by rw [hperm.length_eq, rngI_len]
  have hinb : InB ss.length ord := fun y hy => rngI_mem.1 (hperm.mem_iff.1 hy)
  have hbk : ∀ W, Ext w W → ∀ Q ta tc tt, PlanAt W Q → SameP P Q → SetsAt W ta tt → SameSe ss tt → Calls Tryz.prog 52 #[planV Q, .slice ta ss.length tc, .int .u64 sd] W (fun e w' => ∃ x, e = .returned (.tuple #[x, .int .i64 0]) ∧ Ext W w' ∧ ∃ y, x = bkV y ∧ BkAt w' W.heap.size y pts0 ord) := fun W e Q ta tc tt hq s ht s2 => by
    have hc : checkE Q tt = 0 := by rw [← check_same s s2]; exact h0
    have := newBook_ok Q ta tt tc sd W hq (hb.same s) ht (fun i hi => by rw [← (s2.all i).1]; exact hl i (by rw [s2.1]; exact hi)) hc hsd
    rw [← s2.1] at this
    refine this.mono ?_
    rintro e w' ⟨gb, V2, V6, rfl, he, hr⟩
    rw [show newPts Q tt sd = pts0 by
      unfold newPts
      rw [ordS_same s s2, ← hord, ← ptsTo_same s2, ← s2.1, hpts], ordS_same s s2, ← hord] at hr
    obtain ⟨pa, pc, h2⟩ := slice_row (RowsAt.own hr (rwP V2 pts0) (by simp))
    obtain ⟨oa, oc, h6⟩ := slice_row (RowsAt.own hr (rwI V6 ord) (by simp))
    simp only at h2 h6
    subst h2 h6
    exact ⟨_, rfl, he, ⟨gb, pa, pc, oa, oc⟩, rfl, hr⟩
  have hrr : refO 1001 (fun i => gL P.fs (eth ss i)) ss.length sd = ord := by
    rw [hord, refO_eq (by omega) (fun i hi => by
      have := setOk (c3 i hi)
      show 0 ≤ (eth ss i).blk ∧ (eth ss i).blk < ((1001 : Nat) : Int)
      omega)]
  have hplen : pts0.length = ss.length := by rw [hpts]; exact ptsTo_len _ _ _
  have hptat : ∀ k, k < ss.length → qth pts0 k = ⟨(eth ss k).blk, (qth pts0 k).place, 0, ⟨#[]⟩⟩ := fun k hk => by
    have e := ptsTo_at (ss := ss) (ord := ord) hperm ss.length (Nat.le_refl _) (pl k) (by rw [← hlen]; exact hst.pln k hk)
    rw [hst.ordp k hk, Int.toNat_natCast, ← hpts] at e
    rw [e]
  have hrn : ∀ W, Ext w W → Calls Tryz.prog 53 #[planV P, .slice a ss.length sc, .int .u64 sd] W (fun e w' => ∃ x : Rb, e = .returned (rbV x ss.length ss.length) ∧ Ext W w' ∧ (∀ g, (g < W.heap.size ∨ w'.heap.size ≤ g) → OffB g x) ∧ RbAt w' x pts0 ord) := fun W e => by
    have := rNewBook_any P a ss sc sd W (hp.ext e) (planOk c1).1 (hs.ext e) c2 (fun i hi => levB_len (setOk (c3 i hi)).1) pts0 hplen hptat
    rw [hrr, hplen, hlen] at this
    exact this
  obtain ⟨n, hnn⟩ : ∃ n, n = ss.length := ⟨_, rfl⟩
  obtain ⟨m, hm⟩ : ∃ m, m = os.length := ⟨_, rfl⟩
  rw [h0] at hva
  rw [h] at hwl
  rw [← hnn, ← hm] at hwl
  rw [← hnn] at hos hbk hva hrn hbi hlen hinb c2
  rw [← hnn, ← hm]
  have HAL : Hid (∀ W B x y pts, BkAt W B x pts ord → RbAt W y pts ord → pts.length = n → Calls Tryz.prog 60 #[bkV x, rbV y n n] W (Ret (.bool true) W)) := fun W B x y pts h1 h2 h3 => by
    have := alike_any B x y pts ord W h1 h2 (by rw [h3]; exact hinb) (by omega) (by omega)
    rw [h3, hlen] at this
    exact this
  have HOPN : Hid (∀ W B x pts, BkAt W B x pts ord → pts.length = n → Calls Tryz.prog 61 #[bkV x] W (fun e w' => ∃ (la : Option Addr) (L lc : Nat) (Y : List Int), e = .returned (.slice la L lc) ∧ Ext W w' ∧ OwnI w' W.heap.size (.slice la L lc) Y ∧ Y.length = L ∧ L ≤ 2000)) := fun W B x pts h1 h3 => by
    have := Open_any B x pts ord W h1 (by rw [h3]; exact hinb) (by omega)
    refine this.mono ?_
    rintro e w' ⟨a, c, rfl, he, ho⟩
    exact ⟨a, _, c, _, rfl, he, ho, rfl, Nat.le_trans (openL_len _ _) (by omega)⟩
  have HM := Lib.hid hm
  have HLN := Lib.hid hlen; have HINB := Lib.hid hinb; have HBI := Lib.hid hbi
  have HO := Lib.hid ho; have HOR := Lib.hid hor
  have hn2 : n ≤ 100000 := by omega
  obtain ⟨fs, fa, fc, fo, ga, gc⟩ := P
  have HWL := Lib.hid hwl; have HOV := Lib.hid hov; have HOS := Lib.hid hos; have HVA := Lib.hid hva; have HBK := Lib.hid hbk; have HRN := Lib.hid hrn
  rw [← hm] at hom
  clear hwl hov hos hva hbk hrn hp hs hl hl10 h h1 h2 h0 hnn hm hb hsd ho hor hord hperm hst hpts hnd hbi hlen hinb hrr hplen hptat c1 c2 c3
  go_enter Tryz.func11, Tryz.ntmps11
  go_wp2_with (fail)
  generalize hw1 : World.alloc _ _ = w1
  obtain ⟨he, o1, -⟩ := alloc1 hw1
  obtain ⟨b0, b1, b2, b3, b4⟩ := obj_cells5 o1
  have E1 := Ext.refl w1
  have HE := Lib.hid he
  have HW1 : Hid (0 < w1.heap.size) := by
    have := lt_of_block o1; rw [Hid]; omega
  clear hw1 o1 he
  go_upto_region 3 with (go_at_call 51; (with_reducible refine (HWL.out _ HE.out).mono ?_); rintro e w2 ⟨rfl, he2⟩)
  have HC0 : Hid (∀ W, Ext w2 W → W.cell? ⟨w.heap.size, 0, none⟩ = some (.slice fa fs.length fc)) := fun W e => b0 W (he2.trans e)
  have HC1 : Hid (∀ W, Ext w2 W → W.cell? ⟨w.heap.size, 1, none⟩ = some (.slice ga fo.length gc)) := fun W e => b1 W (he2.trans e)
  have HC2 : Hid (∀ W, Ext w2 W → W.cell? ⟨w.heap.size, 2, none⟩ = some (.slice a n sc)) := fun W e => b2 W (he2.trans e)
  have HC3 : Hid (∀ W, Ext w2 W → W.cell? ⟨w.heap.size, 3, none⟩ = some (.int .u64 sd)) := fun W e => b3 W (he2.trans e)
  have HEW : Hid (Ext w w2) := HE.out.trans he2
  have HOV2 : Hid (∀ W, Ext w2 W → Calls Tryz.prog 40 #[planV ⟨fs, fa, fc, fo, ga, gc⟩] W (fun e w' => ∃ Q, e = .returned (planV Q) ∧ Ext W w' ∧ PlanAt w' Q ∧ SameP ⟨fs, fa, fc, fo, ga, gc⟩ Q)) := fun W e => HOV.out W (HEW.out.trans e)
  have HOS2 : Hid (∀ W, Ext w2 W → Calls Tryz.prog 46 #[.slice a n sc] W (fun e w' => ∃ a' c' tt, e = .returned (.slice a' n c') ∧ Ext W w' ∧ SetsAt w' a' tt ∧ SameSe ss tt)) := fun W e => HOS.out W (HEW.out.trans e)
  have HBK2 : Hid (∀ W, Ext w2 W → ∀ Q ta tc tt, PlanAt W Q → SameP ⟨fs, fa, fc, fo, ga, gc⟩ Q → SetsAt W ta tt → SameSe ss tt → Calls Tryz.prog 52 #[planV Q, .slice ta n tc, .int .u64 sd] W (fun e w' => ∃ x, e = .returned (.tuple #[x, .int .i64 0]) ∧ Ext W w' ∧ ∃ y, x = bkV y ∧ BkAt w' w1.heap.size y pts0 ord)) := fun W e Q ta tc tt hq s ht s2 => (HBK.out W (HEW.out.trans e) Q ta tc tt hq s ht s2).mono (by
    rintro e' w' ⟨x, rfl, he, y, hy, hb⟩
    exact ⟨x, rfl, he, y, hy, RowsAt.down hb (he2.trans e).size⟩)
  have HRM : Hid (∀ (W W' : World) (x : Value), Ext W W' → (∃ y, x = bkV y ∧ BkAt W w1.heap.size y pts0 ord) → (∃ y, x = bkV y ∧ BkAt W' w1.heap.size y pts0 ord)) := fun W W' x e => by
    rintro ⟨y, h1, h2⟩
    exact ⟨y, h1, h2.ext e⟩
  refine b3_law (P := ⟨fs, fa, fc, fo, ga, gc⟩) (R := fun W x => ∃ y, x = bkV y ∧ BkAt W w1.heap.size y pts0 ord) HC0 HC1 HC2 HC3 HOV2 HOS2 HBK2 HRM _ (by rfl) rfl ?_
  intro vs w9 ls9 hl9 hJ9 e0 e1 e2 e3 e4 e5 e6 e7 e8 e9 e10 e11 e12 e13
  simp only [Act.put, List.setIfInBounds_toArray, List.set_cons_zero, List.set_cons_succ]
  obtain ⟨x, e12, hx9⟩ := hJ9.fin (hl9 12 (by omega))
  have he29 := hJ9.ext
  rw [e0, e1, e3, e4, e6, e7, e11, e12, e13]
  have HX9 := Lib.hid hx9
  have HE9 : Hid (Ext w w9) := HEW.out.trans he29
  have he19 : Ext w1 w9 := he2.trans he29
  have HE19 := Lib.hid he19
  have d0 := fun W (e : Ext w9 W) => b0 W (he19.trans e)
  have d1 := fun W (e : Ext w9 W) => b1 W (he19.trans e)
  have d2 := fun W (e : Ext w9 W) => b2 W (he19.trans e)
  have d3 := fun W (e : Ext w9 W) => b3 W (he19.trans e)
  have HB4 := Lib.hid b4
  have E9 := Ext.refl w9
  clear hJ9 hl9 e0 e1 e2 e3 e4 e5 e6 e7 e8 e9 e10 e11 e12 e13 HOV HOS HBK HOV2 HOS2 HBK2 HC0 HC1 HC2 HC3 HWL HRM b0 b1 b2 b3 b4 he19 he29 he2 hx9 HEW
  generalize vs 2 = u2
  generalize vs 5 = u5
  generalize vs 8 = u8
  generalize vs 9 = u9
  generalize vs 10 = u10
  go_wp2_with (first
    | (go_at_call 48; (with_reducible refine (HVA.out _ HE9.out).mono ?_); rintro e w10 ⟨rfl, he10⟩; have HE10 := Lib.hid he10)
    | (go_at_call 53; (with_reducible refine (HRN.out _ (HE9.out.trans HE10.out)).mono ?_); rintro e w11 ⟨y, rfl, he11, hoff, hy11⟩; have HE11 := Lib.hid he11; have HOFF := Lib.hid hoff; have HY11 := Lib.hid hy11; clear he11 hoff hy11))
  obtain ⟨yb, hyb⟩ : ∃ yb, yb = w11.heap.size := ⟨_, rfl⟩
  generalize hw12 : World.alloc w11 _ = w12
  obtain ⟨he12, o12, hs12⟩ := alloc1 hw12
  rw [← hyb] at o12 ⊢
  have HBS : Hid (BkS w1 w12 w1.heap.size x pts0 ord n yb y) := by
    have hx11 := HE10.out.trans HE11.out
    refine ⟨(HE19.out.trans hx11).trans he12, Nat.le_refl _, ?_, (HX9.out.ext hx11).ext he12, o12⟩
    rw [hyb]; exact (HE19.out.trans hx11).size
  have HRS : Hid (RbS w12 x yb y pts0 ord) := by
    refine ⟨HY11.out.ext he12, HOFF.out _ (.inl ?_), HOFF.out _ (.inr (by rw [hyb]; exact Nat.le_refl _))⟩
    have hx10 := HX9.out.ext HE10.out
    exact gpB_ltB hx10 (by have := HW1.out; have := (HE19.out.trans HE10.out).size; omega)
  have HX0 : Hid (0 ≤ m) := Nat.zero_le _
  clear hw12 o12 hs12 he12 hyb HY11 HOFF HE11 HX9 HVA HRN d0 d1 d2 d3 E9 he10 HE10 HE19 HX0
  generalize w1.heap.size = B0 at HBS
  clear E1
  go_loopw [7] (fun i wr => ∃ (q : Nat) (pts : List Pt) (y : Rb), q ≤ m ∧ i = .int .i64 q ∧ Hid (BkS w1 wr B0 x pts ord n yb y) ∧ Hid (RbS wr x yb y pts ord) ∧ Hid (BkI n ord pl pts)) (fun i _ => m - (intOf i).toNat)
  case atStart => exact ⟨0, pts0, y, Nat.zero_le _, rfl, HBS.out, HRS.out, HBI.out⟩
  case round =>
    obtain ⟨q, pts, z, hq, rfl, HB, HR, HI⟩ := hrel
    obtain ⟨wo, rfl⟩ : ∃ wo : World, wo = wr := ⟨_, rfl⟩
    have q4 := fun W (e : Ext wo W) => HB4.out W (HB.out.ext.trans e)
    have Eo := Ext.refl wo
    by_cases hlt : q < m
    · obtain ⟨ob, oo, rfl, c0, c1, c2⟩ := op_at (HO.out.ext opC_len (HE.out.trans HB.out.ext)) q (by rw [← HM.out]; exact hlt)
      have HRZ : Hid ((oth os q).rs.size ≤ maxLen) := HOR.out _ (by
        have hq' : q < os.length := by rw [← HM.out]; exact hlt
        have e : oth os q = os[q] := by simp [oth, hq']
        rw [e]; exact List.getElem_mem _)
      generalize oth os q = op at *
      obtain ⟨K, p, r⟩ := op
      simp only at c0 c1 c2 HRZ
      go_upto_region 14 with fail
      generalize hw3 : World.alloc wo _ = w9
      obtain ⟨he9, o9, hs9⟩ := alloc1 hw3
      obtain ⟨z0, z1, z2⟩ := obj_cells3 o9
      obtain ⟨bo, hbo⟩ : ∃ bo, bo = wo.heap.size := ⟨_, rfl⟩
      rw [← hbo] at z0 z1 z2 ⊢
      have HB9 := Lib.hid (HB.out.grow he9)
      have HR9 := Lib.hid (HR.out.grow he9)
      have HNE : Hid (bo ≠ gpB x) := by
        have := HB.out.gpB_lt HW1.out
        rw [Hid, hbo]; omega
      have E9 := Ext.refl w9
      clear hw3 o9 hs9 c0 c1 c2 q4 Eo hbo HB HR he9
      by_cases hk1 : K = 1
      · subst hk1
        obtain ⟨E, pts', ha, hb', hi'⟩ := bk_take HI.out HINB.out HLN.out hn2 p
        have HA := Lib.hid (ha _ _ _ _ _ _ HB9.out); have HBB := Lib.hid hb'; have HI2 := Lib.hid hi'
        have hEE : (E != E) = false := bne_self_eq_false E
        clear ha hb' hi'
        go_upto_region 25 with (first
          | (go_at_call 54; (with_reducible refine HA.out.mono ?_); rintro e w10 ⟨rfl, hx10, hb10⟩; have HB10 := Lib.hid hb10; have HR10 := Lib.hid (HR9.out.prog hx10); have z1' : ∀ W, Ext w10 W → W.cell? ⟨bo, 1, none⟩ = some (.int .i64 p) := (fun W e => e.cell (hx10.cell (z1 _ (Ext.refl _)) HNE.out)); have z2' : ∀ W, Ext w10 W → W.cell? ⟨bo, 2, none⟩ = some (.string r) := (fun W e => e.cell (hx10.cell (z2 _ (Ext.refl _)) HNE.out)); obtain ⟨y0, y1, y2, y3⟩ := obj_cells4 hb10.box; have E10 := Ext.refl w10; have HLT10 : Hid (gpB x < w10.heap.size ∧ yb < w10.heap.size) := ⟨hb10.gpB_lt HW1.out, lt_of_block hb10.box⟩; clear hx10 hb10)
          | (go_at_call 55; (with_reducible refine (HBB.out _ _ _ _ HLT10.out.1 HLT10.out.2 HR10.out).mono ?_); rintro e w11 ⟨y', rfl, he11, hr11⟩; have HR11 := Lib.hid hr11; have HB11 := Lib.hid (HB10.out.grow he11); obtain ⟨g0, g1, g2, g3⟩ := obj_cells4 HB11.out.box; have gf := obj_free HB11.out.box; have f0 := fun W (e : Ext w11 W) => gf W e 0; have f1 := fun W (e : Ext w11 W) => gf W e 1; have f2 := fun W (e : Ext w11 W) => gf W e 2; have f3 := fun W (e : Ext w11 W) => gf W e 3; have E11 := Ext.refl w11; clear gf hr11))
        generalize hwe : World.setCell (World.setCell (World.setCell (World.setCell w11 _ _) _ _) _ _) _ _ = we
        obtain ⟨-, hbl⟩ := res4 HB11.out.box (Ext.refl w11) HB11.out.ext HB11.out.hyb hwe
        have hxx : ExtX yb w11 we := by rw [← hwe]; exact ((((ExtX.refl _ w11).set 0 _).set 1 _).set 2 _).set 3 _
        have HB12 := Lib.hid (HB11.out.put hxx hbl)
        have HR12 := Lib.hid (HR11.out.boxed hxx)
        clear hwe hbl hxx g0 g1 g2 g3 f0 f1 f2 f3 E11 he11 y0 y1 y2 y3 E10 z1' z2' HA HBB HB9 HR9 HB10 HR10 HB11 HR11 HLT10
        obtain ⟨y0, y1, y2, y3⟩ := obj_cells4 HB12.out.box
        have E12 := Ext.refl we
        go_wp2_with (go_at_call 60; (with_reducible refine (HAL.out _ _ _ _ _ HB12.out.bk HR12.out.rb HI2.out.plen).mono ?_); rintro e w13 ⟨rfl, he13⟩; have HE13 := Lib.hid he13; clear he13)
        clear y0 y1 y2 y3 E12 E9 z0 z1 z2
        go_loopw [11] (fun i wr => ∃ k : Nat, k ≤ 2 ∧ i = .int .i64 k ∧ Hid (Ext w13 wr)) (fun i _ => 2 - (intOf i).toNat)
        case atStart => exact ⟨0, Nat.zero_le _, rfl, Ext.refl _⟩
        case round =>
          obtain ⟨k, hk, rfl, HX⟩ := hrel
          obtain ⟨wk, rfl⟩ : ∃ wk : World, wk = wr := ⟨_, rfl⟩
          by_cases hk2 : k < 2
          · have HOC := Lib.hid (HOPN.out wk B0 x pts' (HB12.out.bk.ext (HE13.out.trans HX.out)) HI2.out.plen)
            go_wp2_with (go_at_call 61; (with_reducible refine HOC.out.mono ?_); rintro e w14 ⟨la, L, lc, Y, rfl, he14, ho14, hY, hL⟩; have HE14 := Lib.hid he14; have HO14 : Hid (OwnI w14 wk.heap.size (.slice la L lc) Y ∧ Y.length = L) := ⟨ho14, hY⟩; clear ho14 hY he14)
            go_loopw [13] (fun i wr => ∃ (j : Nat) (Y : List Int), j ≤ L ∧ i = .int .i64 j ∧ Hid (Ext wk wr) ∧ Hid (OwnI wr wk.heap.size (.slice la L lc) Y ∧ Y.length = L)) (fun i _ => L - (intOf i).toNat)
            case atStart => exact ⟨0, Y, Nat.zero_le _, rfl, HE14.out, HO14.out⟩
            case round =>
              obtain ⟨j, Y, hj, rfl, HXJ, HYJ⟩ := hrel
              by_cases hjl : j < L
              · obtain ⟨g, rfl⟩ := own_addr HYJ.out.1 (fun e => by have := HYJ.out.2; rw [e] at this; simp at this; omega)
                have hcell := ownI_cell HYJ.out.2 HYJ.out.1 j hjl
                have hfr := ownI_free HYJ.out.2 HYJ.out.1 j
                have HX7 : Hid (Ext wk (wr.setCell ⟨g, j, none⟩ (.int .i64 (-1)))) := HXJ.out.set (HYJ.out.1.lt g rfl).1 _
                have HY7 : Hid (OwnI (wr.setCell ⟨g, j, none⟩ (.int .i64 (-1))) wk.heap.size (.slice (some ⟨g, 0, none⟩) L lc) (Y.set j (-1)) ∧ (Y.set j (-1)).length = L) := ⟨ownI_set2 HYJ.out.2 HYJ.out.1 _, by rw [List.length_set]; exact HYJ.out.2⟩
                clear HYJ HXJ
                go_wp2_with (fail)
                go_roundw
                case rel => exact ⟨j + 1, _, by omega, by go_num, HX7.out, HY7.out⟩
                case measure => simp [intOf]; omega
              · obtain rfl : j = L := by omega
                go_wp2_with (fail)
                go_roundw
                case rel => exact ⟨k + 1, by omega, by go_num, HX.out.trans HXJ.out⟩
                case measure => simp [intOf]; omega
          · obtain rfl : k = 2 := by omega
            go_wp2_with (fail)
            go_roundw
            case rel => exact ⟨q + 1, pts', y', by omega, by go_num, HB12.out.grow (HE13.out.trans HX.out), HR12.out.grow (HE13.out.trans HX.out), HI2.out⟩
            case measure => simp [intOf]; omega
      · by_cases hk2 : K = 2
        · subst hk2
          obtain ⟨E, pts', ha, hb', hi'⟩ := bk_decl HI.out HINB.out HLN.out hn2 p r HRZ.out
          have HA := Lib.hid (ha _ _ _ _ _ _ HB9.out); have HBB := Lib.hid hb'; have HI2 := Lib.hid hi'
          have hEE : (E != E) = false := bne_self_eq_false E
          clear ha hb' hi'
          go_upto_region 25 with (first
            | (go_at_call 56; (with_reducible refine HA.out.mono ?_); rintro e w10 ⟨rfl, hx10, hb10⟩; have HB10 := Lib.hid hb10; have HR10 := Lib.hid (HR9.out.prog hx10); have z1' : ∀ W, Ext w10 W → W.cell? ⟨bo, 1, none⟩ = some (.int .i64 p) := (fun W e => e.cell (hx10.cell (z1 _ (Ext.refl _)) HNE.out)); have z2' : ∀ W, Ext w10 W → W.cell? ⟨bo, 2, none⟩ = some (.string r) := (fun W e => e.cell (hx10.cell (z2 _ (Ext.refl _)) HNE.out)); obtain ⟨y0, y1, y2, y3⟩ := obj_cells4 hb10.box; have E10 := Ext.refl w10; have HLT10 : Hid (gpB x < w10.heap.size ∧ yb < w10.heap.size) := ⟨hb10.gpB_lt HW1.out, lt_of_block hb10.box⟩; clear hx10 hb10)
            | (go_at_call 57; (with_reducible refine (HBB.out _ _ _ _ HLT10.out.1 HLT10.out.2 HR10.out).mono ?_); rintro e w11 ⟨y', rfl, he11, hr11⟩; have HR11 := Lib.hid hr11; have HB11 := Lib.hid (HB10.out.grow he11); obtain ⟨g0, g1, g2, g3⟩ := obj_cells4 HB11.out.box; have gf := obj_free HB11.out.box; have f0 := fun W (e : Ext w11 W) => gf W e 0; have f1 := fun W (e : Ext w11 W) => gf W e 1; have f2 := fun W (e : Ext w11 W) => gf W e 2; have f3 := fun W (e : Ext w11 W) => gf W e 3; have E11 := Ext.refl w11; clear gf hr11))
          generalize hwe : World.setCell (World.setCell (World.setCell (World.setCell w11 _ _) _ _) _ _) _ _ = we
          obtain ⟨-, hbl⟩ := res4 HB11.out.box (Ext.refl w11) HB11.out.ext HB11.out.hyb hwe
          have hxx : ExtX yb w11 we := by rw [← hwe]; exact ((((ExtX.refl _ w11).set 0 _).set 1 _).set 2 _).set 3 _
          have HB12 := Lib.hid (HB11.out.put hxx hbl)
          have HR12 := Lib.hid (HR11.out.boxed hxx)
          clear hwe hbl hxx g0 g1 g2 g3 f0 f1 f2 f3 E11 he11 y0 y1 y2 y3 E10 z1' z2' HA HBB HB9 HR9 HB10 HR10 HB11 HR11 HLT10
          obtain ⟨y0, y1, y2, y3⟩ := obj_cells4 HB12.out.box
          have E12 := Ext.refl we
          go_wp2_with (go_at_call 60; (with_reducible refine (HAL.out _ _ _ _ _ HB12.out.bk HR12.out.rb HI2.out.plen).mono ?_); rintro e w13 ⟨rfl, he13⟩; have HE13 := Lib.hid he13; clear he13)
          clear y0 y1 y2 y3 E12 E9 z0 z1 z2
          go_loopw [11] (fun i wr => ∃ k : Nat, k ≤ 2 ∧ i = .int .i64 k ∧ Hid (Ext w13 wr)) (fun i _ => 2 - (intOf i).toNat)
          case atStart => exact ⟨0, Nat.zero_le _, rfl, Ext.refl _⟩
          case round =>
            obtain ⟨k, hk, rfl, HX⟩ := hrel
            obtain ⟨wk, rfl⟩ : ∃ wk : World, wk = wr := ⟨_, rfl⟩
            by_cases hk2 : k < 2
            · have HOC := Lib.hid (HOPN.out wk B0 x pts' (HB12.out.bk.ext (HE13.out.trans HX.out)) HI2.out.plen)
              go_wp2_with (go_at_call 61; (with_reducible refine HOC.out.mono ?_); rintro e w14 ⟨la, L, lc, Y, rfl, he14, ho14, hY, hL⟩; have HE14 := Lib.hid he14; have HO14 : Hid (OwnI w14 wk.heap.size (.slice la L lc) Y ∧ Y.length = L) := ⟨ho14, hY⟩; clear ho14 hY he14)
              go_loopw [13] (fun i wr => ∃ (j : Nat) (Y : List Int), j ≤ L ∧ i = .int .i64 j ∧ Hid (Ext wk wr) ∧ Hid (OwnI wr wk.heap.size (.slice la L lc) Y ∧ Y.length = L)) (fun i _ => L - (intOf i).toNat)
              case atStart => exact ⟨0, Y, Nat.zero_le _, rfl, HE14.out, HO14.out⟩
              case round =>
                obtain ⟨j, Y, hj, rfl, HXJ, HYJ⟩ := hrel
                by_cases hjl : j < L
                · obtain ⟨g, rfl⟩ := own_addr HYJ.out.1 (fun e => by have := HYJ.out.2; rw [e] at this; simp at this; omega)
                  have hcell := ownI_cell HYJ.out.2 HYJ.out.1 j hjl
                  have hfr := ownI_free HYJ.out.2 HYJ.out.1 j
                  have HX7 : Hid (Ext wk (wr.setCell ⟨g, j, none⟩ (.int .i64 (-1)))) := HXJ.out.set (HYJ.out.1.lt g rfl).1 _
                  have HY7 : Hid (OwnI (wr.setCell ⟨g, j, none⟩ (.int .i64 (-1))) wk.heap.size (.slice (some ⟨g, 0, none⟩) L lc) (Y.set j (-1)) ∧ (Y.set j (-1)).length = L) := ⟨ownI_set2 HYJ.out.2 HYJ.out.1 _, by rw [List.length_set]; exact HYJ.out.2⟩
                  clear HYJ HXJ
                  go_wp2_with (fail)
                  go_roundw
                  case rel => exact ⟨j + 1, _, by omega, by go_num, HX7.out, HY7.out⟩
                  case measure => simp [intOf]; omega
                · obtain rfl : j = L := by omega
                  go_wp2_with (fail)
                  go_roundw
                  case rel => exact ⟨k + 1, by omega, by go_num, HX.out.trans HXJ.out⟩
                  case measure => simp [intOf]; omega
            · obtain rfl : k = 2 := by omega
              go_wp2_with (fail)
              go_roundw
              case rel => exact ⟨q + 1, pts', y', by omega, by go_num, HB12.out.grow (HE13.out.trans HX.out), HR12.out.grow (HE13.out.trans HX.out), HI2.out⟩
              case measure => simp [intOf]; omega
        · by_cases hk3 : K = 3
          · subst hk3
            obtain ⟨E, pts', ha, hb', hi'⟩ := bk_reop HI.out HINB.out HLN.out hn2 p
            have HA := Lib.hid (ha _ _ _ _ _ _ HB9.out); have HBB := Lib.hid hb'; have HI2 := Lib.hid hi'
            have hEE : (E != E) = false := bne_self_eq_false E
            clear ha hb' hi'
            go_upto_region 25 with (first
              | (go_at_call 58; (with_reducible refine HA.out.mono ?_); rintro e w10 ⟨rfl, hx10, hb10⟩; have HB10 := Lib.hid hb10; have HR10 := Lib.hid (HR9.out.prog hx10); have z1' : ∀ W, Ext w10 W → W.cell? ⟨bo, 1, none⟩ = some (.int .i64 p) := (fun W e => e.cell (hx10.cell (z1 _ (Ext.refl _)) HNE.out)); have z2' : ∀ W, Ext w10 W → W.cell? ⟨bo, 2, none⟩ = some (.string r) := (fun W e => e.cell (hx10.cell (z2 _ (Ext.refl _)) HNE.out)); obtain ⟨y0, y1, y2, y3⟩ := obj_cells4 hb10.box; have E10 := Ext.refl w10; have HLT10 : Hid (gpB x < w10.heap.size ∧ yb < w10.heap.size) := ⟨hb10.gpB_lt HW1.out, lt_of_block hb10.box⟩; clear hx10 hb10)
              | (go_at_call 59; (with_reducible refine (HBB.out _ _ _ _ HLT10.out.1 HLT10.out.2 HR10.out).mono ?_); rintro e w11 ⟨y', rfl, he11, hr11⟩; have HR11 := Lib.hid hr11; have HB11 := Lib.hid (HB10.out.grow he11); obtain ⟨g0, g1, g2, g3⟩ := obj_cells4 HB11.out.box; have gf := obj_free HB11.out.box; have f0 := fun W (e : Ext w11 W) => gf W e 0; have f1 := fun W (e : Ext w11 W) => gf W e 1; have f2 := fun W (e : Ext w11 W) => gf W e 2; have f3 := fun W (e : Ext w11 W) => gf W e 3; have E11 := Ext.refl w11; clear gf hr11))
            generalize hwe : World.setCell (World.setCell (World.setCell (World.setCell w11 _ _) _ _) _ _) _ _ = we
            obtain ⟨-, hbl⟩ := res4 HB11.out.box (Ext.refl w11) HB11.out.ext HB11.out.hyb hwe
            have hxx : ExtX yb w11 we := by rw [← hwe]; exact ((((ExtX.refl _ w11).set 0 _).set 1 _).set 2 _).set 3 _
            have HB12 := Lib.hid (HB11.out.put hxx hbl)
            have HR12 := Lib.hid (HR11.out.boxed hxx)
            clear hwe hbl hxx g0 g1 g2 g3 f0 f1 f2 f3 E11 he11 y0 y1 y2 y3 E10 z1' z2' HA HBB HB9 HR9 HB10 HR10 HB11 HR11 HLT10
            obtain ⟨y0, y1, y2, y3⟩ := obj_cells4 HB12.out.box
            have E12 := Ext.refl we
            go_wp2_with (go_at_call 60; (with_reducible refine (HAL.out _ _ _ _ _ HB12.out.bk HR12.out.rb HI2.out.plen).mono ?_); rintro e w13 ⟨rfl, he13⟩; have HE13 := Lib.hid he13; clear he13)
            clear y0 y1 y2 y3 E12 E9 z0 z1 z2
            go_loopw [11] (fun i wr => ∃ k : Nat, k ≤ 2 ∧ i = .int .i64 k ∧ Hid (Ext w13 wr)) (fun i _ => 2 - (intOf i).toNat)
            case atStart => exact ⟨0, Nat.zero_le _, rfl, Ext.refl _⟩
            case round =>
              obtain ⟨k, hk, rfl, HX⟩ := hrel
              obtain ⟨wk, rfl⟩ : ∃ wk : World, wk = wr := ⟨_, rfl⟩
              by_cases hk2 : k < 2
              · have HOC := Lib.hid (HOPN.out wk B0 x pts' (HB12.out.bk.ext (HE13.out.trans HX.out)) HI2.out.plen)
                go_wp2_with (go_at_call 61; (with_reducible refine HOC.out.mono ?_); rintro e w14 ⟨la, L, lc, Y, rfl, he14, ho14, hY, hL⟩; have HE14 := Lib.hid he14; have HO14 : Hid (OwnI w14 wk.heap.size (.slice la L lc) Y ∧ Y.length = L) := ⟨ho14, hY⟩; clear ho14 hY he14)
                go_loopw [13] (fun i wr => ∃ (j : Nat) (Y : List Int), j ≤ L ∧ i = .int .i64 j ∧ Hid (Ext wk wr) ∧ Hid (OwnI wr wk.heap.size (.slice la L lc) Y ∧ Y.length = L)) (fun i _ => L - (intOf i).toNat)
                case atStart => exact ⟨0, Y, Nat.zero_le _, rfl, HE14.out, HO14.out⟩
                case round =>
                  obtain ⟨j, Y, hj, rfl, HXJ, HYJ⟩ := hrel
                  by_cases hjl : j < L
                  · obtain ⟨g, rfl⟩ := own_addr HYJ.out.1 (fun e => by have := HYJ.out.2; rw [e] at this; simp at this; omega)
                    have hcell := ownI_cell HYJ.out.2 HYJ.out.1 j hjl
                    have hfr := ownI_free HYJ.out.2 HYJ.out.1 j
                    have HX7 : Hid (Ext wk (wr.setCell ⟨g, j, none⟩ (.int .i64 (-1)))) := HXJ.out.set (HYJ.out.1.lt g rfl).1 _
                    have HY7 : Hid (OwnI (wr.setCell ⟨g, j, none⟩ (.int .i64 (-1))) wk.heap.size (.slice (some ⟨g, 0, none⟩) L lc) (Y.set j (-1)) ∧ (Y.set j (-1)).length = L) := ⟨ownI_set2 HYJ.out.2 HYJ.out.1 _, by rw [List.length_set]; exact HYJ.out.2⟩
                    clear HYJ HXJ
                    go_wp2_with (fail)
                    go_roundw
                    case rel => exact ⟨j + 1, _, by omega, by go_num, HX7.out, HY7.out⟩
                    case measure => simp [intOf]; omega
                  · obtain rfl : j = L := by omega
                    go_wp2_with (fail)
                    go_roundw
                    case rel => exact ⟨k + 1, by omega, by go_num, HX.out.trans HXJ.out⟩
                    case measure => simp [intOf]; omega
              · obtain rfl : k = 2 := by omega
                go_wp2_with (fail)
                go_roundw
                case rel => exact ⟨q + 1, pts', y', by omega, by go_num, HB12.out.grow (HE13.out.trans HX.out), HR12.out.grow (HE13.out.trans HX.out), HI2.out⟩
                case measure => simp [intOf]; omega
          · skip
            have hk1b : (K == 1) = false := by simpa using hk1
            have hk2b : (K == 2) = false := by simpa using hk2
            have hk3b : (K == 3) = false := by simpa using hk3
            obtain ⟨we, rfl⟩ : ∃ we : World, we = w9 := ⟨_, rfl⟩
            have HB12 := HB9
            have HR12 := HR9
            have HI2 := HI
            go_upto_region 25 with fail
            clear HB9 HR9
            obtain ⟨y0, y1, y2, y3⟩ := obj_cells4 HB12.out.box
            have E12 := Ext.refl we
            go_wp2_with (go_at_call 60; (with_reducible refine (HAL.out _ _ _ _ _ HB12.out.bk HR12.out.rb HI2.out.plen).mono ?_); rintro e w13 ⟨rfl, he13⟩; have HE13 := Lib.hid he13; clear he13)
            clear y0 y1 y2 y3 E12 E9 z0 z1 z2
            go_loopw [11] (fun i wr => ∃ k : Nat, k ≤ 2 ∧ i = .int .i64 k ∧ Hid (Ext w13 wr)) (fun i _ => 2 - (intOf i).toNat)
            case atStart => exact ⟨0, Nat.zero_le _, rfl, Ext.refl _⟩
            case round =>
              obtain ⟨k, hk, rfl, HX⟩ := hrel
              obtain ⟨wk, rfl⟩ : ∃ wk : World, wk = wr := ⟨_, rfl⟩
              by_cases hk2 : k < 2
              · have HOC := Lib.hid (HOPN.out wk B0 x pts (HB12.out.bk.ext (HE13.out.trans HX.out)) HI2.out.plen)
                go_wp2_with (go_at_call 61; (with_reducible refine HOC.out.mono ?_); rintro e w14 ⟨la, L, lc, Y, rfl, he14, ho14, hY, hL⟩; have HE14 := Lib.hid he14; have HO14 : Hid (OwnI w14 wk.heap.size (.slice la L lc) Y ∧ Y.length = L) := ⟨ho14, hY⟩; clear ho14 hY he14)
                go_loopw [13] (fun i wr => ∃ (j : Nat) (Y : List Int), j ≤ L ∧ i = .int .i64 j ∧ Hid (Ext wk wr) ∧ Hid (OwnI wr wk.heap.size (.slice la L lc) Y ∧ Y.length = L)) (fun i _ => L - (intOf i).toNat)
                case atStart => exact ⟨0, Y, Nat.zero_le _, rfl, HE14.out, HO14.out⟩
                case round =>
                  obtain ⟨j, Y, hj, rfl, HXJ, HYJ⟩ := hrel
                  by_cases hjl : j < L
                  · obtain ⟨g, rfl⟩ := own_addr HYJ.out.1 (fun e => by have := HYJ.out.2; rw [e] at this; simp at this; omega)
                    have hcell := ownI_cell HYJ.out.2 HYJ.out.1 j hjl
                    have hfr := ownI_free HYJ.out.2 HYJ.out.1 j
                    have HX7 : Hid (Ext wk (wr.setCell ⟨g, j, none⟩ (.int .i64 (-1)))) := HXJ.out.set (HYJ.out.1.lt g rfl).1 _
                    have HY7 : Hid (OwnI (wr.setCell ⟨g, j, none⟩ (.int .i64 (-1))) wk.heap.size (.slice (some ⟨g, 0, none⟩) L lc) (Y.set j (-1)) ∧ (Y.set j (-1)).length = L) := ⟨ownI_set2 HYJ.out.2 HYJ.out.1 _, by rw [List.length_set]; exact HYJ.out.2⟩
                    clear HYJ HXJ
                    go_wp2_with (fail)
                    go_roundw
                    case rel => exact ⟨j + 1, _, by omega, by go_num, HX7.out, HY7.out⟩
                    case measure => simp [intOf]; omega
                  · obtain rfl : j = L := by omega
                    go_wp2_with (fail)
                    go_roundw
                    case rel => exact ⟨k + 1, by omega, by go_num, HX.out.trans HXJ.out⟩
                    case measure => simp [intOf]; omega
              · obtain rfl : k = 2 := by omega
                go_wp2_with (fail)
                go_roundw
                case rel => exact ⟨q + 1, pts, z, by omega, by go_num, HB12.out.grow (HE13.out.trans HX.out), HR12.out.grow (HE13.out.trans HX.out), HI2.out⟩
                case measure => simp [intOf]; omega
    · obtain rfl : q = m := by omega
      obtain ⟨y0, y1, y2, y3⟩ := obj_cells4 HB.out.box
      go_wp2_with (first
        | (go_at_call 60; (with_reducible refine (HAL.out _ _ _ _ _ HB.out.bk HR.out.rb HI.out.plen).mono ?_); rintro e w13 ⟨rfl, he13⟩)
        | (go_at_call 17; (with_reducible refine (known_any _).mono ?_); rintro e w14 ⟨rfl, he14⟩))
      go_ret
      exact ⟨rfl, (HE.out.trans HB.out.ext).trans (he13.trans he14)⟩
theorem books_any (P : Pw) (a : Option Addr) (ss : List Se) (sc : Nat) (sd : Int) (oa : Option Addr) (os : List Op) (oc : Nat) (w : World) (hp : PlanAt w P) (hgl : ∀ i, i < P.fo.length → (gth P.fo i).xs.length ≤ 9223372036854775807) (hs : SetsAt w a ss) (hn : ss.length ≤ 9223372036854775807) (hl : ∀ i, i < ss.length → (eth ss i).lv.xs.length ≤ 9223372036854775807)
    (hsd : 0 ≤ sd ∧ sd < 18446744073709551616) (ho : RowAt 3 opC w oa os) (hor : ∀ o ∈ os, o.rs.size ≤ maxLen) :
    Calls Tryz.prog 11 #[logV P a ss.length sc sd oa os.length oc] w (Ret (.bool true) w) := by
  cases h : (wideP P.fs P.fo || wideS ss || decide (40 < os.length))
  · have h2 := h
    simp only [Bool.or_eq_false_iff, decide_eq_false_iff_not] at h2
    by_cases h0 : checkE P ss = 0
    · exact bk_main P a ss sc sd oa os oc w hp hs hl h h0 hsd ho hor (by omega)
    · exact bk_err P a ss sc sd oa os.length oc w hp hs hn hl h h0
  · exact bk_wide P a ss sc sd oa os.length oc w hp hgl hs hl h
end Go.Proofs.YtplbofhgmflnlaaGreat
