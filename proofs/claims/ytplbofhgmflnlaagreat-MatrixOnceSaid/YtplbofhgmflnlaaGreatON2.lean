/-
  Walk: the law MatrixOnce.
-/
import Derived.Test.YtplbofhgmflnlaaGreatON1
import Derived.Test.YtplbofhgmflnlaaGreatOC2
set_option linter.unusedVariables false
set_option linter.unusedSimpArgs false
namespace Go.Proofs.YtplbofhgmflnlaaGreat
open Go.RowKit Go.Maps
set_option maxRecDepth 100000 in
set_option maxHeartbeats 4000000 in
theorem on_wide (P : Pw) (a : Option Addr) (ss : List Se) (sc : Nat) (sd : Int) (oa : Option Addr) (m oc : Nat) (w : World) (hp : PlanAt w P) (hgl : ∀ i, i < P.fo.length → (gth P.fo i).xs.length ≤ 9223372036854775807) (hs : SetsAt w a ss) (hl : ∀ i, i < ss.length → (eth ss i).lv.xs.length ≤ 9223372036854775807)
    (h : (wideP P.fs P.fo || wideS ss || decide (40 < m)) = true) :
    Calls Tryz.prog 13 #[logV P a ss.length sc sd oa m oc] w (Ret (.bool true) w) := by
  have hwl := fun W (e : Ext w W) => wideLog_any P a ss sc sd oa m oc W (hp.ext e) hgl (hs.ext e) hl
  rw [h] at hwl
  obtain ⟨fs, fa, fc, fo, ga, gc⟩ := P
  have HWL := Lib.hid hwl
  obtain ⟨n, hn⟩ : ∃ n, n = ss.length := ⟨_, rfl⟩
  rw [← hn] at HWL ⊢
  clear hwl hp hs hgl hl hn h
  go_enter Tryz.func13, Tryz.ntmps13
  go_wp2_with (fail)
  generalize hw1 : World.alloc _ _ = w1
  obtain ⟨he, o1, -⟩ := alloc1 hw1
  obtain ⟨b0, b1, b2, b3, b4⟩ := obj_cells5 o1
  have E1 := Ext.refl w1
  have HE := Lib.hid he
  clear hw1 o1 he
  go_wp2_with (first
    | (go_at_call 51; (with_reducible refine (HWL.out _ HE.out).mono ?_); rintro e w2 ⟨rfl, he2⟩)
    | (go_at_call 17; (with_reducible refine (known_any _).mono ?_); rintro e w3 ⟨rfl, he3⟩))
  go_ret
  exact ⟨rfl, HE.out.trans (he2.trans he3)⟩
set_option maxRecDepth 100000 in
set_option maxHeartbeats 4000000 in
theorem on_err (P : Pw) (a : Option Addr) (ss : List Se) (sc : Nat) (sd : Int) (oa : Option Addr) (m oc : Nat) (w : World) (hp : PlanAt w P) (hb : PlanB P) (hs : SetsAt w a ss) (hn : ss.length ≤ 9223372036854775807) (hl : ∀ i, i < ss.length → (eth ss i).lv.xs.length ≤ 9223372036854775807)
    (h : (wideP P.fs P.fo || wideS ss || decide (40 < m)) = false) (h0 : checkE P ss ≠ 0) :
    Calls Tryz.prog 13 #[logV P a ss.length sc sd oa m oc] w (Ret (.bool true) w) := by
  have hwl := fun W (e : Ext w W) => wideLog_any P a ss sc sd oa m oc W (hp.ext e) (fun i hi => by have := hb.pl i hi; omega) (hs.ext e) hl
  have hbk := fun W (e : Ext w W) => newBook_no P a ss sc sd W (hp.ext e) hb (hs.ext e) hn hl _ rfl h0
  rw [h] at hwl
  obtain ⟨q, hq⟩ : ∃ q, q = checkE P ss := ⟨_, rfl⟩
  rw [← hq] at hbk h0
  obtain ⟨fs, fa, fc, fo, ga, gc⟩ := P
  have HWL := Lib.hid hwl; have HBK := Lib.hid hbk
  obtain ⟨n, hn⟩ : ∃ n, n = ss.length := ⟨_, rfl⟩
  rw [← hn] at HWL HBK ⊢
  have hq0 : (q != 0) = true := by simpa using h0
  clear hwl hbk hp hs hb hl hn h hq h0
  go_enter Tryz.func13, Tryz.ntmps13
  go_wp2_with (fail)
  generalize hw1 : World.alloc _ _ = w1
  obtain ⟨he, o1, -⟩ := alloc1 hw1
  obtain ⟨b0, b1, b2, b3, b4⟩ := obj_cells5 o1
  have E1 := Ext.refl w1
  have HE := Lib.hid he
  clear hw1 o1 he
  go_wp2_with (first
    | (go_at_call 51; (with_reducible refine (HWL.out _ HE.out).mono ?_); rintro e w2 ⟨rfl, he2⟩)
    | (go_at_call 52; (with_reducible refine (HBK.out _ (HE.out.trans he2)).mono ?_); rintro e w3 ⟨rfl, he3⟩)
    | (go_at_call 17; (with_reducible refine (known_any _).mono ?_); rintro e w4 ⟨rfl, he4⟩))
  go_ret
  exact ⟨rfl, HE.out.trans (he2.trans (he3.trans he4))⟩
def opC (o : Op) : List Value := [.int .i64 o.kind, .int .i64 o.pt, .string o.rs]
theorem opC_len (o : Op) : (opC o).length = 3 := rfl
def oth (os : List Op) (i : Nat) : Op := os.getD i ⟨0, 0, ⟨#[]⟩⟩
theorem op_at {w : World} {a : Option Addr} {os : List Op} (h : RowAt 3 opC w a os) (i : Nat) (hi : i < os.length) : ∃ b o, a = some ⟨b, o, none⟩ ∧
    (∀ W, Ext w W → W.cell? ⟨b, o + i * 3, none⟩ = some (.int .i64 (oth os i).kind)) ∧ (∀ W, Ext w W → W.cell? ⟨b, o + i * 3 + 1, none⟩ = some (.int .i64 (oth os i).pt)) ∧ (∀ W, Ext w W → W.cell? ⟨b, o + i * 3 + 2, none⟩ = some (.string (oth os i).rs)) := by
  obtain ⟨b, o, h1, h2⟩ := RowAt.at opC_len h i hi
  have e : oth os i = os[i] := by simp [oth, hi]
  rw [← e] at h2
  exact ⟨b, o, h1, fun W e => by have := h2 0 (by omega) W e; simpa [opC] using this, fun W e => by have := h2 1 (by omega) W e; simpa [opC] using this, fun W e => by have := h2 2 (by omega) W e; simpa [opC] using this⟩
set_option maxRecDepth 100000 in
set_option maxHeartbeats 16000000 in
theorem on_main (P : Pw) (a : Option Addr) (ss : List Se) (sc : Nat) (sd : Int) (oa : Option Addr) (os : List Op) (oc : Nat) (w : World) (hp : PlanAt w P) (hb : PlanB P) (hs : SetsAt w a ss) (hl : ∀ i, i < ss.length → (eth ss i).lv.xs.length ≤ 9223372036854775807)
    (h : (wideP P.fs P.fo || wideS ss || decide (40 < os.length)) = false) (h0 : checkE P ss = 0) (hsd : 0 ≤ sd ∧ sd < 18446744073709551616) (ho : RowAt 3 opC w oa os) (hor : ∀ o ∈ os, o.rs.size ≤ maxLen) (hom : os.length ≤ 40) :
    Calls Tryz.prog 13 #[logV P a ss.length sc sd oa os.length oc] w (Ret (.bool true) w) := by
  obtain ⟨c1, c2, c3⟩ := checkE_ok h0
  have hwl := fun W (e : Ext w W) => wideLog_any P a ss sc sd oa os.length oc W (hp.ext e) (fun i hi => by have := hb.pl i hi; omega) (hs.ext e) hl
  rw [h] at hwl
  obtain ⟨ord, hord⟩ : ∃ ord, ord = ordS P ss sd := ⟨_, rfl⟩
  have hperm : ord.Perm (rngI ss.length) := by rw [hord]; exact ordL_perm (by omega)
  obtain ⟨pl, hst⟩ := once_start hperm
  obtain ⟨pts0, hpts⟩ : ∃ pts0, pts0 = ptsTo ss ord ss.length := ⟨_, rfl⟩
  rw [← hpts] at hst
  obtain ⟨n, hnn⟩ : ∃ n, n = ss.length := ⟨_, rfl⟩
  rw [← hnn] at hst hperm
  have hlen : ord.length = n := by rw [hperm.length_eq, rngI_len]
  have HBK : Hid (∀ W, Ext w W → Calls Tryz.prog 52 #[planV P, .slice a n sc, .int .u64 sd] W (fun e w' => ∃ x, e = .returned (.tuple #[bkV x, .int .i64 0]) ∧ Ext W w' ∧ BkAt w' W.heap.size x pts0 ord)) := fun W e => by
    have := newBook_ok P a ss sc sd W (hp.ext e) hb (hs.ext e) hl h0 hsd
    rw [← hnn] at this
    refine this.mono ?_
    rintro e w' ⟨gb, V2, V6, rfl, he, hr⟩
    rw [show newPts P ss sd = pts0 by rw [hpts, hord]; rfl, ← hord] at hr
    obtain ⟨pa, pc, h2⟩ := slice_row (RowsAt.own hr (rwP V2 pts0) (by simp))
    obtain ⟨oa, oc, h6⟩ := slice_row (RowsAt.own hr (rwI V6 ord) (by simp))
    simp only at h2 h6
    subst h2 h6
    exact ⟨⟨gb, pa, pc, oa, oc⟩, rfl, he, hr⟩
  have hinb : InB n ord := fun y hy => rngI_mem.1 (hperm.mem_iff.1 hy)
  have hz0 : ∀ k, k < n → (qth pts0 k).st = 0 := fun k hk => by
    rcases hst.st k hk with h | h | h
    · exact h
    · have := hst.runs k hk
      rw [h, nth_fl _ _ _ (by omega)] at this; simp at this
    · have h1 := hst.runs k hk
      have := (hst.rs k hk)
      exfalso
      have e := ptsTo_at (ss := ss) (ord := ord) (by rw [← hnn]; exact hperm) ss.length (Nat.le_refl _) (pl k) (by rw [← hnn, ← hlen]; exact hst.pln k hk)
      rw [hst.ordp k hk, Int.toNat_natCast, ← hpts] at e
      rw [e] at h; simp at h
  have HOP0 : Hid (∀ W B x, BkAt W B x pts0 ord → Calls Tryz.prog 61 #[bkV x] W (fun e w' => ∃ a c, e = .returned (.slice a n c) ∧ Ext W w' ∧ OwnI w' W.heap.size (.slice a n c) ord)) := fun W B x hb => by
    have := Open_any B x pts0 ord W hb (by rw [hst.plen]; exact hinb) (by omega)
    unfold RetI at this
    rw [openL_start hst hz0 hinb, hlen] at this
    exact this
  have HIX : Hid (∀ k, k < n → ∃ p : Nat, p < n ∧ nth ord k = (p : Int)) := fun k hk => by
    have : nth ord k ∈ ord := by rw [nth_eq _ _ (by rw [hlen]; exact hk)]; exact List.getElem_mem _
    exact hinb _ this
  have HMK := Lib.hid (run_madeI n (by omega))
  have HPM := Lib.hid hperm
  have hn2 : n ≤ 2000 := by omega
  obtain ⟨m, hm⟩ : ∃ m, m = os.length := ⟨_, rfl⟩
  have HM := Lib.hid hm
  have HLN := Lib.hid hlen; have HST := Lib.hid hst; have HS := Lib.hid hs; have HNN := Lib.hid hnn
  have HO := Lib.hid ho; have HOR := Lib.hid hor; have HINB := Lib.hid hinb
  have HBB : Hid (∀ k, k < n → wf64 (eth ss k).blk) := fun k hk => by
    have := setOk (c3 k (by omega))
    exact ⟨by omega, by omega⟩
  obtain ⟨fs, fa, fc, fo, ga, gc⟩ := P
  rw [← hnn, ← hm] at hwl
  have HWL := Lib.hid hwl
  rw [← hnn, ← hm]
  rw [← hm] at hom
  have hz0n : (0 : Int) ≤ (n : Int) := by omega
  clear hwl hp hb hs hl h h0 hsd ho hor hord hperm hst hpts hnn hlen hinb hz0 c1 c2 c3 hm
  go_enter Tryz.func13, Tryz.ntmps13
  go_wp2_with (fail)
  generalize hw1 : World.alloc _ _ = w1
  obtain ⟨he, o1, -⟩ := alloc1 hw1
  obtain ⟨b0, b1, b2, b3, b4⟩ := obj_cells5 o1
  have E1 := Ext.refl w1
  have HE := Lib.hid he
  have HW1 : Hid (0 < w1.heap.size) := by
    have := lt_of_block o1; rw [Hid]; omega
  clear hw1 o1 he
  have hmk := HMK.out
  go_wp2_with (first
    | (go_at_call 51; (with_reducible refine (HWL.out _ HE.out).mono ?_); rintro e w2 ⟨rfl, he2⟩)
    | (go_at_call 52; (with_reducible refine (HBK.out _ (HE.out.trans he2)).mono ?_); rintro e w3 ⟨x, rfl, he3, hx3⟩; have HX3 := Lib.hid hx3; have HB12 : Hid (w1.heap.size ≤ w2.heap.size ∧ w2.heap.size ≤ w3.heap.size) := ⟨he2.size, he3.size⟩; have he13 : Ext w1 w3 := he2.trans he3; clear hx3)
    | (go_at_call 61; (with_reducible refine (HOP0.out _ _ _ HX3.out).mono ?_); rintro e w4 ⟨aa, ac, rfl, he4, ho4⟩; have HO4 := Lib.hid ho4; have he14 : Ext w1 w4 := he13.trans he4; clear ho4))
  obtain ⟨gy, hgy⟩ : ∃ gy, gy = w4.heap.size := ⟨_, rfl⟩
  generalize hw5 : madeI w4 n = w5
  obtain ⟨he5, ho5, hs5⟩ := madeI_facts (by omega) hw5
  rw [← hgy] at ho5 hs5 ⊢
  have HGY := Lib.hid hgy
  have HX5 : Hid (Ext w4 w5) := he5
  have HO5 := Lib.hid ho5
  have HE14 := Lib.hid he14
  have HE34 := Lib.hid he4
  have HI4 : Hid (Ints w4 aa ord) := HO4.out.ints.1
  have HE3 : Hid (Ext w w3) := HE.out.trans he13
  clear hw5 he5 ho5 hs5 hgy hmk HWL HBK HOP0 he2 he13 he14 he3 he4
  go_loopw [7] (fun i wr => ∃ (k : Nat) (Y : List Int), k ≤ n ∧ i = .int .i64 k ∧ Hid (Ext w4 wr) ∧ Hid (OwnI wr gy (.slice (some ⟨gy, 0, none⟩) n n) Y ∧ Y.length = n ∧ ∀ j, j < k → nth Y (nth ord j).toNat = (j : Int))) (fun i _ => n - (intOf i).toNat)
  case atStart => exact ⟨0, _, Nat.zero_le _, rfl, HX5.out, HO5.out, fl_len _ _, fun j hj => by omega⟩
  case round =>
    obtain ⟨k, Y, hk, rfl, HX, HY⟩ := hrel
    by_cases hlt : k < n
    · obtain ⟨p, hp, hpe⟩ := HIX.out k hlt
      obtain ⟨ab, ao, rfl, e1⟩ := (HI4.out.ext HX.out).at k (by rw [HLN.out]; exact hlt)
      rw [hpe] at e1
      have hcell := ownI_cell HY.out.2.1 HY.out.1 p hp
      have hfr := ownI_free HY.out.2.1 HY.out.1 p
      have hp0 : (0 : Int) ≤ (p : Int) := by omega
      have hpn : (p : Int) < (n : Int) := by omega
      have HX2 : Hid (Ext w4 (wr.setCell ⟨gy, p, none⟩ (.int .i64 (k : Int)))) := HX.out.set (by rw [HGY.out]; exact Nat.le_refl _) _
      have HY2 : Hid (OwnI (wr.setCell ⟨gy, p, none⟩ (.int .i64 (k : Int))) gy (.slice (some ⟨gy, 0, none⟩) n n) (Y.set p (k : Int)) ∧ (Y.set p (k : Int)).length = n ∧ ∀ j, j < k + 1 → nth (Y.set p (k : Int)) (nth ord j).toNat = (j : Int)) := by
        refine ⟨ownI_set2 HY.out.2.1 HY.out.1 _, by rw [List.length_set]; exact HY.out.2.1, fun j hj => ?_⟩
        obtain ⟨q, hq, hqe⟩ := HIX.out j (by omega)
        rw [hqe, Int.toNat_natCast, nth_set _ _ _ _ (by rw [HY.out.2.1]; exact hq)]
        by_cases hjk : j = k
        · subst hjk
          rw [if_pos (by omega)]
        · rw [if_neg, ← Int.toNat_natCast q, ← hqe]
          · exact HY.out.2.2 j (by omega)
          · intro hqp
            have h1 := HST.out.pln
            have hnd : ord.Nodup := by
              have hp := HPM.out
              exact hp.nodup_iff.2 rngI_nodup
            rw [hqp, ← hpe, nth_eq _ _ (by rw [HLN.out]; omega), nth_eq _ _ (by rw [HLN.out]; omega)] at hqe
            exact hjk ((List.getElem_inj hnd).1 hqe)
      have Er := Ext.refl wr
      clear hpe HY HX
      go_wp2_with (fail)
      go_roundw
      case rel => exact ⟨k + 1, _, by omega, by go_num, HX2.out, HY2.out⟩
      case measure => simp [intOf]; omega
    · obtain rfl : n = k := by omega
      have HYP : Hid (∀ p, p < n → nth Y p = (pl p : Int)) := fun p hp => by
        have h1 := HST.out.pln p hp
        rw [HLN.out] at h1
        have := HY.out.2.2 (pl p) h1
        rw [HST.out.ordp p hp, Int.toNat_natCast] at this
        exact this
      have HYL := Lib.hid HY.out.2.1
      have hmk := HMK.out
      have hmm := @run_makeMap Tryz.prog
      go_wp2_with (fail)
      obtain ⟨gr, hgr⟩ : ∃ gr, gr = wr.heap.size := ⟨_, rfl⟩
      generalize hw6 : madeI wr n = w6
      obtain ⟨he6, ho6, hs6⟩ := madeI_facts (by omega) hw6
      obtain ⟨bm, hbm⟩ : ∃ bm, bm = w6.heap.size := ⟨_, rfl⟩
      rw [← hgr] at ho6 ⊢
      rw [← hbm]
      generalize hw7 : World.alloc w6 _ = w7
      have he7 : Ext w6 w7 := by rw [← hw7]; exact (Ext.refl _).alloc _
      obtain ⟨B, hB⟩ : ∃ B, B = w2.heap.size := ⟨_, rfl⟩
      have HOS : Hid (OnSt w1 w7 B bm x pts0 ord (.slice aa n ac) (.slice (some ⟨gy, 0, none⟩) n n) (.slice (some ⟨gr, 0, none⟩) n n) Y (fl n fun _ => 0) []) := by
        obtain ⟨hs1, hs2⟩ := HB12.out
        have hx3 := HX3.out
        rw [← hB] at hx3 hs1 hs2
        have h34 := HE34.out
        have r1 : RowsAt w4 B (rwI (.slice aa n ac) ord :: bkL x pts0 ord) := RowsAt.push hx3 (own_down HO4.out hs2) (fun k hk => Below.block h34 k hk) (fun k hk => (HO4.out.lt k hk).1)
        have r2 : RowsAt wr B (rwI (.slice (some ⟨gy, 0, none⟩) n n) Y :: rwI (.slice aa n ac) ord :: bkL x pts0 ord) := RowsAt.push r1 (own_down HY.out.1 (by rw [HGY.out]; have := h34.size; omega)) (fun k hk => Below.block HX.out k hk) (fun k hk => by have := (HY.out.1.lt k hk).1; rw [HGY.out] at this; exact this)
        have h47 := HX.out.size
        have r3 : RowsAt w7 B (onL x pts0 ord (.slice aa n ac) (.slice (some ⟨gy, 0, none⟩) n n) (.slice (some ⟨gr, 0, none⟩) n n) Y (fl n fun _ => 0)) := RowsAt.push r2 (own_down (ho6.ext he7) (by rw [hgr]; have := h34.size; omega)) (fun k hk => Below.block (he6.trans he7) k hk) (fun k hk => by have := (ho6.lt k hk).1; rw [hgr] at this; exact this)
        refine ⟨(HE14.out.trans HX.out).trans (he6.trans he7), hs1, ?_, r3, ?_⟩
        · rw [hbm]; have := h34.size; have := he6.size; omega
        · rw [← hw7, hbm]; exact MapAt.made 3 w6
      clear hmk hmm HMK HX HY HX3 HO4 HI4 HX5 HO5 HE34 HB12 HGY hgr hw6 he6 ho6 hs6 hbm hw7 he7 hB hlt hk HPM
      go_loopw [10] (fun i wr => ∃ (q : Nat) (pts : List Pt) (R : List Int) (last : List (Int × Int)), q ≤ m ∧ i = .int .i64 q ∧ Hid (OnSt w1 wr B bm x pts ord (.slice aa n ac) (.slice (some ⟨gy, 0, none⟩) n n) (.slice (some ⟨gr, 0, none⟩) n n) Y R last) ∧ Hid (OnceI n ord pl (fun k => (eth ss k).blk) pts R last) ∧ Hid (last.length ≤ q)) (fun i _ => m - (intOf i).toNat)
      case atStart => exact ⟨0, pts0, _, [], Nat.zero_le _, rfl, HOS.out, HST.out, Nat.le_refl _⟩
      case round =>
        obtain ⟨q, pts, R, last, hq, rfl, HOQ, HIQ, HLQ⟩ := hrel
        obtain ⟨wo, rfl⟩ : ∃ wo : World, wo = wr := ⟨_, rfl⟩
        by_cases hlt : q < m
        · have hEW : Ext w wo := HE.out.trans HOQ.out.ext
          obtain ⟨ob, oo, rfl, c0, c1, c2⟩ := op_at (HO.out.ext opC_len hEW) q (by rw [← HM.out]; exact hlt)
          have HRS : Hid ((oth os q).rs.size ≤ maxLen) := HOR.out _ (by
            have hq' : q < os.length := by rw [← HM.out]; exact hlt
            have e : oth os q = os[q] := by simp [oth, hq']
            rw [e]; exact List.getElem_mem _)
          generalize oth os q = op at *
          obtain ⟨K, p, r⟩ := op
          simp only at c0 c1 c2 HRS
          have q0 := fun W (e : Ext wo W) => b0 W (HOQ.out.ext.trans e)
          have q1 := fun W (e : Ext wo W) => b1 W (HOQ.out.ext.trans e)
          have q2 := fun W (e : Ext wo W) => b2 W (HOQ.out.ext.trans e)
          have q3 := fun W (e : Ext wo W) => b3 W (HOQ.out.ext.trans e)
          have q4 := fun W (e : Ext wo W) => b4 W (HOQ.out.ext.trans e)
          have Eo := Ext.refl wo
          clear hEW
          go_upto_region 19 with fail
          generalize hw3 : World.alloc wo _ = w9
          obtain ⟨he9, o9, hs9⟩ := alloc1 hw3
          obtain ⟨z0, z1, z2⟩ := obj_cells3 o9
          obtain ⟨bo, hbo⟩ : ∃ bo, bo = wo.heap.size := ⟨_, rfl⟩
          rw [← hbo] at z0 z1 z2 ⊢
          have HO9 : Hid (OnSt w1 w9 B bm x pts ord (.slice aa n ac) (.slice (some ⟨gy, 0, none⟩) n n) (.slice (some ⟨gr, 0, none⟩) n n) Y R last) := HOQ.out.grow he9
          have HOPN := Lib.hid (on_open HO9.out HINB.out HIQ.out.plen (by rw [HLN.out]; omega))
          have E9 := Ext.refl w9
          have HG9 : Hid (gpB x < w9.heap.size) := HO9.out.gpB_lt HW1.out
          have HSM : Hid (∀ W a b c d, Ints W a (openL pts ord) → Ints W b (openL pts ord) → Calls Tryz.prog 25 #[.slice a (openL pts ord).length c, .slice b (openL pts ord).length d] W (Ret (.bool true) W)) := fun W a b c d h1 h2 => by
            have hle : (openL pts ord).length ≤ 1000000 := Nat.le_trans (List.length_filter_le _ _) (by rw [HLN.out]; omega)
            have := same_any (openL pts ord) (openL pts ord) a b _ _ c d W h1 h2 rfl rfl hle hle
            rwa [show sameB (openL pts ord) (openL pts ord) = true by simp [sameB]] at this
          have HGO : Hid (gpB x < wo.heap.size ∧ gr < wo.heap.size) := ⟨HOQ.out.gpB_lt HW1.out, (HOQ.out.or.lt gr rfl).2⟩
          have HBO := Lib.hid hbo
          clear hw3 o9 hs9 c0 c1 c2 q0 q1 q2 q3 q4 Eo hbo HOQ he9
          by_cases hk1 : K = 1
          · subst hk1
            obtain ⟨E, pts', hcall, hno, hyes⟩ := on_take HO9.out HIQ.out HINB.out (by rw [HLN.out]; omega) p
            have HCL := Lib.hid hcall; have HNO := Lib.hid hno; have HYES := Lib.hid hyes
            clear hcall hno hyes
            by_cases hE : E = 0
            · subst hE
              obtain ⟨k, hk, rfl, ht0, rfl⟩ := HYES.out rfl
              obtain ⟨sb, so, rfl, d0, d1⟩ := set_at (HS.out.ext (HE.out.trans HO9.out.ext)).row k (by rw [← HNN.out]; exact hk)
              have HRUN := Lib.hid (HIQ.out.take_runs hk ht0)
              have HYK := Lib.hid (HYP.out k hk)
              have HBK := Lib.hid (HIQ.out.blk k hk)
              have HLST := Lib.hid (fun v => HIQ.out.take_last (v := v) hk ht0)
              have HTO := Lib.hid (fun last' => HIQ.out.take_ok hk ht0 last')
              have hwf := HBB.out k hk
              have hk0 : (0 : Int) ≤ (k : Int) := by omega
              have hkn : (k : Int) < (n : Int) := by omega
              obtain ⟨pk, hpk⟩ : ∃ pk : Int, pk = (pl k : Int) := ⟨_, rfl⟩
              have HBK : Hid ((qth pts k).blk = (eth ss k).blk) := HBK
              obtain ⟨bk, hbk⟩ : ∃ bk, bk = (eth ss k).blk := ⟨_, rfl⟩
              rw [← hbk] at d1 hwf HBK
              rw [HBK.out] at HLST HTO
              rw [← hpk] at HYK HLST HTO
              have HBE := Lib.hid hbk
              clear hbk hpk d0 d1
              go_upto_region 26 with (first
                | (go_at_call 61; (with_reducible refine (HOPN.out _ (Ext.refl _)).mono ?_); rintro e w10 ⟨ba, bc, rfl, he10, hb10⟩; have HE10 := Lib.hid he10; have z1' := fun W (e : Ext w10 W) => z1 W (he10.trans e); have E10 := Ext.refl w10; clear hb10)
                | (go_at_call 54; (with_reducible refine (HCL.out _ HE10.out).mono ?_); rintro e w11 ⟨rfl, hx11, ho11⟩; have HO11 := Lib.hid ho11; have z1'' : ∀ W, Ext w11 W → W.cell? ⟨bo, 1, none⟩ = some (.int .i64 (k : Int)) := (fun W e => e.cell (hx11.cell (z1' _ (Ext.refl _)) (by have := HGO.out.1; rw [← HBO.out] at this; show bo ≠ _; omega))); have hrc : w11.cell? ⟨gr, k, none⟩ = some (.int .i64 0) := (by rw [ownI_cell HIQ.out.rlen ho11.or k hk, HRUN.out]); have hrf := ownI_free HIQ.out.rlen ho11.or k; have E11 := Ext.refl w11; clear ho11 hx11))
              generalize hw12 : World.setCell w11 _ _ = w12
              have HO12 : Hid (OnSt w1 w12 B bm x (pts.set k { qth pts k with st := 1 }) ord (.slice aa n ac) (.slice (some ⟨gy, 0, none⟩) n n) (.slice (some ⟨gr, 0, none⟩) n n) Y (R.set k 1) last) := by rw [← hw12]; exact HO11.out.setR rfl HIQ.out.rlen 1
              have hxg : ExtX gr w11 w12 := by rw [← hw12]; exact (ExtX.refl _ _).set _ _
              have z1x : ∀ W, Ext w12 W → W.cell? ⟨bo, 1, none⟩ = some (.int .i64 (k : Int)) := fun W e => e.cell (hxg.cell (z1'' _ (Ext.refl _)) (by have := HGO.out.2; rw [← HBO.out] at this; show bo ≠ _; omega))
              have b2x := fun W (e : Ext w12 W) => b2 W (HO12.out.ext.trans e)
              have d1x : ∀ W, Ext w12 W → W.cell? ⟨sb, so + k * 2 + 1, none⟩ = some (.int .i64 bk) := fun W e => by
                obtain ⟨b', o', h1, -, d1'⟩ := set_at (HS.out.ext (HE.out.trans (HO12.out.ext.trans e))).row k (by rw [← HNN.out]; exact hk)
                simp only [Option.some.injEq, Addr.mk.injEq, and_true] at h1
                obtain ⟨rfl, rfl⟩ := h1
                rw [HBE.out]; exact d1' W (Ext.refl _)
              have hyc : ∀ W, Ext w12 W → W.cell? ⟨gy, k, none⟩ = some (.int .i64 pk) := fun W e => by
                rw [ownI_cell HYL.out (HO12.out.grow e).oy k hk, HYK.out]
              have hlook := HO12.out.look hwf
              obtain ⟨w13, last', hup, ho13, hnd', hmem', hlen'⟩ := HO12.out.upd hwf pk HIQ.out.lastK (by have := HLQ.out; omega)
              have HO13 := Lib.hid ho13
              have HI13 := Lib.hid (HTO.out last' hnd' hmem')
              have HL13 : Hid (last'.length ≤ q + 1) := by have := HLQ.out; rw [Hid]; omega
              have HOP2 := Lib.hid (on_open ho13 HINB.out HI13.out.plen (by rw [HLN.out]; omega))
              have E12 := Ext.refl w12
              clear ho13 hnd' hmem' hlen' hw12 hxg z1'' hrc hrf E11 E10 HO11 HCL
              cases hlk : lookL last bk with
              | none =>
                rw [hlk] at hlook
                have hlook2 : (Instr.lookup 119 (.map (some bm)) (.int .i64 bk) true).run Tryz.prog w12 = .ok (.tuple #[.int .i64 0, .bool false]) w12 := hlook
                clear hlook
                go_wp2_with (go_at_call 61; (with_reducible refine (HOP2.out _ (Ext.refl _)).mono ?_); rintro e w14 ⟨ca, cc, rfl, he14, hb14⟩; have HE14' := Lib.hid he14; clear hb14)
                go_roundw
                case rel => exact ⟨q + 1, _, _, _, by omega, by go_num, HO13.out.grow HE14'.out, HI13.out, HL13.out⟩
                case measure => simp [intOf]; omega
              | some v =>
                rw [hlk] at hlook
                have hlook2 : (Instr.lookup 119 (.map (some bm)) (.int .i64 bk) true).run Tryz.prog w12 = .ok (.tuple #[.int .i64 v, .bool true]) w12 := hlook
                have hvp : ¬ pk < v := Int.not_lt.2 (HLST.out v (lookL_mem hlk))
                have hvd : decide (pk < v) = false := by simpa using hvp
                clear hlook
                go_wp2_with (go_at_call 61; (with_reducible refine (HOP2.out _ (Ext.refl _)).mono ?_); rintro e w14 ⟨ca, cc, rfl, he14, hb14⟩; have HE14' := Lib.hid he14; clear hb14)
                go_roundw
                case rel => exact ⟨q + 1, _, _, _, by omega, by go_num, HO13.out.grow HE14'.out, HI13.out, HL13.out⟩
                case measure => simp [intOf]; omega
            · have HIQ2 := HIQ
              have hEn : (E != 0) = true := by simpa using hE
              have hEe : (E == 0) = false := by simpa using hE
              obtain rfl : pts' = pts := HNO.out hE
              clear hE
              go_wp2_with (first
                | (go_at_call 61; (with_reducible refine (HOPN.out _ (Ext.refl _)).mono ?_); rintro e w10 ⟨ba, bc, rfl, he10, hb10⟩; have HB10 := Lib.hid hb10; have HE10 := Lib.hid he10; have z1' := fun W (e : Ext w10 W) => z1 W (he10.trans e); have z2' := fun W (e : Ext w10 W) => z2 W (he10.trans e); have E10 := Ext.refl w10; clear hb10)
                | (go_at_call 54; (with_reducible refine (HCL.out _ HE10.out).mono ?_); rintro e w11 ⟨rfl, hx11, ho11⟩; have HO11 := Lib.hid ho11; have HX11 := Lib.hid hx11; have HOP2 := Lib.hid (on_open ho11 HINB.out HIQ2.out.plen (by rw [HLN.out]; omega)); have HB11 := Lib.hid (own_extX HB10.out hx11 HG9.out); clear ho11 hx11)
                | (go_at_call 61; (with_reducible refine (HOP2.out _ (Ext.refl _)).mono ?_); rintro e w12 ⟨ca, cc, rfl, he12, hb12⟩; have HB12 := Lib.hid hb12.ints.1; have HE12 := Lib.hid he12; clear hb12)
                | (go_at_call 25; (with_reducible refine (HSM.out _ _ _ _ _ (HB11.out.ints.1.ext HE12.out) HB12.out).mono ?_); rintro e w13 ⟨rfl, he13⟩; have HE13 := Lib.hid he13))
              go_roundw
              case rel => exact ⟨q + 1, _, R, last, by omega, by go_num, HO11.out.grow (HE12.out.trans HE13.out), HIQ2.out, Nat.le_succ_of_le HLQ.out⟩
              case measure => simp [intOf]; omega
          · by_cases hk2 : K = 2
            · subst hk2
              obtain ⟨E, pts', hcall, hno, hi2⟩ := on_decl HO9.out HIQ.out p r HRS.out
              have HCL := Lib.hid hcall; have HNO := Lib.hid hno; have HIQ2 := Lib.hid hi2
              clear hcall hno hi2 hk1
              by_cases hE : E = 0
              · subst hE
                go_wp2_with (first
                  | (go_at_call 61; (with_reducible refine (HOPN.out _ (Ext.refl _)).mono ?_); rintro e w10 ⟨ba, bc, rfl, he10, hb10⟩; have HB10 := Lib.hid hb10; have HE10 := Lib.hid he10; have z1' := fun W (e : Ext w10 W) => z1 W (he10.trans e); have z2' := fun W (e : Ext w10 W) => z2 W (he10.trans e); have E10 := Ext.refl w10; clear hb10)
                  | (go_at_call 56; (with_reducible refine (HCL.out _ HE10.out).mono ?_); rintro e w11 ⟨rfl, hx11, ho11⟩; have HO11 := Lib.hid ho11; have HX11 := Lib.hid hx11; have HOP2 := Lib.hid (on_open ho11 HINB.out HIQ2.out.plen (by rw [HLN.out]; omega)); have HB11 := Lib.hid (own_extX HB10.out hx11 HG9.out); clear ho11 hx11)
                  | (go_at_call 61; (with_reducible refine (HOP2.out _ (Ext.refl _)).mono ?_); rintro e w12 ⟨ca, cc, rfl, he12, hb12⟩; have HB12 := Lib.hid hb12.ints.1; have HE12 := Lib.hid he12; clear hb12)
                  | (go_at_call 25; (with_reducible refine (HSM.out _ _ _ _ _ (HB11.out.ints.1.ext HE12.out) HB12.out).mono ?_); rintro e w13 ⟨rfl, he13⟩; have HE13 := Lib.hid he13))
                go_roundw
                case rel => exact ⟨q + 1, _, R, last, by omega, by go_num, HO11.out.grow HE12.out, HIQ2.out, Nat.le_succ_of_le HLQ.out⟩
                case measure => simp [intOf]; omega
              · have hEn : (E != 0) = true := by simpa using hE
                have hEe : (E == 0) = false := by simpa using hE
                obtain rfl : pts' = pts := HNO.out hE
                clear hE
                go_wp2_with (first
                  | (go_at_call 61; (with_reducible refine (HOPN.out _ (Ext.refl _)).mono ?_); rintro e w10 ⟨ba, bc, rfl, he10, hb10⟩; have HB10 := Lib.hid hb10; have HE10 := Lib.hid he10; have z1' := fun W (e : Ext w10 W) => z1 W (he10.trans e); have z2' := fun W (e : Ext w10 W) => z2 W (he10.trans e); have E10 := Ext.refl w10; clear hb10)
                  | (go_at_call 56; (with_reducible refine (HCL.out _ HE10.out).mono ?_); rintro e w11 ⟨rfl, hx11, ho11⟩; have HO11 := Lib.hid ho11; have HX11 := Lib.hid hx11; have HOP2 := Lib.hid (on_open ho11 HINB.out HIQ2.out.plen (by rw [HLN.out]; omega)); have HB11 := Lib.hid (own_extX HB10.out hx11 HG9.out); clear ho11 hx11)
                  | (go_at_call 61; (with_reducible refine (HOP2.out _ (Ext.refl _)).mono ?_); rintro e w12 ⟨ca, cc, rfl, he12, hb12⟩; have HB12 := Lib.hid hb12.ints.1; have HE12 := Lib.hid he12; clear hb12)
                  | (go_at_call 25; (with_reducible refine (HSM.out _ _ _ _ _ (HB11.out.ints.1.ext HE12.out) HB12.out).mono ?_); rintro e w13 ⟨rfl, he13⟩; have HE13 := Lib.hid he13))
                go_roundw
                case rel => exact ⟨q + 1, _, R, last, by omega, by go_num, HO11.out.grow (HE12.out.trans HE13.out), HIQ2.out, Nat.le_succ_of_le HLQ.out⟩
                case measure => simp [intOf]; omega
            · by_cases hk3 : K = 3
              · subst hk3
                obtain ⟨E, pts', hcall, hno, hi2⟩ := on_reop HO9.out HIQ.out HINB.out (by rw [HLN.out]; omega) p
                have HCL := Lib.hid hcall; have HNO := Lib.hid hno; have HIQ2 := Lib.hid hi2
                clear hcall hno hi2 hk1 hk2
                by_cases hE : E = 0
                · subst hE
                  go_wp2_with (first
                    | (go_at_call 61; (with_reducible refine (HOPN.out _ (Ext.refl _)).mono ?_); rintro e w10 ⟨ba, bc, rfl, he10, hb10⟩; have HB10 := Lib.hid hb10; have HE10 := Lib.hid he10; have z1' := fun W (e : Ext w10 W) => z1 W (he10.trans e); have z2' := fun W (e : Ext w10 W) => z2 W (he10.trans e); have E10 := Ext.refl w10; clear hb10)
                    | (go_at_call 58; (with_reducible refine (HCL.out _ HE10.out).mono ?_); rintro e w11 ⟨rfl, hx11, ho11⟩; have HO11 := Lib.hid ho11; have HX11 := Lib.hid hx11; have HOP2 := Lib.hid (on_open ho11 HINB.out HIQ2.out.plen (by rw [HLN.out]; omega)); have HB11 := Lib.hid (own_extX HB10.out hx11 HG9.out); clear ho11 hx11)
                    | (go_at_call 61; (with_reducible refine (HOP2.out _ (Ext.refl _)).mono ?_); rintro e w12 ⟨ca, cc, rfl, he12, hb12⟩; have HB12 := Lib.hid hb12.ints.1; have HE12 := Lib.hid he12; clear hb12)
                    | (go_at_call 25; (with_reducible refine (HSM.out _ _ _ _ _ (HB11.out.ints.1.ext HE12.out) HB12.out).mono ?_); rintro e w13 ⟨rfl, he13⟩; have HE13 := Lib.hid he13))
                  go_roundw
                  case rel => exact ⟨q + 1, _, R, last, by omega, by go_num, HO11.out.grow HE12.out, HIQ2.out, Nat.le_succ_of_le HLQ.out⟩
                  case measure => simp [intOf]; omega
                · have hEn : (E != 0) = true := by simpa using hE
                  have hEe : (E == 0) = false := by simpa using hE
                  obtain rfl : pts' = pts := HNO.out hE
                  clear hE
                  go_wp2_with (first
                    | (go_at_call 61; (with_reducible refine (HOPN.out _ (Ext.refl _)).mono ?_); rintro e w10 ⟨ba, bc, rfl, he10, hb10⟩; have HB10 := Lib.hid hb10; have HE10 := Lib.hid he10; have z1' := fun W (e : Ext w10 W) => z1 W (he10.trans e); have z2' := fun W (e : Ext w10 W) => z2 W (he10.trans e); have E10 := Ext.refl w10; clear hb10)
                    | (go_at_call 58; (with_reducible refine (HCL.out _ HE10.out).mono ?_); rintro e w11 ⟨rfl, hx11, ho11⟩; have HO11 := Lib.hid ho11; have HX11 := Lib.hid hx11; have HOP2 := Lib.hid (on_open ho11 HINB.out HIQ2.out.plen (by rw [HLN.out]; omega)); have HB11 := Lib.hid (own_extX HB10.out hx11 HG9.out); clear ho11 hx11)
                    | (go_at_call 61; (with_reducible refine (HOP2.out _ (Ext.refl _)).mono ?_); rintro e w12 ⟨ca, cc, rfl, he12, hb12⟩; have HB12 := Lib.hid hb12.ints.1; have HE12 := Lib.hid he12; clear hb12)
                    | (go_at_call 25; (with_reducible refine (HSM.out _ _ _ _ _ (HB11.out.ints.1.ext HE12.out) HB12.out).mono ?_); rintro e w13 ⟨rfl, he13⟩; have HE13 := Lib.hid he13))
                  go_roundw
                  case rel => exact ⟨q + 1, _, R, last, by omega, by go_num, HO11.out.grow (HE12.out.trans HE13.out), HIQ2.out, Nat.le_succ_of_le HLQ.out⟩
                  case measure => simp [intOf]; omega
              · have hk1b : (K == 1) = false := by simpa using hk1
                have hk2b : (K == 2) = false := by simpa using hk2
                have hk3b : (K == 3) = false := by simpa using hk3
                have HIQ2 := HIQ
                go_wp2_with (first
                  | (go_at_call 61; (with_reducible refine (HOPN.out _ (Ext.refl _)).mono ?_); rintro e w10 ⟨ba, bc, rfl, he10, hb10⟩; have HE10 := Lib.hid he10; have z1' := fun W (e : Ext w10 W) => z1 W (he10.trans e); have E10 := Ext.refl w10; clear hb10)
                  | (go_at_call 61; (with_reducible refine (HOPN.out _ HE10.out).mono ?_); rintro e w12 ⟨ca, cc, rfl, he12, hb12⟩; have HE12 := Lib.hid he12; clear hb12))
                go_roundw
                case rel => exact ⟨q + 1, pts, R, last, by omega, by go_num, HO9.out.grow (HE10.out.trans HE12.out), HIQ2.out, Nat.le_succ_of_le HLQ.out⟩
                case measure => simp [intOf]; omega
        · obtain ⟨F, hF⟩ : ∃ F, F = openL pts ord := ⟨_, rfl⟩
          obtain ⟨L, hL⟩ : ∃ L, L = F.length := ⟨_, rfl⟩
          have HBW : Hid (∀ W, Ext wo W → BkAt W B x pts ord) := fun W e => (HOQ.out.grow e).bk
          have HOPN : Hid (∀ W', Ext wo W' → Calls Tryz.prog 61 #[bkV x] W' (fun e w' => ∃ a c, e = .returned (.slice a L c) ∧ Ext W' w' ∧ Ints w' a F)) := fun W' e => by
            have := on_open HOQ.out HINB.out HIQ.out.plen (by rw [HLN.out]; omega) W' e
            rw [← hF, ← hL] at this
            refine this.mono ?_
            rintro e w' ⟨a, c, rfl, he, ho⟩
            exact ⟨a, c, rfl, he, ho.ints.1⟩
          have HDN : Hid (∀ W, Ext wo W → Calls Tryz.prog 64 #[bkV x] W (Ret (.bool (decide (L = 0))) W)) := fun W e => by
            have := Done_any B x pts ord W (HBW.out W e) (by rw [HIQ.out.plen]; exact HINB.out) (by rw [HLN.out]; omega)
            rw [← hF, ← hL] at this; exact this
          have HSTT : Hid (∀ W (k : Nat), Ext wo W → k < n → Calls Tryz.prog 63 #[bkV x, .int .i64 (k : Int)] W (Ret (.tuple #[.int .u8 (qth pts k).st, .string (qth pts k).rs, .int .i64 0]) W)) := fun W k e hk => State_ok B x pts ord k W (HBW.out W e) (by rw [HIQ.out.plen]; exact hk)
          have HMEM : Hid (∀ k : Nat, k < n → ((k : Int) ∈ F ↔ (qth pts k).st = 0)) := fun k hk => by rw [hF]; exact openL_mem HIQ.out hk
          have HFL := Lib.hid hL
          have HL2 : Hid (L ≤ 2000) := by rw [Hid, hL, hF]; exact Nat.le_trans (List.length_filter_le _ _) (by rw [HLN.out]; exact hn2)
          have HRC : Hid (∀ W (k : Nat), Ext wo W → k < n → W.cell? ⟨gr, k, none⟩ = some (.int .i64 (nth R k))) := fun W k e hk => ownI_cell HIQ.out.rlen (HOQ.out.grow e).or k hk
          have HEW : Hid (Ext w wo) := HE.out.trans HOQ.out.ext
          have q3 := fun W (e : Ext wo W) => b3 W (HOQ.out.ext.trans e)
          have q4 := fun W (e : Ext wo W) => b4 W (HOQ.out.ext.trans e)
          have Eo := Ext.refl wo
          clear hF hL HOS
          obtain rfl : q = m := by omega
          go_wp2_with (go_at_call 61; (with_reducible refine (HOPN.out _ (Ext.refl _)).mono ?_); rintro e w9 ⟨ca, cc, rfl, he9, hi9⟩; have HE9 := Lib.hid he9; have HI9 := Lib.hid hi9; clear hi9)
          go_loopw [19] (fun i wr => ∃ k : Nat, k ≤ n ∧ i = .int .i64 k ∧ Hid (Ext w9 wr)) (fun i _ => n - (intOf i).toNat)
          case atStart => exact ⟨0, Nat.zero_le _, rfl, Ext.refl _⟩
          case round =>
            obtain ⟨k, hk, rfl, HX⟩ := hrel
            have HXO : Hid (Ext wo wr) := HE9.out.trans HX.out
            by_cases hkn : k < n
            · have HS1 := Lib.hid (fun W (e : Ext wr W) => HSTT.out W k (HXO.out.trans e) hkn)
              have HR1 := Lib.hid (fun W (e : Ext wr W) => HRC.out W k (HXO.out.trans e) hkn)
              have hst := HIQ.out.st k hkn
              have hrn := HIQ.out.runs k hkn
              have hrs := HIQ.out.rs k hkn
              have hmm := HMEM.out k hkn
              have HMM := Lib.hid hmm
              obtain ⟨u, hu⟩ : ∃ u, u = (qth pts k).st := ⟨_, rfl⟩
              obtain ⟨r, hr⟩ : ∃ r, r = (qth pts k).rs := ⟨_, rfl⟩
              obtain ⟨rn, hrr⟩ : ∃ rn, rn = nth R k := ⟨_, rfl⟩
              rw [← hu, ← hr] at HS1
              rw [← hrr] at HR1 hrn
              rw [← hu] at hst hrn hrs HMM
              rw [← hr] at hrs
              have HCASE : Hid ((u = 0 ∧ rn = 0 ∧ r = ⟨#[]⟩) ∨ (u = 1 ∧ rn = 1 ∧ r = ⟨#[]⟩) ∨ (u = 2 ∧ rn = 0 ∧ r ≠ ⟨#[]⟩)) := by
                rcases hst with rfl | rfl | rfl
                · exact .inl ⟨rfl, by rw [hrn]; rfl, hrs.2 (by omega)⟩
                · exact .inr (.inl ⟨rfl, by rw [hrn]; rfl, hrs.2 (by omega)⟩)
                · exact .inr (.inr ⟨rfl, by rw [hrn]; rfl, fun e => (hrs.1 e) rfl⟩)
              clear hu hr hrr hst hrn hrs hmm
              go_wp2_with (go_at_call 63; (with_reducible refine (HS1.out _ (Ext.refl _)).mono ?_); rintro e w10 ⟨rfl, he10⟩; have HE10 := Lib.hid he10)
              go_loopw [23, 24] (fun c i wr2 => ∃ j : Nat, j ≤ L ∧ i = .int .i64 j ∧ c = .bool (decide ((k : Int) ∈ F.take j)) ∧ Hid (Ext w10 wr2)) (fun _ i _ => L - (intOf i).toNat)
              case atStart => exact ⟨0, Nat.zero_le _, rfl, by simp, Ext.refl _⟩
              case round =>
                obtain ⟨j, hj, rfl, rfl, HY⟩ := hrel
                by_cases hjl : j < L
                · obtain ⟨fb, fo', rfl, e1⟩ := (HI9.out.ext (HX.out.trans (HE10.out.trans HY.out))).at j (by rw [← HFL.out]; exact hjl)
                  have htk : F.take (j + 1) = F.take j ++ [nth F j] := take_nth (by rw [← HFL.out]; exact hjl)
                  have HNX : Hid (decide ((k : Int) ∈ F.take (j + 1)) = (decide ((k : Int) ∈ F.take j) || (nth F j == (k : Int)))) := by
                    rw [Hid, htk]
                    rw [Bool.eq_iff_iff, Bool.or_eq_true, decide_eq_true_eq, decide_eq_true_eq, beq_iff_eq, List.mem_append, List.mem_singleton]
                    exact ⟨fun h => h.imp id Eq.symm, fun h => h.imp id Eq.symm⟩
                  have hL2 := HL2.out
                  have Er := Ext.refl wr
                  clear htk
                  generalize decide ((k : Int) ∈ F.take j) = T at *
                  obtain ⟨f, hf⟩ : ∃ f, f = nth F j := ⟨_, rfl⟩
                  rw [← hf] at e1 HNX
                  clear hf
                  cases T
                  · go_wp2_with (fail)
                    go_roundw
                    case rel => exact ⟨j + 1, by omega, by go_num, by rw [HNX.out]; simp, HY.out⟩
                    case measure => simp [intOf]; omega
                  · go_wp2_with (fail)
                    go_roundw
                    case rel => exact ⟨j + 1, by omega, by go_num, by rw [HNX.out]; simp, HY.out⟩
                    case measure => simp [intOf]; omega
                · obtain rfl : j = L := by omega
                  have HTF : Hid (decide ((k : Int) ∈ F.take j) = decide (u = 0)) := by
                    rw [Hid, List.take_of_length_le (by rw [← HFL.out]; exact Nat.le_refl _), decide_eq_decide]
                    exact HMM.out
                  rw [HTF.out]
                  have hrc := HR1.out wr (HE10.out.trans HY.out)
                  have hkn' : (k : Int) < (n : Int) := by omega
                  have hk0 : (0 : Int) ≤ (k : Int) := by omega
                  rcases HCASE.out with ⟨rfl, rfl, rfl⟩ | ⟨rfl, rfl, rfl⟩ | ⟨rfl, rfl, hne⟩
                  · go_wp2_with (fail)
                    go_roundw
                    case rel => exact ⟨k + 1, by omega, by go_num, HX.out.trans (HE10.out.trans HY.out)⟩
                    case measure => simp [intOf]; omega
                  · go_wp2_with (fail)
                    go_roundw
                    case rel => exact ⟨k + 1, by omega, by go_num, HX.out.trans (HE10.out.trans HY.out)⟩
                    case measure => simp [intOf]; omega
                  · have hneb : r.toList.isEmpty = false := by
                      cases h : r.toList.isEmpty
                      · rfl
                      · exfalso
                        apply hne
                        rw [List.isEmpty_iff, toList_eq] at h
                        have h2 : r.data = #[] := Array.toList_eq_nil_iff.1 h
                        cases r
                        simp only at h2
                        rw [h2]
                    go_wp2_with (fail)
                    go_roundw
                    case rel => exact ⟨k + 1, by omega, by go_num, HX.out.trans (HE10.out.trans HY.out)⟩
                    case measure => simp [intOf]; omega
            · obtain rfl : k = n := by omega
              have HD := Lib.hid (HDN.out wr HXO.out)
              have HLD : Hid (decide (L = 0) = decide ((L : Int) = 0)) := by rw [Hid, decide_eq_decide]; omega
              rw [HLD.out] at HD
              obtain ⟨T, hT⟩ : ∃ T, T = decide ((L : Int) = 0) := ⟨_, rfl⟩
              have hTb : ((L : Int) == 0) = T := by rw [hT]; rfl
              rw [← hT] at HD
              clear hT
              go_wp2_with (first
                | (go_at_call 64; (with_reducible refine HD.out.mono ?_); rintro e w10 ⟨rfl, he10⟩; have HE10 := Lib.hid he10)
                | (go_at_call 17; (with_reducible refine (known_any _).mono ?_); rintro e w11 ⟨rfl, he11⟩; have HE11 := Lib.hid he11))
              go_ret
              exact ⟨rfl, (HEW.out.trans HXO.out).trans (HE10.out.trans HE11.out)⟩
end Go.Proofs.YtplbofhgmflnlaaGreat
