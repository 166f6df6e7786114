/-
  Walk: MatrixOrders.
-/
import Derived.Test.YtplbofhgmflnlaaGreatRO2
import Derived.Test.YtplbofhgmflnlaaGreatST2
set_option linter.unusedVariables false
set_option linter.unusedSimpArgs false
namespace Go.Proofs.YtplbofhgmflnlaaGreat
open Go.RowKit
set_option maxRecDepth 100000 in
set_option maxHeartbeats 4000000 in
theorem or_wide (P : Pw) (a : Option Addr) (ss : List Se) (sc : Nat) (sd : Int) (w : World) (hp : PlanAt w P) (hgl : ∀ i, i < P.fo.length → (gth P.fo i).xs.length ≤ 9223372036854775807) (hs : SetsAt w a ss) (hl : ∀ i, i < ss.length → (eth ss i).lv.xs.length ≤ 9223372036854775807)
    (h : wideP P.fs P.fo = true ∨ wideS ss = true) :
    Calls Tryz.prog 9 #[planV P, .slice a ss.length sc, .int .u64 sd] w (Ret (.bool true) w) := by
  have hwp := fun W (e : Ext w W) => wideP_any P.fs P.fo P.fa P.ga P.fc P.gc W (hp.ext e).fo hgl
  have hws := fun W (e : Ext w W) => wideS_any ss a sc W (hs.ext e).row hl
  obtain ⟨x, hx⟩ : ∃ x, x = wideP P.fs P.fo := ⟨_, rfl⟩
  obtain ⟨y, hy⟩ : ∃ y, y = wideS ss := ⟨_, rfl⟩
  obtain ⟨fs, fa, fc, fo, ga, gc⟩ := P
  simp only at hwp hx h
  rw [← hx] at hwp h
  rw [← hy] at hws h
  have HWP := Lib.hid hwp; have HWS := Lib.hid hws
  obtain ⟨n, hn⟩ : ∃ n, n = ss.length := ⟨_, rfl⟩
  rw [← hn] at HWS ⊢
  clear hwp hws hp hs hgl hl hx hy hn
  have hd : x = true ∨ (x = false ∧ y = true) := by
    cases x <;> cases y <;> simp at h ⊢
  clear h
  rcases hd with rfl | ⟨rfl, rfl⟩ <;> (
  go_enter Tryz.func9, Tryz.ntmps9
  go_wp2_with (fail)
  generalize hw1 : World.alloc _ _ = w1
  obtain ⟨he, o1, -⟩ := alloc1 hw1
  obtain ⟨b0, b1⟩ := obj_cells2 o1
  have E1 := Ext.refl w1
  have HE := Lib.hid he
  clear hw1 o1 he
  go_wp2_with (first
    | (go_at_call 15; (with_reducible refine (HWP.out _ HE.out).mono ?_); rintro e w2 ⟨rfl, he2⟩; have HE2 : Hid (Ext w w2) := HE.out.trans he2)
    | (go_at_call 16; (with_reducible refine (HWS.out _ HE2.out).mono ?_); rintro e w3 ⟨rfl, he3⟩; have HE3 : Hid (Ext w w3) := HE2.out.trans he3)
    | (go_at_call 17; (with_reducible refine (known_any _).mono ?_); rintro e w4 ⟨rfl, he4⟩))
  go_ret
  first | exact ⟨rfl, HE3.out.trans he4⟩ | exact ⟨rfl, HE2.out.trans he4⟩)
set_option maxRecDepth 100000 in
set_option maxHeartbeats 4000000 in
theorem or_err (P : Pw) (a : Option Addr) (ss : List Se) (sc : Nat) (sd : Int) (w : World) (hp : PlanAt w P) (hs : SetsAt w a ss) (hn : ss.length ≤ 9223372036854775807) (hl : ∀ i, i < ss.length → (eth ss i).lv.xs.length ≤ 9223372036854775807)
    (h1 : wideP P.fs P.fo = false) (h2 : wideS ss = false) (h0 : checkE P ss ≠ 0) (hsd : 0 ≤ sd ∧ sd < 18446744073709551616) :
    Calls Tryz.prog 9 #[planV P, .slice a ss.length sc, .int .u64 sd] w (Ret (.bool true) w) := by
  have hb := planB_wide h1
  obtain ⟨hn5, -, hl10⟩ := wideS_no h2
  have hwp := fun W (e : Ext w W) => wideP_any P.fs P.fo P.fa P.ga P.fc P.gc W (hp.ext e).fo (fun i hi => by have := hb.pl i hi; omega)
  have hws := fun W (e : Ext w W) => wideS_any ss a sc W (hs.ext e).row hl
  have hov := fun W (e : Ext w W) => own_wide P W (hp.ext e) h1
  have hos := fun W (e : Ext w W) => ownSets_any a ss sc W (hs.ext e) (by omega) (fun i hi => by have := hl10 i hi; omega)
  have hva := fun W (e : Ext w W) => rValid_any P a ss sc W (hp.ext e) hb (hs.ext e) hn hl
  have hor : ∀ Q W a' c' tt, SameP P Q → SameSe ss tt → PlanAt W Q → SetsAt W a' tt → Calls Tryz.prog 47 #[planV Q, .slice a' tt.length c', .int .u64 sd] W (Ret (.tuple #[.slice none 0 0, .int .i64 (checkE P ss)]) W) := fun Q W a' c' tt s s2 hq ht =>
    Order_no Q a' tt c' sd W hq (hb.same s) ht (by rw [← s2.1]; exact hn) (fun i hi => by rw [← (s2.all i).1]; exact hl i (by rw [s2.1]; exact hi)) _ (check_same s s2).symm h0
  rw [h1] at hwp
  rw [h2] at hws
  have HL10 : Hid (∀ i, i < ss.length → (eth ss i).lv.xs.length ≤ 10) := hl10
  obtain ⟨v, hv⟩ : ∃ v, v = checkE P ss := ⟨_, rfl⟩
  rw [← hv] at hva hor h0
  have hv0 : (v != 0) = true := by simpa using h0
  obtain ⟨P0, hP0⟩ : ∃ P0, P0 = P := ⟨_, rfl⟩
  rw [← hP0] at hor
  have HRP0 := Lib.hid hP0
  obtain ⟨fs, fa, fc, fo, ga, gc⟩ := P
  try simp only at hwp
  try simp only at hov
  try simp only at hva
  
  have HWP := Lib.hid hwp; have HWS := Lib.hid hws; have HOV := Lib.hid hov; have HOS := Lib.hid hos; have HVA := Lib.hid hva; have HOR := Lib.hid hor
  
  have HS := Lib.hid hs
  obtain ⟨n, hnn⟩ : ∃ n, n = ss.length := ⟨_, rfl⟩
  have HNN := Lib.hid hnn
  rw [← hnn] at HWS HVA HOS HL10  ⊢
  have hn5 : n ≤ 2005 := by rw [hnn]; exact hn5
  clear hwp hws hov hos hva hor hp hs hb hn hl hl10 h1 h2 hnn hP0 hv h0
  go_enter Tryz.func9, Tryz.ntmps9
  go_wp2_with (fail)
  generalize hw1 : World.alloc _ _ = w1
  obtain ⟨he, o1, -⟩ := alloc1 hw1
  obtain ⟨b0, b1⟩ := obj_cells2 o1
  have E1 := Ext.refl w1
  have HE := Lib.hid he
  clear hw1 o1 he
  go_wp2_with (fail)
  (with_reducible refine (HWP.out _ HE.out).mono ?_); rintro e w2 ⟨rfl, he2⟩
  go_wp2_with (fail)
  (with_reducible refine (HWS.out _ (HE.out.trans he2)).mono ?_); rintro e w3 ⟨rfl, he3⟩
  have he13 := he2.trans he3
  go_wp2_with (fail)
  (with_reducible refine (HOS.out _ (HE.out.trans he13)).mono ?_); rintro e w4 ⟨ta, tc, tt, rfl, he4, hot, hst⟩
  have he14 := he13.trans he4
  have HT4 : Hid (SetsAt w4 ta tt) := OwnSs.sets hot
  have HST := Lib.hid hst
  have HTN : Hid (tt.length = n) := by rw [Hid, ← hst.1]; exact HNN.out.symm
  clear hot hst he2 he3 he13 he4
  go_wp2_with (fail)
  (with_reducible refine (HOV.out _ (HE.out.trans he14)).mono ?_); rintro e w5 ⟨Q, rfl, he5, hq5, hsp⟩
  rw [← HRP0.out] at hsp
  have HSP := Lib.hid hsp; have HQ5 := Lib.hid hq5
  have he15 := he14.trans he5
  have HT5 := Lib.hid (HT4.out.ext he5)
  have hor := HOR.out Q w5 ta tc tt HSP.out HST.out HQ5.out HT5.out
  rw [HTN.out] at hor
  obtain ⟨qs, qa, qc, qo, pa, pc⟩ := Q
  have HOR5 := Lib.hid hor
  clear hsp hq5 HWP HOV HWS HOS hor he14
  go_wp2_with (fail)
  (with_reducible refine HOR5.out.mono ?_); rintro e w6 ⟨rfl, he6⟩
  have HX6 := Lib.hid (he15.trans he6)
  have B0 := fun W (e : Ext w6 W) => b0 W (HX6.out.trans e)
  have B1 := fun W (e : Ext w6 W) => b1 W (HX6.out.trans e)
  have HT6 := Lib.hid (HT5.out.ext he6)
  
  clear he15 he6 he5 HOR5 HOR b0 b1 E1 
  go_wp2_with (fail)
  go_loopw [10] (fun i wr => ∃ k : Nat, k ≤ n ∧ i = .int .i64 k ∧ Hid (Ext w6 wr)) (fun i _ => n - (intOf i).toNat)
  case atStart => exact ⟨0, Nat.zero_le _, rfl, Ext.refl _⟩
  case round =>
    obtain ⟨k, hk, rfl, HX⟩ := hrel
    have hx := HX.out
    have hr0 := Ext.refl wr
    by_cases hlt : k < n
    · obtain ⟨sb, so, rfl, d0, d1⟩ := set_at (HS.out.ext ((HE.out.trans HX6.out).trans hx)).row k (by rw [← HNN.out]; exact hlt)
      obtain ⟨tb, tof, rfl, e0, e1⟩ := set_at (HT6.out.ext hx).row k (by rw [HTN.out]; exact hlt)
      have hsl := (HS.out.ext ((HE.out.trans HX6.out).trans hx)).lv k (by rw [← HNN.out]; exact hlt)
      have htl := (HT6.out.ext hx).lv k (by rw [HTN.out]; exact hlt)
      obtain ⟨hxy, hbk⟩ := HST.out.all k
      have h10 := HL10.out k hlt
      obtain ⟨s, hs⟩ : ∃ s, s = eth ss k := ⟨_, rfl⟩
      obtain ⟨t, ht⟩ : ∃ t, t = eth tt k := ⟨_, rfl⟩
      rw [← hs] at d0 d1 hsl hxy hbk h10
      rw [← ht] at e0 e1 htl hxy hbk
      clear hs ht
      obtain ⟨⟨xa, xs, xc⟩, xb⟩ := s
      obtain ⟨⟨ya, ys, yc⟩, yb⟩ := t
      simp only at d0 d1 e0 e1 hsl htl hxy hbk h10
      subst hxy hbk
      have HSA : Hid (∀ n' : Later wr, Calls Tryz.prog 25 #[.slice ya xs.length yc, .slice xa xs.length xc] n'.val (Ret (.bool true) n'.val)) := fun n' => by
        have := same_any xs xs ya xa xs.length xs.length yc xc n'.val (htl.ext n'.ok) (hsl.ext n'.ok) rfl rfl (by omega) (by omega)
        rwa [show sameB xs xs = true by simp [sameB]] at this
      clear hsl htl
      go_upto_region 8 with fail
      refine wp_region_ext (by kernel_rfl) (by kernel_rfl) hr0 ?_
      repeat (first | go_big_quiet_step (((go_at_call 25; exact Calls.later (HSA.out _)))) | quiet_step (((go_at_call 25; exact Calls.later (HSA.out _)))))
      refine wpQuiet_nil ?_
      rintro _ ⟨nq, rfl⟩
      have HX7 := Lib.hid (hx.trans nq.ok)
      clear HSA
      go_wp2_with (fail)
      go_roundw
      case rel => exact ⟨k + 1, by omega, by go_num, HX7.out⟩
      case measure => simp [intOf]; omega
    · obtain rfl : k = n := by omega
      have C0 := fun W (e : Ext wr W) => B0 W (hx.trans e)
      have C1 := fun W (e : Ext wr W) => B1 W (hx.trans e)
      clear B0 B1
      go_wp2_with (fail)
      (with_reducible refine (HVA.out _ (HE.out.trans (HX6.out.trans hx))).mono ?_); rintro e w9 ⟨rfl, he9⟩
      have hx9 := hx.trans he9
      go_wp2_with (fail)
      (with_reducible refine (known_any _).mono ?_); rintro e w12 ⟨rfl, he12⟩
      go_wp2_with (fail)
      go_ret
      exact ⟨rfl, HE.out.trans (HX6.out.trans (hx9.trans he12))⟩
set_option maxRecDepth 100000 in
set_option maxHeartbeats 4000000 in
theorem or_main (P : Pw) (a : Option Addr) (ss : List Se) (sc : Nat) (sd : Int) (w : World) (hp : PlanAt w P) (hs : SetsAt w a ss) (hn : ss.length ≤ 9223372036854775807) (hl : ∀ i, i < ss.length → (eth ss i).lv.xs.length ≤ 9223372036854775807)
    (h1 : wideP P.fs P.fo = false) (h2 : wideS ss = false) (h0 : checkE P ss = 0) (hsd : 0 ≤ sd ∧ sd < 18446744073709551616) :
    Calls Tryz.prog 9 #[planV P, .slice a ss.length sc, .int .u64 sd] w (Ret (.bool true) w) := by
  have hb := planB_wide h1
  obtain ⟨hn5, -, hl10⟩ := wideS_no h2
  have hwp := fun W (e : Ext w W) => wideP_any P.fs P.fo P.fa P.ga P.fc P.gc W (hp.ext e).fo (fun i hi => by have := hb.pl i hi; omega)
  have hws := fun W (e : Ext w W) => wideS_any ss a sc W (hs.ext e).row hl
  have hov := fun W (e : Ext w W) => own_wide P W (hp.ext e) h1
  have hos := fun W (e : Ext w W) => ownSets_any a ss sc W (hs.ext e) (by omega) (fun i hi => by have := hl10 i hi; omega)
  have hva := fun W (e : Ext w W) => rValid_any P a ss sc W (hp.ext e) hb (hs.ext e) hn hl
  obtain ⟨c1, c2, c3⟩ := checkE_ok h0
  obtain ⟨L, hL⟩ : ∃ L, L = ordL (fun i => gL P.fs (eth ss i)) ss.length sd := ⟨_, rfl⟩
  have HLL : Hid (L.length ≤ 2000) := by
    have hperm : L.Perm (rngI ss.length) := by rw [hL]; exact ordL_perm (by omega)
    rw [Hid, hperm.length_eq, rngI_len]; exact c2
  have hor : ∀ Q W a' c' tt, SameP P Q → SameSe ss tt → PlanAt W Q → SetsAt W a' tt → Calls Tryz.prog 47 #[planV Q, .slice a' tt.length c', .int .u64 sd] W (fun e w' => ∃ a1 c1, e = .returned (.tuple #[.slice a1 L.length c1, .int .i64 0]) ∧ Ext W w' ∧ Ints w' a1 L) := fun Q W a' c' tt s s2 hq ht => by
    have hc : checkE Q tt = 0 := by rw [← check_same s s2]; exact h0
    have := Order_ok Q a' tt c' sd W hq (hb.same s) ht (fun i hi => by rw [← (s2.all i).1]; exact hl i (by rw [s2.1]; exact hi)) hc hsd
    have e1 : ordS Q tt sd = L := by
      rw [hL]
      unfold ordS
      rw [← s.fs, ← s2.keys, s2.1]
    rw [e1] at this
    refine this.mono ?_
    rintro e w' ⟨a1, c1, rfl, he, ho⟩
    exact ⟨a1, c1, rfl, he, ho.ints.1⟩
  have hro := fun W (e : Ext w W) => (rOrder_any P a ss sc sd W (hp.ext e) (planOk c1).1 (hs.ext e) (by omega) (fun i hi => levB_len (setOk (c3 i hi)).1))
  have hrr : refO 1001 (fun i => gL P.fs (eth ss i)) ss.length sd = L := by
    rw [hL, refO_eq (by omega) (fun i hi => by
      have := setOk (c3 i hi)
      show 0 ≤ (eth ss i).blk ∧ (eth ss i).blk < ((1001 : Nat) : Int)
      omega)]
  rw [hrr] at hro
  have hro2 : ∀ W, Ext w W → Calls Tryz.prog 49 #[planV P, .slice a ss.length sc, .int .u64 sd] W (fun e w' => ∃ a1 c1, e = .returned (.slice a1 L.length c1) ∧ Ext W w' ∧ Ints w' a1 L) := fun W e => (hro W e).mono (by
    rintro e w' ⟨a1, c1, rfl, he, ho⟩
    exact ⟨a1, c1, rfl, he, ho.ints.1⟩)
  rw [h1] at hwp
  rw [h2] at hws
  have HL10 : Hid (∀ i, i < ss.length → (eth ss i).lv.xs.length ≤ 10) := hl10
  rw [h0] at hva
  obtain ⟨P0, hP0⟩ : ∃ P0, P0 = P := ⟨_, rfl⟩
  rw [← hP0] at hor
  have HRP0 := Lib.hid hP0
  obtain ⟨fs, fa, fc, fo, ga, gc⟩ := P
  try simp only at hwp
  try simp only at hov
  try simp only at hva
  try simp only at hro2
  have HWP := Lib.hid hwp; have HWS := Lib.hid hws; have HOV := Lib.hid hov; have HOS := Lib.hid hos; have HVA := Lib.hid hva; have HOR := Lib.hid hor
  have HRO := Lib.hid hro2
  have HS := Lib.hid hs
  obtain ⟨n, hnn⟩ : ∃ n, n = ss.length := ⟨_, rfl⟩
  have HNN := Lib.hid hnn
  rw [← hnn] at HWS HVA HOS HL10 HRO ⊢
  have hn5 : n ≤ 2005 := by rw [hnn]; exact hn5
  clear hwp hws hov hos hva hor hp hs hb hn hl hl10 h1 h2 hnn hP0 hro hro2 hrr hL c1 c2 c3 h0
  go_enter Tryz.func9, Tryz.ntmps9
  go_wp2_with (fail)
  generalize hw1 : World.alloc _ _ = w1
  obtain ⟨he, o1, -⟩ := alloc1 hw1
  obtain ⟨b0, b1⟩ := obj_cells2 o1
  have E1 := Ext.refl w1
  have HE := Lib.hid he
  clear hw1 o1 he
  go_wp2_with (fail)
  (with_reducible refine (HWP.out _ HE.out).mono ?_); rintro e w2 ⟨rfl, he2⟩
  go_wp2_with (fail)
  (with_reducible refine (HWS.out _ (HE.out.trans he2)).mono ?_); rintro e w3 ⟨rfl, he3⟩
  have he13 := he2.trans he3
  go_wp2_with (fail)
  (with_reducible refine (HOS.out _ (HE.out.trans he13)).mono ?_); rintro e w4 ⟨ta, tc, tt, rfl, he4, hot, hst⟩
  have he14 := he13.trans he4
  have HT4 : Hid (SetsAt w4 ta tt) := OwnSs.sets hot
  have HST := Lib.hid hst
  have HTN : Hid (tt.length = n) := by rw [Hid, ← hst.1]; exact HNN.out.symm
  clear hot hst he2 he3 he13 he4
  go_wp2_with (fail)
  (with_reducible refine (HOV.out _ (HE.out.trans he14)).mono ?_); rintro e w5 ⟨Q, rfl, he5, hq5, hsp⟩
  rw [← HRP0.out] at hsp
  have HSP := Lib.hid hsp; have HQ5 := Lib.hid hq5
  have he15 := he14.trans he5
  have HT5 := Lib.hid (HT4.out.ext he5)
  have hor := HOR.out Q w5 ta tc tt HSP.out HST.out HQ5.out HT5.out
  rw [HTN.out] at hor
  obtain ⟨qs, qa, qc, qo, pa, pc⟩ := Q
  have HOR5 := Lib.hid hor
  clear hsp hq5 HWP HOV HWS HOS hor he14
  go_wp2_with (fail)
  (with_reducible refine HOR5.out.mono ?_); rintro e w6 ⟨oa, oc, rfl, he6, hoi⟩
  have HX6 := Lib.hid (he15.trans he6)
  have B0 := fun W (e : Ext w6 W) => b0 W (HX6.out.trans e)
  have B1 := fun W (e : Ext w6 W) => b1 W (HX6.out.trans e)
  have HT6 := Lib.hid (HT5.out.ext he6)
  have HOI := Lib.hid hoi
  clear he15 he6 he5 HOR5 HOR b0 b1 E1 hoi
  go_wp2_with (fail)
  go_loopw [10] (fun i wr => ∃ k : Nat, k ≤ n ∧ i = .int .i64 k ∧ Hid (Ext w6 wr)) (fun i _ => n - (intOf i).toNat)
  case atStart => exact ⟨0, Nat.zero_le _, rfl, Ext.refl _⟩
  case round =>
    obtain ⟨k, hk, rfl, HX⟩ := hrel
    have hx := HX.out
    have hr0 := Ext.refl wr
    by_cases hlt : k < n
    · obtain ⟨sb, so, rfl, d0, d1⟩ := set_at (HS.out.ext ((HE.out.trans HX6.out).trans hx)).row k (by rw [← HNN.out]; exact hlt)
      obtain ⟨tb, tof, rfl, e0, e1⟩ := set_at (HT6.out.ext hx).row k (by rw [HTN.out]; exact hlt)
      have hsl := (HS.out.ext ((HE.out.trans HX6.out).trans hx)).lv k (by rw [← HNN.out]; exact hlt)
      have htl := (HT6.out.ext hx).lv k (by rw [HTN.out]; exact hlt)
      obtain ⟨hxy, hbk⟩ := HST.out.all k
      have h10 := HL10.out k hlt
      obtain ⟨s, hs⟩ : ∃ s, s = eth ss k := ⟨_, rfl⟩
      obtain ⟨t, ht⟩ : ∃ t, t = eth tt k := ⟨_, rfl⟩
      rw [← hs] at d0 d1 hsl hxy hbk h10
      rw [← ht] at e0 e1 htl hxy hbk
      clear hs ht
      obtain ⟨⟨xa, xs, xc⟩, xb⟩ := s
      obtain ⟨⟨ya, ys, yc⟩, yb⟩ := t
      simp only at d0 d1 e0 e1 hsl htl hxy hbk h10
      subst hxy hbk
      have HSA : Hid (∀ n' : Later wr, Calls Tryz.prog 25 #[.slice ya xs.length yc, .slice xa xs.length xc] n'.val (Ret (.bool true) n'.val)) := fun n' => by
        have := same_any xs xs ya xa xs.length xs.length yc xc n'.val (htl.ext n'.ok) (hsl.ext n'.ok) rfl rfl (by omega) (by omega)
        rwa [show sameB xs xs = true by simp [sameB]] at this
      clear hsl htl
      go_upto_region 8 with fail
      refine wp_region_ext (by kernel_rfl) (by kernel_rfl) hr0 ?_
      repeat (first | go_big_quiet_step (((go_at_call 25; exact Calls.later (HSA.out _)))) | quiet_step (((go_at_call 25; exact Calls.later (HSA.out _)))))
      refine wpQuiet_nil ?_
      rintro _ ⟨nq, rfl⟩
      have HX7 := Lib.hid (hx.trans nq.ok)
      clear HSA
      go_wp2_with (fail)
      go_roundw
      case rel => exact ⟨k + 1, by omega, by go_num, HX7.out⟩
      case measure => simp [intOf]; omega
    · obtain rfl : k = n := by omega
      have C0 := fun W (e : Ext wr W) => B0 W (hx.trans e)
      have C1 := fun W (e : Ext wr W) => B1 W (hx.trans e)
      clear B0 B1
      go_wp2_with (fail)
      (with_reducible refine (HVA.out _ (HE.out.trans (HX6.out.trans hx))).mono ?_); rintro e w9 ⟨rfl, he9⟩
      have hx9 := hx.trans he9
      have HI9 := Lib.hid (HOI.out.ext hx9)
      obtain ⟨l, hll⟩ : ∃ l, l = L.length := ⟨_, rfl⟩
      have HLN := Lib.hid hll
      rw [← hll] at HRO HLL ⊢
      clear hll
      go_wp2_with (fail)
      (with_reducible refine (HRO.out _ (HE.out.trans (HX6.out.trans hx9))).mono ?_); rintro e w10 ⟨ra, rc, rfl, he10, hri⟩
      go_wp2_with (fail)
      (with_reducible refine (same_any L L oa ra l l oc rc w10 (HI9.out.ext he10) hri HLN.out.symm HLN.out.symm (by have := HLL.out; omega) (by have := HLL.out; omega)).mono ?_); rintro e w11 ⟨rfl, he11⟩
      rw [show sameB L L = true by simp [sameB]]
      go_wp2_with (fail)
      (with_reducible refine (known_any _).mono ?_); rintro e w12 ⟨rfl, he12⟩
      go_wp2_with (fail)
      go_ret
      exact ⟨rfl, HE.out.trans (HX6.out.trans (hx9.trans (he10.trans (he11.trans he12))))⟩
theorem orders_any (P : Pw) (a : Option Addr) (ss : List Se) (sc : Nat) (sd : Int) (w : World) (hp : PlanAt w P) (hgl : ∀ i, i < P.fo.length → (gth P.fo i).xs.length ≤ 9223372036854775807) (hs : SetsAt w a ss) (hn : ss.length ≤ 9223372036854775807) (hl : ∀ i, i < ss.length → (eth ss i).lv.xs.length ≤ 9223372036854775807) (hsd : 0 ≤ sd ∧ sd < 18446744073709551616) :
    Calls Tryz.prog 9 #[planV P, .slice a ss.length sc, .int .u64 sd] w (Ret (.bool true) w) := by
  by_cases h : wideP P.fs P.fo = true ∨ wideS ss = true
  · exact or_wide P a ss sc sd w hp hgl hs hl h
  · obtain ⟨h1, h2⟩ := not_or.1 h
    have h1 : wideP P.fs P.fo = false := by simpa using h1
    have h2 : wideS ss = false := by simpa using h2
    by_cases h0 : checkE P ss = 0
    · exact or_main P a ss sc sd w hp hs hn hl h1 h2 h0 hsd
    · exact or_err P a ss sc sd w hp hs hn hl h1 h2 h0 hsd
end Go.Proofs.YtplbofhgmflnlaaGreat
