/-
  Walk: the law MatrixKeepsRules.
-/
import Derived.Test.YtplbofhgmflnlaaGreatMX1
import Derived.Test.YtplbofhgmflnlaaGreatNN5
import Derived.Test.YtplbofhgmflnlaaGreatPR
set_option linter.unusedVariables false
set_option linter.unusedSimpArgs false
namespace Go.Proofs.YtplbofhgmflnlaaGreat
open Go.RowKit
set_option maxRecDepth 100000 in
set_option maxHeartbeats 2000000 in
theorem together_any (P : Pw) (s u : Se) (w : World) (h : PlanAt w P) (hf : P.fs.length ≤ 8) (hs : Ints w s.lv.a s.lv.xs) (hu : Ints w u.lv.a u.lv.xs)
    (ls : s.lv.xs.length = P.fs.length) (lu : u.lv.xs.length = P.fs.length) :
    Calls Tryz.prog 50 #[planV P, setV s, setV u] w (Ret (.bool (sameG P.fs s u)) w) := by
  obtain ⟨fs, fa, fc, fo, ga, gc⟩ := P
  obtain ⟨⟨xa, xs, xc⟩, xb⟩ := s
  obtain ⟨⟨ya, ys, yc⟩, yb⟩ := u
  have HH := Lib.hid h; have HX := Lib.hid hs; have HY := Lib.hid hu
  have LX := Lib.hid ls; have LY := Lib.hid lu
  have HS : Hid (sameG fs ⟨⟨xa, xs, xc⟩, xb⟩ ⟨⟨ya, ys, yc⟩, yb⟩ = (((List.range fs.length).all fun i => !hardB fs xs ys i) && (xb == yb))) := rfl
  simp only at hf ⊢
  clear h hs hu ls lu
  have hxn : fs.length ≤ xs.length := by have := LX.out; simp only at this; omega
  have hyn : fs.length ≤ ys.length := by have := LY.out; simp only at this; omega
  go_enter Tryz.func50, Tryz.ntmps50
  go_wp2_with (fail)
  generalize hw1 : World.alloc _ _ = w1
  obtain ⟨he, o1, o2, o3, -⟩ := alloc3 hw1
  obtain ⟨b0, b1⟩ := obj_cells2 o1
  obtain ⟨s0, s1⟩ := obj_cells2 o2
  obtain ⟨t0, t1⟩ := obj_cells2 o3
  clear hw1 o1 o2 o3
  have HE := Lib.hid he
  clear he
  go_loopw [7] (fun i wr => ∃ k : Nat, k ≤ fs.length ∧ i = .int .i64 k ∧ Ext w1 wr ∧ Hid (∀ j, j < k → hardB fs xs ys j = false)) (fun i _ => fs.length - (intOf i).toNat)
  case atStart => exact ⟨0, Nat.zero_le _, rfl, Ext.refl _, fun j hj => by omega⟩
  case round =>
    obtain ⟨k, hk, rfl, hr, hh⟩ := hrel
    have B0 := fun W (e : Ext wr W) => b0 W (hr.trans e)
    have S0 := fun W (e : Ext wr W) => s0 W (hr.trans e)
    have T0 := fun W (e : Ext wr W) => t0 W (hr.trans e)
    have S1 := fun W (e : Ext wr W) => s1 W (hr.trans e)
    have T1 := fun W (e : Ext wr W) => t1 W (hr.trans e)
    have hr0 := Ext.refl wr
    clear b0 s0 t0 s1 t1
    by_cases hlt : k < fs.length
    · obtain ⟨fb, fu, rfl, g0, g1, g2⟩ := fac_at (HH.out.fs.ext facC_len (HE.out.trans hr)) k hlt
      obtain ⟨xo, xp, rfl, d0⟩ := (HX.out.ext (HE.out.trans hr)).at k (by show k < xs.length; omega)
      obtain ⟨yo, yp, rfl, e0⟩ := (HY.out.ext (HE.out.trans hr)).at k (by show k < ys.length; omega)
      have hxk : k < xs.length := by omega
      have hyk : k < ys.length := by omega
      have HB : Hid (hardB fs xs ys k = ((fth fs k).hard && (nth xs k != nth ys k))) := rfl
      obtain ⟨H, hH⟩ : ∃ H, H = (fth fs k).hard := ⟨_, rfl⟩
      rw [← hH] at g2 HB
      clear hH g0 g1
      have hno : H = true → (nth xs k != nth ys k) = true → Hid ((List.range fs.length).all (fun i => !hardB fs xs ys i) = false) := fun h1 h2 => by
        rw [Hid, List.all_eq_false]
        exact ⟨k, List.mem_range.2 hlt, by rw [HB.out, h1, h2]; simp⟩
      have hyes : (H && (nth xs k != nth ys k)) = false → Hid (∀ j, j < k + 1 → hardB fs xs ys j = false) := fun h1 j hj => by
        rcases Nat.lt_succ_iff_lt_or_eq.1 hj with h | h
        · exact hh.out j h
        · subst h; rw [HB.out]; exact h1
      have HNO := Lib.hid hno; have HYES := Lib.hid hyes
      clear hno hyes hh HB
      cases H
      · have HN := HYES.out (by simp)
        clear HNO HYES
        go_upto_region 4 with fail
        refine wp_region_ext (by kernel_rfl) (by kernel_rfl) hr0 ?_
        repeat (first | go_big_quiet_step (((fail))) | quiet_step (((fail))))
        refine wpQuiet_nil ?_
        rintro _ ⟨nq, rfl⟩
        have hq2 := nq.ok
        go_wp2_with (fail)
        go_roundw
        case rel => exact ⟨k + 1, by omega, by go_num, hr.trans hq2, HN⟩
        case measure => simp [intOf]; omega
      · cases T : (nth xs k != nth ys k)
        · have HN := HYES.out (by rw [T]; rfl)
          clear HNO HYES
          go_upto_region 4 with fail
          refine wp_region_ext (by kernel_rfl) (by kernel_rfl) hr0 ?_
          repeat (first | go_big_quiet_step (((fail))) | quiet_step (((fail))))
          refine wpQuiet_nil ?_
          rintro _ ⟨nq, rfl⟩
          have hq2 := nq.ok
          go_wp2_with (fail)
          go_roundw
          case rel => exact ⟨k + 1, by omega, by go_num, hr.trans hq2, HN⟩
          case measure => simp [intOf]; omega
        · have HN := HNO.out rfl T
          clear HNO HYES
          go_upto_region 4 with fail
          refine wp_region_ext (by kernel_rfl) (by kernel_rfl) hr0 ?_
          repeat (first | go_big_quiet_step (((fail))) | quiet_step (((fail))))
          refine wpQuiet_nil ?_
          rintro _ ⟨nq, rfl⟩
          have hq2 := nq.ok
          go_wp2_with (fail)
          go_ret
          exact ⟨by rw [HS.out, HN.out]; rfl, HE.out.trans (hr.trans hq2)⟩
    · obtain rfl : k = fs.length := by omega
      have HN : Hid ((List.range fs.length).all (fun i => !hardB fs xs ys i) = true) := by
        rw [Hid, List.all_eq_true]
        intro j hj
        rw [hh.out j (List.mem_range.1 hj)]; rfl
      go_wp2_with (fail)
      go_ret
      exact ⟨by rw [HS.out, HN.out]; rfl, HE.out.trans hr⟩
set_option maxRecDepth 100000 in
set_option maxHeartbeats 4000000 in
theorem kr_wide (P : Pw) (a : Option Addr) (ss : List Se) (sc : Nat) (sd : Int) (w : World) (hp : PlanAt w P) (hgl : ∀ i, i < P.fo.length → (gth P.fo i).xs.length ≤ 9223372036854775807) (hs : SetsAt w a ss) (hl : ∀ i, i < ss.length → (eth ss i).lv.xs.length ≤ 9223372036854775807)
    (h : wideP P.fs P.fo = true ∨ wideS ss = true) :
    Calls Tryz.prog 10 #[planV P, .slice a ss.length sc, .int .u64 sd] w (Ret (.bool true) w) := by
  have hwp := fun W (e : Ext w W) => wideP_any P.fs P.fo P.fa P.ga P.fc P.gc W (hp.ext e).fo hgl
  have hws := fun W (e : Ext w W) => wideS_any ss a sc W (hs.ext e).row hl
  obtain ⟨x, hx⟩ : ∃ x, x = wideP P.fs P.fo := ⟨_, rfl⟩
  obtain ⟨y, hy⟩ : ∃ y, y = wideS ss := ⟨_, rfl⟩
  obtain ⟨fs, fa, fc, fo, ga, gc⟩ := P
  simp only at hwp hx h
  rw [← hx] at hwp h
  rw [← hy] at hws h
  have HWP := Lib.hid hwp; have HWS := Lib.hid hws
  obtain ⟨n, hn⟩ : ∃ n, n = ss.length := ⟨_, rfl⟩
  rw [← hn] at HWS ⊢
  clear hwp hws hp hs hgl hl hx hy hn
  have hd : x = true ∨ (x = false ∧ y = true) := by
    cases x <;> cases y <;> simp at h ⊢
  clear h
  rcases hd with rfl | ⟨rfl, rfl⟩ <;> (
  go_enter Tryz.func10, Tryz.ntmps10
  go_wp2_with (fail)
  generalize hw1 : World.alloc _ _ = w1
  obtain ⟨he, o1, -⟩ := alloc1 hw1
  obtain ⟨b0, b1⟩ := obj_cells2 o1
  have E1 := Ext.refl w1
  have HE := Lib.hid he
  clear hw1 o1 he
  go_wp2_with (first
    | (go_at_call 15; (with_reducible refine (HWP.out _ HE.out).mono ?_); rintro e w2 ⟨rfl, he2⟩; have HE2 : Hid (Ext w w2) := HE.out.trans he2)
    | (go_at_call 16; (with_reducible refine (HWS.out _ HE2.out).mono ?_); rintro e w3 ⟨rfl, he3⟩; have HE3 : Hid (Ext w w3) := HE2.out.trans he3)
    | (go_at_call 17; (with_reducible refine (known_any _).mono ?_); rintro e w4 ⟨rfl, he4⟩))
  go_ret
  first | exact ⟨rfl, HE3.out.trans he4⟩ | exact ⟨rfl, HE2.out.trans he4⟩)
set_option maxRecDepth 100000 in
set_option maxHeartbeats 4000000 in
theorem kr_err (P : Pw) (a : Option Addr) (ss : List Se) (sc : Nat) (sd : Int) (w : World) (hp : PlanAt w P) (hb : PlanB P) (hs : SetsAt w a ss) (hn : ss.length ≤ 9223372036854775807) (hl : ∀ i, i < ss.length → (eth ss i).lv.xs.length ≤ 9223372036854775807)
    (h1 : wideP P.fs P.fo = false) (h2 : wideS ss = false) (h0 : checkE P ss ≠ 0) :
    Calls Tryz.prog 10 #[planV P, .slice a ss.length sc, .int .u64 sd] w (Ret (.bool true) w) := by
  have hwp := fun W (e : Ext w W) => wideP_any P.fs P.fo P.fa P.ga P.fc P.gc W (hp.ext e).fo (fun i hi => by have := hb.pl i hi; omega)
  have hws := fun W (e : Ext w W) => wideS_any ss a sc W (hs.ext e).row hl
  have hch := fun W (e : Ext w W) => Order_no P a ss sc sd W (hp.ext e) hb (hs.ext e) hn hl _ rfl h0
  have HSA : Hid (∀ W, Calls Tryz.prog 25 #[.slice none 0 0, .slice none 0 0] W (Ret (.bool true) W)) := fun W => same_any [] [] none none 0 0 0 0 W (.inl rfl) (.inl rfl) rfl rfl (by omega) (by omega)
  obtain ⟨q, hq⟩ : ∃ q, q = checkE P ss := ⟨_, rfl⟩
  rw [← hq] at hch h0
  obtain ⟨fs, fa, fc, fo, ga, gc⟩ := P
  simp only at hwp h1
  rw [h1] at hwp
  rw [h2] at hws
  have HWP := Lib.hid hwp; have HWS := Lib.hid hws; have HCH := Lib.hid hch
  obtain ⟨n, hn2⟩ : ∃ n, n = ss.length := ⟨_, rfl⟩
  rw [← hn2] at HWS HCH ⊢
  clear hwp hws hch hp hs hb hl hq hn hn2 h1 h2
  have hq0 : (q != 0) = true := by simpa using h0
  clear h0
  go_enter Tryz.func10, Tryz.ntmps10
  go_wp2_with (fail)
  generalize hw1 : World.alloc _ _ = w1
  obtain ⟨he, o1, -⟩ := alloc1 hw1
  obtain ⟨b0, b1⟩ := obj_cells2 o1
  have E1 := Ext.refl w1
  have HE := Lib.hid he
  clear hw1 o1 he
  go_wp2_with (first
    | (go_at_call 15; (with_reducible refine (HWP.out _ HE.out).mono ?_); rintro e w2 ⟨rfl, he2⟩; have HE2 : Hid (Ext w w2) := HE.out.trans he2)
    | (go_at_call 16; (with_reducible refine (HWS.out _ HE2.out).mono ?_); rintro e w3 ⟨rfl, he3⟩; have HE3 : Hid (Ext w w3) := HE2.out.trans he3; have HF3 : Hid (Ext w w3) := HE3.out; have he13 : Ext w1 w3 := he2.trans he3)
    | (go_at_call 47; (with_reducible refine (HCH.out _ HE3.out).mono ?_); clear HE3; rintro e w4 ⟨rfl, he4⟩; have HE4 : Hid (Ext w w4) := HF3.out.trans he4; have he14 : Ext w1 w4 := he13.trans he4)
    | (go_at_call 47; (with_reducible refine (HCH.out _ HE4.out).mono ?_); rintro e w5 ⟨rfl, he5⟩; have HE5 : Hid (Ext w w5) := HE4.out.trans he5)
    | (go_at_call 25; (with_reducible refine (HSA.out _).mono ?_); rintro e w6 ⟨rfl, he6⟩)
    | (go_at_call 17; (with_reducible refine (known_any _).mono ?_); rintro e w7 ⟨rfl, he7⟩))
  go_ret
  exact ⟨rfl, HE5.out.trans (he6.trans he7)⟩
set_option maxRecDepth 100000 in
set_option maxHeartbeats 8000000 in
theorem kr_main (P : Pw) (a : Option Addr) (ss : List Se) (sc : Nat) (sd : Int) (w : World) (hp : PlanAt w P) (hb : PlanB P) (hs : SetsAt w a ss) (hn : ss.length ≤ 2000) (hl : ∀ i, i < ss.length → (eth ss i).lv.xs.length ≤ 9223372036854775807)
    (h1 : wideP P.fs P.fo = false) (h2 : wideS ss = false) (h0 : checkE P ss = 0) (hsd : 0 ≤ sd ∧ sd < 18446744073709551616) :
    Calls Tryz.prog 10 #[planV P, .slice a ss.length sc, .int .u64 sd] w (Ret (.bool true) w) := by
  have hwp := fun W (e : Ext w W) => wideP_any P.fs P.fo P.fa P.ga P.fc P.gc W (hp.ext e).fo (fun i hi => by have := hb.pl i hi; omega)
  have hws := fun W (e : Ext w W) => wideS_any ss a sc W (hs.ext e).row hl
  obtain ⟨c1, c2, c3⟩ := checkE_ok h0
  obtain ⟨n, hnn⟩ : ∃ n, n = ss.length := ⟨_, rfl⟩
  obtain ⟨L, hL⟩ : ∃ L, L = ordS P ss sd := ⟨_, rfl⟩
  have hL2 : L = ordL (fun i => gL P.fs (eth ss i)) n sd := by rw [hL, hnn]
  have hperm : L.Perm (rngI n) := by rw [hL2]; exact ordL_perm (by omega)
  have hlen : L.length = n := by rw [hperm.length_eq, rngI_len]
  have HCH : Hid (∀ W, Ext w W → Calls Tryz.prog 47 #[planV P, .slice a n sc, .int .u64 sd] W (fun e w' => ∃ a' c', e = .returned (.tuple #[.slice a' n c', .int .i64 0]) ∧ Ext W w' ∧ Ints w' a' L)) := fun W e => by
    have := Order_ok P a ss sc sd W (hp.ext e) hb (hs.ext e) hl h0 hsd
    rw [← hL, hlen, ← hnn] at this
    refine this.mono ?_
    rintro e w' ⟨a', c', rfl, he, ho⟩
    exact ⟨a', c', rfl, he, ho.ints.1⟩
  have HSA : Hid (∀ W a b c d, Ints W a L → Ints W b L → Calls Tryz.prog 25 #[.slice a n c, .slice b n d] W (Ret (.bool true) W)) := fun W a b c d h1 h2 => by
    have := same_any L L a b n n c d W h1 h2 hlen hlen (by omega) (by omega)
    rwa [show sameB L L = true by simp [sameB]] at this
  have HIX : Hid (∀ k, k < n → ∃ p : Nat, p < n ∧ nth L k = (p : Int)) := fun k hk => by
    have : nth L k ∈ L := by rw [nth_eq _ _ (by rw [hlen]; exact hk)]; exact List.getElem_mem _
    exact rngI_mem.1 (hperm.mem_iff.1 this)
  have HND : Hid (∀ k, k < n → ¬ nth L k ∈ L.take k) := fun k hk hm => by
    have hnd : L.Nodup := hperm.nodup_iff.2 (by rw [rngI_nat]; unfold natI; exact List.Pairwise.map _ (fun a b h => by omega) List.nodup_range)
    have hkl : k < L.length := by rw [hlen]; exact hk
    rw [nth_eq _ _ hkl] at hm
    obtain ⟨i, hi, he⟩ := List.getElem_of_mem hm
    rw [List.getElem_take] at he
    rw [List.length_take] at hi
    have := (List.getElem_inj hnd).1 he
    omega
  have HTK : Hid (∀ k, k < n → L.take (k + 1) = L.take k ++ [nth L k]) := fun k hk => take_nth (by rw [hlen]; exact hk)
  obtain ⟨TG, hTG⟩ : ∃ TG : Nat → Nat → Bool, TG = fun p q => sameG P.fs (eth ss p) (eth ss q) := ⟨_, rfl⟩
  have hf8 := (planOk c1).1
  have HCT : Hid (∀ W p q, Ext w W → p < n → q < n → Calls Tryz.prog 50 #[planV P, setV (eth ss p), setV (eth ss q)] W (Ret (.bool (TG p q)) W)) := fun W p q e hp' hq' => by
    rw [hnn] at hp' hq'
    rw [hTG]
    exact together_any P (eth ss p) (eth ss q) W (hp.ext e) hf8 ((hs.ext e).lv p hp') ((hs.ext e).lv q hq') (levB_len (setOk (c3 p hp')).1) (levB_len (setOk (c3 q hq')).1)
  have HTG : Hid (∀ j y p q r : Nat, j ≤ y → y + 1 < n → nth L j = (p : Int) → nth L y = (r : Int) → nth L (y + 1) = (q : Int) → TG p q = true → TG r q = true) := fun j y p q r hj hy e1 e2 e3 h => by
    rw [hTG] at h ⊢
    rw [sameG_key hf8] at h ⊢
    rw [hL2] at e1 e2 e3
    have := ordL_together (K := fun i => gL P.fs (eth ss i)) (n := n) (sd := sd) (by omega) hj (Nat.le_succ y) (by rw [← hL2, hlen]; exact hy) (by rw [e1, e3, Int.toNat_natCast, Int.toNat_natCast]; exact h)
    rw [e2, e3, Int.toNat_natCast, Int.toNat_natCast] at this
    exact this
  have HBL : Hid (∀ y r q : Nat, y + 1 < n → nth L y = (r : Int) → nth L (y + 1) = (q : Int) → ¬ (eth ss q).blk < (eth ss r).blk) := fun y r q hy e2 e3 => by
    have hy1 : y < L.length := by rw [hlen]; omega
    have hy2 : y + 1 < L.length := by rw [hlen]; omega
    rw [nth_eq _ _ hy1] at e2
    rw [nth_eq _ _ hy2] at e3
    have hb : L.Pairwise (fun x y => KB (fun i => gL P.fs (eth ss i)) x.toNat ≤ KB (fun i => gL P.fs (eth ss i)) y.toNat) := by rw [hL2]; exact ordL_blocks (by omega)
    have := List.pairwise_iff_getElem.1 hb y (y + 1) hy1 hy2 (by omega)
    rw [e2, e3, Int.toNat_natCast, Int.toNat_natCast] at this
    have e4 : ∀ i, KB (fun i => gL P.fs (eth ss i)) i = (eth ss i).blk := fun i => rfl
    rw [e4, e4] at this
    omega
  have HMN := Lib.hid (run_madeT 50 Tryz.underlying50 n (by omega))
  obtain ⟨fs, fa, fc, fo, ga, gc⟩ := P
  simp only at hwp h1
  rw [h1] at hwp
  rw [h2] at hws
  rw [← hnn] at hws
  have HWP := Lib.hid hwp; have HWS := Lib.hid hws
  have HS := Lib.hid hs; have HNN := Lib.hid hnn; have HLN := Lib.hid hlen
  rw [← hnn]
  have hn2 : n ≤ 2000 := by omega
  clear hwp hws hp hb hl h1 h2 hperm hL hL2 hTG hf8 c1 c2 c3 h0 hs hnn hlen hsd hn
  go_enter Tryz.func10, Tryz.ntmps10
  go_wp2_with (fail)
  generalize hw1 : World.alloc _ _ = w1
  obtain ⟨he, o1, -⟩ := alloc1 hw1
  obtain ⟨b0, b1⟩ := obj_cells2 o1
  have E1 := Ext.refl w1
  have HE := Lib.hid he
  clear hw1 o1 he
  have hmn := HMN.out
  go_wp2_with (first
    | (go_at_call 15; (with_reducible refine (HWP.out _ HE.out).mono ?_); rintro e w2 ⟨rfl, he2⟩; have HE2 : Hid (Ext w w2) := HE.out.trans he2)
    | (go_at_call 16; (with_reducible refine (HWS.out _ HE2.out).mono ?_); rintro e w3 ⟨rfl, he3⟩; have HE3 : Hid (Ext w w3) := HE2.out.trans he3; have HF3 : Hid (Ext w w3) := HE3.out; have he13 : Ext w1 w3 := he2.trans he3)
    | (go_at_call 47; (with_reducible refine (HCH.out _ HE3.out).mono ?_); clear HE3; rintro e w4 ⟨oa, oc, rfl, he4, hi4⟩; have HE4 : Hid (Ext w w4) := HF3.out.trans he4; have he14 : Ext w1 w4 := he13.trans he4; have HI4 := Lib.hid hi4; clear hi4)
    | (go_at_call 47; (with_reducible refine (HCH.out _ HE4.out).mono ?_); rintro e w5 ⟨oa', oc', rfl, he5, hi5⟩; have HE5 : Hid (Ext w w5) := HE4.out.trans he5; have HI5 := Lib.hid hi5; clear hi5)
    | (go_at_call 25; (with_reducible refine (HSA.out _ _ _ _ _ (HI4.out.ext he5) HI5.out).mono ?_); rintro e w6 ⟨rfl, he6⟩))
  have HE6 : Hid (Ext w w6) := HE5.out.trans he6
  have HE16 : Hid (Ext w1 w6) := he14.trans (he5.trans he6)
  have HI6 : Hid (Ints w6 oa L) := (HI4.out.ext he5).ext he6
  generalize hw9 : madeT w6 n = w9
  obtain ⟨he9, ho9, hs9⟩ := madeT_facts (by omega) hw9
  obtain ⟨g, hg⟩ : ∃ g, g = w6.heap.size := ⟨_, rfl⟩
  rw [← hg] at ho9 hs9 ⊢
  rw [← BIT_nil] at ho9
  have HX9 := Lib.hid he9; have HO9 := Lib.hid ho9; have HGG := Lib.hid hg
  clear hmn HMN HWP HWS HCH HSA HI4 HI5 HE HE2 HF3 HE4 HE5 he2 he3 he13 he4 he14 he5 he6 hw9 he9 ho9 hs9 hg
  go_loopw [12, 13] (fun i _ wr => ∃ k : Nat, k ≤ n ∧ i = .int .i64 k ∧ Hid (Ext w6 wr) ∧ Hid (OwnT wr g (.slice (some ⟨g, 0, none⟩) n n) (BIT n (L.take k)))) (fun i _ _ => n - (intOf i).toNat)
  case atStart => exact ⟨0, Nat.zero_le _, rfl, HX9.out, HO9.out⟩
  case round =>
    obtain ⟨k, hk, rfl, HX, HT⟩ := hrel
    by_cases hlt : k < n
    · obtain ⟨p, hp, hpe⟩ := HIX.out k hlt
      have hpl : p < (BIT n (L.take k)).length := by rw [BIT_len]; exact hp
      have hseen : ∀ W, Ext wr W → W.cell? ⟨g, p, none⟩ = some (.bool false) := fun W e => by
        obtain ⟨g', hg', -, -, hc⟩ := OwnF.cell bitC_len (OwnF.ext HT.out e) p hpl
        simp only [Option.some.injEq, Addr.mk.injEq, and_true] at hg'
        obtain rfl := hg'
        have := hc 0 (by omega)
        have hnd := HND.out k hlt
        rw [hpe] at hnd
        rw [BIT_at _ _ _ hp, decide_eq_false hnd] at this
        simpa [bitC] using this
      have hfr : ∀ W, Ext wr W → W.frozen? ⟨g, p, none⟩ = false := fun W e => by
        have h := OwnF.ext HT.out e
        unfold OwnF at h
        rw [BIT_len] at h
        exact World.ownsRow.frozenAt h p
      have HT2 : Hid (∀ W, Ext wr W → OwnT (W.setCell ⟨g, p, none⟩ (.bool true)) g (.slice (some ⟨g, 0, none⟩) n n) (BIT n (L.take (k + 1)))) := fun W e => by
        have := OwnF.setCell1 bitC_len (OwnF.ext HT.out e) p hpl 0 (by omega) (.bool true) true (by rw [BIT_at _ _ _ hp]; rfl)
        rw [Nat.mul_one, Nat.add_zero, BIT_set] at this
        rw [HTK.out k hlt, hpe]; exact this
      have HX2 : Hid (∀ W, Ext wr W → Ext w6 (W.setCell ⟨g, p, none⟩ (.bool true))) := fun W e => (HX.out.trans e).set (by rw [HGG.out]; exact Nat.le_refl _) _
      have hp0 : (0 : Int) ≤ (p : Int) := by omega
      have hpn : (p : Int) < (n : Int) := by omega
      obtain ⟨ob, oo, rfl, -⟩ := HI6.out.at k (by rw [HLN.out]; exact hlt)
      have HOC : Hid (∀ W j q, Ext w6 W → j < n → nth L j = ((q : Nat) : Int) → W.cell? ⟨ob, oo + j, none⟩ = some (.int .i64 (q : Int))) := fun W j q e hj hq => by
        obtain ⟨b', o', h1, h2⟩ := HI6.out.at j (by rw [HLN.out]; exact hj)
        simp only [Option.some.injEq, Addr.mk.injEq, and_true] at h1
        obtain ⟨rfl, rfl⟩ := h1
        rw [h2 W e, hq]
      have HPE := Lib.hid hpe
      have Er := Ext.refl wr
      clear hpl HT
      by_cases hk0 : k = 0
      · subst hk0
        have e1 : ∀ W, Ext wr W → W.cell? ⟨ob, oo, none⟩ = some (.int .i64 (p : Int)) := fun W e => HOC.out W 0 p (HX.out.trans e) hlt hpe
        clear hpe
        go_upto_region 13 with fail
        refine wp_region_ext (by kernel_rfl) (by kernel_rfl) Er ?_
        repeat (first | go_big_quiet_step (fail) | quiet_step (fail))
        refine wpQuiet_nil ?_
        rintro _ ⟨nq, rfl⟩
        have hq := nq.ok
        have hfr2 := hfr _ hq
        have hse2 := hseen _ hq
        have e2 := fun W (e : Ext nq.val W) => e1 W (hq.trans e)
        have hq0 := Ext.refl nq.val
        have HT3 := Lib.hid (HT2.out _ hq); have HX3 := Lib.hid (HX2.out _ hq)
        clear HT2 HX2 hfr hseen e1
        go_upto_region 16 with fail
        generalize hw10 : World.setCell nq.val _ _ = w10
        rw [hw10] at HT3 HX3
        go_wp2_with (fail)
        go_loopw [13] (fun j wr2 => j = .int .i64 0 ∧ wr2 = w10) (fun _ _ => 0)
        case atStart => exact ⟨rfl, rfl⟩
        case round =>
          obtain ⟨rfl, rfl⟩ := hrel
          go_wp2_with (fail)
          go_roundw
          case rel => exact ⟨0 + 1, by omega, by go_num, HX3.out, HT3.out⟩
          case measure => simp [intOf]; omega
      · obtain ⟨y, rfl⟩ : ∃ y, k = y + 1 := ⟨k - 1, by omega⟩
        obtain ⟨r, hr, hre⟩ := HIX.out y (by omega)
        have e1 : ∀ W, Ext wr W → W.cell? ⟨ob, oo + (y + 1), none⟩ = some (.int .i64 (p : Int)) := fun W e => HOC.out W (y + 1) p (HX.out.trans e) hlt hpe
        have e2 : ∀ W, Ext wr W → W.cell? ⟨ob, oo + y, none⟩ = some (.int .i64 (r : Int)) := fun W e => HOC.out W y r (HX.out.trans e) (by omega) hre
        obtain ⟨sb, so, rfl, c0, c1⟩ := set_at (HS.out.ext (HE6.out.trans HX.out)).row p (by rw [← HNN.out]; exact hp)
        obtain ⟨sb', so', hbo, d0, d1⟩ := set_at (HS.out.ext (HE6.out.trans HX.out)).row r (by rw [← HNN.out]; exact hr)
        simp only [Option.some.injEq, Addr.mk.injEq, and_true] at hbo
        obtain ⟨rfl, rfl⟩ := hbo
        have hbl : ¬ (eth ss p).blk < (eth ss r).blk := Int.not_lt.2 (HBL.out y r p hlt hre hpe)
        have HTY : Hid (∀ j q : Nat, j ≤ y → nth L j = (q : Int) → TG q p = true → TG r p = true) := fun j q hj e h => HTG.out j y q p r hj hlt e hre hpe h
        have HRE := Lib.hid hre
        obtain ⟨bp, hbp⟩ : ∃ bp, bp = (eth ss p).blk := ⟨_, rfl⟩
        obtain ⟨br, hbr⟩ : ∃ br, br = (eth ss r).blk := ⟨_, rfl⟩
        rw [← hbp, ← hbr] at hbl
        rw [← hbp] at c1
        rw [← hbr] at d1
        obtain ⟨A0, hA0⟩ : ∃ A0, A0 = Value.slice (eth ss p).lv.a (eth ss p).lv.xs.length (eth ss p).lv.c := ⟨_, rfl⟩
        obtain ⟨B0, hB0⟩ : ∃ B0, B0 = Value.slice (eth ss r).lv.a (eth ss r).lv.xs.length (eth ss r).lv.c := ⟨_, rfl⟩
        rw [← hA0] at c0; rw [← hB0] at d0
        have HVP : Hid (setV (eth ss p) = .agg #[A0, .int .i64 bp]) := by rw [hA0, hbp]; rfl
        have HVR : Hid (setV (eth ss r) = .agg #[B0, .int .i64 br]) := by rw [hB0, hbr]; rfl
        have hyx : ((y + 1 : Nat) : Int) - 1 = (y : Int) := by omega
        have hwx : IntKind.i64.wrap (y : Int) = (y : Int) := by rw [IntKind.wrap_i64]; omega
        have hyn : (y : Int) < (n : Int) := by omega
        have hy0 : (0 : Int) ≤ (y : Int) := by omega
        have hy1 : (0 : Int) < ((y + 1 : Nat) : Int) := by omega
        have hrn : (r : Int) < (n : Int) := by omega
        have hr0 : (0 : Int) ≤ (r : Int) := by omega
        have hpd : decide ((p : Int) < 0) = false := by simp
        have hpg : decide ((n : Int) ≤ (p : Int)) = false := by simp; omega
        have hpg2 : decide (n ≤ p) = false := by simp; omega
        have hpg3 : ¬ n ≤ p := by omega
        have hbd : decide (bp < br) = false := by simp; omega
        clear hpe hre hA0 hB0 hbp hbr
        go_upto_region 13 with fail
        refine wp_region_ext (by kernel_rfl) (by kernel_rfl) Er ?_
        repeat (first | go_big_quiet_step (fail) | quiet_step (fail))
        refine wpQuiet_nil ?_
        rintro _ ⟨nq, rfl⟩
        have hq := nq.ok
        have hfr2 := hfr _ hq
        have hse2 := hseen _ hq
        have e1' := fun W (e : Ext nq.val W) => e1 W (hq.trans e)
        have hq0 := Ext.refl nq.val
        have HT3 := Lib.hid (HT2.out _ hq); have HX3 := Lib.hid (HX2.out _ hq)
        have HO1 := Lib.hid e1; have HO2 := Lib.hid e2
        clear HT2 HX2 hfr hseen e1 e2 c0 c1 d0 d1
        go_upto_region 16 with fail
        generalize hw10 : World.setCell nq.val _ _ = w10
        rw [hw10] at HT3 HX3
        clear hw10 hfr2 hse2 e1' hq0
        go_wp2_with (fail)
        go_loopw [13] (fun j wr2 => ∃ i : Nat, (i ≤ y) ∧ j = .int .i64 i ∧ Hid (Ext w10 wr2)) (fun j _ => y + 1 - (intOf j).toNat)
        case atStart => exact ⟨0, Nat.zero_le _, rfl, Ext.refl _⟩
        case round =>
          obtain ⟨i, hi, rfl, HY⟩ := hrel
          by_cases hil : i + 1 < y + 1
          · obtain ⟨q, hqn, hqe⟩ := HIX.out i (by omega)
            have HX6 : Hid (Ext w6 wr) := HX3.out.trans HY.out
            obtain ⟨sb1, so1, hbo, f0, f1⟩ := set_at (HS.out.ext (HE6.out.trans HX6.out)).row q (by rw [← HNN.out]; exact hqn)
            simp only [Option.some.injEq, Addr.mk.injEq, and_true] at hbo
            obtain ⟨rfl, rfl⟩ := hbo
            obtain ⟨sb1, so1, hbo, c0, c1⟩ := set_at (HS.out.ext (HE6.out.trans HX6.out)).row p (by rw [← HNN.out]; exact hp)
            simp only [Option.some.injEq, Addr.mk.injEq, and_true] at hbo
            obtain ⟨rfl, rfl⟩ := hbo
            obtain ⟨sb1, so1, hbo, d0, d1⟩ := set_at (HS.out.ext (HE6.out.trans HX6.out)).row r (by rw [← HNN.out]; exact hr)
            simp only [Option.some.injEq, Addr.mk.injEq, and_true] at hbo
            obtain ⟨rfl, rfl⟩ := hbo
            have hvp := HVP.out
            have hvr := HVR.out
            simp only [setV, Value.agg.injEq, List.cons.injEq, Array.mk.injEq, and_true] at hvp hvr
            rw [hvp.1] at c0; rw [Value.int.injEq] at hvp; rw [hvp.2.2] at c1
            rw [hvr.1] at d0; rw [Value.int.injEq] at hvr; rw [hvr.2.2] at d1
            obtain ⟨F0, hF0⟩ : ∃ F0, F0 = Value.slice (eth ss q).lv.a (eth ss q).lv.xs.length (eth ss q).lv.c := ⟨_, rfl⟩
            obtain ⟨bq, hbq⟩ : ∃ bq, bq = (eth ss q).blk := ⟨_, rfl⟩
            have HVQ : Hid (setV (eth ss q) = .agg #[F0, .int .i64 bq]) := by rw [hF0, hbq]; rfl
            rw [← hF0] at f0
            rw [← hbq] at f1
            obtain ⟨x, hx⟩ : ∃ x, x = TG q p := ⟨_, rfl⟩
            obtain ⟨z, hz⟩ : ∃ z, z = TG r p := ⟨_, rfl⟩
            have HXZ : Hid (x = true → z = true) := fun h => by rw [hz]; exact HTY.out i q (by omega) hqe (by rw [← hx]; exact h)
            have HCA : Hid (∀ W, Ext wr W → Calls Tryz.prog 50 #[.agg #[.slice fa fs.length fc, .slice ga fo.length gc], .agg #[F0, .int .i64 bq], .agg #[A0, .int .i64 bp]] W (Ret (.bool x) W)) := fun W e => by
              have := HCT.out W q p (HE6.out.trans (HX6.out.trans e)) hqn hp
              rw [HVQ.out, HVP.out, ← hx] at this
              exact this
            have HCB : Hid (∀ W, Ext wr W → Calls Tryz.prog 50 #[.agg #[.slice fa fs.length fc, .slice ga fo.length gc], .agg #[B0, .int .i64 br], .agg #[A0, .int .i64 bp]] W (Ret (.bool z) W)) := fun W e => by
              have := HCT.out W r p (HE6.out.trans (HX6.out.trans e)) hr hp
              rw [HVR.out, HVP.out, ← hz] at this
              exact this
            have p0 := fun W (e : Ext wr W) => b0 W ((HE16.out.trans HX6.out).trans e)
            have p1 := fun W (e : Ext wr W) => b1 W ((HE16.out.trans HX6.out).trans e)
            have o0 : ∀ W, Ext wr W → W.cell? ⟨ob, oo + i, none⟩ = some (.int .i64 (q : Int)) := fun W e => HOC.out W i q (HX6.out.trans e) (by omega) hqe
            have o1 : ∀ W, Ext wr W → W.cell? ⟨ob, oo + (y + 1), none⟩ = some (.int .i64 (p : Int)) := fun W e => HOC.out W (y + 1) p (HX6.out.trans e) hlt HPE.out
            have o2 : ∀ W, Ext wr W → W.cell? ⟨ob, oo + y, none⟩ = some (.int .i64 (r : Int)) := fun W e => HOC.out W y r (HX6.out.trans e) (by omega) HRE.out
            have hin : (i : Int) < (n : Int) := by omega
            have hi0 : (0 : Int) ≤ (i : Int) := by omega
            have hqi : (q : Int) < (n : Int) := by omega
            have hq0 : (0 : Int) ≤ (q : Int) := by omega
            have hiy : (i : Int) + 1 < (y : Int) + 1 := by omega
            have Ew := Ext.refl wr
            clear hvp hvr hF0 hbq hx hz hqe
            have HF : Hid (x = false ∨ (x = true ∧ z = true)) := by
              cases x
              · exact .inl rfl
              · exact .inr ⟨rfl, HXZ.out rfl⟩
            rcases HF.out with rfl | ⟨rfl, rfl⟩
            all_goals
              go_upto_region 19 with fail
              refine wp_region_ext (by kernel_rfl) (by kernel_rfl) Ew ?_
              repeat (first | go_big_quiet_step ((go_at_call 50; first | with_reducible exact Calls.later (HCA.out _ (Later.ok _)) | with_reducible exact Calls.later (HCB.out _ (Later.ok _)))) | quiet_step ((go_at_call 50; first | with_reducible exact Calls.later (HCA.out _ (Later.ok _)) | with_reducible exact Calls.later (HCB.out _ (Later.ok _)))))
              refine wpQuiet_nil ?_
              rintro _ ⟨nq2, rfl⟩
              have hq2 := nq2.ok
              go_wp2_with (fail)
              go_roundw
              case rel => exact ⟨i + 1, by omega, by go_num, HY.out.trans hq2⟩
              case measure => simp [intOf]; omega
          · obtain rfl : i = y := by omega
            go_wp2_with (fail)
            go_roundw
            case rel => exact ⟨i + 1 + 1, by omega, by go_num, HX3.out.trans HY.out, OwnF.ext HT3.out HY.out⟩
            case measure => simp [intOf]; omega
    · obtain rfl : k = n := by omega
      go_wp2_with (go_at_call 17; (with_reducible refine (known_any _).mono ?_); rintro e w7 ⟨rfl, he7⟩)
      go_ret
      exact ⟨rfl, (HE6.out.trans HX.out).trans he7⟩
end Go.Proofs.YtplbofhgmflnlaaGreat
