/-
  Walk: Changes.
-/
import Derived.Test.YtplbofhgmflnlaaGreatSV
import Derived.Test.YtplbofhgmflnlaaGreatPK
set_option linter.unusedVariables false
set_option linter.unusedSimpArgs false
namespace Go.Proofs.YtplbofhgmflnlaaGreat
open Go.RowKit
theorem Changes_err (P : Pw) (a : Option Addr) (ss : List Se) (sc : Nat) (v : Value) (w : World) (hp : PlanAt w P) (hb : PlanB P) (hs : SetsAt w a ss) (hn : ss.length ≤ 9223372036854775807) (hl : ∀ i, i < ss.length → (eth ss i).lv.xs.length ≤ 9223372036854775807) (h0 : checkE P ss ≠ 0) :
    Calls Tryz.prog 19 #[planV P, .slice a ss.length sc, v] w (Ret (.tuple #[.int .i64 0, .int .i64 (checkE P ss)]) w) := by
  have hck := fun W (e : Ext w W) => check_any P a ss sc W (hp.ext e) hb (hs.ext e) hn hl
  obtain ⟨q, hq⟩ : ∃ q, q = checkE P ss := ⟨_, rfl⟩
  rw [← hq] at hck h0 ⊢
  obtain ⟨fs, fa, fc, fo, ga, gc⟩ := P
  have HCK := Lib.hid hck
  clear hck hp hb hs hl hq
  go_enter Tryz.func19, Tryz.ntmps19
  go_wp2_with (fail)
  generalize hw1 : World.alloc _ _ = w1
  obtain ⟨he, o1, -⟩ := alloc1 hw1
  obtain ⟨b0, b1⟩ := obj_cells2 o1
  have HE := Lib.hid he
  have E1 := Ext.refl w1
  clear hw1 o1 he
  go_wp2_with (go_at_call 69; (with_reducible refine (HCK.out _ HE.out).mono ?_); rintro e w2 ⟨rfl, he2⟩)
  go_ret2
  exact ⟨rfl, HE.out.trans he2⟩
/-- What the changes of an order of numbers cost. -/
def chgV (fs : List Fac) (ss : List Se) (xs : List Int) : Int := pathC (costM fs ss) (xs.map Int.toNat)
theorem path_snoc (T : Nat → Nat → Int) : ∀ (l : List Nat) (x y : Nat), pathC T (l ++ [x, y]) = pathC T (l ++ [x]) + T x y
  | [], x, y => by simp [pathC]
  | [a], x, y => by simp [pathC]
  | a :: b :: l, x, y => by
    have ih := path_snoc T (b :: l) x y
    simp only [List.cons_append, pathC] at ih ⊢
    omega
theorem chg_succ (fs : List Fac) (ss : List Se) (xs : List Int) (k : Nat) (hk : k + 1 < xs.length) : chgV fs ss (xs.take (k + 2)) = chgV fs ss (xs.take (k + 1)) + costM fs ss (nth xs k).toNat (nth xs (k + 1)).toNat := by
  unfold chgV
  rw [take_nth (by omega), take_nth (by omega), List.append_assoc, List.map_append, List.map_append]
  simp only [List.map_append, List.map_cons, List.map_nil, List.cons_append, List.nil_append]
  exact path_snoc _ _ _ _
theorem chg_one (fs : List Fac) (ss : List Se) (xs : List Int) : chgV fs ss (xs.take 1) = 0 := by
  cases xs <;> simp [chgV, pathC]
set_option maxHeartbeats 4000000 in
theorem Changes_ok (P : Pw) (a : Option Addr) (ss : List Se) (sc : Nat) (oa : Option Addr) (xs : List Int) (oc : Nat) (w : World) (hp : PlanAt w P) (hb : PlanB P) (hs : SetsAt w a ss) (hn : ss.length ≤ 2000) (hl : ∀ i, i < ss.length → (eth ss i).lv.xs.length ≤ 9223372036854775807) (hv : checkE P ss = 0)
    (ho : Ints w oa xs) (hxl : xs.length ≤ 1000000) (hoc : xs.length ≤ oc) :
    Calls Tryz.prog 19 #[planV P, .slice a ss.length sc, .slice oa xs.length oc] w (Ret (if xs.Perm (rngI ss.length) then .tuple #[.int .i64 (chgV P.fs ss xs), .int .i64 0] else .tuple #[.int .i64 0, .int .i64 2]) w) := by
  have hck := fun W (e : Ext w W) => check_any P a ss sc W (hp.ext e) hb (hs.ext e) (by omega) hl
  rw [hv] at hck
  obtain ⟨h1, h2, h3⟩ := checkE_ok hv
  have HCK := Lib.hid hck
  have HSO : Hid (∀ W n, Ext w W → W.heap.size = n → Calls Tryz.prog 72 #[.func (.func 110) #[] #[.pointer (some ⟨n, 0, none⟩)]] (W.alloc (.cells #[.slice oa xs.length oc] 31)) (fun e w' => ∃ a c, e = .returned (.slice a xs.length c) ∧ Ext W w' ∧ Ints w' a (srt xs))) := fun W n e hn => by
    subst hn
    have hx := (Ext.refl W).alloc (.cells #[.slice oa xs.length oc] 31)
    refine (sorted_any W.heap.size oa oc xs (W.alloc (.cells #[.slice oa xs.length oc] 31)) hxl (by rw [heap_size]; omega) ((obj_cells1 (heap_new W _)) _ (Ext.refl _)) ((ho.ext e).ext hx)).mono ?_
    rintro e w' ⟨a, c, rfl, he, ho⟩
    rw [srt_len] at ho ⊢
    exact ⟨a, c, rfl, hx.trans he, ho.ints.1⟩
  have HNU : Hid (∀ W, Calls Tryz.prog 74 #[.int .i64 ss.length] W (fun e w' => ∃ g c, e = .returned (.slice (some ⟨g, 0, none⟩) ss.length c) ∧ Ext W w' ∧ Ints w' (some ⟨g, 0, none⟩) (rngI ss.length))) := fun W => (numbers_any ss.length W (by omega)).mono (by
    rintro e w' ⟨g, c, rfl, he, ho⟩
    rw [rngI_len] at ho ⊢
    exact ⟨g, c, rfl, he, ho.ints.1⟩)
  have HEQ : Hid (∀ W a b c d, Ints W a (srt xs) → Ints W b (rngI ss.length) → Calls Tryz.prog 71 #[.slice a xs.length c, .slice b ss.length d] W (Ret (.bool (sameB (srt xs) (rngI ss.length))) W)) := fun W a b c d h1 h2 =>
    equal_any _ _ a b _ _ c d W h1 h2 (srt_len xs) (rngI_len _) hxl (by omega)
  have hsb : sameB (srt xs) (rngI ss.length) = decide (xs.Perm (rngI ss.length)) := by
    unfold sameB; rw [decide_eq_decide]; exact srt_eq
  by_cases hperm : xs.Perm (rngI ss.length)
  · rw [if_pos hperm]
    rw [hsb, decide_eq_true hperm] at HEQ
    have hm : xs.length = ss.length := by rw [hperm.length_eq, rngI_len]
    have HIX : Hid (∀ k, k < ss.length → ∃ p : Nat, p < ss.length ∧ nth xs k = (p : Int)) := fun k hk => by
      have : nth xs k ∈ xs := by rw [nth_eq _ _ (by omega)]; exact List.getElem_mem _
      exact rngI_mem.1 (hperm.mem_iff.1 this)
    have HCO : Hid (∀ W p q, Ext w W → p < ss.length → q < ss.length → Calls Tryz.prog 75 #[planV P, setV (eth ss p), setV (eth ss q)] W (Ret (.int .i64 (costM P.fs ss p q)) W)) := fun W p q e hp' hq' =>
      cost_any P (eth ss p) (eth ss q) W (hp.ext e) (planOk h1).1 (fun i hi => (anyFac_off (planOk h1).2.2.1 i hi).2.2) ((hs.ext e).lv p hp') ((hs.ext e).lv q hq') (levB_len (setOk (h3 p hp')).1) (levB_len (setOk (h3 q hq')).1)
    have HCB : Hid (∀ p q, 0 ≤ costM P.fs ss p q ∧ costM P.fs ss p q ≤ 8000) := fun p q => by
      have h8 := (planOk h1).1
      have := costTo_bd (eth ss p).lv.xs (eth ss q).lv.xs (fun i hi => (anyFac_off (planOk h1).2.2.1 i hi).2.2) P.fs.length (Nat.le_refl _)
      unfold costM costS
      omega
    have HCH : Hid (∀ k, k + 1 < ss.length → chgV P.fs ss (xs.take (k + 2)) = chgV P.fs ss (xs.take (k + 1)) + costM P.fs ss (nth xs k).toNat (nth xs (k + 1)).toNat) := fun k hk => chg_succ _ _ _ k (by omega)
    have HC1 : Hid (chgV P.fs ss (xs.take 1) = 0) := chg_one _ _ _
    have HCA : Hid (∀ k, ss.length ≤ k → chgV P.fs ss (xs.take k) = chgV P.fs ss xs) := fun k hk => by rw [List.take_of_length_le (by omega)]
    obtain ⟨CH, hCH⟩ : ∃ CH : Nat → Int, CH = fun k => chgV P.fs ss (xs.take k) := ⟨_, rfl⟩
    have e0 : ∀ k, chgV P.fs ss (xs.take k) = CH k := fun k => by rw [hCH]
    simp only [e0] at HCH HC1 HCA
    have hfin : chgV P.fs ss xs = CH (ss.length + 1) := by rw [HCA.out _ (by omega)]
    rw [hfin]
    have HLS : Hid (∀ k, k = ss.length → CH (k + 1) = CH k) := fun k hk => by rw [HCA.out _ (by omega), HCA.out _ (by omega)]
    have HBD : Hid (∀ k, k < ss.length → 0 ≤ CH (k + 1) ∧ CH (k + 1) ≤ 8000 * (k : Int)) := fun k => by
      induction k with
      | zero => intro _; rw [HC1.out]; omega
      | succ k ih =>
        intro h
        have h1 := ih (by omega)
        rw [HCH.out k h]
        have h2 := HCB.out (nth xs k).toNat (nth xs (k + 1)).toNat
        omega
    have HO := Lib.hid ho
    have HS := Lib.hid hs
    obtain ⟨fs, fa, fc, fo, ga, gc⟩ := P
    obtain ⟨n, hnn⟩ : ∃ n, n = ss.length := ⟨_, rfl⟩
    rw [hm, ← hnn] at HSO HEQ hoc ⊢
    rw [← hnn] at HNU HCK HIX HCO HCH hn HLS HBD
    have HNN := Lib.hid hnn
    have HXM : Hid (xs.length = n) := by rw [Hid, hm, hnn]
    clear hck hp hb hs hl hv ho hsb hperm h1 h2 h3 hm hnn hCH e0 hfin HCA hxl
    have h0n : (0 : Int) ≤ (n : Int) := by omega
    have hnoc : (n : Int) ≤ (oc : Int) := by omega
    by_cases hz : n = 0
    · subst hz
      have HCH0 : Hid (CH 1 = 0) := HC1
      simp only [Int.natCast_zero] at HNU hnoc
      go_enter Tryz.func19, Tryz.ntmps19
      go_wp2_with (fail)
      generalize hw1 : World.alloc _ _ = w1
      obtain ⟨he, o1, -⟩ := alloc1 hw1
      obtain ⟨b0, b1⟩ := obj_cells2 o1
      have HE := Lib.hid he
      have E1 := Ext.refl w1
      clear hw1 o1 he
      go_wp2_with (first
        | (go_at_call 69; (with_reducible refine (HCK.out _ HE.out).mono ?_); rintro e w2 ⟨rfl, he2⟩)
        | (go_at_call 73; (with_reducible refine (svalues_any _ _ _ _).mono ?_); rintro e w' ⟨rfl, rfl⟩)
        | (go_at_call 72; (with_reducible refine (HSO.out _ _ (HE.out.trans he2) rfl).mono ?_); rintro e w3 ⟨sa, sc2, rfl, he3, hi3⟩; have HI3 := Lib.hid hi3; clear hi3)
        | (go_at_call 74; (with_reducible refine (HNU.out _).mono ?_); rintro e w4 ⟨g4, c4, rfl, he4, hi4⟩; have HI4 := Lib.hid hi4; clear hi4)
        | (go_at_call 71; (with_reducible refine (HEQ.out _ _ _ _ _ (HI3.out.ext he4) HI4.out).mono ?_); rintro e w5 ⟨rfl, he5⟩))
      all_goals
        go_loopw [9, 32] (fun s i wr => s = .int .i64 0 ∧ i = .int .i64 0 ∧ wr = w5) (fun _ _ _ => 0)
        case atStart => exact ⟨rfl, rfl, rfl⟩
        case round =>
          obtain ⟨rfl, rfl, rfl⟩ := hrel
          go_wp2_with (fail)
          go_ret2
          exact ⟨by rw [HCH0.out]; rfl, HE.out.trans (he2.trans (he3.trans (he4.trans he5)))⟩
    · have hn1 : 1 ≤ n := by omega
      obtain ⟨ob, oo, rfl, -⟩ := HO.out.at 0 (by rw [HXM.out]; omega)
      clear hz
      go_enter Tryz.func19, Tryz.ntmps19
      go_wp2_with (fail)
      generalize hw1 : World.alloc _ _ = w1
      obtain ⟨he, o1, -⟩ := alloc1 hw1
      obtain ⟨b0, b1⟩ := obj_cells2 o1
      have HE := Lib.hid he
      have E1 := Ext.refl w1
      clear hw1 o1 he
      go_wp2_with (first
        | (go_at_call 69; (with_reducible refine (HCK.out _ HE.out).mono ?_); rintro e w2 ⟨rfl, he2⟩)
        | (go_at_call 73; (with_reducible refine (svalues_any _ _ _ _).mono ?_); rintro e w' ⟨rfl, rfl⟩)
        | (go_at_call 72; (with_reducible refine (HSO.out _ _ (HE.out.trans he2) rfl).mono ?_); rintro e w3 ⟨sa, sc2, rfl, he3, hi3⟩; have HI3 := Lib.hid hi3; clear hi3)
        | (go_at_call 74; (with_reducible refine (HNU.out _).mono ?_); rintro e w4 ⟨g4, c4, rfl, he4, hi4⟩; have HI4 := Lib.hid hi4; clear hi4)
        | (go_at_call 71; (with_reducible refine (HEQ.out _ _ _ _ _ (HI3.out.ext he4) HI4.out).mono ?_); rintro e w5 ⟨rfl, he5⟩))
      · have hE5 : Ext w1 w5 := he2.trans (he3.trans (he4.trans he5))
        obtain rfl : n = 1 := by omega
        have HC1' : Hid (CH 1 = 0) := HC1
        have HF : Hid (CH (1 + 1) = CH 1) := HLS.out _ rfl
        have hmin : min 1 ((1 : Nat) : Int) = 1 := by omega
        have hmt : (min 1 ((1 : Nat) : Int)).toNat = 1 := by omega
        clear he2 he3 he4 he5 HI3 HI4 HSO HNU HEQ HCK
        simp only [hmin, hmt, Int.toNat_one, Nat.sub_self]
        go_loopw [9, 32] (fun s i wr => s = .int .i64 0 ∧ i = .int .i64 0 ∧ wr = w5) (fun _ _ _ => 0)
        case atStart => exact ⟨rfl, rfl, rfl⟩
        case round =>
          obtain ⟨rfl, rfl, rfl⟩ := hrel
          go_wp2_with (fail)
          go_ret2
          exact ⟨by rw [HF.out, HC1'.out]; rfl, HE.out.trans hE5⟩
      · have hE5 : Ext w1 w5 := he2.trans (he3.trans (he4.trans he5))
        have hmin : min 1 (n : Int) = 1 := by omega
        have hmt : (min 1 (n : Int)).toNat = 1 := by omega
        obtain ⟨m, hmn⟩ : ∃ m, n = m + 1 := ⟨n - 1, by omega⟩
        subst hmn
        have HF : Hid (CH (m + 1 + 1) = CH (m + 1)) := HLS.out _ rfl
        simp only [hmt] at h
        simp only [hmin, hmt, Int.toNat_one, Nat.add_sub_cancel]
        clear he2 he3 he4 he5 HI3 HI4 HSO HNU HEQ HCK hmin hmt
        have HC1' : Hid (CH 1 = 0) := HC1
        go_loopw [9, 10, 11, 32] (fun sm _ _ i wr => ∃ k : Nat, k ≤ m ∧ i = .int .i64 k ∧ sm = .int .i64 (CH (k + 1)) ∧ Ext w1 wr) (fun _ _ _ i _ => m - (intOf i).toNat)
        case atStart => exact ⟨0, Nat.zero_le _, rfl, by rw [HC1'.out], hE5⟩
        case round =>
          obtain ⟨k, hk, rfl, rfl, hr⟩ := hrel
          by_cases hlt : k < m
          · obtain ⟨p, hp, hpe⟩ := HIX.out k (by omega)
            obtain ⟨q, hq, hqe⟩ := HIX.out (k + 1) (by omega)
            have hpm : (p : Int) < ((m + 1 : Nat) : Int) := by omega
            have hqm : (q : Int) < ((m + 1 : Nat) : Int) := by omega
            have hp0 : (0 : Int) ≤ (p : Int) := by omega
            have hq0 : (0 : Int) ≤ (q : Int) := by omega
            have HSW : Hid (SetsAt wr a ss) := HS.out.ext (HE.out.trans hr)
            obtain ⟨sb, so, rfl, c0, c1⟩ := set_at HSW.out.row p (by rw [← HNN.out]; exact hp)
            obtain ⟨sb', so', hbo, d0, d1⟩ := set_at HSW.out.row q (by rw [← HNN.out]; exact hq)
            simp only [Option.some.injEq, Addr.mk.injEq, and_true] at hbo
            obtain ⟨rfl, rfl⟩ := hbo
            obtain ⟨A0, hA0⟩ : ∃ A0, A0 = Value.slice (eth ss p).lv.a (eth ss p).lv.xs.length (eth ss p).lv.c := ⟨_, rfl⟩
            obtain ⟨A1, hA1⟩ : ∃ A1, A1 = Value.int .i64 (eth ss p).blk := ⟨_, rfl⟩
            obtain ⟨B0, hB0⟩ : ∃ B0, B0 = Value.slice (eth ss q).lv.a (eth ss q).lv.xs.length (eth ss q).lv.c := ⟨_, rfl⟩
            obtain ⟨B1, hB1⟩ : ∃ B1, B1 = Value.int .i64 (eth ss q).blk := ⟨_, rfl⟩
            rw [← hA0] at c0; rw [← hA1] at c1; rw [← hB0] at d0; rw [← hB1] at d1
            obtain ⟨C, hC⟩ : ∃ C, C = costM fs ss p q := ⟨_, rfl⟩
            have HCL : Hid (∀ W, Ext wr W → Calls Tryz.prog 75 #[.agg #[.slice fa fs.length fc, .slice ga fo.length gc], .agg #[A0, A1], .agg #[B0, B1]] W (Ret (.int .i64 C) W)) := fun W e => by
              have := HCO.out W p q (HE.out.trans (hr.trans e)) hp hq
              rw [show setV (eth ss p) = .agg #[A0, A1] by rw [hA0, hA1], show setV (eth ss q) = .agg #[B0, B1] by rw [hB0, hB1], ← hC] at this
              exact this
            have hCb := HCB.out p q
            have hSb := HBD.out k (by omega)
            have HN : Hid (CH (k + 1 + 1) = CH (k + 1) + C) := by
              have := HCH.out k (by omega)
              rw [hpe, hqe, Int.toNat_natCast, Int.toNat_natCast, ← hC] at this
              exact this
            rw [← hC] at hCb
            obtain ⟨sm, hsm⟩ : ∃ sm, sm = CH (k + 1) := ⟨_, rfl⟩
            rw [← hsm] at hSb HN ⊢
            obtain ⟨hS0, hS1⟩ := hSb
            obtain ⟨hC0, hC2⟩ := hCb
            have e0 : ∀ W, Ext wr W → W.cell? ⟨ob, oo + k, none⟩ = some (.int .i64 (p : Int)) := fun W e => by
              obtain ⟨b', o', h1, h2⟩ := HO.out.at k (by rw [HXM.out]; omega)
              simp only [Option.some.injEq, Addr.mk.injEq, and_true] at h1
              obtain ⟨rfl, rfl⟩ := h1
              rw [h2 W (HE.out.trans (hr.trans e)), hpe]
            have e1 : ∀ W, Ext wr W → W.cell? ⟨ob, oo + 1 + k, none⟩ = some (.int .i64 (q : Int)) := fun W e => by
              obtain ⟨b', o', h1, h2⟩ := HO.out.at (k + 1) (by rw [HXM.out]; omega)
              simp only [Option.some.injEq, Addr.mk.injEq, and_true] at h1
              obtain ⟨rfl, rfl⟩ := h1
              rw [show oo + 1 + k = oo + (k + 1) by omega, h2 W (HE.out.trans (hr.trans e)), hqe]
            have p0 := fun W (e : Ext wr W) => b0 W (hr.trans e)
            have p1 := fun W (e : Ext wr W) => b1 W (hr.trans e)
            have Er := Ext.refl wr
            clear hA0 hA1 hB0 hB1 hC hpe hqe hsm HSW HS HO HIX HCO HCB HCH HBD HLS
            go_upto_region 10 with fail
            refine wp_region_ext (by kernel_rfl) (by kernel_rfl) Er ?_
            repeat (first | go_big_quiet_step ((go_at_call 75; exact Calls.later (HCL.out _ (Later.ok _)))) | quiet_step ((go_at_call 75; exact Calls.later (HCL.out _ (Later.ok _)))))
            refine wpQuiet_nil ?_
            rintro _ ⟨nq, rfl⟩
            have hq := nq.ok
            go_wp2_with (fail)
            go_roundw
            case rel => exact ⟨k + 1, by omega, by go_num, by rw [HN.out], hr.trans hq⟩
            case measure => simp [intOf]; omega
          · obtain rfl : k = m := by omega
            go_wp2_with (fail)
            go_ret2
            exact ⟨by rw [HF.out]; rfl, HE.out.trans hr⟩
  · rw [if_neg hperm]
    rw [hsb, decide_eq_false hperm] at HEQ
    obtain ⟨fs, fa, fc, fo, ga, gc⟩ := P
    obtain ⟨m, hm⟩ : ∃ m, m = xs.length := ⟨_, rfl⟩
    obtain ⟨n, hnn⟩ : ∃ n, n = ss.length := ⟨_, rfl⟩
    rw [← hm] at HSO HEQ ⊢
    rw [← hnn] at HNU HEQ HCK ⊢
    clear hck hp hb hs hl hv ho hsb hperm h1 h2 h3 hm hnn
    go_enter Tryz.func19, Tryz.ntmps19
    go_wp2_with (fail)
    generalize hw1 : World.alloc _ _ = w1
    obtain ⟨he, o1, -⟩ := alloc1 hw1
    obtain ⟨b0, b1⟩ := obj_cells2 o1
    have HE := Lib.hid he
    have E1 := Ext.refl w1
    clear hw1 o1 he
    go_wp2_with (first
      | (go_at_call 69; (with_reducible refine (HCK.out _ HE.out).mono ?_); rintro e w2 ⟨rfl, he2⟩)
      | (go_at_call 73; (with_reducible refine (svalues_any _ _ _ _).mono ?_); rintro e w' ⟨rfl, rfl⟩)
      | (go_at_call 72; (with_reducible refine (HSO.out _ _ (HE.out.trans he2) rfl).mono ?_); rintro e w3 ⟨sa, sc2, rfl, he3, hi3⟩; have HI3 := Lib.hid hi3; clear hi3)
      | (go_at_call 74; (with_reducible refine (HNU.out _).mono ?_); rintro e w4 ⟨g4, c4, rfl, he4, hi4⟩; have HI4 := Lib.hid hi4; clear hi4)
      | (go_at_call 71; (with_reducible refine (HEQ.out _ _ _ _ _ (HI3.out.ext he4) HI4.out).mono ?_); rintro e w5 ⟨rfl, he5⟩))
    go_ret2
    exact ⟨rfl, HE.out.trans (he2.trans (he3.trans (he4.trans he5)))⟩
end Go.Proofs.YtplbofhgmflnlaaGreat
