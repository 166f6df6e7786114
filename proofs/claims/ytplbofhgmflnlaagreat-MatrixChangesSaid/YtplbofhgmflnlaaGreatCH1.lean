/-
  Walks: the reference's IsOrder and Changes.
-/
import Derived.Test.YtplbofhgmflnlaaGreatNC
import Derived.Test.YtplbofhgmflnlaaGreatNN5
set_option linter.unusedVariables false
set_option linter.unusedSimpArgs false
namespace Go.Proofs.YtplbofhgmflnlaaGreat
open Go.RowKit
theorem nperm_len {l : List Int} {n : Nat} (h : l.length ≠ n) : ¬ l.Perm (rngI n) := fun p => h (by rw [p.length_eq, rngI_len])
theorem nperm_out {l : List Int} {n i : Nat} (hl : i < l.length) (h : nth l i < 0 ∨ (n : Int) ≤ nth l i) : ¬ l.Perm (rngI n) := fun p => by
  have : nth l i ∈ l := by rw [nth_eq _ _ hl]; exact List.getElem_mem _
  obtain ⟨j, hj, e⟩ := rngI_mem.1 (p.mem_iff.1 this)
  omega
theorem nperm_eq {l : List Int} {n i k : Nat} (hl : i < l.length) (hk : k < i) (h : nth l k = nth l i) : ¬ l.Perm (rngI n) := fun p => by
  have hnd : l.Nodup := p.nodup_iff.2 rngI_nodup
  rw [nth_eq _ _ (by omega), nth_eq _ _ hl] at h
  have := (List.getElem_inj hnd).1 h
  omega
theorem perm_good {l : List Int} {n : Nat} (hl : l.length = n) (h1 : ∀ i, i < n → 0 ≤ nth l i ∧ nth l i < (n : Int)) (h2 : ∀ i k, i < n → k < i → nth l k ≠ nth l i) : l.Perm (rngI n) := by
  have e : l = natI (l.map Int.toNat) := by
    refine List.ext_getElem (by simp [natI]) fun i h3 h4 => ?_
    have := h1 i (by omega)
    rw [nth_eq _ _ h3] at this
    simp [natI]
    omega
  have hnd : (l.map Int.toNat).Nodup := by
    rw [List.Nodup, List.pairwise_iff_getElem]
    intro i j hi hj hij heq
    rw [List.length_map] at hi hj
    rw [List.getElem_map, List.getElem_map] at heq
    have a1 := h1 i (by omega)
    have a2 := h1 j (by omega)
    have a3 := h2 j i (by omega) hij
    rw [nth_eq _ _ hi] at a1 a3
    rw [nth_eq _ _ hj] at a2 a3
    omega
  have hp : (l.map Int.toNat).Perm (List.range n) := sub_perm hnd (fun x hx => by
    obtain ⟨y, hy, rfl⟩ := List.mem_map.1 hx
    obtain ⟨i, hi, rfl⟩ := List.mem_iff_getElem.1 hy
    have := h1 i (by omega)
    rw [nth_eq _ _ hi] at this
    rw [List.mem_range]; omega) (by rw [List.length_map, List.length_range, hl])
  rw [e, rngI_nat]
  exact hp.map _
set_option maxRecDepth 100000 in
set_option maxHeartbeats 4000000 in
theorem rIsOrder_any (a : Option Addr) (l : List Int) (c n : Nat) (w : World) (hl : Ints w a l) (hn : l.length ≤ 1000000) (hn2 : n ≤ 1000000) :
    Calls Tryz.prog 65 #[.slice a l.length c, .int .i64 (n : Int)] w (Ret (.bool (decide (l.Perm (rngI n)))) w) := by
  have HL := Lib.hid hl
  obtain ⟨q, hq⟩ : ∃ q, q = decide (l.Perm (rngI n)) := ⟨_, rfl⟩
  have HNO : Hid (¬ l.Perm (rngI n) → q = false) := fun h => by rw [hq, decide_eq_false h]
  have HYES : Hid (l.Perm (rngI n) → q = true) := fun h => by rw [hq, decide_eq_true h]
  rw [← hq]
  clear hl hq
  by_cases hln : l.length = n
  · obtain ⟨m, hmm⟩ : ∃ m, m = l.length := ⟨_, rfl⟩
    have HM := Lib.hid hmm
    rw [← hmm] at hln hn ⊢
    subst hln
    clear hmm
    go_enter Tryz.func65, Tryz.ntmps65
    go_wp2_with (fail)
    go_loopw [5] (fun i wr => ∃ k : Nat, k ≤ m ∧ i = .int .i64 k ∧ Ext w wr ∧ Hid ((∀ j, j < k → 0 ≤ nth l j ∧ nth l j < (m : Int)) ∧ ∀ j p, j < k → p < j → nth l p ≠ nth l j)) (fun i _ => m - (intOf i).toNat)
    case atStart => exact ⟨0, Nat.zero_le _, rfl, Ext.refl _, fun j hj => by omega, fun j p hj => by omega⟩
    case round =>
      obtain ⟨k, hk, rfl, hr, hh⟩ := hrel
      obtain ⟨wo, rfl⟩ : ∃ wo : World, wo = wr := ⟨_, rfl⟩
      by_cases hlt : k < m
      · obtain ⟨lb, lo, rfl, d0⟩ := (HL.out.ext hr).at k (by rw [← HM.out]; exact hlt)
        have HNX : Hid (nth l k < 0 ∨ (m : Int) ≤ nth l k → q = false) := fun h => HNO.out (nperm_out (by rw [← HM.out]; exact hlt) h)
        have HNE : Hid (∀ p, p < k → nth l p = nth l k → q = false) := fun p hp h => HNO.out (nperm_eq (by rw [← HM.out]; exact hlt) hp h)
        have HST : Hid (0 ≤ nth l k ∧ nth l k < (m : Int) → (∀ p, p < k → nth l p ≠ nth l k) → (∀ j, j < k + 1 → 0 ≤ nth l j ∧ nth l j < (m : Int)) ∧ ∀ j p, j < k + 1 → p < j → nth l p ≠ nth l j) := fun h1 h2 => by
          refine ⟨fun j hj => ?_, fun j p hj hp => ?_⟩
          · rcases Nat.lt_succ_iff_lt_or_eq.1 hj with h | h
            · exact hh.out.1 j h
            · subst h; exact h1
          · rcases Nat.lt_succ_iff_lt_or_eq.1 hj with h | h
            · exact hh.out.2 j p h hp
            · subst h; exact h2 p hp
        obtain ⟨x, hx⟩ : ∃ x, x = nth l k := ⟨_, rfl⟩
        rw [← hx] at d0 HNX HNE HST
        clear hx hh
        have Er := Ext.refl wo
        by_cases U1 : x < 0
        · have HN : Hid (q = false) := HNX.out (.inl U1)
          clear HNX HNE HST
          go_wp2_with (fail)
          go_ret
          exact ⟨by rw [HN.out]; rfl, hr⟩
        · by_cases U2 : (m : Int) ≤ x
          · have HN : Hid (q = false) := HNX.out (.inr U2)
            clear HNX HNE HST
            go_wp2_with (fail)
            go_ret
            exact ⟨by rw [HN.out]; rfl, hr⟩
          · have HST2 := Lib.hid (HST.out ⟨by omega, by omega⟩)
            clear HNX HST
            go_wp2_with (fail)
            go_loopw [6] (fun p wr => ∃ p' : Nat, p' ≤ k ∧ p = .int .i64 p' ∧ Ext wo wr ∧ Hid (∀ j, j < p' → nth l j ≠ x)) (fun p _ => k - (intOf p).toNat)
            case atStart => exact ⟨0, Nat.zero_le _, rfl, Ext.refl _, fun j hj => by omega⟩
            case round =>
              obtain ⟨p, hp, rfl, hrp, hh⟩ := hrel
              have hr0 := Ext.refl wr
              have D0 := fun W (e : Ext wr W) => d0 W (hrp.trans e)
              by_cases hlp : p < k
              · obtain ⟨lb', lo', hlb, e0⟩ := (HL.out.ext (hr.trans hrp)).at p (by rw [← HM.out]; omega)
                simp only [Option.some.injEq, Addr.mk.injEq, and_true] at hlb
                obtain ⟨rfl, rfl⟩ := hlb
                have hpm : (p : Int) < (m : Int) := by omega
                have HNp := Lib.hid (HNE.out p hlp)
                have HSp : Hid (nth l p ≠ x → ∀ j, j < p + 1 → nth l j ≠ x) := fun h j hj => by
                  rcases Nat.lt_succ_iff_lt_or_eq.1 hj with h1 | h1
                  · exact hh.out j h1
                  · subst h1; exact h
                obtain ⟨y, hy⟩ : ∃ y, y = nth l p := ⟨_, rfl⟩
                rw [← hy] at e0 HNp HSp
                clear hy hh
                by_cases V : y = x
                · have HN : Hid (q = false) := HNp.out V
                  subst V
                  clear HNp HSp
                  go_upto_region 11 with fail
                  refine wp_region_ext (by kernel_rfl) (by kernel_rfl) hr0 ?_
                  repeat (first | go_big_quiet_step (((fail))) | quiet_step (((fail))))
                  refine wpQuiet_nil ?_
                  rintro _ ⟨nq, rfl⟩
                  have hq2 := nq.ok
                  go_wp2_with (fail)
                  go_ret
                  exact ⟨by rw [HN.out]; rfl, hr.trans (hrp.trans hq2)⟩
                · have V3 : (y == x) = false := by simpa using V
                  have HN := Lib.hid (HSp.out V)
                  clear HNp HSp V
                  go_upto_region 11 with fail
                  refine wp_region_ext (by kernel_rfl) (by kernel_rfl) hr0 ?_
                  repeat (first | go_big_quiet_step (((fail))) | quiet_step (((fail))))
                  refine wpQuiet_nil ?_
                  rintro _ ⟨nq, rfl⟩
                  have hq2 := nq.ok
                  go_wp2_with (fail)
                  go_roundw
                  case rel => exact ⟨p + 1, by omega, by go_num, hrp.trans hq2, HN.out⟩
                  case measure => simp [intOf]; omega
              · obtain rfl : p = k := by omega
                have HN := Lib.hid (HST2.out hh.out)
                clear hh HST2
                go_wp2_with (fail)
                go_roundw
                case rel => exact ⟨p + 1, by omega, by go_num, hr.trans hrp, HN.out⟩
                case measure => simp [intOf]; omega
      · obtain rfl : k = m := by omega
        have HN : Hid (q = true) := HYES.out (perm_good HM.out.symm hh.out.1 hh.out.2)
        clear hh
        go_wp2_with (fail)
        go_ret
        exact ⟨by rw [HN.out]; rfl, hr⟩
  · have HN : Hid (q = false) := HNO.out (nperm_len hln)
    have hne : ((l.length : Int) != (n : Int)) = true := by rw [bne_iff_ne]; omega
    clear HNO HYES
    go_enter Tryz.func65, Tryz.ntmps65
    go_wp2_with (fail)
    go_ret
    exact ⟨by rw [HN.out]; rfl, Ext.refl _⟩
set_option maxRecDepth 100000 in
set_option maxHeartbeats 4000000 in
theorem rChanges_any (P : Pw) (a : Option Addr) (ss : List Se) (sc : Nat) (oa : Option Addr) (xs : List Int) (oc : Nat) (w : World) (hp : PlanAt w P) (hf : P.fs.length ≤ 8) (hc : ∀ i, i < P.fs.length → 0 ≤ (fth P.fs i).cost ∧ (fth P.fs i).cost ≤ 1000) (hs : SetsAt w a ss) (hn : ss.length ≤ 1000000)
    (hl : ∀ j, j < ss.length → (eth ss j).lv.xs.length = P.fs.length) (ho : Ints w oa xs) (hx : xs.length ≤ 100000) (hb : ∀ k, k < xs.length → 0 ≤ nth xs k ∧ nth xs k < (ss.length : Int)) :
    Calls Tryz.prog 66 #[planV P, .slice a ss.length sc, .slice oa xs.length oc] w (Ret (.int .i64 (chgV P.fs ss xs)) w) := by
  have hco : ∀ W, Ext w W → ∀ p q, p < ss.length → q < ss.length → Calls Tryz.prog 105 #[planV P, setV (eth ss p), setV (eth ss q)] W (Ret (.int .i64 (costM P.fs ss p q)) W) := fun W e p q h1 h2 => rCost_any P (eth ss p) (eth ss q) W (hp.ext e) hf hc ((hs.ext e).lv p h1) ((hs.ext e).lv q h2) (hl p h1) (hl q h2)
  have HBD := Lib.hid (fun p q => costM_bd ss hf hc p q)
  have HCS := Lib.hid (fun k (hk : k + 1 < xs.length) => chg_succ P.fs ss xs k hk)
  have HC1 := Lib.hid (chg_one P.fs ss xs)
  have HC2 : Hid (chgV P.fs ss xs = chgV P.fs ss (xs.take xs.length)) := by rw [Hid, List.take_length]
  have HC3 : Hid (xs.length = 0 → chgV P.fs ss xs = 0) := fun h => by rw [List.length_eq_zero_iff.1 h]; rfl
  obtain ⟨T, hT⟩ : ∃ T, T = costM P.fs ss := ⟨_, rfl⟩
  obtain ⟨F, hF⟩ : ∃ F, F = chgV P.fs ss := ⟨_, rfl⟩
  rw [← hT] at hco HBD HCS
  rw [← hF] at HCS HC1 HC2 HC3 ⊢
  obtain ⟨fs, fa, fc, fo, ga, gc⟩ := P
  try simp only at hco
  have HCO := Lib.hid hco; have HS := Lib.hid hs; have HO := Lib.hid ho; have HB := Lib.hid hb
  obtain ⟨n, hnn⟩ : ∃ n, n = ss.length := ⟨_, rfl⟩
  have HNN := Lib.hid hnn
  rw [← hnn] at HCO HB hn ⊢
  clear hco hp hs ho hb hl hc hT hF hnn
  go_enter Tryz.func66, Tryz.ntmps66
  go_wp2_with (fail)
  generalize hw1 : World.alloc _ _ = w1
  obtain ⟨he, o1, -⟩ := alloc1 hw1
  obtain ⟨b0, b1⟩ := obj_cells2 o1
  have HE := Lib.hid he
  clear hw1 o1 he
  go_loopw [7, 8] (fun s i wr => ∃ (k : Nat) (t : Int), (k + 1 ≤ xs.length ∨ k = 0) ∧ i = .int .i64 ((k + 1 : Nat) : Int) ∧ s = .int .i64 t ∧ 0 ≤ t ∧ t ≤ 8000 * (k : Int) ∧ Ext w1 wr ∧ Hid (t = F (xs.take (k + 1)))) (fun _ i _ => xs.length - (intOf i).toNat)
  case atStart => exact ⟨0, 0, .inr rfl, rfl, rfl, Int.le_refl _, by omega, Ext.refl _, HC1.out.symm⟩
  case round =>
    obtain ⟨k, t, hk, rfl, rfl, ht0, ht1, hr, hh⟩ := hrel
    have B0 := fun W (e : Ext wr W) => b0 W (hr.trans e)
    have B1 := fun W (e : Ext wr W) => b1 W (hr.trans e)
    have hr0 := Ext.refl wr
    by_cases hlt : k + 1 < xs.length
    · obtain ⟨ob, oo, rfl, c0⟩ := (HO.out.ext (HE.out.trans hr)).at k (by omega)
      obtain ⟨ob', oo', hob, c1⟩ := (HO.out.ext (HE.out.trans hr)).at (k + 1) hlt
      simp only [Option.some.injEq, Addr.mk.injEq, and_true] at hob
      obtain ⟨rfl, rfl⟩ := hob
      obtain ⟨p, hp⟩ : ∃ p : Nat, nth xs k = (p : Int) := ⟨(nth xs k).toNat, by have := HB.out k (by omega); omega⟩
      obtain ⟨q, hq⟩ : ∃ q : Nat, nth xs (k + 1) = (q : Int) := ⟨(nth xs (k + 1)).toNat, by have := HB.out (k + 1) hlt; omega⟩
      have hpn : p < n := by have := HB.out k (by omega); omega
      have hqn : q < n := by have := HB.out (k + 1) hlt; omega
      have HST : Hid (F (xs.take (k + 2)) = F (xs.take (k + 1)) + T p q) := by
        have := HCS.out k hlt
        rw [hp, hq, Int.toNat_natCast, Int.toNat_natCast] at this
        exact this
      have hbd := HBD.out p q
      rw [hp] at c0
      rw [hq] at c1
      obtain ⟨sb, so, rfl, d0, d1⟩ := set_at (HS.out.ext (HE.out.trans hr)).row p (by rw [← HNN.out]; exact hpn)
      obtain ⟨sb', so', hbo, e0, e1⟩ := set_at (HS.out.ext (HE.out.trans hr)).row q (by rw [← HNN.out]; exact hqn)
      simp only [Option.some.injEq, Addr.mk.injEq, and_true] at hbo
      obtain ⟨rfl, rfl⟩ := hbo
      have HCL := Lib.hid (fun n' : Later wr => HCO.out n'.val ((HE.out.trans hr).trans n'.ok) p q hpn hqn)
      obtain ⟨d, hd⟩ : ∃ d, d = T p q := ⟨_, rfl⟩
      rw [← hd] at HCL HST hbd
      have hyx : ((k + 1 : Nat) : Int) - 1 = (k : Int) := by omega
      have hwx : IntKind.i64.wrap (k : Int) = (k : Int) := by rw [IntKind.wrap_i64]; omega
      have hpi : (p : Int) < (n : Int) := by omega
      have hqi : (q : Int) < (n : Int) := by omega
      have hHN : Hid (t + d = F (xs.take (k + 2))) := by rw [Hid, HST.out, hh.out]
      clear hp hq hd HST hh
      go_upto_region 5 with fail
      refine wp_region_ext (by kernel_rfl) (by kernel_rfl) hr0 ?_
      repeat (first | go_big_quiet_step (((go_at_call 105; exact Calls.later (HCL.out _)))) | quiet_step (((go_at_call 105; exact Calls.later (HCL.out _)))))
      refine wpQuiet_nil ?_
      rintro _ ⟨nq, rfl⟩
      have hq2 := nq.ok
      go_wp2_with (fail)
      go_roundw
      case rel => exact ⟨k + 1, t + d, .inl (by omega), by go_num, by go_num, by omega, by omega, hr.trans hq2, hHN.out⟩
      case measure => simp [intOf]; omega
    · have HN : Hid (t = F xs) := by
        rw [Hid, hh.out]
        rcases hk with h | h
        · have : k + 1 = xs.length := by omega
          rw [this]; exact HC2.out.symm
        · subst h
          rcases Nat.lt_or_ge 0 xs.length with h2 | h2
          · have : 0 + 1 = xs.length := by omega
            rw [this]; exact HC2.out.symm
          · rw [HC1.out, HC3.out (by omega)]
      clear hh
      go_wp2_with (fail)
      go_ret
      exact ⟨by rw [HN.out]; rfl, HE.out.trans hr⟩
end Go.Proofs.YtplbofhgmflnlaaGreat
