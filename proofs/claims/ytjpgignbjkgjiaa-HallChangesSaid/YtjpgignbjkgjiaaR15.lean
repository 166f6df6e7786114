import Derived.Test.YtjpgignbjkgjiaaR14
import Derived.Test.YtjpgignbjkgjiaaR7
import Derived.Test.YtjpgignbjkgjiaaP10
import Derived.Test.YtjpgignbjkgjiaaA19
set_option linter.unusedVariables false
set_option linter.unusedSimpArgs false
namespace Go.Proofs.Ytjpgignbjkgjiaa
open Go.RowKit
attribute [local go_sem ↓] Go.wp_at_zero Go.wp_at_succ
/-- A slice of plans of the call's own. -/
def PlansB (B : Nat) (w : World) (v : Value) (pl : List (List Int)) : Prop := ∃ ss : List SL, lsts ss = pl ∧ w.ownsRow B 22 1 v ss.length (rowS ss) ∧ ∀ j, j < ss.length → IntsT w (sth ss j).a (sth ss j).xs
theorem PlansB.ext {B : Nat} {w w' : World} {v : Value} {pl : List (List Int)} (h : PlansB B w v pl) (e : Ext w w') : PlansB B w' v pl := by
  obtain ⟨ss, h1, h2, h3⟩ := h
  exact ⟨ss, h1, own_ext h2 e, fun j hj => (h3 j hj).ext e⟩
theorem PlansB.form {B : Nat} {w : World} {v : Value} {pl : List (List Int)} (h : PlansB B w v pl) : ∃ a c, v = .slice a pl.length c := by
  obtain ⟨ss, rfl, h2, _⟩ := h
  rw [lsts_len]
  rcases h2.2 with ⟨h, h0⟩ | ⟨g, cap, cur, h, _⟩
  · exact ⟨none, 0, by rw [h, h0]⟩
  · exact ⟨_, _, h⟩
theorem PlansB.block {B : Nat} {w : World} {v : Value} {pl : List (List Int)} (h : PlansB B w v pl) : ∀ k, v.ownBlock = some k → B ≤ k := by
  obtain ⟨ss, rfl, h2, _⟩ := h
  exact fun k hk => (h2.lt k hk).1
theorem PlansB.at {B : Nat} {w : World} {a : Option Addr} {n c : Nat} {pl : List (List Int)} (h : PlansB B w (.slice a n c) pl) {k : Nat} (hk : k < pl.length) :
    ∃ g, a = some ⟨g, 0, none⟩ ∧ ∃ a' c', (∀ W, Ext w W → W.cell? ⟨g, k, none⟩ = some (.slice a' (lth pl k).length c')) ∧ IntsT w a' (lth pl k) := by
  obtain ⟨ss, rfl, h2, h3⟩ := h
  rw [lsts_len] at hk
  rcases h2.2 with ⟨h, h0⟩ | ⟨g, cap, cur, hv, _⟩
  · omega
  · simp only [Value.slice.injEq] at hv
    obtain ⟨rfl, rfl, rfl⟩ := hv
    refine ⟨g, rfl, (sth ss k).a, (sth ss k).c, fun W e => e.cell ?_, ?_⟩
    · rw [h2.cellAt k (by omega), rowS_get _ _ hk, lth_lsts _ _ hk]; rfl
    · rw [lth_lsts _ _ hk]; exact h3 k hk
theorem plans_one {W : World} {g B : Nat} {a : Option Addr} {q : List Int} {c : Nat} (hg : W.heap[g]? = some (.cells #[.slice a q.length c] 22 (0, 0))) (hq : IntsT W a q) (hB : B ≤ g) : PlansB B W (.slice (some ⟨g, 0, none⟩) 1 1) [q] :=
  ⟨[⟨a, q, c⟩], rfl, ⟨rfl, .inr ⟨g, 1, _, rfl, hB, hg, Nat.le_refl _, by unfold maxLen; omega, rfl, rfl⟩⟩, fun j hj => by
    obtain rfl : j = 0 := by simp at hj; omega
    exact hq⟩
theorem plans_zero {W : World} {g B : Nat} (hg : W.heap[g]? = some (.cells #[] 22 (0, 0))) (hB : B ≤ g) : PlansB B W (.slice (some ⟨g, 0, none⟩) 0 0) [] :=
  ⟨[], rfl, ownsRow_empty hg hB, fun j hj => by simp at hj⟩
theorem plans_app (W : World) (B : Nat) (ty : TypeId) (v : Value) (pl : List (List Int)) (h : PlansB B W v pl) (a : Option Addr) (q : List Int) (c g : Nat) (hq : IntsT W a q) (hg : W.heap[g]? = some (.cells #[.slice a q.length c] 22 (0, 0)))
    (hn : pl.length ≤ 900000) (hB : B ≤ W.heap.size) :
    ∃ v' w', (Builtin.append_ #[62, 62] ty #[v, .slice (some ⟨g, 0, none⟩) 1 1]).run Try.prog W = .ok v' w' ∧ PlansB B w' v' (pl ++ [q]) ∧ W.grownBy w' v.ownBlock := by
  obtain ⟨ss, rfl, h2, h3⟩ := h
  rw [lsts_len] at hn
  have hsrc : Src W (some ⟨g, 0, none⟩) (rowS [⟨a, q, c⟩]) := by
    refine .inr ⟨_, rfl, fun j u hj => ?_⟩
    have hj0 : j = 0 := by
      rcases Nat.eq_zero_or_pos j with h | h
      · exact h
      · rw [List.getElem?_eq_none (by simp [rowS]; omega)] at hj; cases hj
    subst hj0
    simp only [rowS, List.map_cons, List.getElem?_cons_zero, Option.some.injEq] at hj
    rw [← hj, Addr.add_lit]
    exact obj_cells1 hg _ (Ext.refl _)
  obtain ⟨v', w', r1, r2, r3⟩ := app_sls W B ty v ss [⟨a, q, c⟩] (some ⟨g, 0, none⟩) 1 h2 hsrc (by simp; omega) hB
  refine ⟨v', w', r1, ⟨ss ++ [⟨a, q, c⟩], by simp [lsts], r2, fun j hj => ?_⟩, r3⟩
  rw [List.length_append, List.length_singleton] at hj
  by_cases hjk : j = ss.length
  · have e1 : sth (ss ++ [⟨a, q, c⟩]) j = ⟨a, q, c⟩ := by simp [sth, hjk]
    rw [e1]
    exact hq.grown h2 r3
  · have e1 : sth (ss ++ [⟨a, q, c⟩]) j = sth ss j := by
      have : j < ss.length := by omega
      simp [sth, List.getElem?_append_left this]
    rw [e1]
    exact (h3 j (by omega)).grown h2 r3
def allV (st : St) (a : Option Addr) (c : Nat) : Value := match st with
  | none => .tuple #[.slice none 0 0, .bool false]
  | some (p, _) => .tuple #[.slice a p.length c, .bool true]
def RetAll (st : St) (w : World) (e : Ending) (w' : World) : Prop := ∃ a c, e = .returned (allV st a c) ∧ Ext w w' ∧ solI st w' a
set_option maxRecDepth 100000 in
set_option maxHeartbeats 8000000 in
theorem refAll (ha : Hal) (x : HP) (l : List Camp) (la : Option Addr) (lc : Nat) (ss : List SL) (sla : Option Addr) (slc : Nat) (w : World) (hh : HallAt w ha x) (hl : Camps w la l) (hv : VH ha l) (hss : SLsX w.heap.size w sla ss) (hsl : ss.length = l.length)
    (L : Nat → List Int) (hL : ∀ j, j < l.length → L j = (sth ss j).xs) (hm : ∀ j, j < l.length → (L j).length ≤ 1000) (hcnt : ∀ k, k ≤ l.length → (prodN L k).length ≤ 100000) :
    Calls Try.prog 27 #[hval ha x, .slice la l.length lc, .slice sla ss.length slc] w (RetAll (allSt ha l L) w) := by
  have hbr := fun W (h : Ext w W) q qa qc (q2 : Ints W qa q) q3 => refBreach ha x l la lc q qa q.length qc W (hh.ext h) (hl.ext h) q2 q3 rfl hv
  have hco := fun W (h : Ext w W) q qa qc (q2 : Ints W qa q) q3 q4 => refCost_any l la lc ha.st.length q qa q.length qc W (hl.ext h) q2 q3 rfl hv.ll hv.cb q4
  have HBR := Lib.hid hbr; have HCO := Lib.hid hco
  have HV := Lib.hid hv
  have HLL := Lib.hid hL; have HMM := Lib.hid hm; have HCN := Lib.hid hcnt; have HSS := Lib.hid hss; have HSL := Lib.hid hsl
  have hl16 := hv.ll
  clear hbr hco hh hl hv hL hm hcnt hss hsl
  obtain ⟨sa, sc, ea, ec⟩ := x
  have hsl : l.length ≤ ss.length := by rw [HSL.out]; exact Nat.le_refl _
  go_enter Try.func27, Try.ntmps27
  go_upto_region 1 with fail
  generalize hw1 : World.alloc _ _ = w1
  obtain ⟨he, o1, -⟩ := alloc1 hw1
  obtain ⟨b0, b1, b2, b3⟩ := obj_cells4 o1
  clear hw1 o1
  have hr0 := Ext.refl w1
  go_wp2_with (fail)
  generalize hw2 : World.alloc _ _ = w2
  obtain ⟨he2, o1, o2, -⟩ := alloc2 hw2
  clear hw2
  have hin0 : IntsT w2 (some ⟨w1.heap.size, 0, none⟩) [] := .inl rfl
  have hpl0 : PlansB w1.heap.size w2 (.slice (some ⟨w1.heap.size + 1, 0, none⟩) 1 1) (prodN L 0) := plans_one (q := []) o2 hin0 (by omega)
  have HPL0 := Lib.hid hpl0
  clear hin0 hpl0 o1 o2 hr0
  go_loopw [8, 9] (fun v i wr => ∃ k : Nat, k ≤ l.length ∧ i = .int .i64 k ∧ Ext w1 wr ∧ Hid (PlansB w1.heap.size wr v (prodN L k))) (fun _ i _ => l.length - (intOf i).toNat)
  case atStart => exact ⟨0, Nat.zero_le _, rfl, he2, HPL0.out⟩
  case round =>
    clear HPL0 he2
    obtain ⟨i, hi, rfl, hr, hpl⟩ := hrel
    by_cases hlt : i < l.length
    · obtain ⟨v8a, v8c, hv8⟩ := hpl.out.form
      subst hv8
      obtain ⟨N, hN⟩ : ∃ N, N = (prodN L i).length := ⟨_, rfl⟩
      have HN := Lib.hid hN
      rw [← hN]
      have hN1 : N ≤ 100000 := by rw [hN]; exact HCN.out i (by omega)
      clear hN
      rw [← HN.out] at hpl
      obtain ⟨wA, hwA⟩ : ∃ wA : World, wA = wr := ⟨_, rfl⟩
      subst hwA
      have hrA := hr
      have hA0 := Ext.refl wA
      go_wp2_with (fail)
      generalize hw3 : World.alloc _ _ = w3
      obtain ⟨he3, o3, -⟩ := alloc1 hw3
      have hp3 := plans_zero (B := wA.heap.size) o3 (Nat.le_refl _)
      have HP3 := Lib.hid hp3
      clear hw3 o3 hp3
      go_loopw [10, 11] (fun v t wr => ∃ k : Nat, k ≤ N ∧ t = .int .i64 k ∧ Ext wA wr ∧ Hid (PlansB wA.heap.size wr v (preN L i k 0))) (fun _ t _ => N - (intOf t).toNat)
      case atStart => exact ⟨0, Nat.zero_le _, rfl, he3, by rw [preN_zero]; exact HP3.out⟩
      case round =>
        clear HP3 he3 hr
        obtain ⟨k, hk, rfl, hr, hnx⟩ := hrel
        by_cases hkN : k < N
        · have hkN' : k < (prodN L i).length := by rw [← HN.out]; exact hkN
          obtain ⟨g8, rfl, qa, qc, p0, hqi⟩ := hpl.out.at hkN'
          have HQI := Lib.hid hqi
          obtain ⟨q, hq⟩ : ∃ q, q = lth (prodN L i) k := ⟨_, rfl⟩
          have HQ := Lib.hid hq
          rw [← hq] at p0 HQI
          clear hqi hq
          have his : i < ss.length := by omega
          obtain ⟨bs, os, rfl, s0⟩ := HSS.out.at i his
          have hii := (HSS.out.2 i his).ints
          have hle := HLL.out i hlt
          have HLE := Lib.hid hle
          have hm1 := HMM.out i hlt
          rw [← hle] at hii s0
          clear hle
          obtain ⟨m, hm⟩ : ∃ m, m = (L i).length := ⟨_, rfl⟩
          have HM := Lib.hid hm
          rw [← hm] at s0 hm1
          clear hm
          generalize (sth ss i).a = ia at *
          generalize (sth ss i).c = ic at *
          replace s0 := fun W (h : Ext wA W) => s0 W ((he.trans hrA).trans h)
          have hq0 := hr
          go_wp2_with (fail)
          obtain ⟨wo, rfl⟩ : ∃ wo : World, wo = wr := ⟨_, rfl⟩
          go_loopw [10, 12] (fun v t wr => ∃ j : Nat, j ≤ m ∧ t = .int .i64 j ∧ Ext wA wr ∧ Hid (PlansB wA.heap.size wr v (preN L i k j))) (fun _ t _ => m - (intOf t).toNat)
          case atStart => exact ⟨0, Nat.zero_le _, rfl, hr, hnx⟩
          case round =>
            clear hr hnx hq0
            obtain ⟨j, hj, rfl, hr, hnx⟩ := hrel
            by_cases hjm : j < m
            · have hjm' : j < (L i).length := by rw [← HM.out]; exact hjm
              obtain ⟨bt, ot, rfl, t0⟩ := hii.at j hjm'
              replace t0 := fun W (h : Ext wA W) => t0 W ((he.trans hrA).trans h)
              obtain ⟨v10a, v10c, hv10⟩ := hnx.out.form
              subst hv10
              have hcnt2 : (preN L i k j).length ≤ 100000 := Nat.le_trans (preN_bd L i k j hkN' (by omega)) (HCN.out (i + 1) (by omega))
              have hst := preN_step L i k j hjm'
              rw [← HQ.out] at hst
              have HST := Lib.hid hst
              have hqln : q.length ≤ 16 := by
                have := ((prodN_mem L i q).1 (by rw [HQ.out, lth_eq _ _ hkN']; exact List.getElem_mem _)).1
                omega
              clear hst
              obtain ⟨q2, hq2⟩ : ∃ q2, q2 = q ++ [nth (L i) j] := ⟨_, rfl⟩
              have HQ2 := Lib.hid hq2
              clear hq2
              generalize preN L i k j = pl at *
              go_wp2_with (fail)
              go_region_held3 (fun W => Ext wA W) (first | with_reducible assumption | exact Ext.drew (by with_reducible assumption) | exact Ext.alloc (by with_reducible assumption) _ | exact (Ext.alloc (by with_reducible assumption) _).drew)
                (first
                | ((refine step_app (by rfl) (.tmp 40) (.tmp 44) 22 (by rfl) _ _ (by rfl) (by rfl) _ (app_ints0 _ _ wr.heap.size _ q qa qc (by simp only [heap_get, heap_dr, heap_size]; simp) (by omega) (HQI.out.ext (hr.trans (by repeat (first | exact Ext.refl _ | apply Ext.alloc | apply Ext.drew)))).ints (by omega)) ?_; rintro v45 w45 ⟨⟨g45, c45, rfl, hq45⟩, ho45, hg45⟩; have he45 : Ext wr w45 := grown_ext0 (by repeat (first | exact Ext.refl _ | apply Ext.alloc | apply Ext.drew)) hg45 (by omega); have hxa45 := hr.trans he45))
                | ((refine step_app (by rfl) (.tmp 45) (.tmp 53) 22 (by rfl) _ _ (by rfl) (by rfl) _ (app_ints _ wr.heap.size _ _ q [nth (L i) j] (some ⟨_, 0, none⟩) 1 (by first | exact ho45 | exact ho45.ext ((Ext.refl _).alloc _)) (by first | exact ints_one (heap_new _ _) | (refine ints_one (fz := (0, 0)) ((hg45.block _ ?_ ?_).trans ?_) <;> first | (simp; done) | (simp only [heap_dr, heap_size]; omega) | (simp only [heap_get, heap_dr, heap_size]; simp; done))) (by simp; omega) (by have := he45.size; first | omega | (rw [heap_size]; omega))) ?_; rintro v54 w54 ⟨ho54, hg54⟩; have he54 : Ext wr w54 := grown_ext (by first | exact he45 | exact he45.alloc _) hg54 (own_block ho45); rw [← HQ2.out] at ho54; obtain ⟨va, vn, vc, rfl⟩ := own_slice ho54; have hi54 := ho54.intsT; have hn54 := ho54.ints; obtain ⟨-, hn54, -⟩ := hn54; subst hn54; have hxa54 := hr.trans he54))
                | ((refine step_app (by rfl) (.tmp 39) (.tmp 55) 62 (by rfl) _ _ (by rfl) (by rfl) _ (plans_app _ wA.heap.size _ _ pl (hnx.out.ext (he54.alloc _)) va q2 vc _ (hi54.ext ((Ext.refl _).alloc _)) (heap_new _ _) (by omega) (by have := hxa54.size; rw [heap_size]; omega)) ?_; rintro v56 w56 ⟨hp56, hg56⟩; have hxa56 : Ext wA w56 := grown_ext (hxa54.alloc _) hg56 hnx.out.block))
                | fail)
              all_goals
                have hp57 : Hid (PlansB wA.heap.size w56 v56 (preN L i k (j + 1))) := by rw [Hid, HST.out, ← HQ2.out]; exact hp56
                clear ho45 hg45 hq45 ho54 hg54 hi54 hp56 hg56 he45 he54 hxa45 hxa54
                go_wp2_with (fail)
                go_roundw
                case rel => exact ⟨j + 1, by omega, by go_num, hxa56, hp57⟩
                case measure => simp [intOf]; omega
            · obtain rfl : j = m := by omega
              have hp2 : Hid (PlansB wA.heap.size wr u10 (preN L i (k + 1) 0)) := by
                rw [Hid, ← preN_next L i k hkN', ← HM.out]; exact hnx.out
              clear hnx
              go_wp2_with (fail)
              go_roundw
              case rel => exact ⟨k + 1, by omega, by go_num, hr, hp2⟩
              case measure => simp [intOf]; omega
        · obtain rfl : k = N := by omega
          have hp2 : Hid (PlansB w1.heap.size wr u10 (prodN L (i + 1))) := by
            obtain ⟨ss', q1, q2, q3⟩ := hnx.out
            refine ⟨ss', by rw [q1, HN.out, preN_end], ?_, q3⟩
            refine ⟨q2.1, ?_⟩
            rcases q2.2 with h | ⟨g, cap, cur, hv, hg, r⟩
            · exact .inl h
            · exact .inr ⟨g, cap, cur, hv, by have := hrA.size; omega, r⟩
          have hrE := hrA.trans hr
          clear hnx
          go_wp2_with (fail)
          go_roundw
          case rel => exact ⟨i + 1, by omega, by go_num, hrE, hp2⟩
          case measure => simp [intOf]; omega
    · obtain rfl : i = l.length := by omega
      have hall := stN_all ha l L
      have HALL := Lib.hid hall
      have hpl16 : ∀ k, k < (prodN L l.length).length → (lth (prodN L l.length) k).length = l.length := fun k hk => ((prodN_mem L l.length _).1 (by rw [lth_eq _ _ hk]; exact List.getElem_mem _)).1
      have HP16 := Lib.hid hpl16
      have hN1 : (prodN L l.length).length ≤ 100000 := HCN.out _ (Nat.le_refl _)
      clear hall hpl16 hlt
      generalize allSt ha l L = stA at *
      generalize prodN L l.length = pl at *
      obtain ⟨v8a, v8c, hv8⟩ := hpl.out.form
      subst hv8
      obtain ⟨wE, hwE⟩ : ∃ wE : World, wE = wr := ⟨_, rfl⟩
      subst hwE
      have hwE2 := Lib.hid (he.trans hr)
      have d0 := fun W (h : Ext wE W) => b0 W (hr.trans h)
      have d1 := fun W (h : Ext wE W) => b1 W (hr.trans h)
      have d2 := fun W (h : Ext wE W) => b2 W (hr.trans h)
      have d3 := fun W (h : Ext wE W) => b3 W (hr.trans h)
      clear b0 b1 b2 b3
      go_wp2_with (fail)
      go_loopw [13, 14] (fun bv t wr => ∃ (k : Nat) (bi : Int), k ≤ pl.length ∧ t = .int .i64 k ∧ bv = .int .i64 bi ∧ Ext wE wr ∧ Hid (BestAt ha l pl k bi)) (fun _ t _ => pl.length - (intOf t).toNat)
      case atStart => exact ⟨0, -1, Nat.zero_le _, rfl, rfl, Ext.refl _, .no (stN_zero _ _ _)⟩
      case round =>
        clear hr
        obtain ⟨k, bi, hk, rfl, rfl, hr, hbest⟩ := hrel
        by_cases hkl : k < pl.length
        · obtain ⟨g8, rfl, qa, qc, p0, hqi⟩ := hpl.out.at hkl
          have hql := HP16.out k hkl
          have hbrq : ∀ n : Later wE, Calls Try.prog 24 #[hval ha ⟨sa, sc, ea, ec⟩, .slice la l.length lc, .slice qa (lth pl k).length qc] n.val (Ret (bval (breachS ha l (lth pl k))) n.val) := fun n => HBR.out n.val (hwE2.out.trans n.ok) _ qa qc (hqi.ext n.ok).ints (by rw [hql]; exact Nat.le_refl _)
          have hcoq : (breachS ha l (lth pl k)).ru = 0 → ∀ n : Later wE, Calls Try.prog 29 #[.slice la l.length lc, .slice qa (lth pl k).length qc] n.val (Ret (.int .i64 (costTo l (lth pl k) l.length)) n.val) := fun h n => HCO.out n.val (hwE2.out.trans n.ok) _ qa qc (hqi.ext n.ok).ints (by rw [hql]; exact Nat.le_refl _) fun i hi => by
            have := inTime_bd (HV.out.cb i hi) ((single_ok (breach_single h)).1 i hi); have := HV.out.n2; omega
          have HBQ := Lib.hid hbrq; have HCQ := Lib.hid hcoq
          clear hbrq hcoq hqi hql
          cases T1 : ((breachS ha l (lth pl k)).ru == 0)
          · have hb2 := Lib.hid (hbest.out.skip hkl (by simpa using T1))
            generalize lth pl k = q at *
            go_wp2_with (fail)
            refine wp_region_ext (by kernel_rfl) (by kernel_rfl) hr ?_
            repeat (first | go_big_quiet_step ((go_at_call 24; with_reducible exact Calls.later (HBQ.out _))) | quiet_step ((go_at_call 24; with_reducible exact Calls.later (HBQ.out _))))
            refine wpQuiet_nil ?_
            rintro _ ⟨nq, rfl⟩
            have hq := nq.ok
            clear HBQ HCQ p0
            go_wp2_with (fail)
            go_roundw
            case rel => exact ⟨k + 1, bi, by omega, by go_num, rfl, hq, hb2⟩
            case measure => simp [intOf]; omega
          · have hq0 : (breachS ha l (lth pl k)).ru = 0 := by simpa using T1
            have hcoq := HCQ.out hq0
            replace HCQ := Lib.hid hcoq
            clear hcoq
            have hbb := hbest.out
            cases hbb with
            | no h =>
              have hb2 := Lib.hid (BestAt.first h hkl hq0)
              clear h hq0
              generalize lth pl k = q at *
              go_wp2_with (fail)
              refine wp_region_ext (by kernel_rfl) (by kernel_rfl) hr ?_
              repeat (first | go_big_quiet_step ((go_at_call 24; with_reducible exact Calls.later (HBQ.out _))) | quiet_step ((go_at_call 24; with_reducible exact Calls.later (HBQ.out _))))
              refine wpQuiet_nil ?_
              rintro _ ⟨nq, rfl⟩
              have hq := nq.ok
              clear HBQ HCQ p0
              go_wp2_with (fail)
              go_roundw
              case rel => exact ⟨k + 1, k, by omega, by go_num, rfl, hq, hb2⟩
              case measure => simp [intOf]; omega
            | yes b hb hqb h =>
              have hbl : b < pl.length := by omega
              obtain ⟨g8', hg8, ra, rc, r0, hri⟩ := hpl.out.at hbl
              simp only [Option.some.injEq, Addr.mk.injEq, and_true] at hg8
              subst hg8
              have hrl := HP16.out b hbl
              have hcor : ∀ n : Later wE, Calls Try.prog 29 #[.slice la l.length lc, .slice ra (lth pl b).length rc] n.val (Ret (.int .i64 (costTo l (lth pl b) l.length)) n.val) := fun n => HCO.out n.val (hwE2.out.trans n.ok) _ ra rc (hri.ext n.ok).ints (by rw [hrl]; exact Nat.le_refl _) fun i hi => by
                have := inTime_bd (HV.out.cb i hi) ((single_ok (breach_single hqb)).1 i hi); have := HV.out.n2; omega
              have HCR := Lib.hid hcor
              have hb0 : (0 : Int) ≤ (b : Int) := by omega
              cases T3 : decide (costTo l (lth pl k) l.length < costTo l (lth pl b) l.length)
              · have hb2 := Lib.hid (BestAt.worse hb hqb h hkl (of_decide_eq_false T3))
                clear hcor hri hrl hqb h hq0
                generalize lth pl k = q at *
                generalize lth pl b = r at *
                go_wp2_with (fail)
                refine wp_region_ext (by kernel_rfl) (by kernel_rfl) hr ?_
                repeat (first | go_big_quiet_step ((first | (go_at_call 24; with_reducible exact Calls.later (HBQ.out _)) | (go_at_call 29; with_reducible exact Calls.later (HCQ.out _)) | (go_at_call 29; with_reducible exact Calls.later (HCR.out _)))) | quiet_step ((first | (go_at_call 24; with_reducible exact Calls.later (HBQ.out _)) | (go_at_call 29; with_reducible exact Calls.later (HCQ.out _)) | (go_at_call 29; with_reducible exact Calls.later (HCR.out _)))))
                refine wpQuiet_nil ?_
                rintro _ ⟨nq, rfl⟩
                have hq := nq.ok
                clear HBQ HCQ HCR p0 r0
                go_wp2_with (fail)
                go_roundw
                case rel => exact ⟨k + 1, b, by omega, by go_num, rfl, hq, hb2⟩
                case measure => simp [intOf]; omega
              · have hb2 := Lib.hid (BestAt.better h hkl hq0 (of_decide_eq_true T3))
                clear hcor hri hrl hqb h hq0
                generalize lth pl k = q at *
                generalize lth pl b = r at *
                go_wp2_with (fail)
                refine wp_region_ext (by kernel_rfl) (by kernel_rfl) hr ?_
                repeat (first | go_big_quiet_step ((first | (go_at_call 24; with_reducible exact Calls.later (HBQ.out _)) | (go_at_call 29; with_reducible exact Calls.later (HCQ.out _)) | (go_at_call 29; with_reducible exact Calls.later (HCR.out _)))) | quiet_step ((first | (go_at_call 24; with_reducible exact Calls.later (HBQ.out _)) | (go_at_call 29; with_reducible exact Calls.later (HCQ.out _)) | (go_at_call 29; with_reducible exact Calls.later (HCR.out _)))))
                refine wpQuiet_nil ?_
                rintro _ ⟨nq, rfl⟩
                have hq := nq.ok
                clear HBQ HCQ HCR p0 r0
                go_wp2_with (fail)
                go_roundw
                case rel => exact ⟨k + 1, k, by omega, by go_num, rfl, hq, hb2⟩
                case measure => simp [intOf]; omega
        · obtain rfl : k = pl.length := by omega
          have hbb := hbest.out
          have hwr := hwE2.out.trans hr
          cases hbb with
          | no h =>
            rw [HALL.out] at h
            subst h
            clear d0 d1 d2 d3
            go_wp2_with (fail)
            go_ret2
            exact ⟨none, 0, rfl, hwr, trivial⟩
          | yes b hb hqb h =>
            rw [HALL.out] at h
            subst h
            obtain ⟨g8, rfl, ra, rc, r0, hri⟩ := hpl.out.at hb
            have hb0 : (0 : Int) ≤ (b : Int) := by omega
            have HRI := Lib.hid (hri.ext hr).ints
            clear d0 d1 d2 d3 hqb hri
            generalize hrr : lth pl b = r at *
            clear hrr
            go_wp2_with (fail)
            go_ret2
            exact ⟨ra, rc, rfl, hwr, HRI.out⟩
end Go.Proofs.Ytjpgignbjkgjiaa
