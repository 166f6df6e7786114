/-
  Walks: order (printed by genm19.py).
-/
import Derived.Test.YtplbofhgmflnlaaGreatM20
set_option linter.unusedVariables false
set_option linter.unusedSimpArgs false
namespace Go.Proofs.YtplbofhgmflnlaaGreat
open Go.RowKit Go.Maps
theorem K_ok {P : Pw} {ss : List Se} (hv : checkE P ss = 0) (i : Nat) (hi : i < ss.length) : (gL P.fs (eth ss i)).length = 9 ∧ (∀ x ∈ gL P.fs (eth ss i), wf64 x) := by
  obtain ⟨h1, h2, h3⟩ := checkE_ok hv
  obtain ⟨h4, -, h5, h6⟩ := setOk (h3 i hi)
  refine ⟨gT_len _ _ _ _, fun x hx => ?_⟩
  simp only [gL, gT, List.mem_cons] at hx
  rcases hx with rfl | hx
  · unfold wf64; omega
  · unfold fl at hx
    obtain ⟨j, hj, rfl⟩ := List.mem_map.1 hx
    split
    · rename_i hc
      simp only [Bool.and_eq_true, decide_eq_true_eq] at hc
      have := levB_at h4 j hc.1
      have h8 := (anyFac_off (planOk h1).2.2.1 j hc.1)
      unfold wf64; omega
    · unfold wf64; omega
theorem range_block {w : World} {g : Nat} {cs : List Value} {T : TypeId} {fz : Nat × Nat} (h : w.heap[g]? = some (.cells cs.toArray T fz)) : w.rangeAt g 0 cs := by
  intro j v hv
  simp only [World.cell?, h, Nat.zero_add, Option.isSome_none, Bool.false_eq_true, if_false]
  simpa using hv
section
variable {w1 w : World} {b7 b8 k : Nat} {K : Nat → List Int} {gs gs' : List (List Int × Value)} {bs : List (Int × Value)} {vn : Value} {key : List Int} {X : List Rw}
theorem stA (hm : K k ∈ ddK K k) (hgs : gs.map Prod.fst = ddK K k) (hbs : bs.map Prod.fst = ddK (KB K) k) (hk : K k = key) (hg : gs'.map Prod.fst = if key ∈ gs.map Prod.fst then gs.map Prod.fst else gs.map Prod.fst ++ [key])
    (h : GSt w1 w b7 b8 gs' bs vn (ddK (KB K) k) (updF (memI K k) key (memI K k key ++ [(k : Int)])) (kbI K k) X) : St w1 w b7 b8 K (k + 1) vn [] := by
  subst hk
  refine ⟨gs', bs, ?_, ?_, ?_⟩
  · rw [hg, hgs, if_pos hm]; simp only [ddK]; rw [if_pos hm]
  · rw [hbs]; simp only [ddK]; rw [if_pos (kb_mem hm)]
  · have e : ddK (KB K) (k + 1) = ddK (KB K) k := by simp only [ddK]; rw [if_pos (kb_mem hm)]
    rw [memI_succ, kbI_old hm, e]
    exact h.drop
theorem stB (hm : K k ∉ ddK K k) (hgs : gs.map Prod.fst = ddK K k) (hbs : bs.map Prod.fst = ddK (KB K) (k + 1)) (hk : K k = key) (hg : gs'.map Prod.fst = if key ∈ gs.map Prod.fst then gs.map Prod.fst else gs.map Prod.fst ++ [key])
    (h : GSt w1 w b7 b8 gs' bs vn (ddK (KB K) (k + 1)) (updF (memI K k) key (memI K k key ++ [(k : Int)])) (kbI K (k + 1)) X) : St w1 w b7 b8 K (k + 1) vn [] := by
  subst hk
  refine ⟨gs', bs, ?_, hbs, ?_⟩
  · rw [hg, hgs, if_neg hm]; simp only [ddK]; rw [if_neg hm]
  · rw [memI_succ]
    exact h.drop
end
set_option maxRecDepth 100000 in
set_option maxHeartbeats 4000000 in
theorem order_any (P : Pw) (a : Option Addr) (ss : List Se) (sc : Nat) (sd : Int) (w : World) (hp : PlanAt w P) (hb : PlanB P) (hs : SetsAt w a ss) (hn : ss.length ≤ 2000) (hv : checkE P ss = 0) (hsd : 0 ≤ sd ∧ sd < 18446744073709551616) :
    Calls Tryz.prog 93 #[planV P, .slice a ss.length sc, .int .u64 sd] w (RetI (ordL (fun i => gL P.fs (eth ss i)) ss.length sd) w) := by
  obtain ⟨h1, h2, h3⟩ := checkE_ok hv
  have hco := fun W (e : Ext w W) p (hp' : p < ss.length) => groupOf_any P (eth ss p) W (hp.ext e) (planOk h1).1 ((hs.ext e).lv p hp') (levB_len (setOk (h3 p hp')).1)
  have hko := fun p (hp' : p < ss.length) => K_ok hv p hp'
  obtain ⟨fs, fa, fc, fo, ga, gc⟩ := P
  simp only at hco hko ⊢
  obtain ⟨K, hK⟩ : ∃ K : Nat → List Int, K = fun i => gL fs (eth ss i) := ⟨_, rfl⟩
  rw [← hK]
  have HCO : Hid (∀ W, Ext w W → ∀ p, p < ss.length → Calls Tryz.prog 126 #[.agg #[.slice fa fs.length fc, .slice ga fo.length gc], setV (eth ss p)] W (Ret (grV (K p)) W)) := fun W e p hp' => by rw [hK]; exact hco W e p hp'
  have HKO : Hid (∀ p, p < ss.length → (K p).length = 9 ∧ ∀ x ∈ K p, wf64 x) := fun p hp' => by rw [hK]; exact hko p hp'
  have HKB : Hid (∀ p, KB K p = (eth ss p).blk) := fun p => by rw [hK]; rfl
  have HS := Lib.hid hs
  clear hco hko hp hb hs h1 h2 h3 hv hK
  have hmm := @run_makeMap Tryz.prog
  go_enter Tryz.func93, Tryz.ntmps93
  go_wp2_with (fail)
  generalize hw1 : World.alloc w _ = w1
  obtain ⟨he, o1, hz1⟩ := alloc1 hw1
  obtain ⟨pb, hpb⟩ : ∃ pb, pb = w.heap.size := ⟨_, rfl⟩
  rw [← hpb] at o1 hz1 ⊢
  rw [show pb + 1 = w1.heap.size from hz1.symm]
  obtain ⟨p0, p1⟩ := obj_cells2 o1
  have HE := Lib.hid he
  clear hw1 o1 he hmm
  generalize hw2 : World.alloc (World.alloc w1 _) _ = w2
  obtain ⟨b7, hb7⟩ : ∃ b7, b7 = w1.heap.size := ⟨_, rfl⟩
  obtain ⟨b8, hb8⟩ : ∃ b8, b8 = w1.heap.size + 1 := ⟨_, rfl⟩
  have HST : Hid (St w1 w2 b7 b8 K 0 (.slice none 0 0) []) := by
    have e1 : Ext w1 (w1.alloc (.map #[] 0)) := (Ext.refl w1).alloc _
    refine ⟨[], [], rfl, rfl, ?_⟩
    rw [← hw2, hb7, hb8]
    refine ⟨e1.alloc _, Nat.le_refl _, by omega, by omega, (MapAt.made 191 w1).ext ((Ext.refl _).alloc _), ?_, ?_⟩
    · have := MapAt.made 3 (w1.alloc (.map #[] 0))
      rwa [heap_size] at this
    · exact (RowsAt.nil _ _).nilrow 3 1
  rw [← hb7, ← (show b8 = b7 + 1 by rw [hb8, hb7])]
  clear hw2 hz1 hb7 hb8 hpb
  go_loopw [9, 23] (fun vn i wr => ∃ k : Nat, k ≤ ss.length ∧ i = .int .i64 k ∧ Hid (St w1 wr b7 b8 K k vn [])) (fun _ i _ => ss.length - (intOf i).toNat)
  case atStart => exact ⟨0, Nat.zero_le _, rfl, HST⟩
  case round =>
    obtain ⟨k, hk, rfl, hst⟩ := hrel
    clear HST
    obtain ⟨gs, bs, hgs, hbs, hG⟩ := hst.out
    have hr := hG.ext
    by_cases hlt : k < ss.length
    · obtain ⟨sb, so, rfl, d0, d1⟩ := set_at (HS.out.ext (HE.out.trans hr)).row k hlt
      have Er := Ext.refl wr
      obtain ⟨hkl, hkw⟩ := HKO.out k hlt
      obtain ⟨A0, hA0⟩ : ∃ A0, A0 = Value.slice (eth ss k).lv.a (eth ss k).lv.xs.length (eth ss k).lv.c := ⟨_, rfl⟩
      obtain ⟨bl, hbl⟩ : ∃ bl, bl = (eth ss k).blk := ⟨_, rfl⟩
      have HA0 := Lib.hid hA0
      have HBL := Lib.hid hbl
      have HBLK : Hid (bl = KB K k) := by rw [Hid, hbl, HKB.out]
      have HA : Hid (setV (eth ss k) = .agg #[A0, .int .i64 bl]) := by rw [hA0, hbl]; rfl
      have HGS := Lib.hid hgs; have HBS := Lib.hid hbs; have HG := Lib.hid hG
      clear hgs hbs hG hA0 hbl
      obtain ⟨l0, l1, l2, l3, l4, l5, l6, l7, l8, hkey⟩ := list9 hkl
      have HKEY := Lib.hid hkey
      have HKW : Hid (∀ x ∈ [l0, l1, l2, l3, l4, l5, l6, l7, l8], wf64 x) := by rw [Hid, ← hkey]; exact hkw
      clear hkey hkl hkw
      go_upto_region 7 with fail
      generalize hw3 : World.alloc wr _ = w3
      obtain ⟨he3, o3, hs3⟩ := alloc1 hw3
      obtain ⟨ab, hab⟩ : ∃ ab, ab = wr.heap.size := ⟨_, rfl⟩
      rw [← hab] at o3 ⊢
      rw [← HA0.out, ← HBL.out] at o3
      obtain ⟨a0, a1⟩ := obj_cells2 o3
      have hr3 := hr.trans he3
      have p0' := fun W (e : Ext w3 W) => p0 W (hr3.trans e)
      have p1' := fun W (e : Ext w3 W) => p1 W (hr3.trans e)
      have HG3 : Hid (GSt w1 w3 b7 b8 gs bs u9 (ddK (KB K) k) (memI K k) (kbI K k) [⟨49, 2, .slice (some ⟨ab, 0, none⟩) 1 1, 1, [A0, .int .i64 bl]⟩]) := Ws.lit HG.out (n := 1) (sz := 2) he3 o3 (by rw [hab]; exact Nat.le_refl _) (by omega) rfl
      have HCL : Hid (∀ W, Ext w3 W → Calls Tryz.prog 126 #[.agg #[.slice fa fs.length fc, .slice ga fo.length gc], .agg #[A0, .int .i64 bl]] W (Ret (.agg #[.int .i64 l0, .int .i64 l1, .int .i64 l2, .int .i64 l3, .int .i64 l4, .int .i64 l5, .int .i64 l6, .int .i64 l7, .int .i64 l8]) W)) := fun W e => by
        have := HCO.out W (HE.out.trans (hr3.trans e)) k hlt
        rw [HA.out, HKEY.out] at this
        exact this
      have E3 := Ext.refl w3
      clear hw3 he3 o3 hs3 hab d0 d1 Er HG HA0 HBL HA
      go_upto_region 8 with (go_at_call 126; (with_reducible refine (HCL.out _ E3).mono ?_); rintro e w4 ⟨rfl, he4⟩)
      generalize hw5 : World.alloc w4 _ = w5
      obtain ⟨he5, o5, hs5⟩ := alloc1 hw5
      obtain ⟨gb, hgb⟩ : ∃ gb, gb = w4.heap.size := ⟨_, rfl⟩
      rw [← hgb] at o5 ⊢
      obtain ⟨XA, hXA⟩ : ∃ XA : Rw, XA = ⟨49, 2, .slice (some ⟨ab, 0, none⟩) 1 1, 1, [A0, .int .i64 bl]⟩ := ⟨_, rfl⟩
      obtain ⟨XG, hXG⟩ : ∃ XG : Rw, XG = ⟨191, 9, .slice (some ⟨gb, 0, none⟩) 1 1, 1, [.int .i64 l0, .int .i64 l1, .int .i64 l2, .int .i64 l3, .int .i64 l4, .int .i64 l5, .int .i64 l6, .int .i64 l7, .int .i64 l8]⟩ := ⟨_, rfl⟩
      have HG5 : Hid (GSt w1 w5 b7 b8 gs bs u9 (ddK (KB K) k) (memI K k) (kbI K k) [XG, XA]) := by
        subst hXA hXG
        exact Ws.lit (GSt.grow HG3.out he4) (n := 1) (sz := 9) he5 o5 (by rw [hgb]; exact Nat.le_refl _) (by omega) rfl
      subst hXA hXG
      obtain ⟨x0, x1, x2, x3, x4, x5, x6, x7, x8⟩ := obj_cells9 o5
      have E5 := Ext.refl w5
      have HGL : Hid (gs.length ≤ 1000000) := by
        have := congrArg List.length HGS.out
        rw [List.length_map] at this
        have := ddK_len K k
        rw [Hid]; omega
      have HBSL : Hid (bs.length ≤ 1000000) := by
        have := congrArg List.length HBS.out
        rw [List.length_map] at this
        have := ddK_len (KB K) k
        rw [Hid]; omega
      have HMZ : Hid ([l0, l1, l2, l3, l4, l5, l6, l7, l8] ∉ gs.map Prod.fst → memI K k [l0, l1, l2, l3, l4, l5, l6, l7, l8] = []) := fun h => by rw [HGS.out] at h; exact memI_none h
      have HBW : Hid (wf64 bl) := by
        rw [Hid, HBLK.out]; unfold KB; rw [HKEY.out]; exact HKW.out _ (by simp [nth])
      have HBZ : Hid (bl ∉ bs.map Prod.fst → kbI K k bl = []) := fun h => by rw [HBS.out] at h; exact kbI_none h
      obtain ⟨m1, m2, hl7⟩ := GSt.look7 HG5.out (key := [l0, l1, l2, l3, l4, l5, l6, l7, l8]) rfl HKW.out HMZ.out
      have hl7' : ∀ W, Ext w5 W → Sem.run Tryz.prog (Instr.lookup 187 (.map (some b7)) (.agg #[.int .i64 l0, .int .i64 l1, .int .i64 l2, .int .i64 l3, .int .i64 l4, .int .i64 l5, .int .i64 l6, .int .i64 l7, .int .i64 l8]) false) W = .ok (.slice m1 (memI K k [l0, l1, l2, l3, l4, l5, l6, l7, l8]).length m2) W := hl7
      clear hw5 o5 hs5 hgb hl7 HG3 HCL E3 p0' p1' a0 a1 he5 he4 hr3 hst
      by_cases hm : K k ∈ ddK K k
      · have hm0 := memI_some hm
        rw [HKEY.out] at hm0
        have HM := Lib.hid hm
        obtain ⟨q, hq⟩ : ∃ q, q = (memI K k [l0, l1, l2, l3, l4, l5, l6, l7, l8]).length := ⟨_, rfl⟩
        rw [← hq] at hm0 hl7'
        have hq0 : ¬ ((q : Int) = 0) := by omega
        clear hq hm hm0
        go_upto_region 12 with fail
        clear hl7' E5 x0 x1 x2 x3 x4 x5 x6 x7 x8 hq0
        have hXA : w5.heap[ab]? = some (.cells #[A0, .int .i64 bl] 49 (0, 0)) := row_block (sz := 2) (n := 1) (HG5.out.rows.own _ (List.mem_cons_of_mem _ (List.mem_cons_self)))
        have hXG : w5.heap[gb]? = some (.cells #[.int .i64 l0, .int .i64 l1, .int .i64 l2, .int .i64 l3, .int .i64 l4, .int .i64 l5, .int .i64 l6, .int .i64 l7, .int .i64 l8] 191 (0, 0)) := row_block (sz := 9) (n := 1) (HG5.out.rows.own _ (List.mem_cons_self))
        obtain ⟨v0, st, wA, r1, v1, wB, r2, wC, r3, gs', hg', hF⟩ := GSt.q12 (HG5.out.grow ((Ext.refl w5).alloc (.cells #[.int .i64 (k : Int)] 3))) (key := [l0, l1, l2, l3, l4, l5, l6, l7, l8]) rfl HKW.out (fun hn' => absurd (by rw [HGS.out, ← HKEY.out]; exact HM.out) hn') HGL.out (Nat.le_trans (memI_len K k _) (by omega)) (k : Int) (heap_new _ _)
        have HF := Lib.hid (stA HM.out HGS.out HBS.out HKEY.out hg' hF)
        have r1' : Sem.run Tryz.prog (Instr.mapEntry 187 (.map (some b7)) (.agg #[.int .i64 l0, .int .i64 l1, .int .i64 l2, .int .i64 l3, .int .i64 l4, .int .i64 l5, .int .i64 l6, .int .i64 l7, .int .i64 l8])) (w5.alloc (.cells #[.int .i64 (k : Int)] 3)) = .ok (.tuple #[v0, .int .i64 (st : Nat)]) wA := r1
        have HR2 := Lib.hid r2
        obtain ⟨x0, x1, x2, x3, x4, x5, x6, x7, x8⟩ := obj_cells9 hXG
        have EW := Ext.refl w5
        clear hF hg' r1 r2 hXA hXG HG5
        go_wp2_with (at_builtin; refine wpList_app _ rfl _ _ 31 rfl (fun v w3 => v = v1 ∧ w3 = wB) ⟨_, _, HR2.out, rfl, rfl⟩ ?_; rintro _ _ ⟨rfl, rfl⟩)
        go_roundw
        case rel => exact ⟨k + 1, by omega, by go_num, HF⟩
        case measure => first | (simp [intOf]; done) | (simp [intOf]; omega)
      · have hm0 := memI_none hm
        rw [HKEY.out] at hm0
        have HM := Lib.hid hm
        rw [hm0] at hl7'
        clear hm hm0
        obtain ⟨m3, m4, hl8⟩ := GSt.look8 HG5.out (b := bl) HBW.out HBZ.out
        have hXA : w5.heap[ab]? = some (.cells #[A0, .int .i64 bl] 49 (0, 0)) := row_block (sz := 2) (n := 1) (HG5.out.rows.own _ (List.mem_cons_of_mem _ (List.mem_cons_self)))
        obtain ⟨y0, y1⟩ := obj_cells2 hXA
        clear hXA
        by_cases hnb : bl ∈ ddK (KB K) k
        · have hm0 := kbI_some hnb
          have HNB := Lib.hid hnb
          obtain ⟨q, hq⟩ : ∃ q, q = (kbI K k bl).length := ⟨_, rfl⟩
          rw [← hq] at hm0 hl8
          have hq0 : ¬ ((q : Int) = 0) := by omega
          clear hq hnb hm0
          go_upto_region 11 with fail
          clear hl7' hl8 E5 x0 x1 x2 x3 x4 x5 x6 x7 x8 hq0 y0 y1
          have hXA : w5.heap[ab]? = some (.cells #[A0, .int .i64 bl] 49 (0, 0)) := row_block (sz := 2) (n := 1) (HG5.out.rows.own _ (List.mem_cons_of_mem _ (List.mem_cons_self)))
          have hXG : w5.heap[gb]? = some (.cells #[.int .i64 l0, .int .i64 l1, .int .i64 l2, .int .i64 l3, .int .i64 l4, .int .i64 l5, .int .i64 l6, .int .i64 l7, .int .i64 l8] 191 (0, 0)) := row_block (sz := 9) (n := 1) (HG5.out.rows.own _ (List.mem_cons_self))
          obtain ⟨V, S, R, q1, q2, q3, q4, q5⟩ := GSt.q11 HG5.out (b := bl) HBW.out HBZ.out HBSL.out (Nat.le_trans (kbI_len K k _) (by omega)) [l0, l1, l2, l3, l4, l5, l6, l7, l8]
          have HCB : Hid (∀ W, Ext w5 W → W.cell? ⟨ab, 1, none⟩ = some (.int .i64 bl)) := fun W e => (obj_cells2 hXA).2 W e
          have HCG : Hid (∀ W, Ext w5 W → W.rangeAt gb 0 [.int .i64 l0, .int .i64 l1, .int .i64 l2, .int .i64 l3, .int .i64 l4, .int .i64 l5, .int .i64 l6, .int .i64 l7, .int .i64 l8]) := fun W e => range_block (e.block hXG)
          have HLK := Lib.hid q1
          have HAPP : Hid (∀ W, Ext w5 W → ∀ g, W.heap[g]? = some (.cells #[.int .i64 l0, .int .i64 l1, .int .i64 l2, .int .i64 l3, .int .i64 l4, .int .i64 l5, .int .i64 l6, .int .i64 l7, .int .i64 l8] 191 (0, 0)) → ∃ v' w', (Builtin.append_ #[193, 193] 193 #[V, .slice (some ⟨g, 0, none⟩) 1 1]).run Tryz.prog W = .ok v' w' ∧ S w' v') := fun W e g hg => q2 W e g (by rw [grC_eq rfl]; exact hg)
          have HST := Lib.hid q3
          have HSB : Hid (∀ W v', S W v' → W.cell? ⟨ab, 1, none⟩ = some (.int .i64 bl)) := fun W v' hs => (obj_cells2 (row_block (sz := 2) (n := 1) (q4 W v' hs _ (List.mem_cons_of_mem _ (List.mem_cons_self))))).2 W (Ext.refl W)
          have HQ5 := Lib.hid q5
          clear q1 q2 q3 q4 q5 hXA hXG HG5
          go_upto_region 11 with fail
          refine or_law HCB HCG HLK HAPP HST HSB _ (by rfl) rfl rfl rfl ?_
          intro vs w9 ls9 hl9 hJ9 e0 e1 e2 e3 e4 e5 e6 e7 e8 e9
          simp only [Act.put, List.setIfInBounds_toArray, List.set_cons_zero, List.set_cons_succ]
          rw [e0, e1, e2, e3, e4, e5, e6, e7]
          obtain ⟨-, -, -, j4⟩ := hJ9
          obtain ⟨bs', hb', hG'⟩ := HQ5.out w9 (j4 (hl9 10 (by omega)))
          have HGN : Hid (GSt w1 w9 b7 b8 gs bs' u9 (ddK (KB K) (k + 1)) (memI K k) (kbI K (k + 1)) [⟨191, 9, .slice (some ⟨gb, 0, none⟩) 1 1, 1, [.int .i64 l0, .int .i64 l1, .int .i64 l2, .int .i64 l3, .int .i64 l4, .int .i64 l5, .int .i64 l6, .int .i64 l7, .int .i64 l8]⟩, ⟨49, 2, .slice (some ⟨ab, 0, none⟩) 1 1, 1, [A0, .int .i64 bl]⟩]) := by
            rw [Hid, kbI_new HM.out, ← HBLK.out, HKEY.out]
            rw [show ddK (KB K) (k + 1) = ddK (KB K) k from (by simp only [ddK]; rw [← HBLK.out, if_pos HNB.out])]
            exact hG'
          have HBN : Hid (bs'.map Prod.fst = ddK (KB K) (k + 1)) := by
            rw [Hid, hb', HBS.out]
            exact (by rw [if_pos HNB.out]; simp only [ddK]; rw [← HBLK.out, if_pos HNB.out])
          clear j4 hb' hG' HCB HCG HLK HAPP HST HSB HQ5 hl9 e0 e1 e2 e3 e4 e5 e6 e7
          have hXA : w9.heap[ab]? = some (.cells #[A0, .int .i64 bl] 49 (0, 0)) := row_block (sz := 2) (n := 1) (HGN.out.rows.own _ (List.mem_cons_of_mem _ (List.mem_cons_self)))
          have hXG : w9.heap[gb]? = some (.cells #[.int .i64 l0, .int .i64 l1, .int .i64 l2, .int .i64 l3, .int .i64 l4, .int .i64 l5, .int .i64 l6, .int .i64 l7, .int .i64 l8] 191 (0, 0)) := row_block (sz := 9) (n := 1) (HGN.out.rows.own _ (List.mem_cons_self))
          obtain ⟨v0, st, wA, r1, v1, wB, r2, wC, r3, gs', hg', hF⟩ := GSt.q12 (HGN.out.grow ((Ext.refl w9).alloc (.cells #[.int .i64 (k : Int)] 3))) (key := [l0, l1, l2, l3, l4, l5, l6, l7, l8]) rfl HKW.out (fun _ => by rw [← HKEY.out]; exact memI_none HM.out) HGL.out (Nat.le_trans (memI_len K k _) (by omega)) (k : Int) (heap_new _ _)
          have HF := Lib.hid (stB HM.out HGS.out HBN.out HKEY.out hg' hF)
          have r1' : Sem.run Tryz.prog (Instr.mapEntry 187 (.map (some b7)) (.agg #[.int .i64 l0, .int .i64 l1, .int .i64 l2, .int .i64 l3, .int .i64 l4, .int .i64 l5, .int .i64 l6, .int .i64 l7, .int .i64 l8])) (w9.alloc (.cells #[.int .i64 (k : Int)] 3)) = .ok (.tuple #[v0, .int .i64 (st : Nat)]) wA := r1
          have HR2 := Lib.hid r2
          obtain ⟨x0, x1, x2, x3, x4, x5, x6, x7, x8⟩ := obj_cells9 hXG
          have EW := Ext.refl w9
          clear hF hg' r1 r2 hXA hXG HGN
          go_wp2_with (at_builtin; refine wpList_app _ rfl _ _ 31 rfl (fun v w3 => v = v1 ∧ w3 = wB) ⟨_, _, HR2.out, rfl, rfl⟩ ?_; rintro _ _ ⟨rfl, rfl⟩)
          go_roundw
          case rel => exact ⟨k + 1, by omega, by go_num, HF⟩
          case measure => first | (simp [intOf]; done) | (simp [intOf]; omega)
        · have hm0 := kbI_none hnb
          have HNB := Lib.hid hnb
          rw [hm0] at hl8
          clear hnb hm0
          go_upto_region 10 with fail
          clear hl7' hl8 x0 x1 x2 x3 x4 x5 x6 x7 x8 y0 y1
          obtain ⟨vN, wN, r1, hG6⟩ := GSt.q10 (HG5.out.grow ((Ext.refl w5).alloc (.cells #[.int .i64 bl] 3))) bl (heap_new _ _) (Nat.le_trans (ddK_len (KB K) k) (by omega))
          have HG6 := Lib.hid hG6
          have HR1 := Lib.hid r1
          have hXA : w5.heap[ab]? = some (.cells #[A0, .int .i64 bl] 49 (0, 0)) := row_block (sz := 2) (n := 1) (HG5.out.rows.own _ (List.mem_cons_of_mem _ (List.mem_cons_self)))
          have hXG : w5.heap[gb]? = some (.cells #[.int .i64 l0, .int .i64 l1, .int .i64 l2, .int .i64 l3, .int .i64 l4, .int .i64 l5, .int .i64 l6, .int .i64 l7, .int .i64 l8] 191 (0, 0)) := row_block (sz := 9) (n := 1) (HG5.out.rows.own _ (List.mem_cons_self))
          obtain ⟨a0, a1⟩ := obj_cells2 hXA
          clear hXA hXG r1 hG6 HG5
          go_upto_region 11 with (at_builtin; refine wpList_app _ rfl _ _ 31 rfl (fun v w3 => vN = v ∧ wN = w3) ⟨_, _, HR1.out, rfl, rfl⟩ ?_; rintro _ _ ⟨rfl, rfl⟩)
          clear a0 a1 HR1
          have hXA : wN.heap[ab]? = some (.cells #[A0, .int .i64 bl] 49 (0, 0)) := row_block (sz := 2) (n := 1) (HG6.out.rows.own _ (List.mem_cons_of_mem _ (List.mem_cons_self)))
          have hXG : wN.heap[gb]? = some (.cells #[.int .i64 l0, .int .i64 l1, .int .i64 l2, .int .i64 l3, .int .i64 l4, .int .i64 l5, .int .i64 l6, .int .i64 l7, .int .i64 l8] 191 (0, 0)) := row_block (sz := 9) (n := 1) (HG6.out.rows.own _ (List.mem_cons_self))
          obtain ⟨V, S, R, q1, q2, q3, q4, q5⟩ := GSt.q11 HG6.out (b := bl) HBW.out HBZ.out HBSL.out (Nat.le_trans (kbI_len K k _) (by omega)) [l0, l1, l2, l3, l4, l5, l6, l7, l8]
          have HCB : Hid (∀ W, Ext wN W → W.cell? ⟨ab, 1, none⟩ = some (.int .i64 bl)) := fun W e => (obj_cells2 hXA).2 W e
          have HCG : Hid (∀ W, Ext wN W → W.rangeAt gb 0 [.int .i64 l0, .int .i64 l1, .int .i64 l2, .int .i64 l3, .int .i64 l4, .int .i64 l5, .int .i64 l6, .int .i64 l7, .int .i64 l8]) := fun W e => range_block (e.block hXG)
          have HLK := Lib.hid q1
          have HAPP : Hid (∀ W, Ext wN W → ∀ g, W.heap[g]? = some (.cells #[.int .i64 l0, .int .i64 l1, .int .i64 l2, .int .i64 l3, .int .i64 l4, .int .i64 l5, .int .i64 l6, .int .i64 l7, .int .i64 l8] 191 (0, 0)) → ∃ v' w', (Builtin.append_ #[193, 193] 193 #[V, .slice (some ⟨g, 0, none⟩) 1 1]).run Tryz.prog W = .ok v' w' ∧ S w' v') := fun W e g hg => q2 W e g (by rw [grC_eq rfl]; exact hg)
          have HST := Lib.hid q3
          have HSB : Hid (∀ W v', S W v' → W.cell? ⟨ab, 1, none⟩ = some (.int .i64 bl)) := fun W v' hs => (obj_cells2 (row_block (sz := 2) (n := 1) (q4 W v' hs _ (List.mem_cons_of_mem _ (List.mem_cons_self))))).2 W (Ext.refl W)
          have HQ5 := Lib.hid q5
          clear q1 q2 q3 q4 q5 hXA hXG HG6
          go_upto_region 11 with fail
          refine or_law HCB HCG HLK HAPP HST HSB _ (by rfl) rfl rfl rfl ?_
          intro vs w9 ls9 hl9 hJ9 e0 e1 e2 e3 e4 e5 e6 e7 e8 e9
          simp only [Act.put, List.setIfInBounds_toArray, List.set_cons_zero, List.set_cons_succ]
          rw [e0, e1, e2, e3, e4, e5, e6, e7]
          obtain ⟨-, -, -, j4⟩ := hJ9
          obtain ⟨bs', hb', hG'⟩ := HQ5.out w9 (j4 (hl9 10 (by omega)))
          have HGN : Hid (GSt w1 w9 b7 b8 gs bs' vN (ddK (KB K) (k + 1)) (memI K k) (kbI K (k + 1)) [⟨191, 9, .slice (some ⟨gb, 0, none⟩) 1 1, 1, [.int .i64 l0, .int .i64 l1, .int .i64 l2, .int .i64 l3, .int .i64 l4, .int .i64 l5, .int .i64 l6, .int .i64 l7, .int .i64 l8]⟩, ⟨49, 2, .slice (some ⟨ab, 0, none⟩) 1 1, 1, [A0, .int .i64 bl]⟩]) := by
            rw [Hid, kbI_new HM.out, ← HBLK.out, HKEY.out]
            rw [show ddK (KB K) (k + 1) = ddK (KB K) k ++ [bl] from (by simp only [ddK]; rw [← HBLK.out, if_neg HNB.out])]
            exact hG'
          have HBN : Hid (bs'.map Prod.fst = ddK (KB K) (k + 1)) := by
            rw [Hid, hb', HBS.out]
            exact (by rw [if_neg HNB.out]; simp only [ddK]; rw [← HBLK.out, if_neg HNB.out])
          clear j4 hb' hG' HCB HCG HLK HAPP HST HSB HQ5 hl9 e0 e1 e2 e3 e4 e5 e6 e7
          have hXA : w9.heap[ab]? = some (.cells #[A0, .int .i64 bl] 49 (0, 0)) := row_block (sz := 2) (n := 1) (HGN.out.rows.own _ (List.mem_cons_of_mem _ (List.mem_cons_self)))
          have hXG : w9.heap[gb]? = some (.cells #[.int .i64 l0, .int .i64 l1, .int .i64 l2, .int .i64 l3, .int .i64 l4, .int .i64 l5, .int .i64 l6, .int .i64 l7, .int .i64 l8] 191 (0, 0)) := row_block (sz := 9) (n := 1) (HGN.out.rows.own _ (List.mem_cons_self))
          obtain ⟨v0, st, wA, r1, v1, wB, r2, wC, r3, gs', hg', hF⟩ := GSt.q12 (HGN.out.grow ((Ext.refl w9).alloc (.cells #[.int .i64 (k : Int)] 3))) (key := [l0, l1, l2, l3, l4, l5, l6, l7, l8]) rfl HKW.out (fun _ => by rw [← HKEY.out]; exact memI_none HM.out) HGL.out (Nat.le_trans (memI_len K k _) (by omega)) (k : Int) (heap_new _ _)
          have HF := Lib.hid (stB HM.out HGS.out HBN.out HKEY.out hg' hF)
          have r1' : Sem.run Tryz.prog (Instr.mapEntry 187 (.map (some b7)) (.agg #[.int .i64 l0, .int .i64 l1, .int .i64 l2, .int .i64 l3, .int .i64 l4, .int .i64 l5, .int .i64 l6, .int .i64 l7, .int .i64 l8])) (w9.alloc (.cells #[.int .i64 (k : Int)] 3)) = .ok (.tuple #[v0, .int .i64 (st : Nat)]) wA := r1
          have HR2 := Lib.hid r2
          obtain ⟨x0, x1, x2, x3, x4, x5, x6, x7, x8⟩ := obj_cells9 hXG
          have EW := Ext.refl w9
          clear hF hg' r1 r2 hXA hXG HGN
          go_wp2_with (at_builtin; refine wpList_app _ rfl _ _ 31 rfl (fun v w3 => v = v1 ∧ w3 = wB) ⟨_, _, HR2.out, rfl, rfl⟩ ?_; rintro _ _ ⟨rfl, rfl⟩)
          go_roundw
          case rel => exact ⟨k + 1, by omega, by go_num, HF⟩
          case measure => first | (simp [intOf]; done) | (simp [intOf]; omega)
    · obtain ⟨n, hnn⟩ : ∃ n, n = ss.length := ⟨_, rfl⟩
      obtain rfl : k = n := by omega
      have HNN := Lib.hid hnn
      rw [← hnn] at hlt hn ⊢
      have HKO2 : Hid (∀ p, p < k → (K p).length = 9 ∧ ∀ x ∈ K p, wf64 x) := fun p h => HKO.out p (by rw [HNN.out] at h; exact h)
      have hkk : Hid (∀ key ∈ ddK K k, key.length = 9 ∧ ∀ x ∈ key, wf64 x) := fun key h => by
        obtain ⟨p, hp, e⟩ := (mem_ddK K key k).1 h
        rw [← e]; exact HKO2.out p hp
      have hbb : Hid (∀ b ∈ ddK (KB K) k, wf64 b) := fun b h => by
        obtain ⟨p, hp, e⟩ := (mem_ddK (KB K) b k).1 h
        obtain ⟨h9, hw9⟩ := HKO2.out p hp
        rw [← e]; unfold KB
        rw [nth_eq _ _ (by omega)]
        exact hw9 _ (List.getElem_mem _)
      obtain ⟨nN, hnN⟩ : ∃ nN, nN = (ddK (KB K) k).length := ⟨_, rfl⟩
      have hnN2 : nN ≤ 2000 := by have := ddK_len (KB K) k; omega
      have hsl : ∃ na nc, u9 = .slice na nN nc := by
        obtain ⟨na, nc, e⟩ := slice_row (show (rwI u9 (ddK (KB K) k)).at wr w1.heap.size from hG.rows.mid)
        exact ⟨na, nc, by rw [hnN]; exact e⟩
      obtain ⟨na, nc, rfl⟩ := hsl
      have HSO : Hid (Calls Tryz.prog 109 #[.slice na nN nc] wr (fun e w' => e = .returned (.tuple #[]) ∧ GSt w1 w' b7 b8 gs bs (.slice na nN nc) (sNs K k) (memI K k) (kbI K k) [])) := hG.sort (by rw [← hnN]; omega)
      have HSL : Hid ((sNs K k).length = nN) := by rw [Hid, sNs_len, hnN]
      have HGS := Lib.hid hgs; have HBS := Lib.hid hbs
      clear hnn hlt hst hG hgs hbs hk hnN hr HS HKO HCO HKB HKO2
      go_wp2_with (go_at_call 109; (with_reducible refine HSO.out.mono ?_); rintro e wS ⟨rfl, hGS⟩; have HG0 := Lib.hid hGS; clear hGS HSO)
      have HG1 : Hid (GSt w1 wS b7 b8 gs bs (.slice na nN nc) (sNs K k) (mem2 K k sd (doneK K k sd 0 0)) (kb2 K k sd ((sNs K k).take 0)) [rwI (.slice none 0 0) ((doneK K k sd 0 0).flatMap (shM K k sd))]) := by
        rw [Hid, done_zero, List.take_zero, mem2_nil, kb2_nil]
        exact Ws.nilrow HG0.out 3 1
      clear HG0
      go_loopw [13, 70] (fun vo i wr => ∃ q : Nat, q ≤ nN ∧ i = .int .i64 q ∧ Hid (GSt w1 wr b7 b8 gs bs (.slice na nN nc) (sNs K k) (mem2 K k sd (doneK K k sd q 0)) (kb2 K k sd ((sNs K k).take q)) [rwI vo ((doneK K k sd q 0).flatMap (shM K k sd))])) (fun _ i _ => nN - (intOf i).toNat)
      case atStart => exact ⟨0, Nat.zero_le _, rfl, HG1⟩
      case round =>
        obtain ⟨q, hq, rfl, hG⟩ := hrel
        clear HG1
        obtain ⟨wo, rfl⟩ : ∃ wo : World, wo = wr := ⟨_, rfl⟩
        by_cases hlt : q < nN
        · have hi := (OwnI.ints (show OwnI wo w1.heap.size (.slice na nN nc) (sNs K k) from hG.out.rows.own (rwI (.slice na nN nc) (sNs K k)) (by simp))).1
          obtain ⟨xo, xp, rfl, d0⟩ := hi.at q (by rw [HSL.out]; exact hlt)
          have Eo := Ext.refl wo
          have HQL : Hid (q < (sNs K k).length) := by rw [Hid, HSL.out]; exact hlt
          obtain ⟨bl, hbl⟩ : ∃ bl, bl = nth (sNs K k) q := ⟨_, rfl⟩
          have HBM : Hid (bl ∈ ddK (KB K) k) := by rw [Hid, hbl, ← sNs_mem, nth_eq _ _ HQL.out]; exact List.getElem_mem _
          have HBL := Lib.hid hbl
          rw [← hbl] at d0
          have hkb : kb2 K k sd ((sNs K k).take q) bl = kbI K k bl := by unfold kb2; rw [hbl, if_neg (take_new q HQL.out)]
          obtain ⟨g8, c8, h8⟩ := hG.out.at8 (b := bl) (by rw [HBS.out]; exact HBM.out) (by rw [hkb]; exact kbI_some HBM.out)
          rw [hkb] at h8
          obtain ⟨m8, hm8⟩ : ∃ m8, m8 = (kbI K k bl).length := ⟨_, rfl⟩
          rw [← hm8] at h8
          have hm82 : m8 ≤ 2000 := by have := kbI_len K k bl; omega
          have hf8 := hG.out.find8 h8 (hbb.out _ HBM.out)
          have HCG : Hid (Calls Tryz.prog 127 #[.int .u64 (IntKind.u64.wrap (sd + IntKind.u64.wrap (IntKind.u64.wrap bl * 1000003))), .slice (some ⟨g8, 0, none⟩) m8 c8] wo (fun e w' => e = .returned (.tuple #[]) ∧ GSt w1 w' b7 b8 gs bs (.slice (some ⟨xo, xp, none⟩) nN nc) (sNs K k) (mem2 K k sd (doneK K k sd q 0)) (kb2 K k sd ((sNs K k).take (q + 1))) [rwI u13 ((doneK K k sd q 0).flatMap (shM K k sd))])) := by
            refine (hG.out.shufG h8 (by rw [hkb, hm8]) (by omega) _).mono ?_
            rintro e w' ⟨rfl, hg⟩
            refine ⟨rfl, ?_⟩
            rw [List.take_succ_eq_append_getElem HQL.out, ← nth_eq _ _ HQL.out, ← hbl, kb2_succ (by rw [hbl]; exact take_new q HQL.out)]
            rw [hkb] at hg
            exact hg
          have HM8 : Hid (m8 = (shB K k sd bl).length) := by rw [Hid, (shB_perm (by omega) bl).length_eq, hm8]
          have H8 := Lib.hid h8
          clear hi hbl hkb h8 hm8 hG
          go_upto_region 20 with (go_at_call 127; (with_reducible refine HCG.out.mono ?_); rintro e wG ⟨rfl, hg⟩; have HG2 := Lib.hid hg; clear hg)
          clear HCG hf8 d0 Eo
          have hf8 := HG2.out.find8 H8.out (hbb.out _ HBM.out)
          have Eg := Ext.refl wG
          go_wp2_with (fail)
          clear hf8 Eg
          go_loopw [13, 87] (fun vo i wr => ∃ j : Nat, j ≤ m8 ∧ i = .int .i64 j ∧ Hid (GSt w1 wr b7 b8 gs bs (.slice (some ⟨xo, xp, none⟩) nN nc) (sNs K k) (mem2 K k sd (doneK K k sd q j)) (kb2 K k sd ((sNs K k).take (q + 1))) [rwI vo ((doneK K k sd q j).flatMap (shM K k sd))])) (fun _ i _ => m8 - (intOf i).toNat)
          case atStart => exact ⟨0, Nat.zero_le _, rfl, HG2⟩
          case round =>
            obtain ⟨j, hj, rfl, hG⟩ := hrel
            clear HG2
            obtain ⟨wi, rfl⟩ : ∃ wi : World, wi = wr := ⟨_, rfl⟩
            by_cases hlt2 : j < m8
            · have HJL : Hid (j < (shB K k sd (nth (sNs K k) q)).length) := by rw [Hid, ← HBL.out, ← HM8.out]; exact hlt2
              obtain ⟨key, hkey⟩ : ∃ key, key = kth (shB K k sd bl) j := ⟨_, rfl⟩
              have hkm : key ∈ ddK K k := by
                have : key ∈ shB K k sd bl := by rw [hkey, kth_eq _ _ (by rw [← HM8.out]; exact hlt2)]; exact List.getElem_mem _
                exact (shB_mem (by omega) this).1
              have hnew : key ∉ doneK K k sd q j := by
                have := done_new (K := K) (n := k) (sd := sd) (by omega) q j HQL.out HJL.out
                rw [← HBL.out, ← hkey] at this; exact this
              have hds : doneK K k sd q (j + 1) = doneK K k sd q j ++ [key] := by rw [done_succ q j HJL.out, ← HBL.out, ← hkey]
              have hkb : kb2 K k sd ((sNs K k).take (q + 1)) bl = shB K k sd bl := by
                unfold kb2
                rw [if_pos (by rw [HBL.out, nth_eq _ _ HQL.out, List.take_succ_eq_append_getElem HQL.out]; exact List.mem_append_right _ (List.mem_singleton.2 rfl))]
              obtain ⟨hk9, hkw⟩ := hkk.out key hkm
              have hrg : wi.rangeAt g8 (j * 9) (rowI key) := by
                have hrow := hG.out.row8 H8.out
                have := OwnF.range grC_len (show OwnG wi w1.heap.size (.slice (some ⟨g8, 0, none⟩) m8 c8) (kb2 K k sd ((sNs K k).take (q + 1)) bl) from hrow) j (by rw [hkb, ← HM8.out]; exact hlt2)
                have e : (kb2 K k sd ((sNs K k).take (q + 1)) bl)[j]'(by rw [hkb, ← HM8.out]; exact hlt2) = key := by
                  rw [hkey, kth_eq _ _ (by rw [← HM8.out]; exact hlt2)]
                  simp only [hkb]
                rw [e, grC_eq hk9] at this
                exact this
              have hmm : mem2 K k sd (doneK K k sd q j) key = memI K k key := by unfold mem2; rw [if_neg hnew]
              obtain ⟨gm, cm, h7⟩ := hG.out.at7 (key := key) (by rw [HGS.out]; exact hkm) (by rw [hmm]; exact memI_some hkm)
              rw [hmm] at h7
              obtain ⟨mm, hm7⟩ : ∃ mm, mm = (memI K k key).length := ⟨_, rfl⟩
              rw [← hm7] at h7
              have hm72 : mm ≤ 2000 := by have := memI_len K k key; omega
              have hm70 : 0 < mm := by have := memI_some hkm; omega
              obtain ⟨x, hx⟩ : ∃ x, x = nth (memI K k key) 0 := ⟨_, rfl⟩
              have HCX : Hid (∀ W, Ext wi W → W.cell? ⟨gm, 0, none⟩ = some (.int .i64 x)) := fun W e => by
                have hrow := hG.out.row7 h7
                have ho : OwnI wi w1.heap.size (.slice (some ⟨gm, 0, none⟩) mm cm) (memI K k key) := by rw [← hmm]; exact hrow
                rw [hx]; exact ownI_cell hm7.symm (ho.ext e) 0 hm70
              have HF7 : Hid (∀ W, Ext wi W → Sem.run Tryz.prog (Instr.lookup 187 (.map (some b7)) (.agg (rowI key).toArray) false) W = .ok (.slice (some ⟨gm, 0, none⟩) mm cm) W) := hG.out.find7 h7 hk9 hkw
              have HCM : Hid (∀ W, Ext wi W → Calls Tryz.prog 80 #[.int .u64 (IntKind.u64.wrap (IntKind.u64.wrap (sd + 1) + IntKind.u64.wrap (IntKind.u64.wrap x * 7919))), .slice (some ⟨gm, 0, none⟩) mm cm] W (fun e w' => e = .returned (.tuple #[]) ∧
                  ∃ v' w'', (Builtin.append_ #[31, 31] 31 #[u13, .slice (some ⟨gm, 0, none⟩) mm cm]).run Tryz.prog w' = .ok v' w'' ∧ GSt w1 w'' b7 b8 gs bs (.slice (some ⟨xo, xp, none⟩) nN nc) (sNs K k) (mem2 K k sd (doneK K k sd q (j + 1))) (kb2 K k sd ((sNs K k).take (q + 1))) [rwI v' ((doneK K k sd q (j + 1)).flatMap (shM K k sd))])) := fun W e => by
                refine ((hG.out.grow e).shufM h7 (by rw [hmm, hm7]) (by omega) _).mono ?_
                rintro e w' ⟨rfl, hg⟩
                refine ⟨rfl, ?_⟩
                have e1 : shufL (IntKind.u64.wrap (IntKind.u64.wrap (sd + 1) + IntKind.u64.wrap (IntKind.u64.wrap x * 7919))) (mem2 K k sd (doneK K k sd q j) key) = shM K k sd key := by rw [hmm, hx]; rfl
                rw [e1, ← mem2_succ hnew, ← hds] at hg
                have e2 : mem2 K k sd (doneK K k sd q (j + 1)) key = shM K k sd key := by unfold mem2; rw [if_pos (by rw [hds]; simp)]
                obtain ⟨v', w'', r1, r2⟩ := hg.appO h7 (by rw [e2, (shM_perm (by omega) key).length_eq, hm7]) (by omega) (by
                  have := out_len K k sd (by omega) _ (done_nodup (K := K) (n := k) (sd := sd) (by omega) q j HQL.out (Nat.le_of_lt HJL.out))
                  omega)
                refine ⟨v', w'', r1, ?_⟩
                rw [e2] at r2
                have e3 : (doneK K k sd q (j + 1)).flatMap (shM K k sd) = (doneK K k sd q j).flatMap (shM K k sd) ++ shM K k sd key := by rw [hds, List.flatMap_append]; simp
                rw [e3]; exact r2
              clear hnew hds hkb hmm h7 hm7 hx hkey hkm hG hkw
              obtain ⟨l0, l1, l2, l3, l4, l5, l6, l7, l8, rfl⟩ := list9 hk9
              have hf7 : ∀ W, Ext wi W → Sem.run Tryz.prog (Instr.lookup 187 (.map (some b7)) (.agg #[.int .i64 l0, .int .i64 l1, .int .i64 l2, .int .i64 l3, .int .i64 l4, .int .i64 l5, .int .i64 l6, .int .i64 l7, .int .i64 l8]) false) W = .ok (.slice (some ⟨gm, 0, none⟩) mm cm) W := HF7.out
              have d0 : ∀ W, Ext wi W → W.cell? ⟨g8, j * 9, none⟩ = some (.int .i64 l0) := fun W e => e.cell (by simpa using hrg 0 _ rfl)
              have d1 : ∀ W, Ext wi W → W.cell? ⟨g8, j * 9 + 1, none⟩ = some (.int .i64 l1) := fun W e => e.cell (by simpa using hrg 1 _ rfl)
              have d2 : ∀ W, Ext wi W → W.cell? ⟨g8, j * 9 + 2, none⟩ = some (.int .i64 l2) := fun W e => e.cell (by simpa using hrg 2 _ rfl)
              have d3 : ∀ W, Ext wi W → W.cell? ⟨g8, j * 9 + 3, none⟩ = some (.int .i64 l3) := fun W e => e.cell (by simpa using hrg 3 _ rfl)
              have d4 : ∀ W, Ext wi W → W.cell? ⟨g8, j * 9 + 4, none⟩ = some (.int .i64 l4) := fun W e => e.cell (by simpa using hrg 4 _ rfl)
              have d5 : ∀ W, Ext wi W → W.cell? ⟨g8, j * 9 + 5, none⟩ = some (.int .i64 l5) := fun W e => e.cell (by simpa using hrg 5 _ rfl)
              have d6 : ∀ W, Ext wi W → W.cell? ⟨g8, j * 9 + 6, none⟩ = some (.int .i64 l6) := fun W e => e.cell (by simpa using hrg 6 _ rfl)
              have d7 : ∀ W, Ext wi W → W.cell? ⟨g8, j * 9 + 7, none⟩ = some (.int .i64 l7) := fun W e => e.cell (by simpa using hrg 7 _ rfl)
              have d8 : ∀ W, Ext wi W → W.cell? ⟨g8, j * 9 + 8, none⟩ = some (.int .i64 l8) := fun W e => e.cell (by simpa using hrg 8 _ rfl)
              have Ei := Ext.refl wi
              have hjz : (j : Int) < (m8 : Int) := by omega
              clear hrg HF7
              go_upto_region 23 with fail
              generalize hw3 : World.alloc wi _ = w3
              obtain ⟨he3, o3, hs3⟩ := alloc1 hw3
              obtain ⟨kb, hkb⟩ : ∃ kb, kb = wi.heap.size := ⟨_, rfl⟩
              rw [← hkb] at o3 ⊢
              obtain ⟨y0, y1, y2, y3, y4, y5, y6, y7, y8⟩ := obj_cells9 o3
              have f7 : ∀ W, Ext w3 W → Sem.run Tryz.prog (Instr.lookup 187 (.map (some b7)) (.agg #[.int .i64 l0, .int .i64 l1, .int .i64 l2, .int .i64 l3, .int .i64 l4, .int .i64 l5, .int .i64 l6, .int .i64 l7, .int .i64 l8]) false) W = .ok (.slice (some ⟨gm, 0, none⟩) mm cm) W := fun W e => hf7 W (he3.trans e)
              have cx : ∀ W, Ext w3 W → W.cell? ⟨gm, 0, none⟩ = some (.int .i64 x) := fun W e => HCX.out W (he3.trans e)
              have HCM3 : Hid (∀ W, Ext w3 W → _) := fun W e => HCM.out W (he3.trans e)
              have E3 := Ext.refl w3
              clear hw3 o3 hs3 hkb d0 d1 d2 d3 d4 d5 d6 d7 d8 hf7 Ei HCX HCM he3
              go_wp2_with (first | (go_at_call 80; (with_reducible refine (HCM3.out _ E3).mono ?_); rintro e wM ⟨rfl, v1, wB, r1, r2⟩; have HR1 := Lib.hid r1; have HR2 := Lib.hid r2; clear r1 r2 f7 cx y0 y1 y2 y3 y4 y5 y6 y7 y8 HCM3) | (at_builtin; refine wpList_app _ rfl _ _ 31 rfl (fun v w3 => v1 = v ∧ wB = w3) ⟨_, _, HR1.out, rfl, rfl⟩ ?_; rintro _ _ ⟨rfl, rfl⟩))
              go_roundw
              case rel => exact ⟨j + 1, by omega, by go_num, HR2⟩
              case measure => first | (simp [intOf]; done) | (simp [intOf]; omega)
            · obtain rfl : j = m8 := by omega
              have HGN : Hid (GSt w1 wi b7 b8 gs bs (.slice (some ⟨xo, xp, none⟩) nN nc) (sNs K k) (mem2 K k sd (doneK K k sd (q + 1) 0)) (kb2 K k sd ((sNs K k).take (q + 1))) [rwI u13 ((doneK K k sd (q + 1) 0).flatMap (shM K k sd))]) := by
                rw [Hid, done_next q HQL.out, ← HBL.out, ← HM8.out]; exact hG.out
              clear hG
              go_wp2_with (fail)
              go_roundw
              case rel => exact ⟨q + 1, by omega, by go_num, HGN⟩
              case measure => first | (simp [intOf]; done) | (simp [intOf]; omega)
        · obtain rfl : q = nN := by omega
          have HO : Hid (Ext w1 wo ∧ (rwI u13 (ordL K k sd)).at wo w1.heap.size) := by
            have := hG.out.rows.own (rwI u13 ((doneK K k sd q 0).flatMap (shM K k sd))) (by simp)
            rw [← HSL.out, done_all] at this
            exact ⟨hG.out.ext, this⟩
          clear hG
          obtain ⟨oa, oc, ho⟩ := slice_row HO.out.2
          have ho' : u13 = .slice oa (ordL K k sd).length oc := ho
          subst ho'
          go_wp2_with (fail)
          go_ret
          rw [← HNN.out]
          exact ⟨oa, oc, rfl, HE.out.trans HO.out.1, own_down HO.out.2 HE.out.size⟩
end Go.Proofs.YtplbofhgmflnlaaGreat
