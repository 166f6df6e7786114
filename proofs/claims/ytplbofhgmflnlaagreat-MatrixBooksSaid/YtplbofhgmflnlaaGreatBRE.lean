/-
  Walk: the reference's NewBook.
-/
import Derived.Test.YtplbofhgmflnlaaGreatBU3
import Derived.Test.YtplbofhgmflnlaaGreatRO2
import Derived.Test.YtplbofhgmflnlaaGreatBR8
set_option linter.unusedVariables false
set_option linter.unusedSimpArgs false
namespace Go.Proofs.YtplbofhgmflnlaaGreat
open Go.RowKit
set_option maxRecDepth 100000 in
set_option maxHeartbeats 4000000 in
theorem rNewBook_any (P : Pw) (a : Option Addr) (ss : List Se) (sc : Nat) (sd : Int) (w : World) (hp : PlanAt w P) (hf : P.fs.length ≤ 8) (hs : SetsAt w a ss) (hn : ss.length ≤ 2000) (hl : ∀ j, j < ss.length → (eth ss j).lv.xs.length = P.fs.length) (pts : List Pt) (hpl : pts.length = ss.length) (hpt : ∀ k, k < ss.length → qth pts k = ⟨(eth ss k).blk, (qth pts k).place, 0, ⟨#[]⟩⟩) :
    Calls Tryz.prog 53 #[planV P, .slice a ss.length sc, .int .u64 sd] w (fun e w' => ∃ x : Rb, e = .returned (rbV x pts.length (refO 1001 (fun i => gL P.fs (eth ss i)) ss.length sd).length) ∧ Ext w w' ∧ (∀ g, (g < w.heap.size ∨ w'.heap.size ≤ g) → OffB g x) ∧ RbAt w' x pts (refO 1001 (fun i => gL P.fs (eth ss i)) ss.length sd)) := by
  have hor := fun W (e : Ext w W) => rOrder_any P a ss sc sd W (hp.ext e) hf (hs.ext e) hn hl
  obtain ⟨O, hO⟩ : ∃ O, O = refO 1001 (fun i => gL P.fs (eth ss i)) ss.length sd := ⟨_, rfl⟩
  rw [← hO] at hor ⊢
  obtain ⟨fs, fa, fc, fo, ga, gc⟩ := P
  obtain ⟨n, hnn⟩ : ∃ n, n = ss.length := ⟨_, rfl⟩
  rw [← hnn] at hn hor hpl hpt ⊢
  try simp only at hor
  have HOR := Lib.hid hor; have HPL := Lib.hid hpl; have HPT := Lib.hid hpt; have HS := Lib.hid hs; have HNN := Lib.hid hnn
  clear hp hf hs hl hor hpl hpt hnn hO
  go_enter Tryz.func53, Tryz.ntmps53
  go_upto_region 1 with fail
  generalize hw1 : World.alloc _ _ = w1
  obtain ⟨he, o1, o2, -⟩ := alloc2 hw1
  obtain ⟨b0, b1⟩ := obj_cells2 o1
  have E1 := Ext.refl w1
  have HE := Lib.hid he
  have HO2 := Lib.hid o2
  clear hw1 o1 he o2
  go_wp2_with (fail)
  (with_reducible refine (HOR.out w1 HE.out).mono ?_); rintro e w2 ⟨oa, oc, rfl, he2, ho2⟩
  have HOO := Lib.hid ho2
  have HE2 := Lib.hid he2
  clear ho2 he2
  go_upto_region 2 with fail
  have HSB : Hid (w.heap.size ≤ w1.heap.size ∧ w.heap.size ≤ w2.heap.size) := ⟨HE.out.size, Nat.le_trans HE.out.size HE2.out.size⟩
  have hrow2 : RowsAt w2 w.heap.size [rwI (.slice oa O.length oc) O, rwX (w.heap.size + 1) (.slice none 0 0) (.slice none 0 0) (.slice none 0 0) (.slice none 0 0)] := by
    have h1 : RowsAt w1 w.heap.size [rwX (w.heap.size + 1) (.slice none 0 0) (.slice none 0 0) (.slice none 0 0) (.slice none 0 0)] := by
      refine ⟨fun r hr => ?_, List.pairwise_singleton _ _⟩
      rw [List.mem_singleton] at hr
      subst hr
      exact bx_at HO2.out (Nat.le_succ _)
    exact h1.add HSB.out.1 HE2.out HOO.out
  have hX3 : Ext w2 (w2.alloc (.cells #[.slice none 0 0, .slice oa O.length oc, .slice none 0 0, .slice none 0 0] 102)) := (Ext.refl w2).alloc _
  have hrow3 : RowsAt (w2.alloc (.cells #[.slice none 0 0, .slice oa O.length oc, .slice none 0 0, .slice none 0 0] 102)) w.heap.size (rwX w2.heap.size (.slice none 0 0) (.slice oa O.length oc) (.slice none 0 0) (.slice none 0 0) :: rwBl (.slice none 0 0) [] :: rwSt (.slice none 0 0) [] :: rwRs (.slice none 0 0) [] :: [rwI (.slice oa O.length oc) O, rwX (w.heap.size + 1) (.slice none 0 0) (.slice none 0 0) (.slice none 0 0) (.slice none 0 0)]) :=
    (((hrow2.nilrow 9 1).nilrow 115 1).nilrow 3 1).push (bx_at (heap_new _ _) HSB.out.2) (fun k hk => heap_old _ _ k hk) (fun k hk => by simp only [Value.ownBlock, Option.some.injEq] at hk; omega)
  have HR3 : Hid (Ext w (w2.alloc (.cells #[.slice none 0 0, .slice oa O.length oc, .slice none 0 0, .slice none 0 0] 102)) ∧ RowsAt (w2.alloc (.cells #[.slice none 0 0, .slice oa O.length oc, .slice none 0 0, .slice none 0 0] 102)) w.heap.size (rwX w2.heap.size (.slice none 0 0) (.slice oa O.length oc) (.slice none 0 0) (.slice none 0 0) :: rwBl (.slice none 0 0) [] :: rwSt (.slice none 0 0) [] :: rwRs (.slice none 0 0) [] :: [rwI (.slice oa O.length oc) O, rwX (w.heap.size + 1) (.slice none 0 0) (.slice none 0 0) (.slice none 0 0) (.slice none 0 0)])) := ⟨(HE.out.trans HE2.out).trans hX3, hrow3⟩
  clear hrow2 hX3 hrow3 HOO
  generalize w2.alloc (.cells #[.slice none 0 0, .slice oa O.length oc, .slice none 0 0, .slice none 0 0] 102) = w3 at HR3 ⊢
  obtain ⟨tb, htb⟩ : ∃ tb, tb = w2.heap.size := ⟨_, rfl⟩
  rw [← htb] at HR3 ⊢
  clear htb
  have HPN : Hid (∀ k, k < n → ∃ b pl, qth pts k = ⟨b, pl, 0, ⟨#[]⟩⟩ ∧ b = (eth ss k).blk ∧ pts.take (k + 1) = pts.take k ++ [⟨b, pl, 0, ⟨#[]⟩⟩]) := fun k hk => by
    refine ⟨_, _, HPT.out k hk, rfl, ?_⟩
    rw [← HPT.out k hk, List.take_add_one, List.getElem?_eq_getElem (by rw [HPL.out]; exact hk), ← qth_eq pts k (by rw [HPL.out]; exact hk)]
    rfl
  clear HPT
  go_wp2_with (fail)
  go_loopw [8] (fun i wr => ∃ (k : Nat), k ≤ n ∧ i = .int .i64 k ∧ ∃ Bv Sv Rv, Hid (Ext w wr ∧ RowsAt wr w.heap.size (rwX tb Bv (.slice oa O.length oc) Sv Rv :: rwBl Bv (pts.take k) :: rwSt Sv (pts.take k) :: rwRs Rv (pts.take k) :: [rwI (.slice oa O.length oc) O, rwX (w.heap.size + 1) (.slice none 0 0) (.slice none 0 0) (.slice none 0 0) (.slice none 0 0)]))) (fun i _ => n - (intOf i).toNat)
  case atStart => exact ⟨0, Nat.zero_le _, rfl, _, _, _, HR3.out⟩
  case round =>
    obtain ⟨k, hk, rfl, Bv, Sv, Rv, HR⟩ := hrel
    by_cases hlt : k < n
    · obtain ⟨b, pl, hq1, hq2, HTK⟩ := HPN.out k hlt
      obtain ⟨lb, lo, rfl, d0, d1⟩ := set_at HS.out.row k (by rw [← HNN.out]; exact hlt)
      rw [← hq2] at d1
      have HBK : Hid (∀ W, Ext w W → W.cell? ⟨lb, lo + k * 2 + 1, none⟩ = some (.int .i64 b)) := d1
      have HN : Hid ((pts.take k).length ≤ 100000) := by rw [Hid, List.length_take]; omega
      have HTK := Lib.hid HTK
      have hk0 : (0 : Int) ≤ (k : Int) := by omega
      have hkn : (k : Int) < (n : Int) := by omega
      clear d0 d1 hq1 hq2 HR3
      go_upto_region 5 with fail
      refine rnb_law (pl := pl) hk0 hkn HR HBK HN _ (by rfl) rfl rfl rfl ?_
      intro vs w9 ls9 hl9 hJ9 e0 e1 e2 e3 e4 e5 e6 e7 e8 e9 e10 e11 e12 e13 e14 e15 e16 e17 e19 e21
      simp only [Act.put, List.setIfInBounds_toArray, List.set_cons_zero, List.set_cons_succ]
      rw [e0, e1, e2, e3, e4, e5, e6, e9, e10, e13, e14, e17, e19, e21]
      have hx9 := hJ9.ext
      have hr9 := hJ9.rows
      rw [hl9 8 (by omega), hl9 12 (by omega), hl9 16 (by omega), hl9 18 (by omega), hl9 20 (by omega), hl9 22 (by omega)] at hr9
      simp only [if_true] at hr9
      rw [← HTK.out] at hr9
      have HR9 : Hid (Ext w w9 ∧ RowsAt w9 w.heap.size (rwX tb (vs 8) (.slice oa O.length oc) (vs 12) (vs 16) :: rwBl (vs 8) (pts.take (k + 1)) :: rwSt (vs 12) (pts.take (k + 1)) :: rwRs (vs 16) (pts.take (k + 1)) :: [rwI (.slice oa O.length oc) O, rwX (w.heap.size + 1) (.slice none 0 0) (.slice none 0 0) (.slice none 0 0) (.slice none 0 0)])) := ⟨hx9, hr9⟩
      clear hx9 hr9 hJ9 hl9 e0 e1 e2 e3 e4 e5 e6 e7 e8 e9 e10 e11 e12 e13 e14 e15 e16 e17 e19 e21 HR HTK HN HBK
      generalize vs 7 = u7
      generalize vs 8 = u8 at HR9 ⊢
      generalize vs 11 = u11
      generalize vs 12 = u12 at HR9 ⊢
      generalize vs 15 = u15
      generalize vs 16 = u16 at HR9 ⊢
      go_wp2_with (fail)
      go_roundw
      case rel => exact ⟨k + 1, by omega, by go_num, _, _, _, HR9.out⟩
      case measure => simp [intOf]; omega
    · obtain rfl : k = n := by omega
      rw [List.take_of_length_le (Nat.le_of_eq HPL.out)] at HR
      have hr := HR.out.2
      have hown1 : OwnF 3 1 blC wr w.heap.size Bv pts := hr.get (i := 1) rfl
      have hown2 : OwnF 115 1 stC wr w.heap.size Sv pts := hr.get (i := 2) rfl
      have hown3 : OwnF 9 1 rsC wr w.heap.size Rv pts := hr.get (i := 3) rfl
      have hown4 : OwnI wr w.heap.size (.slice oa O.length oc) O := hr.get (i := 4) rfl
      obtain ⟨ba, bc, rfl⟩ := ownF_slice hown1
      obtain ⟨sa, sc', rfl⟩ := ownF_slice hown2
      obtain ⟨ra, rc, rfl⟩ := ownF_slice hown3
      obtain ⟨q0, q1, q2, q3, -, -⟩ := bx_cells (hr.get (i := 0) rfl)
      obtain ⟨z0, z1, z2, z3, zf, hzb⟩ := bx_cells (hr.get (i := 5) rfl)
      have hb10 : wr.heap[w.heap.size + 1]? = some (.cells #[.slice none 0 0, .slice none 0 0, .slice none 0 0, .slice none 0 0] 102 (0, 0)) := row_block (sz := 4) (n := 1) (hr.get (i := 5) rfl)
      have HB10 := Lib.hid hb10
      have HOW : Hid (OwnF 3 1 blC wr w.heap.size (.slice ba pts.length bc) pts ∧ OwnF 115 1 stC wr w.heap.size (.slice sa pts.length sc') pts ∧ OwnF 9 1 rsC wr w.heap.size (.slice ra pts.length rc) pts ∧ OwnI wr w.heap.size (.slice oa O.length oc) O) := ⟨hown1, hown2, hown3, hown4⟩
      have f0 := zf 0
      have f1 := zf 1
      have f2 := zf 2
      have f3 := zf 3
      clear HR3 zf hr hown1 hown2 hown3 hown4 hb10
      go_wp2_with (fail)
      generalize hwe : World.setCell (World.setCell (World.setCell (World.setCell wr _ _) _ _) _ _) _ _ = we
      have hrb : (rwX (w.heap.size + 1) (.slice none 0 0) (.slice none 0 0) (.slice none 0 0) (.slice none 0 0)).at wr w.heap.size := HR.out.2.get (i := 5) rfl
      obtain ⟨hee, hbe⟩ := res4 HB10.out (Ext.refl wr) HR.out.1 (Nat.le_succ _) hwe
      obtain ⟨r0, r1, r2, r3⟩ := obj_cells4 hbe
      have E9 := Ext.refl we
      have hxx : ExtX (w.heap.size + 1) wr we := by rw [← hwe]; exact ((((ExtX.refl _ wr).set 0 _).set 1 _).set 2 _).set 3 _
      obtain ⟨hown1, hown2, hown3, hown4⟩ := HOW.out
      have hs1 := own_of_block hown1 fun j hj => hxx.block j (hown1.lt j hj).2 (fun e => own_types_ne hown1 hrb (show (3 : TypeId) ≠ 102 by decide) j (w.heap.size + 1) hj rfl e)
      have hs2 := own_of_block hown2 fun j hj => hxx.block j (hown2.lt j hj).2 (fun e => own_types_ne hown2 hrb (show (115 : TypeId) ≠ 102 by decide) j (w.heap.size + 1) hj rfl e)
      have hs3 := own_of_block hown3 fun j hj => hxx.block j (hown3.lt j hj).2 (fun e => own_types_ne hown3 hrb (show (9 : TypeId) ≠ 102 by decide) j (w.heap.size + 1) hj rfl e)
      have hs4 : OwnI we w.heap.size (.slice oa O.length oc) O := own_of_block hown4 fun j hj => hxx.block j (hown4.lt j hj).2 (fun e => own_types_ne hown4 hrb (show (3 : TypeId) ≠ 102 by decide) j (w.heap.size + 1) hj rfl e)
      refine bodyPost_ret (v := .agg #[.slice ba pts.length bc, .slice oa O.length oc, .slice sa pts.length sc', .slice ra pts.length rc]) (by simp [results, Tryz.results53, go_sem, r0 _ E9, r1 _ E9, r2 _ E9, r3 _ E9]) rfl ⟨⟨ba, bc, oa, oc, sa, sc', ra, rc⟩, rfl, hee, fun g hg => ⟨offA_own hs1 hg, offA_own hs4 hg, offA_own hs2 hg, offA_own hs3 hg⟩, ?_⟩
      exact ⟨RowAt.own blC_len hs1, hs4.ints.1, RowAt.own stC_len hs2, RowAt.own rsC_len hs3⟩
end Go.Proofs.YtplbofhgmflnlaaGreat
