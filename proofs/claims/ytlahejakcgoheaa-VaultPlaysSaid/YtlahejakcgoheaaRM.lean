/-
  Walks of the reference: sealed.
-/
import Derived.Test.YtlahejakcgoheaaRP
set_option linter.unusedVariables false
set_option linter.unusedSimpArgs false
namespace Go.Proofs.Ytlahejakcgoheaa
open Go.RowKit
set_option maxRecDepth 100000 in
set_option maxHeartbeats 4000000 in
theorem rsealed_any (key : Nat) (x : Lv) (s : ByteArray) (w : World) (hk : key < 18446744073709551616) (ho : LkOk x.l) (hkb : x.l.ki.size ≤ 100000000000000) (hs : s.size ≤ 2000) : Calls Try.prog 81 #[u64 key, lval x, .string s] w (RetCp (sealedL key x.l s.data.toList) w) := by
  have h1 := fun W => rsealKey_any key x W ho hkb
  have h2 := fun W => rpad_any s W hs
  have h3 := fun a c W (q : Byts W a (padB s.data.toList)) => rcipher_any (sealK key x.l) a (padB s.data.toList) c W (p61_64 (sealK_lt _ _)) q (by rw [padB_len, len_data]; have := padN_lt s.size; omega)
  have h4 := fun a c W (q : Byts W a (ciph (sealK key x.l) (padB s.data.toList))) => rdigest_any (sealK key x.l) a (ciph (sealK key x.l) (padB s.data.toList)) c W q (by rw [ciph_len, padB_len, len_data]; have := padN_lt s.size; omega)
  have H1 := Lib.hid h1; have H2 := Lib.hid h2; have H3 := Lib.hid h3; have H4 := Lib.hid h4
  clear h1 h2 h3 h4 ho hk
  go_enter Try.func81, Try.ntmps81
  go_upto_region 1 with fail
  generalize hw1 : World.alloc _ _ = w1
  obtain ⟨he, o1, o2, -⟩ := alloc2 hw1
  have hs1 : w1.heap.size = w.heap.size + 2 := by rw [← hw1, heap_size, heap_size]
  have O1 := Lib.hid o1; have O2 := Lib.hid o2; have HE := Lib.hid he
  obtain ⟨d0, d1, d2, d3, d4, d5, d6, d7, d8, d9⟩ := obj_cells10 o1
  clear hw1 o1 o2
  have E1 := Ext.refl w1
  go_wp2_with (fail)
  (with_reducible refine (H1.out _).mono ?_); rintro e w2 ⟨rfl, he2⟩
  clear d0 d1 d2 d3 d4 d5 d6 d7 d8 d9 E1
  go_wp2_with (fail)
  (with_reducible refine (H2.out _).mono ?_); rintro e w3 ⟨a3, c3, rfl, he3, o3⟩
  go_wp2_with (fail)
  (with_reducible refine (H3.out _ _ _ o3.byts.1).mono ?_); rintro e w4 ⟨a4, c4, rfl, he4, o4⟩
  have he14 := (he2.trans he3).trans he4
  have q1 := he14.block O1.out
  have q2 := he14.block O2.out
  obtain ⟨d0, d1, d2, d3, d4, d5, d6, d7, d8, d9⟩ := obj_cells10 q1
  replace d7 := d7 w4 (Ext.refl _)
  have f7 := obj_free q1 w4 (Ext.refl _) 7
  have hbk := block_set q1 7 (.slice a4 (ciph (sealK key x.l) (padB s.data.toList)).length c4)
  have hb2 : (w4.setCell ⟨w.heap.size, 7, none⟩ (.slice a4 (ciph (sealK key x.l) (padB s.data.toList)).length c4)).heap[w.heap.size + 1]? = _ := (heap_set_ne _ (by omega)).trans q2
  have he5 := (HE.out.trans he14).set (p := ⟨w.heap.size, 7, none⟩) (Nat.le_refl _) (.slice a4 (ciph (sealK key x.l) (padB s.data.toList)).length c4)
  have hfar : ∀ W v p u, p.block < w1.heap.size → OwnB W w1.heap.size v (ciph (sealK key x.l) (padB s.data.toList)) → OwnB (W.setCell p u) w1.heap.size v (ciph (sealK key x.l) (padB s.data.toList)) := fun W v p u hp h => by
    refine OwnB.far h u ?_ (Nat.le_refl _)
    intro k hk
    have := (h.lt _ hk).1
    omega
  have o4' : OwnB w4 w1.heap.size (.slice a4 (ciph (sealK key x.l) (padB s.data.toList)).length c4) (ciph (sealK key x.l) (padB s.data.toList)) := o4.mono (by have := (he2.trans he3).size; omega)
  have own5 := hfar w4 _ ⟨w.heap.size, 7, none⟩ (.slice a4 (ciph (sealK key x.l) (padB s.data.toList)).length c4) (by show w.heap.size < _; omega) o4'
  have HB1 := Lib.hid hbk; have HB2 := Lib.hid hb2; have HE5 := Lib.hid he5; have HO5 := Lib.hid own5; have HFAR := Lib.hid hfar
  clear d0 d1 d2 d3 d4 d5 d6 d8 d9 q1 q2 hbk hb2 he5 own5 he14 he2 he3 he4 o3 o4 o4' he hfar
  go_upto_region 3 with fail
  generalize World.setCell w4 ⟨w.heap.size, 7, none⟩ _ = w5 at *
  clear d7 f7
  simp only [lcells, List.setIfInBounds_toArray, List.set_cons_succ, List.set_cons_zero] at HB1
  obtain ⟨d0, d1, d2, d3, d4, d5, d6, d7, d8, d9⟩ := obj_cells10 HB1.out
  replace d7 := d7 w5 (Ext.refl _)
  clear d0 d1 d2 d3 d4 d5 d6 d8 d9
  have hby := HO5.out.byts.1
  go_wp2_with (fail)
  (with_reducible refine (H4.out _ _ _ hby).mono ?_); rintro e w6 ⟨rfl, he6⟩
  have q1 := he6.block HB1.out
  have q2 := he6.block HB2.out
  obtain ⟨d0, d1, d2, d3, d4, d5, d6, d7, d8, d9⟩ := obj_cells10 q1
  replace d8 := d8 w6 (Ext.refl _)
  have f8 := obj_free q1 w6 (Ext.refl _) 8
  have hbk := block_set q1 8 (u64 (hbs (nh (sealK key x.l)) (ciph (sealK key x.l) (padB s.data.toList))))
  have hb2 : (w6.setCell ⟨w.heap.size, 8, none⟩ (u64 (hbs (nh (sealK key x.l)) (ciph (sealK key x.l) (padB s.data.toList))))).heap[w.heap.size + 1]? = _ := (heap_set_ne _ (by omega)).trans q2
  have he7 := (HE5.out.trans he6).set (p := ⟨w.heap.size, 8, none⟩) (Nat.le_refl _) (u64 (hbs (nh (sealK key x.l)) (ciph (sealK key x.l) (padB s.data.toList))))
  have own7 := HFAR.out w6 _ ⟨w.heap.size, 8, none⟩ (u64 (hbs (nh (sealK key x.l)) (ciph (sealK key x.l) (padB s.data.toList)))) (by show w.heap.size < _; omega) (HO5.out.ext he6)
  have HB3 := Lib.hid hbk; have HB4 := Lib.hid hb2; have HE7 := Lib.hid he7; have HO7 := Lib.hid own7
  clear d0 d1 d2 d3 d4 d5 d6 d7 d9 q1 q2 hbk hb2 he7 own7 hby he6
  go_upto_region 4 with fail
  generalize World.setCell w6 ⟨w.heap.size, 8, none⟩ _ = w7 at *
  clear d8 f8
  simp only [List.setIfInBounds_toArray, List.set_cons_succ, List.set_cons_zero] at HB3
  obtain ⟨d0, d1, d2, d3, d4, d5, d6, d7, d8, d9⟩ := obj_cells10 HB3.out
  obtain ⟨z0, z1, z2, z3, z4, z5, z6, z7, z8, z9⟩ := obj_cells10 HB4.out
  have f1 := obj_free HB4.out w7 (Ext.refl _)
  replace d0 := d0 w7 (Ext.refl _); replace d1 := d1 w7 (Ext.refl _); replace d2 := d2 w7 (Ext.refl _); replace d3 := d3 w7 (Ext.refl _); replace d4 := d4 w7 (Ext.refl _)
  replace d5 := d5 w7 (Ext.refl _); replace d6 := d6 w7 (Ext.refl _); replace d7 := d7 w7 (Ext.refl _); replace d8 := d8 w7 (Ext.refl _); replace d9 := d9 w7 (Ext.refl _)
  replace z0 := z0 w7 (Ext.refl _); replace z1 := z1 w7 (Ext.refl _); replace z2 := z2 w7 (Ext.refl _); replace z3 := z3 w7 (Ext.refl _); replace z4 := z4 w7 (Ext.refl _)
  replace z5 := z5 w7 (Ext.refl _); replace z6 := z6 w7 (Ext.refl _); replace z7 := z7 w7 (Ext.refl _); replace z8 := z8 w7 (Ext.refl _); replace z9 := z9 w7 (Ext.refl _)
  go_wp2_with (fail)
  refine bodyPost_ret (v := lval ⟨sealedL key x.l s.data.toList, a4, c4⟩) (by simp [results, Try.results81, go_sem, z0, z1, z2, z3, z4, z5, z6, z7, z8, z9, sealedL]) rfl ⟨a4, c4, rfl, ?_, ?_⟩
  · repeat (refine Ext.set ?_ (by show w.heap.size ≤ w.heap.size + 1; omega) _)
    exact HE7.out
  · refine OwnB.mono (B := w1.heap.size) ?_ (by omega)
    show OwnB _ _ (.slice a4 (ciph (sealK key x.l) (padB s.data.toList)).length c4) (ciph (sealK key x.l) (padB s.data.toList))
    repeat (refine HFAR.out _ _ _ _ (by show w.heap.size + 1 < _; omega) ?_)
    exact HO7.out
end Go.Proofs.Ytlahejakcgoheaa
