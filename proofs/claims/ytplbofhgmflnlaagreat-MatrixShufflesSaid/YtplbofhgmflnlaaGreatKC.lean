/-
  A walk: known answers true.
-/
import Derived.Test.YtplbofhgmflnlaaGreatKB
set_option linter.unusedVariables false
set_option linter.unusedSimpArgs false
namespace Go.Proofs.YtplbofhgmflnlaaGreat
open Go.RowKit
theorem alloc5 {w w1 : World} {o p q r s : Obj} (h : ((((w.alloc o).alloc p).alloc q).alloc r).alloc s = w1) : Ext w w1 ∧ w1.heap[w.heap.size]? = some o ∧ w1.heap[w.heap.size + 1]? = some p ∧ w1.heap[w.heap.size + 2]? = some q ∧ w1.heap[w.heap.size + 3]? = some r ∧ w1.heap[w.heap.size + 4]? = some s := by
  obtain ⟨a, b, c, d, e⟩ := alloc4 (w := w) (o := o) (p := p) (q := q) (r := r) rfl
  have hs : ((((w.alloc o).alloc p).alloc q).alloc r).heap.size = w.heap.size + 4 := by rw [heap_size, heap_size, heap_size, heap_size]
  subst h
  refine ⟨a.alloc _, ?_, ?_, ?_, ?_, ?_⟩
  · rw [heap_old _ _ _ (by rw [hs]; omega)]; exact b
  · rw [heap_old _ _ _ (by rw [hs]; omega)]; exact c
  · rw [heap_old _ _ _ (by rw [hs]; omega)]; exact d
  · rw [heap_old _ _ _ (by rw [hs]; omega)]; exact e
  · have := heap_new ((((w.alloc o).alloc p).alloc q).alloc r) s; rwa [hs] at this
set_option maxRecDepth 100000 in
set_option maxHeartbeats 4000000 in
theorem known_any (w : World) : Calls Tryz.prog 17 #[] w (Ret (.bool true) w) := by
  go_enter Tryz.func17, Tryz.ntmps17
  go_upto_region 2 with fail
  generalize hw1 : World.alloc _ _ = w1
  obtain ⟨he1, o1, o2, o3, o4⟩ := alloc4 hw1
  obtain ⟨n, hn⟩ : ∃ n, n = w.heap.size := ⟨_, rfl⟩
  obtain ⟨n1, hn1⟩ : ∃ n1, n1 = n + 1 := ⟨_, rfl⟩
  obtain ⟨n2, hn2⟩ : ∃ n2, n2 = n1 + 1 := ⟨_, rfl⟩
  obtain ⟨n3, hn3⟩ : ∃ n3, n3 = n2 + 1 := ⟨_, rfl⟩
  rw [show w.heap.size + 1 = n1 by omega] at o2
  rw [show w.heap.size + 2 = n2 by omega] at o3
  rw [show w.heap.size + 3 = n3 by omega] at o4
  simp only [← hn, ← hn1, ← hn2, ← hn3] at o1 o2 o3 o4 ⊢
  have HP : Hid (PlanAt w1 (pk1 n n1 n2)) := by
    refine ⟨RowAt.lit facC_len o1 rfl, RowAt.lit grpC_len o3 rfl, fun i hi => ?_⟩
    obtain rfl : i = 0 := by simp [pk1] at hi; omega
    exact RowAt.lit prC_len o2 rfl
  obtain ⟨b0, b1⟩ := obj_cells2 o4
  have E1 := Ext.refl w1
  have HE := Lib.hid he1
  clear hw1 o1 o2 o3 o4 he1 hn hn1 hn2 hn3
  go_upto_region 4 with (first
    | (go_at_call 22; (with_reducible refine (kSet n n1 n2 _ (HP.out.ext E1)).mono ?_); rintro e w2 ⟨ga, c1, gb, cb, rfl, he2, q0, q1, q2⟩)
    | (go_at_call 21; (with_reducible refine (kShuf _).mono ?_); rintro e w3 ⟨gc, c2, rfl, he3, r0, r1⟩))
  have E3 := Ext.refl w3
  go_upto_region 7 with fail
  have HE3 : Hid (Ext w w3) := HE.out.trans (he2.trans he3)
  generalize hw4 : World.alloc (World.alloc w3 _) _ = w4
  obtain ⟨he4, o1, o2, -⟩ := alloc2 hw4
  obtain ⟨n4, hn4⟩ : ∃ n4, n4 = w3.heap.size := ⟨_, rfl⟩
  obtain ⟨n5, hn5⟩ : ∃ n5, n5 = n4 + 1 := ⟨_, rfl⟩
  rw [show w3.heap.size + 1 = n5 by omega] at o2
  simp only [← hn4, ← hn5] at o1 o2 ⊢
  have HF : Hid (FrAt w4 (fk n4)) := RowAt.lit wdC_len o1 rfl
  obtain ⟨b2, b3⟩ := obj_cells2 o2
  have E4 := Ext.refl w4
  have HE4 : Hid (Ext w w4) := HE3.out.trans he4
  clear hw4 o1 o2 he4 hn4 hn5 b0 b1 q0 q1 q2 r0 r1 he2 he3 HE3 E3 E1 HP HE
  go_upto_region 10 with (first
    | (go_at_call 28; (with_reducible refine (kRuns n4 _ (HF.out.ext E4)).mono ?_); rintro e w5 ⟨gr, cr, rfl, he5, q0⟩)
    | (go_at_call 30; (with_reducible refine (kRes n4 _ (HF.out.ext he5)).mono ?_); rintro e w6 ⟨rfl, he6⟩; have he46 := he5.trans he6)
    | (go_at_call 31; (with_reducible refine (kAli n4 _ (HF.out.ext he46)).mono ?_); rintro e w7 ⟨gl, cl, rfl, he7, r0, r1⟩))
  have he57 := he6.trans he7
  have E7 := Ext.refl w7
  go_upto_region 14 with fail
  have HE7 : Hid (Ext w w7) := HE4.out.trans (he46.trans he7)
  generalize hw8 : World.alloc (World.alloc (World.alloc (World.alloc (World.alloc w7 _) _) _) _) _ = w8
  obtain ⟨he8, o1, o2, o3, o4, o5⟩ := alloc5 hw8
  obtain ⟨m0, hm0⟩ : ∃ m0, m0 = w7.heap.size := ⟨_, rfl⟩
  obtain ⟨m1, hm1⟩ : ∃ m1, m1 = m0 + 1 := ⟨_, rfl⟩
  obtain ⟨m2, hm2⟩ : ∃ m2, m2 = m1 + 1 := ⟨_, rfl⟩
  obtain ⟨m3, hm3⟩ : ∃ m3, m3 = m2 + 1 := ⟨_, rfl⟩
  obtain ⟨m4, hm4⟩ : ∃ m4, m4 = m3 + 1 := ⟨_, rfl⟩
  rw [show w7.heap.size + 1 = m1 by omega] at o2
  rw [show w7.heap.size + 2 = m2 by omega] at o3
  rw [show w7.heap.size + 3 = m3 by omega] at o4
  rw [show w7.heap.size + 4 = m4 by omega] at o5
  simp only [← hm0, ← hm1, ← hm2, ← hm3, ← hm4] at o1 o2 o3 o4 o5 ⊢
  have HP : Hid (PlanAt w8 (pk2 m0)) := ⟨RowAt.lit facC_len o1 rfl, .inl rfl, fun i hi => by simp [pk2] at hi⟩
  have HS : Hid (SetsAt w8 (some ⟨m4, 0, none⟩) (ks2 m2 m3)) := by
    refine ⟨RowAt.lit setC_len o5 rfl, fun i hi => ?_⟩
    simp only [ks2, List.length_cons, List.length_nil] at hi
    have c3 := obj_cells1 o3
    have c4 := obj_cells1 o4
    match i, hi with
    | 0, _ => exact .inr ⟨m2, 0, rfl, fun i hi => by simp [ks2, eth] at hi; subst hi; exact c3 _ (Ext.refl _)⟩
    | 1, _ => exact .inr ⟨m3, 0, rfl, fun i hi => by simp [ks2, eth] at hi; subst hi; exact c4 _ (Ext.refl _)⟩
  obtain ⟨b0, b1⟩ := obj_cells2 o2
  have E8 := Ext.refl w8
  have HE8 : Hid (Ext w w8) := HE7.out.trans he8
  clear hw8 o1 o2 o3 o4 o5 he8 hm0 hm1 hm2 hm3 hm4 b2 b3 q0 r0 r1 he5 he6 he7 he46 he57 HE7 E7 E4 HF HE4
  go_upto_region 17 with (first
    | (go_at_call 18; (with_reducible refine (kCheap m0 m2 m3 m4 _ (HP.out.ext E8) (HS.out.ext E8)).mono ?_); rintro e w9 ⟨gw, cw, rfl, he9, q0⟩)
    | (go_at_call 20; (with_reducible refine (kLeast m0 m2 m3 m4 _ (HP.out.ext he9) (HS.out.ext he9)).mono ?_); rintro e w10 ⟨rfl, he10⟩; have he810 := he9.trans he10)
    | (go_at_call 52; (with_reducible refine (kBook m0 m2 m3 m4 _ (HP.out.ext he810) (HS.out.ext he810)).mono ?_); rintro e w11 ⟨x, rfl, he11, HB⟩))
  have he911 := he10.trans he11
  have HE10 : Hid (Ext w w10) := HE8.out.trans he810
  have HE11 : Hid (Ext w w11) := HE10.out.trans he11
  have HBS : Hid (w.heap.size ≤ w10.heap.size) := HE10.out.size
  obtain ⟨B, hB⟩ : ∃ B, B = w10.heap.size := ⟨_, rfl⟩
  rw [← hB] at HB HBS
  clear hB
  have E11 := Ext.refl w11
  go_upto_region 19 with fail
  clear he10 he810 he9 he11 he911 q0 b0 b1 HP HS HE8 HE10
  go_wp2_with (first
    | (go_at_call 62; (with_reducible refine (kNext B x _ HB.out).mono ?_); rintro e w12 ⟨rfl, he12⟩; have HB12 := Lib.hid (HB.out.ext he12); have HE12 : Hid (Ext w w12) := HE11.out.trans he12; clear HB)
    | (go_at_call 56; (with_reducible refine (kDecl B x _ HB14.out).mono ?_); rintro e w15 ⟨rfl, h15⟩; have HB15 := Lib.hid h15.out.2; have HE15 : Hid (Ext w w15) := h15.out.1 _ HE14.out HBS.out; clear h15)
    | (go_at_call 64; (with_reducible refine (kDone B x _ HB15.out).mono ?_); rintro e w16 ⟨rfl, he16⟩; have HE16 : Hid (Ext w w16) := HE15.out.trans he16)
    | (go_at_call 54; (with_reducible refine (kTake0 B x _ HB12.out).mono ?_); rintro e w13 ⟨rfl, h13⟩; have HB13 := Lib.hid h13.out.2; have HE13 : Hid (Ext w w13) := h13.out.1 _ HE12.out HBS.out; clear h13 HB12)
    | (go_at_call 54; (with_reducible refine (kTake1 B x _ HB13.out).mono ?_); rintro e w14 ⟨rfl, h14⟩; have HB14 := Lib.hid h14.out.2; have HE14 : Hid (Ext w w14) := h14.out.1 _ HE13.out HBS.out; clear h14 HB13))
  go_ret
  exact ⟨rfl, HE16.out⟩
end Go.Proofs.YtplbofhgmflnlaaGreat
