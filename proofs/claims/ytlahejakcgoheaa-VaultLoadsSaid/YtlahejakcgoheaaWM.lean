/-
  Texts merged: N7, B4, N8, N9, N10, B5.
-/
import Derived.Test.YtlahejakcgoheaaWN
import Derived.Test.YtlahejakcgoheaaPL
import Derived.Lib.LazyBuf
import Derived.Maps.OwnSet
import Derived.DeepKeys4
section
/-
  Walks: shut, unshut.
-/
set_option linter.unusedVariables false
set_option linter.unusedSimpArgs false
namespace Go.Proofs.Ytlahejakcgoheaa
open Go.RowKit
theorem p61_64 {k : Nat} (h : k < p61) : k < 18446744073709551616 := by unfold p61 at h; omega
/-- What 'shut' leaves. -/
def RetShut (b : Nat) (l : Lk) (w : World) (e : Ending) (w' : World) : Prop := e = .returned (.tuple #[]) ∧ ∃ ba bc, ExtX b w w' ∧ LinkAt w' b ⟨l, ba, bc⟩ ∧ l.bo.length ≤ bc ∧ ∀ d, ba = some d → w.heap.size ≤ d.block
theorem own_addr {w : World} {B : Nat} {d : Addr} {n c : Nat} {xs : List UInt8} (h : OwnB w B (.slice (some d) n c) xs) : B ≤ d.block := (h.lt d.block rfl).1
theorem Byts.extX {X : Nat} {w w' : World} {a : Option Addr} {xs : List UInt8} (h : Byts w a xs) (e : ExtX X w w') (ha : ∀ d, a = some d → d.block ≠ X) : Byts w' a xs := by
  rcases h with h | ⟨b, o, h1, h2⟩
  · exact .inl h
  · exact .inr ⟨b, o, h1, fun i hi => e.cell (h2 i hi) (by have := ha _ h1; exact this)⟩
set_option maxRecDepth 100000 in
set_option maxHeartbeats 1000000 in
theorem shut_any (key b : Nat) (l : Lk) (s : ByteArray) (w : World) (hk : key < 18446744073709551616) (ho : LkOk l) (hb : l.bo = []) (h : w.heap[b]? = some (.cells (lcells ⟨l, none, 0⟩) 59 (0, 0))) (hs : s.size ≤ 2000) :
    Calls Try.prog 68 #[u64 key, .pointer (some ⟨b, 0, none⟩), .string s] w (RetShut b (sealedL key l s.data.toList) w) := by
  have hbl := lt_of_block h
  have h1 := fun W (hW : W.heap[b]? = some (.cells (lcells ⟨l, none, 0⟩) 59 (0, 0))) => sealKey_any key b ⟨l, none, 0⟩ W hk ho hW
  have h2 := fun W => pad_any s W (by omega)
  have h3 := fun a c W (q : Byts W a (padB s.data.toList)) => cipher_any (sealK key l) a (padB s.data.toList) c W (p61_64 (sealK_lt _ _)) q (by rw [padB_len, len_data]; have := padN_lt s.size; omega)
  have h4 := fun a c W (q : Byts W a (ciph (sealK key l) (padB s.data.toList))) => digest_any (sealK key l) a (ciph (sealK key l) (padB s.data.toList)) c W q (by rw [ciph_len, padB_len, len_data]; have := padN_lt s.size; omega)
  have H1 := Lib.hid h1; have H2 := Lib.hid h2; have H3 := Lib.hid h3; have H4 := Lib.hid h4
  have HW := Lib.hid h
  clear h1 h2 h3 h4 h ho hk
  go_enter Try.func68, Try.ntmps68
  go_wp2_with (fail)
  (with_reducible refine (H1.out _ HW.out).mono ?_); rintro e w1 ⟨rfl, he1⟩
  go_wp2_with (fail)
  (with_reducible refine (H2.out _).mono ?_); rintro e w2 ⟨a2, c2, rfl, he2, o2⟩
  go_wp2_with (fail)
  (with_reducible refine (H3.out _ _ _ o2.byts.1).mono ?_); rintro e w3 ⟨a3, c3, rfl, he3, o3⟩
  have he13 := (he1.trans he2).trans he3
  have hw3 := he13.block HW.out
  obtain ⟨d0, d1, d2, d3, d4, d5, d6, d7, d8, d9⟩ := obj_cells10 hw3
  replace d7 := d7 w3 (Ext.refl _)
  have f7 := obj_free hw3 w3 (Ext.refl _) 7
  have hx := (he13.x (X := b)).set 7 (.slice a3 (ciph (sealK key l) (padB s.data.toList)).length c3)
  have hbk := block_set hw3 7 (.slice a3 (ciph (sealK key l) (padB s.data.toList)).length c3)
  have ha3 : ∀ d, a3 = some d → w.heap.size ≤ d.block := by
    rintro d rfl
    have := own_addr o3
    have := (he1.trans he2).size
    omega
  have hby : Byts (w3.setCell ⟨b, 7, none⟩ (.slice a3 (ciph (sealK key l) (padB s.data.toList)).length c3)) a3 (ciph (sealK key l) (padB s.data.toList)) :=
    o3.byts.1.extX ((ExtX.refl b w3).set 7 _) (fun d hd => by have := ha3 d hd; omega)
  have HX := Lib.hid hx; have HB := Lib.hid hbk; have HY := Lib.hid hby; have HA := Lib.hid ha3
  have HC := Lib.hid o3.byts.2.2
  clear d0 d1 d2 d3 d4 d5 d6 d8 d9 hw3 he13 he3 o3 he2 o2 he1 hx hbk hby ha3
  go_upto_region 2 with fail
  generalize World.setCell w3 ⟨b, 7, none⟩ _ = w4 at *
  clear d7 f7
  simp only [lcells, List.setIfInBounds_toArray, List.set_cons_succ, List.set_cons_zero] at HB
  obtain ⟨d0, d1, d2, d3, d4, d5, d6, d7, d8, d9⟩ := obj_cells10 HB.out
  replace d7 := d7 w4 (Ext.refl _)
  clear d0 d1 d2 d3 d4 d5 d6 d8 d9
  go_wp2_with (fail)
  (with_reducible refine (H4.out _ _ _ HY.out).mono ?_); rintro e w5 ⟨rfl, he5⟩
  have hw5 := he5.block HB.out
  obtain ⟨d0, d1, d2, d3, d4, d5, d6, d7, d8, d9⟩ := obj_cells10 hw5
  replace d8 := d8 w5 (Ext.refl _)
  have f8 := obj_free hw5 w5 (Ext.refl _) 8
  have hbk := block_set hw5 8 (u64 (hbs (nh (sealK key l)) (ciph (sealK key l) (padB s.data.toList))))
  have hx := (HX.out.trans he5.x).set 8 (u64 (hbs (nh (sealK key l)) (ciph (sealK key l) (padB s.data.toList))))
  have hby : Byts (w5.setCell ⟨b, 8, none⟩ (u64 (hbs (nh (sealK key l)) (ciph (sealK key l) (padB s.data.toList))))) a3 (ciph (sealK key l) (padB s.data.toList)) :=
    (HY.out.ext he5).extX ((ExtX.refl b w5).set 8 _) (fun d hd => by have := HA.out d hd; omega)
  have HX2 := Lib.hid hx; have HB2 := Lib.hid hbk; have HY2 := Lib.hid hby
  clear d0 d1 d2 d3 d4 d5 d6 d7 d9 hw5 hbk hx hby
  go_wp2_with (fail)
  go_end0
  refine ⟨rfl, a3, c3, HX2.out, ⟨?_, HY2.out⟩, HC.out, HA.out⟩
  rw [HB2.out]
  simp [sealedL, lcells]
theorem beq_cast (a b : Nat) : ((a : Int) == (b : Int)) = (a == b) := by rw [Bool.eq_iff_iff]; simp; omega
/-- What 'unshut' tells. -/
def unshV (key : Nat) (l : Lk) : Value := .tuple #[.string ⟨(textL key l).toArray⟩, .bool (fitsL key l), .bool (okL key l)]
set_option maxRecDepth 100000 in
set_option maxHeartbeats 1000000 in
theorem unshut_any (key b : Nat) (x : Lv) (w : World) (hk : key < 18446744073709551616) (ho : LkOk x.l) (h : LinkAt w b x) :
    Calls Try.prog 70 #[u64 key, .pointer (some ⟨b, 0, none⟩)] w (Ret (unshV key x.l) w) := by
  have h1 := sealKey_any key b x w hk ho h.1
  have hl := ho.bo
  have h3 := fun W (q : Byts W x.ba x.l.bo) => cipher_any (sealK key x.l) x.ba x.l.bo x.bc W (p61_64 (sealK_lt _ _)) q hl
  have h4 := fun W (q : Byts W x.ba x.l.bo) => digest_any (sealK key x.l) x.ba x.l.bo x.bc W q (by omega)
  have h5 := fun a c W (q : Byts W a (ciph (sealK key x.l) x.l.bo)) (hc : (ciph (sealK key x.l) x.l.bo).length ≤ c) => unpad_any a (ciph (sealK key x.l) x.l.bo) c W q hc (by rw [ciph_len]; exact hl)
  obtain ⟨c0, c1, c2, c3, c4, c5, c6, c7, c8, c9⟩ := obj_cells10 h.1
  have H1 := Lib.hid h1; have H3 := Lib.hid h3; have H4 := Lib.hid h4; have H5 := Lib.hid h5
  have HB := Lib.hid h.2
  clear h1 h3 h4 h5 h ho hk c0 c1 c2 c3 c4 c5 c6 c9
  go_enter Try.func70, Try.ntmps70
  go_wp2_with (fail)
  (with_reducible refine H1.out.mono ?_); rintro e w1 ⟨rfl, he1⟩
  go_wp2_with (fail)
  (with_reducible refine (H3.out _ (HB.out.ext he1)).mono ?_); rintro e w2 ⟨a2, c2, rfl, he2, o2⟩
  go_wp2_with (fail)
  (with_reducible refine (H5.out _ _ _ o2.byts.1 o2.byts.2.2).mono ?_); rintro e w3 ⟨rfl, he3⟩
  have he := (he1.trans he2).trans he3
  clear he1 he2 he3 o2
  replace c7 := fun W (q : Ext w3 W) => c7 W (he.trans q)
  replace c8 := fun W (q : Ext w3 W) => c8 W (he.trans q)
  have HBB := Lib.hid (HB.out.ext he)
  have hr0 := Ext.refl w3
  unfold unpV
  go_wp2_with (fail)
  refine wp_region_ext (by kernel_rfl) (by kernel_rfl) hr0 ?_
  repeat (first | go_big_quiet_step (((go_at_call 14; exact Calls.later (H4.out _ (HBB.out.ext (Later.ok _)))))) | quiet_step (((go_at_call 14; exact Calls.later (H4.out _ (HBB.out.ext (Later.ok _)))))))
  refine wpQuiet_nil ?_
  rintro _ ⟨nq, rfl⟩
  have he4 := nq.ok
  go_wp2_with (fail)
  go_ret3
  refine ⟨?_, he.trans he4⟩
  show Ending.returned (.tuple #[.string ⟨(unpT (ciph (sealK key x.l) x.l.bo)).toArray⟩, .bool (((x.l.tag : Nat) : Int) == ((hbs (nh (sealK key x.l)) x.l.bo : Nat) : Int)), .bool (unpOk (ciph (sealK key x.l) x.l.bo))]) = _
  rw [beq_cast]; rfl
theorem chainN_lt (n : Nat) (l : Lk) : chainN n l < p61 := by
  unfold chainN
  repeat (first | exact hb_lt _ _ | apply hbs_lt)
theorem arr4_0 (a b c d : Value) (W : World) : (Instr.index 117 (.agg #[a, b, c, d]) (.int .i64 0)).run Try.prog W = .ok a W := by kernel_rfl
theorem arr4_1 (a b c d : Value) (W : World) : (Instr.index 117 (.agg #[a, b, c, d]) (.int .i64 1)).run Try.prog W = .ok b W := by kernel_rfl
theorem arr4_2 (a b c d : Value) (W : World) : (Instr.index 117 (.agg #[a, b, c, d]) (.int .i64 2)).run Try.prog W = .ok c W := by kernel_rfl
theorem arr4_3 (a b c d : Value) (W : World) : (Instr.index 117 (.agg #[a, b, c, d]) (.int .i64 3)).run Try.prog W = .ok d W := by kernel_rfl
set_option maxRecDepth 100000 in
set_option maxHeartbeats 1000000 in
theorem chain_any (n : Nat) (x : Lv) (w : World) (hn : n < 18446744073709551616) (ho : LkOk x.l) (h : Byts w x.ba x.l.bo) :
    Calls Try.prog 31 #[u64 n, lval x] w (Ret (u64 (chainN n x.l)) w) := by
  have h0 := fun w => newHash_ret n w
  have l1 : nh n < p61 := nh_lt _
  have h1 := fun w => byte_any (nh n) x.l.op l1 ho.op w
  obtain ⟨q1, e1⟩ : ∃ q, q = hb (nh n) x.l.op := ⟨_, rfl⟩
  have l2 : q1 < p61 := e1 ▸ hb_lt _ _
  rw [← e1] at h1
  have h2 := fun w => text_any q1 x.l.cu w l2 ho.cu
  obtain ⟨q2, e2⟩ : ∃ q, q = hbs q1 x.l.cu.data.toList := ⟨_, rfl⟩
  have l3 : q2 < p61 := e2 ▸ hbs_lt _ _ l2
  rw [← e2] at h2
  have h3 := fun w => byte0_any q2 l3 w
  obtain ⟨q3, e3⟩ : ∃ q, q = hb q2 0 := ⟨_, rfl⟩
  have l4 : q3 < p61 := e3 ▸ hb_lt _ _
  rw [← e3] at h3
  have h4 := fun w => text_any q3 x.l.ki w l4 ho.ki
  obtain ⟨q4, e4⟩ : ∃ q, q = hbs q3 x.l.ki.data.toList := ⟨_, rfl⟩
  have l5 : q4 < p61 := e4 ▸ hbs_lt _ _ l4
  rw [← e4] at h4
  have h5 := fun w => byte0_any q4 l5 w
  obtain ⟨q5, e5⟩ : ∃ q, q = hb q4 0 := ⟨_, rfl⟩
  have l6 : q5 < p61 := e5 ▸ hb_lt _ _
  rw [← e5] at h5
  have h6 := fun w => numI_any q5 x.l.nu w l6
  obtain ⟨q6, e6⟩ : ∃ q, q = hbs q5 (numB (uw x.l.nu) 4) := ⟨_, rfl⟩
  have l7 : q6 < p61 := e6 ▸ hbs_lt _ _ l6
  rw [← e6] at h6
  have h7 := fun w => numI_any q6 x.l.ve w l7
  obtain ⟨q7, e7⟩ : ∃ q, q = hbs q6 (numB (uw x.l.ve) 4) := ⟨_, rfl⟩
  have l8 : q7 < p61 := e7 ▸ hbs_lt _ _ l7
  rw [← e7] at h7
  have h8 := fun w => numI_any q7 x.l.da w l8
  obtain ⟨q8, e8⟩ : ∃ q, q = hbs q7 (numB (uw x.l.da) 4) := ⟨_, rfl⟩
  have l9 : q8 < p61 := e8 ▸ hbs_lt _ _ l8
  rw [← e8] at h8
  have h9 := fun w => numI_any q8 x.l.un w l9
  obtain ⟨q9, e9⟩ : ∃ q, q = hbs q8 (numB (uw x.l.un) 4) := ⟨_, rfl⟩
  have l10 : q9 < p61 := e9 ▸ hbs_lt _ _ l9
  rw [← e9] at h9
  have h10 := fun w => number8_any q9 x.l.tag w l10 ho.tag
  obtain ⟨q10, e10⟩ : ∃ q, q = hbs q9 (numB x.l.tag 8) := ⟨_, rfl⟩
  have l11 : q10 < p61 := e10 ▸ hbs_lt _ _ l10
  rw [← e10] at h10
  have h11 := fun W (q : Byts W x.ba x.l.bo) => bytes_any q10 x.ba x.l.bo x.bc W l11 q (by have := ho.bo; omega)
  have HE : Hid (chainN n x.l = hbs q10 x.l.bo) := by
    subst e10 e9 e8 e7 e6 e5 e4 e3 e2 e1; rfl
  clear e1 e2 e3 e4 e5 e6 e7 e8 e9 e10 l1 l2 l3 l4 l5 l6 l7 l8 l9 l10 l11
  have H0 := Lib.hid h0; have H1 := Lib.hid h1; have H2 := Lib.hid h2; have H3 := Lib.hid h3; have H4 := Lib.hid h4; have H5 := Lib.hid h5
  have H6 := Lib.hid h6; have H7 := Lib.hid h7; have H8 := Lib.hid h8; have H9 := Lib.hid h9; have H10 := Lib.hid h10; have H11 := Lib.hid h11
  have HB := Lib.hid h
  clear h0 h1 h2 h3 h4 h5 h6 h7 h8 h9 h10 h11 h ho hn
  go_enter Try.func31, Try.ntmps31
  go_wp2_with (fail)
  generalize hw1 : World.alloc _ _ = w1
  obtain ⟨he, o1, -⟩ := alloc1 hw1
  obtain ⟨c0, c1, c2, c3, c4, c5, c6, c7, c8, c9⟩ := obj_cells10 o1
  have HBB := Lib.hid (HB.out.ext he)
  clear hw1 o1
  have hr0 := Ext.refl w1
  refine wp_region_ext (by kernel_rfl) (by kernel_rfl) hr0 ?_
  repeat (first | go_big_quiet_step ((first | (go_at_call 44; exact Calls.later (H0.out _)) | (go_at_call 48; first | with_reducible exact Calls.later (H1.out _) | with_reducible exact Calls.later (H3.out _) | with_reducible exact Calls.later (H5.out _)) | (go_at_call 47; first | with_reducible exact Calls.later (H2.out _) | with_reducible exact Calls.later (H4.out _)))) | quiet_step ((first | (go_at_call 44; exact Calls.later (H0.out _)) | (go_at_call 48; first | with_reducible exact Calls.later (H1.out _) | with_reducible exact Calls.later (H3.out _) | with_reducible exact Calls.later (H5.out _)) | (go_at_call 47; first | with_reducible exact Calls.later (H2.out _) | with_reducible exact Calls.later (H4.out _)))))
  refine wpQuiet_nil ?_
  rintro _ ⟨nq, rfl⟩
  have i0 : ∀ W, (Instr.index 117 (.agg #[.int .i64 x.l.nu, .int .i64 x.l.ve, .int .i64 x.l.da, .int .i64 x.l.un]) (.int .i64 0)).run Try.prog W = .ok (.int .i64 x.l.nu) W := fun W => arr4_0 _ _ _ _ W
  have i1 : ∀ W, (Instr.index 117 (.agg #[.int .i64 x.l.nu, .int .i64 x.l.ve, .int .i64 x.l.da, .int .i64 x.l.un]) (.int .i64 1)).run Try.prog W = .ok (.int .i64 x.l.ve) W := fun W => arr4_1 _ _ _ _ W
  have i2 : ∀ W, (Instr.index 117 (.agg #[.int .i64 x.l.nu, .int .i64 x.l.ve, .int .i64 x.l.da, .int .i64 x.l.un]) (.int .i64 2)).run Try.prog W = .ok (.int .i64 x.l.da) W := fun W => arr4_2 _ _ _ _ W
  have i3 : ∀ W, (Instr.index 117 (.agg #[.int .i64 x.l.nu, .int .i64 x.l.ve, .int .i64 x.l.da, .int .i64 x.l.un]) (.int .i64 3)).run Try.prog W = .ok (.int .i64 x.l.un) W := fun W => arr4_3 _ _ _ _ W
  have he1 := nq.ok
  go_wp2_with (fail)
  clear c0 c1 c2 c3 c4 c5 c6 c9
  refine wp_loop_rounds 5 ?_
  rw [rounds_succ]
  go_wp2_with (fail)
  (with_reducible refine (H6.out _).mono ?_); rintro e w6 ⟨rfl, he6⟩
  go_wp2_with (fail)
  rw [rounds_succ]
  go_wp2_with (fail)
  (with_reducible refine (H7.out _).mono ?_); rintro e w7 ⟨rfl, he7⟩
  go_wp2_with (fail)
  rw [rounds_succ]
  go_wp2_with (fail)
  (with_reducible refine (H8.out _).mono ?_); rintro e w8 ⟨rfl, he8⟩
  go_wp2_with (fail)
  rw [rounds_succ]
  go_wp2_with (fail)
  (with_reducible refine (H9.out _).mono ?_); rintro e w9 ⟨rfl, he9⟩
  have he19 := ((((he1.trans he6).trans he7).trans he8).trans he9)
  clear he1 he6 he7 he8 he9 i0 i1 i2 i3
  replace c7 := fun W (q : Ext w9 W) => c7 W (he19.trans q)
  replace c8 := fun W (q : Ext w9 W) => c8 W (he19.trans q)
  have HBB2 := Lib.hid (HBB.out.ext he19)
  have hr1 := Ext.refl w9
  clear hr0
  have hr0 := hr1
  clear hr1
  go_wp2_with (fail)
  rw [rounds_succ]
  go_wp2_with (fail)
  refine wp_region_ext (by kernel_rfl) (by kernel_rfl) hr0 ?_
  repeat (first | go_big_quiet_step ((first | (go_at_call 58; exact Calls.later (H10.out _)) | (go_at_call 45; exact Calls.later (H11.out _ (HBB2.out.ext (Later.ok _)))))) | quiet_step ((first | (go_at_call 58; exact Calls.later (H10.out _)) | (go_at_call 45; exact Calls.later (H11.out _ (HBB2.out.ext (Later.ok _)))))))
  refine wpQuiet_nil ?_
  rintro _ ⟨nq, rfl⟩
  have he10 := nq.ok
  go_wp2_with (fail)
  go_ret
  exact ⟨by rw [HE.out]; rfl, (he.trans he19).trans he10⟩
end Go.Proofs.Ytlahejakcgoheaa
end
section
/-
  Base words: slices of links.
-/
set_option linter.unusedVariables false
set_option linter.unusedSimpArgs false
namespace Go.Proofs.Ytlahejakcgoheaa
open Go.RowKit
def Lk.zero : Lk := ⟨0, ⟨#[]⟩, ⟨#[]⟩, 0, 0, 0, 0, [], 0, 0⟩
def Lv.zero : Lv := ⟨Lk.zero, none, 0⟩
/-- The i-th link (a name of its own). -/
def lth (xs : List Lv) (i : Nat) : Lv := xs.getD i Lv.zero
theorem lth_eq (xs : List Lv) (i : Nat) (h : i < xs.length) : lth xs i = xs[i] := by simp [lth, h]
/-- A link's cells from a place on. -/
def LinkC (w : World) (b o : Nat) (x : Lv) : Prop :=
  w.cell? ⟨b, o, none⟩ = some (.int .u8 (x.l.op : Int)) ∧ w.cell? ⟨b, o + 1, none⟩ = some (.string x.l.cu) ∧ w.cell? ⟨b, o + 2, none⟩ = some (.string x.l.ki) ∧ w.cell? ⟨b, o + 3, none⟩ = some (.int .i64 x.l.nu) ∧
  w.cell? ⟨b, o + 4, none⟩ = some (.int .i64 x.l.ve) ∧ w.cell? ⟨b, o + 5, none⟩ = some (.int .i64 x.l.da) ∧ w.cell? ⟨b, o + 6, none⟩ = some (.int .i64 x.l.un) ∧
  w.cell? ⟨b, o + 7, none⟩ = some (.slice x.ba x.l.bo.length x.bc) ∧ w.cell? ⟨b, o + 8, none⟩ = some (.int .u64 (x.l.tag : Int)) ∧ w.cell? ⟨b, o + 9, none⟩ = some (.int .u64 (x.l.ch : Int))
theorem LinkC.ext {w w' : World} {b o : Nat} {x : Lv} (h : LinkC w b o x) (e : Ext w w') : LinkC w' b o x := by
  obtain ⟨c0, c1, c2, c3, c4, c5, c6, c7, c8, c9⟩ := h
  exact ⟨e.cell c0, e.cell c1, e.cell c2, e.cell c3, e.cell c4, e.cell c5, e.cell c6, e.cell c7, e.cell c8, e.cell c9⟩
/-- Under this head (nil too) lie these links, their Bodies where they say. -/
def Links (w : World) (a : Option Addr) (xs : List Lv) : Prop :=
  (xs = [] ∨ ∃ b o, a = some ⟨b, o, none⟩ ∧ ∀ i, i < xs.length → LinkC w b (o + i * 10) (lth xs i)) ∧ ∀ i, i < xs.length → Byts w (lth xs i).ba (lth xs i).l.bo
theorem Links.ext {w w' : World} {a : Option Addr} {xs : List Lv} (h : Links w a xs) (e : Ext w w') : Links w' a xs := by
  refine ⟨?_, fun i hi => (h.2 i hi).ext e⟩
  rcases h.1 with h | ⟨b, o, h1, h2⟩
  · exact .inl h
  · exact .inr ⟨b, o, h1, fun i hi => (h2 i hi).ext e⟩
theorem Links.at {w : World} {a : Option Addr} {xs : List Lv} (h : Links w a xs) (i : Nat) (hi : i < xs.length) : ∃ b o, a = some ⟨b, o, none⟩ ∧ (∀ W, Ext w W → LinkC W b (o + i * 10) (lth xs i)) := by
  rcases h.1 with rfl | ⟨b, o, h1, h2⟩
  · simp at hi
  · exact ⟨b, o, h1, fun W e => (h2 i hi).ext e⟩
/-- Links' bounds. -/
def LksOk (xs : List Lv) : Prop := ∀ i, i < xs.length → LkOk (lth xs i).l
def lks (xs : List Lv) : List Lk := xs.map Lv.l
theorem lks_len (xs : List Lv) : (lks xs).length = xs.length := by simp [lks]
theorem lks_drop (xs : List Lv) (k : Nat) (hk : k < xs.length) : (lks xs).drop k = (lth xs k).l :: (lks xs).drop (k + 1) := by
  rw [List.drop_eq_getElem_cons (by rw [lks_len]; exact hk), lth_eq _ _ hk]; simp [lks]
set_option maxRecDepth 100000 in
set_option maxHeartbeats 1000000 in
theorem check_any (a : Option Addr) (xs : List Lv) (c : Nat) (w : World) (h : Links w a xs) (ho : LksOk xs) (hl : xs.length ≤ 9223372036854775807) :
    Calls Try.prog 29 #[.slice a xs.length c] w (Ret (.int .i64 (checkI 7 0 (lks xs))) w) := by
  have HX := Lib.hid h; have HO := Lib.hid ho
  clear h ho
  go_enter Try.func29, Try.ntmps29
  go_wp2_with (fail)
  go_loopw [3, 8] (fun s i wr => ∃ k g : Nat, k ≤ xs.length ∧ i = .int .i64 k ∧ s = u64 g ∧ Hid (g < 18446744073709551616 ∧ checkI 7 0 (lks xs) = checkI g k ((lks xs).drop k)) ∧ Ext w wr) (fun _ i _ => xs.length - (intOf i).toNat)
  case atStart => exact ⟨0, 7, Nat.zero_le _, rfl, rfl, ⟨by omega, rfl⟩, Ext.refl w⟩
  case round =>
    obtain ⟨k, g, hk, rfl, rfl, hg, he⟩ := hrel
    by_cases hlt : k < xs.length
    · obtain ⟨b, o, rfl, hc⟩ := HX.out.at k hlt
      obtain ⟨c0, c1, c2, c3, c4, c5, c6, c7, c8, c9⟩ := hc wr he
      obtain ⟨x, hx⟩ : ∃ x, x = lth xs k := ⟨_, rfl⟩
      have hby := (HX.out.2 k hlt).ext he
      have hok := HO.out k hlt
      have hdr := lks_drop xs k hlt
      rw [← hx] at c0 c1 c2 c3 c4 c5 c6 c7 c8 c9 hby hok hdr
      have HBY := Lib.hid hby; have HOK := Lib.hid hok; have HDR := Lib.hid hdr
      clear hx hc hby hok hdr
      go_upto_region 5 with fail
      clear c0 c1 c2 c3 c4 c5 c6 c7 c8 c9
      generalize hw1 : World.alloc _ _ = w1
      obtain ⟨he1, o1, -⟩ := alloc1 hw1
      have HO1 := Lib.hid o1
      obtain ⟨c0, c1, c2, c3, c4, c5, c6, c7, c8, c9⟩ := obj_cells10 o1
      clear hw1 o1
      replace c0 := c0 w1 (Ext.refl _); replace c1 := c1 w1 (Ext.refl _); replace c2 := c2 w1 (Ext.refl _); replace c3 := c3 w1 (Ext.refl _); replace c4 := c4 w1 (Ext.refl _)
      replace c5 := c5 w1 (Ext.refl _); replace c6 := c6 w1 (Ext.refl _); replace c7 := c7 w1 (Ext.refl _); replace c8 := c8 w1 (Ext.refl _); replace c9 := c9 w1 (Ext.refl _)
      have hch := chain_any g x w1 hg.out.1 HOK.out (HBY.out.ext he1)
      have HCH := Lib.hid hch
      clear hch
      go_wp2_with (fail)
      (with_reducible refine HCH.out.mono ?_); rintro e w2 ⟨rfl, he2⟩
      have hx9 := (obj_cells10 HO1.out).2.2.2.2.2.2.2.2.2 w2 he2
      clear c0 c1 c2 c3 c4 c5 c6 c7 c8 c9
      have he3 := (he.trans he1).trans he2
      cases T : ((chainN g x.l : Int) != (x.l.ch : Int))
      · have hch : chainN g x.l = x.l.ch := by simp at T; omega
        have hg2 : Hid (x.l.ch < 18446744073709551616 ∧ checkI 7 0 (lks xs) = checkI x.l.ch (k + 1) ((lks xs).drop (k + 1))) := by
          refine ⟨HOK.out.ch, ?_⟩
          rw [hg.out.2, HDR.out, checkI, if_pos hch]
        have HCC := Lib.hid hch
        clear hch
        go_wp2_with (fail)
        go_roundw
        case rel => exact ⟨k + 1, x.l.ch, by omega, by go_num, by rw [HCC.out], hg2, he3⟩
        case measure => simp [intOf]; omega
      · have hch : ¬ chainN g x.l = x.l.ch := by simp at T; omega
        have hg2 : Hid (checkI 7 0 (lks xs) = (k : Int)) := by
          rw [Hid, hg.out.2, HDR.out, checkI, if_neg hch]
        clear hch
        go_wp2_with (fail)
        go_ret
        exact ⟨by rw [hg2.out]; rfl, he3⟩
    · obtain rfl : k = xs.length := by omega
      have hg2 : Hid (checkI 7 0 (lks xs) = -1) := by
        rw [Hid, hg.out.2, List.drop_of_length_le (by rw [lks_len]; exact Nat.le_refl _), checkI]
      go_wp2_with (fail)
      go_ret
      exact ⟨by rw [hg2.out]; rfl, he⟩
end Go.Proofs.Ytlahejakcgoheaa
end
section
/-
  Walks: isName, isPass.
-/
set_option linter.unusedVariables false
set_option linter.unusedSimpArgs false
namespace Go.Proofs.Ytlahejakcgoheaa
open Go.RowKit
theorem toList_loop (bs : ByteArray) : ∀ (n i : Nat) (r : List UInt8), bs.size - i = n → ByteArray.toList.loop bs i r = r.reverse ++ bs.data.toList.drop i
  | 0, i, r, h => by
    unfold ByteArray.toList.loop
    rw [if_neg (by omega), List.drop_of_length_le (by rw [len_data]; omega), List.append_nil]
  | n + 1, i, r, h => by
    unfold ByteArray.toList.loop
    rw [if_pos (by omega), toList_loop bs n (i + 1) _ (by omega)]
    have hi : i < bs.data.toList.length := by rw [len_data]; omega
    have hi2 : i < bs.data.size := by simpa using hi
    rw [List.drop_eq_getElem_cons hi, List.reverse_cons, List.append_assoc]
    congr 1
    simp [ByteArray.get!, getElem!_pos bs.data i hi2]
theorem toList_eq (s : ByteArray) : s.toList = s.data.toList := by
  unfold ByteArray.toList
  rw [toList_loop s _ 0 [] rfl]; rfl
theorem isEmpty_eq (s : ByteArray) : s.toList.isEmpty = (s.size == 0) := by
  rw [toList_eq, ← len_data s]; cases s.data.toList <;> simp
/-- An empty text, as the walk spells it. -/
theorem empty_yes {s : ByteArray} (h : (s.size == 0) = true) : s.toList = [] := by
  have := isEmpty_eq s; rw [h] at this; simpa using this
theorem empty_no {s : ByteArray} (h : (s.size == 0) = false) : ¬ s.toList = [] := by
  have := isEmpty_eq s; rw [h] at this; simpa using this
set_option maxRecDepth 100000 in
set_option maxHeartbeats 4000000 in
theorem isName_any (s : ByteArray) (w : World) (hs : s.size ≤ maxLen) : Calls Try.prog 63 #[.string s] w (Ret (.bool (nameB s)) w) := by
  have hs' := hs
  unfold maxLen at hs'
  go_enter Try.func63, Try.ntmps63
  go_wp2_with (fail)
  generalize hw1 : bytesW _ _ = w1
  obtain ⟨he1, o1, -⟩ := bytesW_facts w s hs
  rw [hw1] at he1 o1
  have HO := Lib.hid o1
  have HE := Lib.hid he1
  have HL := Lib.hid (len_data s)
  clear hw1 o1 he1 hs
  go_loopw [9] (fun i wr => ∃ k : Nat, k ≤ s.size ∧ i = .int .i64 k ∧ Hid (∀ j, j < k → okChar j (s.data.toList.getD j 0).toNat = true) ∧ Ext w1 wr) (fun i _ => s.size - (intOf i).toNat)
  case atStart => exact ⟨0, Nat.zero_le _, rfl, fun j hj => by omega, Ext.refl _⟩
  case round =>
    obtain ⟨k, hk, rfl, hf, he⟩ := hrel
    by_cases hlt : k < s.size
    · have c0 := (HO.out.ext he).cell k (by rw [HL.out]; exact hlt)
      have c1 : bth s.data.toList k = (s.data.toList.getD k 0).toNat := rfl
      obtain ⟨c, hc⟩ : ∃ c, c = bth s.data.toList k := ⟨_, rfl⟩
      have hf1 : okChar k c = false → Hid (nameB s = false) := fun h => by
        have := nameCh_false s.data.toList k (by rw [HL.out]; exact hlt) (by rw [← c1, ← hc]; exact h)
        simp [Hid, nameB, this]
      have hf2 : okChar k c = true → Hid (∀ j, j < k + 1 → okChar j (s.data.toList.getD j 0).toNat = true) := fun h j hj => by
        by_cases e : j = k
        · subst e; rw [← c1, ← hc]; exact h
        · exact hf.out j (by omega)
      rw [← hc] at c0
      clear c1 hc
      have HF1 := Lib.hid hf1; have HF2 := Lib.hid hf2
      clear hf1 hf2
      cases T1 : decide (97 ≤ (c : Int)) <;> cases T2 : decide ((c : Int) ≤ 122) <;> cases T4 : ((c : Int) != 95) <;> cases T5 : decide ((c : Int) < 48) <;> cases T6 : decide (57 < (c : Int)) <;>
        first
          | (exfalso; simp at T1 T2 T4 T5 T6; omega)
          | (cases T3 : ((k : Int) == 0) <;>
              first
                | (have hq := HF2.out (by simp at T1 T2 T3 T4 T5 T6; simp [okChar]; omega)
                   clear HF1 HF2
                   go_wp2_with (fail)
                   go_roundw
                   case rel => exact ⟨k + 1, by omega, by go_num, hq, he⟩
                   case measure => simp [intOf]; omega)
                | (have hq := HF1.out (by simp at T1 T2 T3 T4 T5 T6; simp [okChar]; omega)
                   clear HF1 HF2
                   go_wp2_with (fail)
                   go_ret
                   exact ⟨by rw [hq.out]; rfl, HE.out.trans he⟩))
    · obtain rfl : k = s.size := by omega
      have hq : Hid (nameB s = (!(s.size == 0) && decide ((s.size : Int) ≤ 20))) := by
        have := nameCh_true s.data.toList (fun k hk => hf.out k (by rw [HL.out] at hk; exact hk))
        have e : decide (s.size ≤ 20) = decide ((s.size : Int) ≤ 20) := by rw [decide_eq_decide]; omega
        simp only [Hid, nameB, this, bne, e, Bool.true_and]
      cases T : (s.size == 0)
      · have t1 := empty_no T
        rw [T] at hq
        have HI := Lib.hid (isEmpty_eq s)
        rw [T] at HI
        clear T
        go_wp2_with (fail)
        go_ret
        refine ⟨?_, HE.out.trans he⟩
        rw [hq.out, ← HI.out]
        exact ret_bool (by simp [HI.out])
      · have t1 := empty_yes T
        rw [T] at hq
        clear T
        go_wp2_with (fail)
        go_ret
        exact ⟨by rw [hq.out]; rfl, HE.out.trans he⟩
/-- The post of Index: a place, not below 0 just if 0 is there. -/
def RetIx (xs : List UInt8) (w : World) (e : Ending) (w' : World) : Prop := ∃ n : Int, Ret (.int .i64 n) w e w' ∧ (decide (0 ≤ n) = xs.contains 0)
set_option maxHeartbeats 1000000 in
theorem index_any (a : Option Addr) (xs : List UInt8) (c : Nat) (w : World) (h : Byts w a xs) (hl : xs.length ≤ 9223372036854775807) :
    Calls Try.prog 99 #[.slice a xs.length c, .int .u8 0] w (RetIx xs w) := by
  have HX := Lib.hid h; clear h
  go_enter Try.func99, Try.ntmps99
  go_wp2_with (fail)
  go_loop [8] (fun i => ∃ k : Nat, k ≤ xs.length ∧ i = .int .i64 k ∧ Hid (∀ j, j < k → ¬ bth xs j = 0)) (fun i => xs.length - (intOf i).toNat)
  case atStart => exact ⟨0, Nat.zero_le _, rfl, fun j hj => by omega⟩
  case round =>
    obtain ⟨k, hk, rfl, hz⟩ := hrel
    by_cases hlt : k < xs.length
    · obtain ⟨b, o, rfl, c0⟩ := HX.out.at k hlt
      have c1 := c0 w (Ext.refl _)
      clear c0
      cases T : ((0 : Int) == (bth xs k : Int))
      · have hz2 : Hid (∀ j, j < k + 1 → ¬ bth xs j = 0) := fun j hj => by
          by_cases e : j = k
          · subst e; simp at T; omega
          · exact hz.out j (by omega)
        go_wp2_with (fail)
        go_round
        case rel => exact ⟨k + 1, by omega, by go_num, hz2⟩
        case measure => simp [intOf]; omega
      · have hq : Hid (decide ((0 : Int) ≤ (k : Int)) = xs.contains 0) := by
          have h0 : xs[k] = 0 := by
            rw [bth_eq _ _ hlt] at T
            simp at T
            exact UInt8.toNat_inj.1 (by simp; omega)
          have : xs.contains 0 = true := by simp; rw [← h0]; exact List.getElem_mem hlt
          rw [Hid, this]; simp
        go_wp2_with (fail)
        go_ret
        exact ⟨_, ⟨rfl, Ext.refl _⟩, hq.out⟩
    · obtain rfl : k = xs.length := by omega
      have hq : Hid (decide ((0 : Int) ≤ -1) = xs.contains 0) := by
        have : xs.contains 0 = false := by
          simp
          intro hm
          obtain ⟨j, hj, he⟩ := List.getElem_of_mem hm
          have := hz.out j hj
          rw [bth_eq _ _ hj, he] at this
          exact this rfl
        rw [Hid, this]; rfl
      go_wp2_with (fail)
      go_ret
      exact ⟨_, ⟨rfl, Ext.refl _⟩, hq.out⟩
set_option maxHeartbeats 1000000 in
theorem contains_any (a : Option Addr) (xs : List UInt8) (c : Nat) (w : World) (h : Byts w a xs) (hl : xs.length ≤ 9223372036854775807) :
    Calls Try.prog 89 #[.slice a xs.length c, .int .u8 0] w (Ret (.bool (xs.contains 0)) w) := by
  have hi := index_any a xs c w h hl
  have HI := Lib.hid hi
  clear hi h
  go_enter Try.func89, Try.ntmps89
  go_wp2_with (fail)
  (with_reducible refine HI.out.mono ?_); rintro e w1 ⟨n, ⟨rfl, he⟩, hn⟩
  have HN := Lib.hid hn
  clear hn
  go_wp2_with (fail)
  go_ret
  exact ⟨by rw [← HN.out]; rfl, he⟩
set_option maxRecDepth 100000 in
set_option maxHeartbeats 4000000 in
theorem isPass_any (s : ByteArray) (w : World) (hs : s.size ≤ maxLen) : Calls Try.prog 64 #[.string s] w (Ret (.bool (passB s)) w) := by
  obtain ⟨e1, o1, -⟩ := bytesW_facts w s hs
  have hc := contains_any _ _ (bytesC w s) _ o1.byts.1 (size_max hs)
  rw [len_data] at hc
  have HC := Lib.hid hc; have HE := Lib.hid e1
  clear hc e1 o1 hs
  cases T : (s.size == 0)
  · have t1 := empty_no T
    cases T2 : decide ((s.size : Int) ≤ 40)
    · have hq : Hid (passB s = false) := by
        have : ¬ s.size ≤ 40 := by simp at T2; omega
        simp [Hid, passB, this]
      clear T
      go_enter Try.func64, Try.ntmps64
      go_wp2_with (fail)
      go_ret
      exact ⟨by rw [hq.out]; rfl, Ext.refl _⟩
    · have hq : Hid (passB s = !(s.data.toList.contains 0)) := by
        have : s.size ≤ 40 := by simp at T2; omega
        simp [Hid, passB, this, bne, T]
      have HI := Lib.hid (isEmpty_eq s)
      rw [T] at HI
      clear T
      go_enter Try.func64, Try.ntmps64
      go_wp2_with (fail)
      (with_reducible refine HC.out.mono ?_); rintro e w1 ⟨rfl, he⟩
      go_wp2_with (fail)
      go_ret
      refine ⟨?_, HE.out.trans he⟩
      rw [hq.out]
      exact ret_bool (by simp [HI.out])
  · have t1 := empty_yes T
    have hq : Hid (passB s = false) := by simp [Hid, passB, bne, T]
    clear T
    go_enter Try.func64, Try.ntmps64
    go_wp2_with (fail)
    go_ret
    exact ⟨by rw [hq.out]; rfl, Ext.refl _⟩
end Go.Proofs.Ytlahejakcgoheaa
end
section
/-
  Walks: plain, Clone, copied.
-/
set_option linter.unusedVariables false
set_option linter.unusedSimpArgs false
namespace Go.Proofs.Ytlahejakcgoheaa
open Go.RowKit
theorem beq_int (n : Nat) : ((n : Int) == 0) = (n == 0) := by rw [Bool.eq_iff_iff]; simp
theorem plainB_1 (l : Lk) (h : l.op = 1) : plainB l = (l.ki.size == 0 && (l.nu == 0 && (l.ve == 0 && (l.da == 0 && (l.un == 0 && ((l.bo.length : Int) == 0)))))) := by
  simp only [plainB, h, if_true, beq_int]
theorem plainB_2 (l : Lk) (h : l.op = 2) : plainB l = (l.ki.size == 0 && (l.nu == 0 && (l.ve == 0 && (l.cu.size == 0 && (l.un == 0 && (((l.bo.length : Int) == 0) && ((l.tag : Int) == 0))))))) := by
  simp only [plainB, h, beq_int]; rfl
theorem plainB_3 (l : Lk) (h : l.op = 3) : plainB l = true := by simp [plainB, h]
theorem plainB_4 (l : Lk) (h : l.op = 4) : plainB l = (l.ki.size == 0 && l.un == 0) := by simp [plainB, h]
theorem plainB_5 (l : Lk) (h : l.op = 5) : plainB l = (l.un == 0) := by simp [plainB, h]
theorem plainB_0 (l : Lk) (h1 : ¬ l.op = 1) (h2 : ¬ l.op = 2) (h3 : ¬ l.op = 3) (h4 : ¬ l.op = 4) (h5 : ¬ l.op = 5) : plainB l = false := by simp [plainB, h1, h2, h3, h4, h5]
set_option maxRecDepth 100000 in
set_option maxHeartbeats 16000000 in
theorem plain_any (b : Nat) (x : Lv) (w : World) (h : w.heap[b]? = some (.cells (lcells x) 59 (0, 0))) : Calls Try.prog 98 #[.pointer (some ⟨b, 0, none⟩)] w (Ret (.bool (plainB x.l)) w) := by
  obtain ⟨c0, c1, c2, c3, c4, c5, c6, c7, c8, c9⟩ := obj_cells10 h
  clear h
  replace c0 := c0 w (Ext.refl _); replace c1 := c1 w (Ext.refl _); replace c2 := c2 w (Ext.refl _); replace c3 := c3 w (Ext.refl _); replace c4 := c4 w (Ext.refl _)
  replace c5 := c5 w (Ext.refl _); replace c6 := c6 w (Ext.refl _); replace c7 := c7 w (Ext.refl _); replace c8 := c8 w (Ext.refl _); replace c9 := c9 w (Ext.refl _)
  have ik := isEmpty_eq x.l.ki
  have ic := isEmpty_eq x.l.cu
  obtain ⟨q, hq⟩ : ∃ q, q = plainB x.l := ⟨_, rfl⟩
  rw [← hq]
  have HQ := Lib.hid hq
  clear hq
  cases O1 : ((x.l.op : Int) == 1)
  · cases O2 : ((x.l.op : Int) == 2)
    · cases O3 : ((x.l.op : Int) == 3)
      · cases O4 : ((x.l.op : Int) == 4)
        · cases O5 : ((x.l.op : Int) == 5)
          · have hp := plainB_0 x.l (by simp at O1; omega) (by simp at O2; omega) (by simp at O3; omega) (by simp at O4; omega) (by simp at O5; omega)
            cases N : (x.l.nu == 0)
            · go_enter Try.func98, Try.ntmps98
              go_wp2_with (fail)
              go_ret
              refine ⟨?_, Ext.refl _⟩
              rw [HQ.out, hp]
              exact ret_bool (by simp [N])
            · go_enter Try.func98, Try.ntmps98
              go_wp2_with (fail)
              go_ret
              refine ⟨?_, Ext.refl _⟩
              rw [HQ.out, hp]
              exact ret_bool (by simp [N])
          · have hp := plainB_5 x.l (by simp at O5; omega)
            cases N : (x.l.nu == 0)
            · go_enter Try.func98, Try.ntmps98
              go_wp2_with (fail)
              go_ret
              refine ⟨?_, Ext.refl _⟩
              rw [HQ.out, hp]
              exact ret_bool (by simp [N])
            · go_enter Try.func98, Try.ntmps98
              go_wp2_with (fail)
              go_ret
              refine ⟨?_, Ext.refl _⟩
              rw [HQ.out, hp]
              exact ret_bool (by simp [N])
        · have hp := plainB_4 x.l (by simp at O4; omega)
          cases N : (x.l.nu == 0)
          · cases K : (x.l.ki.size == 0) <;> rw [K] at ik
            · go_enter Try.func98, Try.ntmps98
              go_wp2_with (fail)
              go_ret
              refine ⟨?_, Ext.refl _⟩
              rw [HQ.out, hp]
              exact ret_bool (by simp [N, K])
            · go_enter Try.func98, Try.ntmps98
              go_wp2_with (fail)
              go_ret
              refine ⟨?_, Ext.refl _⟩
              rw [HQ.out, hp]
              exact ret_bool (by simp [N, K])
          · cases K : (x.l.ki.size == 0) <;> rw [K] at ik
            · go_enter Try.func98, Try.ntmps98
              go_wp2_with (fail)
              go_ret
              refine ⟨?_, Ext.refl _⟩
              rw [HQ.out, hp]
              exact ret_bool (by simp [N, K])
            · go_enter Try.func98, Try.ntmps98
              go_wp2_with (fail)
              go_ret
              refine ⟨?_, Ext.refl _⟩
              rw [HQ.out, hp]
              exact ret_bool (by simp [N, K])
      · have hp := plainB_3 x.l (by simp at O3; omega)
        cases N : (x.l.nu == 0)
        · go_enter Try.func98, Try.ntmps98
          go_wp2_with (fail)
          go_ret
          refine ⟨?_, Ext.refl _⟩
          rw [HQ.out, hp]
          exact ret_bool (by simp [N])
        · go_enter Try.func98, Try.ntmps98
          go_wp2_with (fail)
          go_ret
          refine ⟨?_, Ext.refl _⟩
          rw [HQ.out, hp]
          exact ret_bool (by simp [N])
    · have hp := plainB_2 x.l (by simp at O2; omega)
      cases K : (x.l.ki.size == 0) <;> rw [K] at ik
      · cases N : (x.l.nu == 0)
        · go_enter Try.func98, Try.ntmps98
          go_wp2_with (fail)
          go_ret
          refine ⟨?_, Ext.refl _⟩
          rw [HQ.out, hp]
          exact ret_bool (by simp [K, N])
        · go_enter Try.func98, Try.ntmps98
          go_wp2_with (fail)
          go_ret
          refine ⟨?_, Ext.refl _⟩
          rw [HQ.out, hp]
          exact ret_bool (by simp [K, N])
      · cases N : (x.l.nu == 0)
        · go_enter Try.func98, Try.ntmps98
          go_wp2_with (fail)
          go_ret
          refine ⟨?_, Ext.refl _⟩
          rw [HQ.out, hp]
          exact ret_bool (by simp [K, N])
        · cases V : (x.l.ve == 0)
          · go_enter Try.func98, Try.ntmps98
            go_wp2_with (fail)
            go_ret
            refine ⟨?_, Ext.refl _⟩
            rw [HQ.out, hp]
            exact ret_bool (by simp [K, N, V])
          · cases C : (x.l.cu.size == 0) <;> rw [C] at ic
            · go_enter Try.func98, Try.ntmps98
              go_wp2_with (fail)
              go_ret
              refine ⟨?_, Ext.refl _⟩
              rw [HQ.out, hp]
              exact ret_bool (by simp [K, N, V, C])
            · cases U : (x.l.un == 0)
              · go_enter Try.func98, Try.ntmps98
                go_wp2_with (fail)
                go_ret
                refine ⟨?_, Ext.refl _⟩
                rw [HQ.out, hp]
                exact ret_bool (by simp [K, N, V, C, U])
              · cases B : ((x.l.bo.length : Int) == 0)
                · go_enter Try.func98, Try.ntmps98
                  go_wp2_with (fail)
                  go_ret
                  refine ⟨?_, Ext.refl _⟩
                  rw [HQ.out, hp]
                  exact ret_bool (by simp [K, N, V, C, U, B])
                · go_enter Try.func98, Try.ntmps98
                  go_wp2_with (fail)
                  go_ret
                  refine ⟨?_, Ext.refl _⟩
                  rw [HQ.out, hp]
                  exact ret_bool (by simp [K, N, V, C, U, B])
  · have hp := plainB_1 x.l (by simp at O1; omega)
    cases K : (x.l.ki.size == 0) <;> rw [K] at ik
    · cases N : (x.l.nu == 0)
      · go_enter Try.func98, Try.ntmps98
        go_wp2_with (fail)
        go_ret
        refine ⟨?_, Ext.refl _⟩
        rw [HQ.out, hp]
        exact ret_bool (by simp [K, N])
      · go_enter Try.func98, Try.ntmps98
        go_wp2_with (fail)
        go_ret
        refine ⟨?_, Ext.refl _⟩
        rw [HQ.out, hp]
        exact ret_bool (by simp [K, N])
    · cases N : (x.l.nu == 0)
      · go_enter Try.func98, Try.ntmps98
        go_wp2_with (fail)
        go_ret
        refine ⟨?_, Ext.refl _⟩
        rw [HQ.out, hp]
        exact ret_bool (by simp [K, N])
      · cases V : (x.l.ve == 0)
        · go_enter Try.func98, Try.ntmps98
          go_wp2_with (fail)
          go_ret
          refine ⟨?_, Ext.refl _⟩
          rw [HQ.out, hp]
          exact ret_bool (by simp [K, N, V])
        · cases D : (x.l.da == 0)
          · go_enter Try.func98, Try.ntmps98
            go_wp2_with (fail)
            go_ret
            refine ⟨?_, Ext.refl _⟩
            rw [HQ.out, hp]
            exact ret_bool (by simp [K, N, V, D])
          · cases U : (x.l.un == 0)
            · go_enter Try.func98, Try.ntmps98
              go_wp2_with (fail)
              go_ret
              refine ⟨?_, Ext.refl _⟩
              rw [HQ.out, hp]
              exact ret_bool (by simp [K, N, V, D, U])
            · go_enter Try.func98, Try.ntmps98
              go_wp2_with (fail)
              go_ret
              refine ⟨?_, Ext.refl _⟩
              rw [HQ.out, hp]
              exact ret_bool (by simp [K, N, V, D, U])
end Go.Proofs.Ytlahejakcgoheaa
end
section
/-
  Walks: Clone of bytes, copied.
-/
set_option linter.unusedVariables false
set_option linter.unusedSimpArgs false
namespace Go.Proofs.Ytlahejakcgoheaa
open Go.RowKit
theorem byts_none {w : World} {xs : List UInt8} (h : Byts w none xs) : xs = [] := by
  rcases h with h | ⟨b, o, h, _⟩
  · exact h
  · cases h
theorem own_nilB (w : World) (B : Nat) : OwnB w B (.slice none 0 0) [] := .inl ⟨rfl, rfl⟩
theorem own_emptyB (w : World) : OwnB (w.alloc (.cells #[] 5)) w.heap.size (.slice (some ⟨w.heap.size, 0, none⟩) 0 0) [] := OwnB.own (own_empty w 5 1)
theorem grown_ext {w w1 w' : World} {B : Option Nat} (he : Ext w w1) (hg : w1.grownBy w' B) (hb : ∀ k, B = some k → w.heap.size ≤ k) : Ext w w' := Below.grown he hg he.size hb
set_option maxHeartbeats 1000000 in
theorem clone_any (a : Option Addr) (c : Nat) (xs : List UInt8) (w : World) (hx : Byts w a xs) (hn : xs.length ≤ 140737488355328) : Calls Try.prog 86 #[.slice a xs.length c] w (RetB xs w) := by
  have hnil := fun (W : World) (a : Option Addr) (n c : Nat) => run_eql_slice_nil (P := Try.prog) W 23 5 a n c Try.underlying23
  cases a with
  | none =>
    obtain rfl := byts_none hx
    have HN := Lib.hid hn; clear hn
    go_enter Try.func86, Try.ntmps86
    go_wp2_with (fail)
    go_ret
    exact ⟨none, 0, rfl, Ext.refl w, own_nilB _ _⟩
  | some ad =>
    have happ := app_bytes (w.alloc (.cells #[] 5)) w.heap.size 23 _ [] xs (some ad) c (own_emptyB w) (hx.ext ((Ext.refl w).alloc _)) (by simpa using hn) (by simp)
    have HA := Lib.hid happ
    clear hx hn happ
    go_enter Try.func86, Try.ntmps86
    go_wp2_with (at_builtin; refine wpList_app _ rfl _ _ 23 rfl _ HA.out ?_; rintro v' w' ⟨hv, hg, -⟩)
    obtain ⟨a', c', rfl⟩ := hv.slice
    go_ret
    refine ⟨a', c', by simp, grown_ext ((Ext.refl w).alloc _) hg (by simp [Value.ownBlock]), ?_⟩
    simpa using hv
theorem OwnB.far {w : World} {B B' : Nat} {v : Value} {xs : List UInt8} (h : OwnB w B v xs) {p : Addr} (u : Value) (hp : ∀ k, v.ownBlock = some k → k ≠ p.block) (hB : B' ≤ B) : OwnB (w.setCell p u) B' v xs := by
  rcases h with h | ⟨g, cap, cur, fz, hv, hg, hh, r⟩
  · exact .inl h
  · refine .inr ⟨g, cap, cur, fz, hv, Nat.le_trans hB hg, ?_, r⟩
    have := hp g (by rw [hv]; rfl)
    rw [Below.heap_setCell _ _ _ _ this]; exact hh
/-- The post of 'copied'. -/
def RetCp (l : Lk) (w : World) (e : Ending) (w' : World) : Prop := ∃ ba bc, e = .returned (lval ⟨l, ba, bc⟩) ∧ Ext w w' ∧ OwnB w' w.heap.size (.slice ba l.bo.length bc) l.bo
set_option maxRecDepth 100000 in
set_option maxHeartbeats 4000000 in
theorem copied_any (b o : Nat) (x : Lv) (w : World) (hc : LinkC w b o x) (hx : Byts w x.ba x.l.bo) (hn : x.l.bo.length ≤ 140737488355328) : Calls Try.prog 57 #[.pointer (some ⟨b, o, none⟩)] w (RetCp x.l w) := by
  have hcl := fun W (q : Byts W x.ba x.l.bo) => clone_any x.ba x.bc x.l.bo W q hn
  have HCL := Lib.hid hcl
  have HX := Lib.hid hx
  have hb : b < w.heap.size := lt_of_cell hc.1
  obtain ⟨c0, c1, c2, c3, c4, c5, c6, c7, c8, c9⟩ := hc
  clear hcl hx hn
  go_enter Try.func57, Try.ntmps57
  go_wp2_with (fail)
  clear c0 c1 c2 c3 c4 c5 c6 c7 c8 c9
  generalize hw1 : World.alloc _ _ = w1
  obtain ⟨he, o1, o2, -⟩ := alloc2 hw1
  have O1 := Lib.hid o1; have O2 := Lib.hid o2
  clear hw1 o1 o2
  (with_reducible refine (HCL.out _ (HX.out.ext he)).mono ?_); rintro e w2 ⟨ba, bc, rfl, he2, own2⟩
  have he12 := he.trans he2
  have q1 := he2.block O1.out
  have q2 := he2.block O2.out
  obtain ⟨d0, d1, d2, d3, d4, d5, d6, d7, d8, d9⟩ := obj_cells10 q2
  replace d7 := d7 w2 (Ext.refl _)
  have f7 := obj_free q2 w2 (Ext.refl _) 7
  have hs12 := he.size
  have ho := lt_of_block O2.out
  have hbk := block_set q2 7 (.slice ba x.l.bo.length bc)
  have hb1 : (w2.setCell ⟨w.heap.size + 1, 7, none⟩ (.slice ba x.l.bo.length bc)).heap[w.heap.size]? = _ := (heap_set_ne _ (by omega)).trans q1
  have he3 := he12.set (p := ⟨w.heap.size + 1, 7, none⟩) (by simp) (.slice ba x.l.bo.length bc)
  have own3 : OwnB (w2.setCell ⟨w.heap.size + 1, 7, none⟩ (.slice ba x.l.bo.length bc)) w1.heap.size (.slice ba x.l.bo.length bc) x.l.bo := by
    refine OwnB.far own2 _ ?_ (Nat.le_refl _)
    intro k hk
    have := (own2.lt _ hk).1
    show k ≠ w.heap.size + 1
    omega
  have HB1 := Lib.hid hb1; have HB2 := Lib.hid hbk; have HE3 := Lib.hid he3; have HO3 := Lib.hid own3
  clear d0 d1 d2 d3 d4 d5 d6 d8 d9 q1 q2 hbk hb1 he3 own3 he12 he2 own2 he
  go_upto_region 3 with fail
  generalize World.setCell w2 ⟨w.heap.size + 1, 7, none⟩ _ = w3 at *
  clear d7 f7
  simp only [lcells, List.setIfInBounds_toArray, List.set_cons_succ, List.set_cons_zero] at HB2
  obtain ⟨d0, d1, d2, d3, d4, d5, d6, d7, d8, d9⟩ := obj_cells10 HB2.out
  obtain ⟨z0, z1, z2, z3, z4, z5, z6, z7, z8, z9⟩ := obj_cells10 HB1.out
  have f1 := obj_free HB1.out w3 (Ext.refl _)
  replace d0 := d0 w3 (Ext.refl _); replace d1 := d1 w3 (Ext.refl _); replace d2 := d2 w3 (Ext.refl _); replace d3 := d3 w3 (Ext.refl _); replace d4 := d4 w3 (Ext.refl _)
  replace d5 := d5 w3 (Ext.refl _); replace d6 := d6 w3 (Ext.refl _); replace d7 := d7 w3 (Ext.refl _); replace d8 := d8 w3 (Ext.refl _); replace d9 := d9 w3 (Ext.refl _)
  replace z0 := z0 w3 (Ext.refl _); replace z1 := z1 w3 (Ext.refl _); replace z2 := z2 w3 (Ext.refl _); replace z3 := z3 w3 (Ext.refl _); replace z4 := z4 w3 (Ext.refl _)
  replace z5 := z5 w3 (Ext.refl _); replace z6 := z6 w3 (Ext.refl _); replace z7 := z7 w3 (Ext.refl _); replace z8 := z8 w3 (Ext.refl _); replace z9 := z9 w3 (Ext.refl _)
  go_wp2_with (fail)
  refine bodyPost_ret (v := lval ⟨x.l, ba, bc⟩) (by simp [results, Try.results57, go_sem, z0, z1, z2, z3, z4, z5, z6, z7, z8, z9]) rfl ⟨ba, bc, rfl, ?_, ?_⟩
  · repeat (refine Ext.set ?_ (Nat.le_refl _) _)
    exact HE3.out
  · have hfar : ∀ W v p u, p.block = w.heap.size → OwnB W w1.heap.size v x.l.bo → OwnB (W.setCell p u) w1.heap.size v x.l.bo := fun W v p u hp h => by
      refine OwnB.far h u ?_ (Nat.le_refl _)
      intro k hk
      have := (h.lt _ hk).1
      rw [hp]; omega
    refine OwnB.mono (B := w1.heap.size) ?_ hs12
    repeat (refine hfar _ _ _ _ rfl ?_)
    exact HO3.out
end Go.Proofs.Ytlahejakcgoheaa
end
section
/-
  Base words: maps.
-/
set_option linter.unusedVariables false
set_option linter.unusedSimpArgs false
namespace Go.Proofs.Ytlahejakcgoheaa
open Go.RowKit Go.Maps Go.MapKept Go.ChangeMaps
/-- Block b is a map with just these entries. -/
def MapAt (k : TypeId) (w : World) (b : Nat) (m : List (Value × Value)) : Prop :=
  ∃ (es : Array MapEntry) (clock : Nat), w.heap[b]? = some (.map es clock) ∧ es.toList.map (fun e => (e.key, e.val)) = m ∧ (∀ e ∈ es.toList, ∃ l, keyOf Try.prog k e.key = some l) ∧ (m.map Prod.fst).Nodup ∧ m.length < maxLen
theorem MapAt.of_block {k : TypeId} {w w' : World} {b : Nat} {m : List (Value × Value)} (h : MapAt k w b m) (e : w'.heap[b]? = w.heap[b]?) : MapAt k w' b m := by
  obtain ⟨es, clock, h1, r⟩ := h
  exact ⟨es, clock, e.trans h1, r⟩
theorem MapAt.ext {k : TypeId} {w w' : World} {b : Nat} {m : List (Value × Value)} (h : MapAt k w b m) (e : Ext w w') : MapAt k w' b m := by
  obtain ⟨es, clock, h1, r⟩ := h
  exact ⟨es, clock, e.block h1, r⟩
theorem MapAt.lt {k : TypeId} {w : World} {b : Nat} {m : List (Value × Value)} (h : MapAt k w b m) : b < w.heap.size := by
  obtain ⟨es, clock, h1, r⟩ := h
  exact lt_of_block h1
theorem MapAt.made (k : TypeId) (w : World) : MapAt k (w.alloc (.map #[] 0)) w.heap.size [] := ⟨#[], 0, heap_new w _, rfl, by simp, by simp, by simp [maxLen]⟩
section
variable {k t e : TypeId} {w : World} {b : Nat} {m : List (Value × Value)} {z : Value}
theorem MapAt.look_yes (h : MapAt k w b m) (K : Keyed Try.prog k) (ht : Try.prog.underlying t = some (.map k e)) {key v : Value} (hk : ∃ l, keyOf Try.prog k key = some l) (hm : (key, v) ∈ m) :
    ∀ c, (Instr.lookup t (.map (some b)) key c).run Try.prog w = .ok (if c then .tuple #[v, .bool true] else v) w := by
  intro c
  obtain ⟨es, clock, hb, hes, hkeys, hnd, _⟩ := h
  obtain ⟨l, hk⟩ := hk
  rcases K.find w hk es.toList hkeys with ⟨h1, h2⟩ | ⟨j, e0, h1, h2, h3⟩
  · rw [← hes, List.mem_map] at hm
    obtain ⟨x, hx, hxe⟩ := hm
    exact absurd (congrArg Prod.fst hxe) (h2 x hx)
  · have hv : e0.val = v := by
      have hj : m[j]? = some (e0.key, e0.val) := by rw [← hes, List.getElem?_map, h2]; rfl
      obtain ⟨i, hi, hie⟩ := List.getElem_of_mem hm
      have hjl : j < m.length := (List.getElem?_eq_some_iff.1 hj).1
      have hje : m[j] = (e0.key, e0.val) := (List.getElem?_eq_some_iff.1 hj).2
      have hij : i = j := by
        refine (List.getElem_inj (h₀ := by simpa using hi) (h₁ := by simpa using hjl) hnd).1 ?_
        simp [hie, hje, h3]
      subst hij
      rw [hie] at hje
      exact (congrArg Prod.snd hje).symm
    simp [Instr.lookup, run_underlying ht, MapKept.run_getObj_map hb, K.check w _ hk, h1, Result.andThen, hv]
theorem MapAt.look_no (h : MapAt k w b m) (K : Keyed Try.prog k) (ht : Try.prog.underlying t = some (.map k e)) (hz : (zeroValue e).run Try.prog w = .ok z w) {key : Value} (hk : ∃ l, keyOf Try.prog k key = some l) (hm : ∀ p ∈ m, p.1 ≠ key) :
    ∀ c, (Instr.lookup t (.map (some b)) key c).run Try.prog w = .ok (if c then .tuple #[z, .bool false] else z) w := by
  intro c
  obtain ⟨es, clock, hb, hes, hkeys, hnd, _⟩ := h
  obtain ⟨l, hk⟩ := hk
  rcases K.find w hk es.toList hkeys with ⟨h1, h2⟩ | ⟨j, e0, h1, h2, h3⟩
  · simp [Instr.lookup, run_underlying ht, MapKept.run_getObj_map hb, K.check w _ hk, h1, hz, Result.andThen]
  · exact absurd h3 (hm (e0.key, e0.val) (by rw [← hes]; exact List.mem_map.2 ⟨e0, List.mem_of_getElem? h2, rfl⟩))
theorem MapAt.len (h : MapAt k w b m) (ht : Try.prog.underlying t = some (.map k e)) (ty : TypeId) : (Builtin.len_ #[t] ty #[.map (some b)]).run Try.prog w = .ok (.int .i64 (m.length : Int)) w := by
  obtain ⟨es, clock, hb, hes, hkeys, hnd, _⟩ := h
  have : es.size = m.length := by rw [← hes]; simp
  simp [Builtin.len_, run_underlying ht, MapKept.run_getObj_map hb, goInt, Result.andThen, this]
/-- What a store into a map leaves. -/
structure Turned (w w' : World) (b : Nat) : Prop where
  os : w'.os = w.os
  tape : w'.tape = w.tape
  output : w'.output = w.output
  size : w'.heap.size = w.heap.size
  block : ∀ i, i ≠ b → w'.heap[i]? = w.heap[i]?
theorem turned_set (w : World) (b : Nat) (o : Obj) : Turned w (setBlock w b o) b :=
  ⟨rfl, rfl, rfl, by simp [setBlock], fun i hi => heap_setBlock_other' i hi⟩
where
  heap_setBlock_other' (i : Nat) (hi : i ≠ b) : (setBlock w b o).heap[i]? = w.heap[i]? := by
    simp [setBlock, Array.getElem?_setIfInBounds, Ne.symm hi]
theorem MapAt.store_new (h : MapAt k w b m) (K : Keyed Try.prog k) (ht : Try.prog.underlying t = some (.map k e)) {key val : Value} (hk : ∃ l, keyOf Try.prog k key = some l) (hm : ∀ p ∈ m, p.1 ≠ key) (hl : m.length + 1 < maxLen) :
    ∃ w', (Instr.mapUpdate t (.map (some b)) key val).run Try.prog w = .ok () w' ∧ MapAt k w' b (m ++ [(key, val)]) ∧ Turned w w' b := by
  obtain ⟨es, clock, hb, hes, hkeys, hnd, hml⟩ := h
  obtain ⟨l, hk⟩ := hk
  rcases K.find w hk es.toList hkeys with ⟨h1, h2⟩ | ⟨j, e0, h1, h2, h3⟩
  · have hsz : es.size = m.length := by rw [← hes]; simp
    refine ⟨setBlock w b (.map (es.push ⟨key, val, clock⟩) (clock + 1)), ?_, ⟨es.push ⟨key, val, clock⟩, clock + 1, heap_setBlock_same hb _, ?_, ?_, ?_, ?_⟩, turned_set _ _ _⟩
    · simp [Instr.mapUpdate, run_underlying ht, MapKept.run_getObj_map hb, K.check w false hk, h1, MapKept.run_setObj_map _ hb, Result.andThen, setBlock]
    · simp [hes]
    · intro x hx
      simp only [Array.toList_push, List.mem_append, List.mem_singleton] at hx
      rcases hx with hx | rfl
      · exact hkeys x hx
      · exact ⟨l, hk⟩
    · rw [List.map_append, List.nodup_append]
      refine ⟨hnd, by simp, ?_⟩
      intro a ha c hc
      simp at hc
      subst hc
      obtain ⟨p, hp, rfl⟩ := List.mem_map.1 ha
      exact hm p hp
    · simp; omega
  · exact absurd h3 (hm (e0.key, e0.val) (by rw [← hes]; exact List.mem_map.2 ⟨e0, List.mem_of_getElem? h2, rfl⟩))
theorem MapAt.store_old (h : MapAt k w b m) (K : Keyed Try.prog k) (ht : Try.prog.underlying t = some (.map k e)) {key val v0 : Value} (hk : ∃ l, keyOf Try.prog k key = some l) {j : Nat} (hj : m[j]? = some (key, v0)) :
    ∃ w', (Instr.mapUpdate t (.map (some b)) key val).run Try.prog w = .ok () w' ∧ MapAt k w' b (m.set j (key, val)) ∧ Turned w w' b := by
  obtain ⟨es, clock, hb, hes, hkeys, hnd, hml⟩ := h
  obtain ⟨l, hk⟩ := hk
  rcases K.find w hk es.toList hkeys with ⟨h1, h2⟩ | ⟨i, e0, h1, h2, h3⟩
  · have hx : (key, v0) ∈ m := List.mem_of_getElem? hj
    rw [← hes, List.mem_map] at hx
    obtain ⟨x, hx, hxe⟩ := hx
    exact absurd (congrArg Prod.fst hxe) (h2 x hx)
  · have hi : m[i]? = some (e0.key, e0.val) := by rw [← hes, List.getElem?_map, h2]; rfl
    have hjl : j < m.length := (List.getElem?_eq_some_iff.1 hj).1
    have hil : i < m.length := (List.getElem?_eq_some_iff.1 hi).1
    have hij : i = j := by
      refine (List.getElem_inj (h₀ := by simpa using hil) (h₁ := by simpa using hjl) hnd).1 ?_
      simp [(List.getElem?_eq_some_iff.1 hi).2, (List.getElem?_eq_some_iff.1 hj).2, h3]
    subst hij
    have hej : es[i]? = some e0 := by simpa using h2
    have hlist : (es.modify i (fun e' => { e' with key := key, val := val })).toList = es.toList.set i { e0 with key := key, val := val } := by rw [Array.toList_modify, modify_eq_set _ _ _ _ h2]
    refine ⟨setBlock w b (.map (es.modify i (fun e' => { e' with key := key, val := val })) clock), ?_, ⟨_, clock, heap_setBlock_same hb _, ?_, ?_, ?_, by simpa using hml⟩, turned_set _ _ _⟩
    · simp [Instr.mapUpdate, run_underlying ht, MapKept.run_getObj_map hb, K.check w false hk, h1, hej, h3, K.stays w hk, MapKept.run_setObj_map _ hb, Result.andThen, setBlock]
    · rw [hlist, List.map_set, hes]
    · intro x hx
      rw [hlist] at hx
      rcases List.mem_or_eq_of_mem_set hx with hx | rfl
      · exact hkeys x hx
      · exact ⟨l, hk⟩
    · rw [List.map_set]
      have : (m.map Prod.fst).set i key = m.map Prod.fst := by
        apply List.ext_getElem
        · simp
        · intro n h1 h2
          rw [List.getElem_set]
          split
          · rename_i hn; subst hn; simp [(List.getElem?_eq_some_iff.1 hj).2]
          · rfl
      rw [this]; exact hnd
end
theorem law9 : Keyed Try.prog 9 := string_keyed Try.underlying9
theorem key9 (s : ByteArray) (h : s.size ≤ maxLen) : ∃ l, keyOf Try.prog 9 (.string s) = some l := ⟨_, WideMaps.keyOf_string_mk Try.underlying9 h⟩
theorem law142 : Keyed Try.prog 142 := Keyed.of_law (deep_law_laid (by kernel_rfl) (m := 2) (by omega) (of_decide_eq_true (by kernel_rfl)) (by kernel_rfl) (by rw [Try.underlying142]))
theorem key142 (n : Int) (s : ByteArray) (h0 : -9223372036854775808 ≤ n) (h1 : n ≤ 9223372036854775807) (h : s.size ≤ maxLen) : ∃ l, keyOf Try.prog 142 (.agg #[.int .i64 n, .string s]) = some l := by
  have hf : Try.prog.keyType 142 = true := by kernel_rfl
  unfold keyOf
  rw [Try.underlying142]
  simp only [hf, Bool.true_and]
  have c1 : Try.prog.cellsOf 142 = 2 := by kernel_rfl
  have c2 : Try.prog.cellsOf 3 = 1 := by kernel_rfl
  have c3 : Try.prog.cellsOf 9 = 1 := by kernel_rfl
  have hs : Try.prog.types.size = 186 := by kernel_rfl
  have e1 : Value.formed Try.prog 142 (.agg #[.int .i64 n, .string s]) = true := by
    unfold Value.formed; rw [Try.underlying142]; simp [c1]
  have e2 : (Value.agg #[Value.int .i64 n, Value.string s]).cells.toList = [.int .i64 n, .string s] := rfl
  have e3 : Try.prog.keyLits (185 + 1) 3 [.int .i64 n] = some [.int .i64 n] := by
    unfold Program.keyLits; rw [Try.underlying3]
    have : (Lit.int IntKind.i64 n).wf = true := by simp [Lit.wf, IntKind.min, IntKind.max, IntKind.signed, IntKind.bits]; omega
    simp [this]
  have e4 : Try.prog.keyLits (185 + 1) 9 [.string s] = some [.string s.data.toList] := by
    unfold Program.keyLits; rw [Try.underlying9]
    simp [h]
  rw [if_pos e1, e2, hs]
  refine ⟨.string (keyBytes [.int .i64 n, .string s.data.toList]), ?_⟩
  have e5 : Try.prog.keyLits (186 + 1) 142 [.int .i64 n, .string s] = some [.int .i64 n, .string s.data.toList] := by
    unfold Program.keyLits; rw [Try.underlying142]
    simp [c1, c2, c3, e3, e4]
  rw [e5]; rfl
theorem zero125 (w : World) : (zeroValue 125).run Try.prog w = .ok (.pointer none) w := by kernel_rfl
theorem zero74 (w : World) : (zeroValue 74).run Try.prog w = .ok (.pointer none) w := by kernel_rfl
theorem zero9 (w : World) : (zeroValue 9).run Try.prog w = .ok (.string ⟨#[]⟩) w := by kernel_rfl
theorem zero4 (w : World) : (zeroValue 4).run Try.prog w = .ok (.bool false) w := by kernel_rfl
end Go.Proofs.Ytlahejakcgoheaa
end
