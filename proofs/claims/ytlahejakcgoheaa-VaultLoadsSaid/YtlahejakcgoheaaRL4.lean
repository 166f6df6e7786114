/-
  Texts merged: RL, RN, RM, RO.
-/
import Derived.Test.YtlahejakcgoheaaRP
section
/-
  Walks of the reference: Unpad.
-/
set_option linter.unusedVariables false
set_option linter.unusedSimpArgs false
namespace Go.Proofs.Ytlahejakcgoheaa
open Go.RowKit
theorem bth_toNat (b : List UInt8) (i : Nat) : bth b i = (b.getD i 0).toNat := rfl
theorem num2 (b : List UInt8) (h : 2 ≤ b.length) : numB (unpN b) 2 = b.take 2 := by
  match b, h with
  | x :: y :: r, _ =>
    have hx : x.toNat < 256 := UInt8.toNat_lt x
    have hy : y.toNat < 256 := UInt8.toNat_lt y
    have e : unpN (x :: y :: r) = x.toNat * 256 + y.toNat := rfl
    rw [e]
    show [UInt8.ofNat ((x.toNat * 256 + y.toNat) / 2 ^ (8 * 1)), UInt8.ofNat ((x.toNat * 256 + y.toNat) / 2 ^ (8 * 0))] = [x, y]
    have e1 : (x.toNat * 256 + y.toNat) / 2 ^ (8 * 1) = x.toNat := by omega
    have e2 : (x.toNat * 256 + y.toNat) / 2 ^ (8 * 0) = x.toNat * 256 + y.toNat := by omega
    rw [e1, e2]
    congr 1
    · simp
    · congr 1
      apply UInt8.toNat_inj.1
      rw [UInt8.toNat_ofNat']; omega
/-- A padded form in blocks of 32 bytes is the padded form of its text, just if it unpads. -/
theorem unp_eq (b : List UInt8) (h32 : b.length % 32 = 0) (hge : 32 ≤ b.length) (hn : unpN b ≤ 2000) (hl : unpN b + 2 ≤ b.length) : unpOk b = decide (padB ((b.drop 2).take (unpN b)) = b) := by
  obtain ⟨n, hnn⟩ : ∃ n, n = unpN b := ⟨_, rfl⟩
  have htl : ((b.drop 2).take (unpN b)).length = unpN b := by rw [List.length_take, List.length_drop]; omega
  have hb : b = b.take 2 ++ ((b.drop 2).take (unpN b) ++ b.drop (unpN b + 2)) := by
    have e := List.take_append_drop 2 b
    have e2 := List.take_append_drop (unpN b) (b.drop 2)
    rw [List.drop_drop, Nat.add_comm 2] at e2
    rw [e2, e]
  have hpad : padB ((b.drop 2).take (unpN b)) = b.take 2 ++ ((b.drop 2).take (unpN b) ++ List.replicate (padN (unpN b) - (unpN b + 2)) 0) := by
    unfold padB
    rw [htl, num2 b (by omega), List.append_assoc]
  have hiff : padB ((b.drop 2).take (unpN b)) = b ↔ List.replicate (padN (unpN b) - (unpN b + 2)) 0 = b.drop (unpN b + 2) := by
    rw [hpad]
    constructor
    · intro h
      have h' : b.take 2 ++ ((b.drop 2).take (unpN b) ++ List.replicate (padN (unpN b) - (unpN b + 2)) 0) = b.take 2 ++ ((b.drop 2).take (unpN b) ++ b.drop (unpN b + 2)) := by rw [h]; exact hb
      exact List.append_cancel_left (List.append_cancel_left h')
    · intro h
      rw [h]; exact hb.symm
  rw [Bool.eq_iff_iff, decide_eq_true_eq, hiff]
  unfold unpOk
  simp only [Bool.and_eq_true, decide_eq_true_eq]
  have hdl : (b.drop (unpN b + 2)).length = b.length - (unpN b + 2) := List.length_drop
  constructor
  · rintro ⟨-, -, -, h4, h5⟩
    have hp : padN (unpN b) = b.length := by unfold padN; omega
    rw [hp, ← hdl]
    refine (List.eq_replicate_iff.2 ⟨rfl, fun x hx => ?_⟩).symm
    have := List.all_eq_true.1 h5 x hx
    simpa using this
  · intro h
    have hle := congrArg List.length h
    rw [List.length_replicate, hdl] at hle
    have hg := padN_ge (unpN b)
    have hlt := padN_lt (unpN b)
    refine ⟨hge, hn, hl, by omega, ?_⟩
    rw [← h, List.all_eq_true]
    intro x hx
    rw [(List.mem_replicate.1 hx).2]; rfl
set_option maxRecDepth 100000 in
set_option maxHeartbeats 4000000 in
theorem runpad_any (a : Option Addr) (xs : List UInt8) (c : Nat) (w : World) (hx : Byts w a xs) (hc : xs.length ≤ c) (hl : xs.length ≤ 140737488355328) (h32 : xs.length % 32 = 0) : Calls Try.prog 97 #[.slice a xs.length c] w (Ret (unpV xs) w) := by
  have HX := Lib.hid hx; clear hx
  obtain ⟨L, hL⟩ : ∃ L, L = xs.length := ⟨_, rfl⟩
  have HL := Lib.hid hL
  have H32 := Lib.hid h32
  have HXC := Lib.hid hc
  rw [← hL] at hc hl ⊢
  by_cases hlt : L < 32
  · have hv : Hid (unpV xs = .tuple #[.string ⟨[].toArray⟩, .bool false]) := by
      have : unpOk xs = false := by simp [unpOk]; intro h; omega
      simp [Hid, unpV, unpT, this]
    clear hL h32
    go_enter Try.func97, Try.ntmps97
    go_wp2_with (fail)
    go_ret2
    exact ⟨by rw [hv.out]; rfl, Ext.refl w⟩
  · obtain ⟨b, o, rfl, c0⟩ := HX.out.at 0 (by omega)
    obtain ⟨b', o', e, c1⟩ := HX.out.at 1 (by omega)
    simp only [Option.some.injEq, Addr.mk.injEq, and_true] at e
    obtain ⟨rfl, rfl⟩ := e
    have hr0 := Ext.refl w
    have b0 := bth_lt xs 0
    have b1 := bth_lt xs 1
    simp only [Nat.add_zero] at c0
    have hm2 : (L : Int) % 32 = 0 := by rw [hL]; omega
    have hge : ¬ (L : Int) < 32 := by omega
    have hbad : ∀ x : Bool, Hid (x = false) → unpOk xs = x → Hid (unpV xs = .tuple #[.string ⟨[].toArray⟩, .bool false]) := fun x hx hv => by
      have : unpOk xs = false := hv.trans hx.out
      simp [Hid, unpV, unpT, this]
    clear hL h32
    go_enter Try.func97, Try.ntmps97
    go_upto_region 3 with fail
    refine wp_region_ext (by kernel_rfl) (by kernel_rfl) hr0 ?_
    repeat (first | go_big_quiet_step ((fail)) | quiet_step ((fail)))
    refine wpQuiet_nil ?_
    rintro _ ⟨nq, rfl⟩
    have he := nq.ok
    obtain ⟨n, hn⟩ : ∃ n, n = bth xs 0 * 256 + bth xs 1 := ⟨_, rfl⟩
    have hn2 : n < 65536 := by omega
    rw [show ((bth xs 0 : Int) * 256 + (bth xs 1 : Int)) = (n : Int) by omega]
    have hu : Hid (n = unpN xs) := hn
    clear hn c0 c1 b0 b1
    cases T1 : decide (2000 < (n : Int))
    · cases T2 : decide ((L : Int) < (n : Int) + 2)
      · have h2 : n + 2 ≤ L := by simp at T2; omega
        have hb1 : (n : Int) + 2 ≤ (c : Int) := by omega
        have hb2 : (2 : Int) ≤ (n : Int) + 2 := by omega
        have hb0 : (0 : Int) ≤ (n : Int) + 2 := by omega
        have hw2 : IntKind.i64.wrap (2 + (n : Int)) = (n : Int) + 2 := by rw [IntKind.wrap_i64]; omega
        have hcm : (2 : Int) + (n : Int) = (n : Int) + 2 := by omega
        have htx := run_stringOf nq.val (cutA (some ⟨b, o, none⟩) 2 c) ((xs.drop 2).take n) (c - 2) (((HX.out.ext he).cut 2 c (by have := HL.out; omega) HXC.out).take n)
        have htl : ((xs.drop 2).take n).length = n := by rw [List.length_take, List.length_drop]; have := HL.out; omega
        rw [htl] at htx
        obtain ⟨ts, hts⟩ : ∃ ts : ByteArray, ts = ⟨((xs.drop 2).take n).toArray⟩ := ⟨_, rfl⟩
        rw [← hts] at htx
        have hds : ts.data.toList = (xs.drop 2).take n := by rw [hts]
        have htz : ts.size = n := by rw [← len_data, hds, htl]
        have HDS := Lib.hid hds; have HTZ := Lib.hid htz; have HTS := Lib.hid hts
        have hok : Hid (unpOk xs = decide (padB ts.data.toList = xs)) := by
          rw [Hid, HDS.out, hu.out]
          exact unp_eq xs H32.out (by have := HL.out; omega) (by rw [← hu.out]; simp at T1; omega) (by rw [← hu.out]; have := HL.out; omega)
        clear htl hts hds htz
        have hpd := rpad_any ts nq.val (by rw [HTZ.out]; simp at T1; omega)
        go_wp2_with (fail)
        (with_reducible refine hpd.mono ?_); rintro e w2 ⟨a2, c2, rfl, he2, o2⟩
        clear hpd htx
        obtain ⟨ys, hys⟩ : ∃ ys, ys = padB ts.data.toList := ⟨_, rfl⟩
        rw [← hys] at o2 hok ⊢
        have HY := Lib.hid o2.byts.1
        obtain ⟨M, hM⟩ : ∃ M, M = ys.length := ⟨_, rfl⟩
        have HM := Lib.hid hM
        rw [← hM]
        have HE2 := Lib.hid (he.trans he2)
        clear o2 hys hM he he2
        cases T3 : ((M : Int) != (L : Int))
        · have hML : M = L := by simp at T3; omega
          subst hML
          go_wp2_with (fail)
          go_loopw [7] (fun i wr => ∃ k : Nat, k ≤ M ∧ i = .int .i64 k ∧ Hid (Ext w2 wr) ∧ Hid (∀ j, j < k → bth ys j = bth xs j)) (fun i _ => M - (intOf i).toNat)
          case atStart => exact ⟨0, Nat.zero_le _, rfl, Ext.refl _, fun j hj => by omega⟩
          case round =>
            obtain ⟨k, hk, rfl, her, hz⟩ := hrel
            by_cases hltk : k < M
            · obtain ⟨b3, o3, hba, x0⟩ := HX.out.at k (by rw [← HL.out]; exact hltk)
              simp only [Option.some.injEq, Addr.mk.injEq, and_true] at hba
              obtain ⟨rfl, rfl⟩ := hba
              obtain ⟨b4, o4, rfl, y0⟩ := HY.out.at k (by rw [← HM.out]; exact hltk)
              have x1 := fun W (e : Ext wr W) => x0 W ((HE2.out.trans her.out).trans e)
              have y1 := fun W (e : Ext wr W) => y0 W (her.out.trans e)
              have hr0 := Ext.refl wr
              have hi0 : (0 : Int) ≤ (k : Int) := by omega
              have hi1 : (k : Int) < (M : Int) := by omega
              clear x0 y0
              go_upto_region 13 with fail
              refine wp_region_ext (by kernel_rfl) (by kernel_rfl) hr0 ?_
              repeat (first | go_big_quiet_step ((fail)) | quiet_step ((fail)))
              refine wpQuiet_nil ?_
              rintro _ ⟨nq, rfl⟩
              have he3 := nq.ok
              clear x1 y1
              cases T4 : ((bth ys k : Int) != (bth xs k : Int))
              · have hz2 : Hid (∀ j, j < k + 1 → bth ys j = bth xs j) := fun j hj => by
                  by_cases e : j = k
                  · subst e; simp at T4; omega
                  · exact hz.out j (by omega)
                go_wp2_with (fail)
                go_roundw
                case rel => exact ⟨k + 1, by omega, by go_num, her.out.trans he3, hz2⟩
                case measure => simp [intOf]; omega
              · have hv := hbad _ rfl (by
                  rw [hok.out, decide_eq_false_iff_not]
                  intro e; rw [e] at T4; simp at T4)
                go_wp2_with (fail)
                go_ret2
                exact ⟨by rw [hv.out]; rfl, HE2.out.trans (her.out.trans he3)⟩
            · obtain rfl : k = M := by omega
              have hv : Hid (unpV xs = .tuple #[.string ts, .bool true]) := by
                have : unpOk xs = true := by
                  rw [hok.out, decide_eq_true_eq]
                  apply List.ext_getElem
                  · rw [← HM.out, ← HL.out]
                  · intro i h1 h2
                    have := hz.out i (by rw [HM.out]; exact h1)
                    rw [bth_eq _ _ h1, bth_eq _ _ h2] at this
                    exact UInt8.toNat_inj.1 this
                rw [Hid, unpV, unpT, this, HTS.out, hu.out]; rfl
              go_wp2_with (fail)
              go_ret2
              exact ⟨by rw [hv.out]; rfl, HE2.out.trans her.out⟩
        · have hv := hbad _ rfl (by
            rw [hok.out, decide_eq_false_iff_not]
            intro e
            have := congrArg List.length e
            rw [← HM.out, ← HL.out] at this
            rw [this] at T3; simp at T3)
          go_wp2_with (fail)
          go_ret2
          exact ⟨by rw [hv.out]; rfl, HE2.out⟩
      · have hv := hbad _ rfl (by
          have t1 : ¬ unpN xs + 2 ≤ xs.length := by rw [← hu.out, ← HL.out]; simp at T2; omega
          simp [unpOk, t1])
        go_wp2_with (fail)
        go_ret2
        exact ⟨by rw [hv.out]; rfl, he⟩
    · have hv := hbad _ rfl (by
        have t1 : ¬ unpN xs ≤ 2000 := by rw [← hu.out]; simp at T1; omega
        simp [unpOk, t1])
      go_wp2_with (fail)
      go_ret2
      exact ⟨by rw [hv.out]; rfl, he⟩
end Go.Proofs.Ytlahejakcgoheaa
end
section
/-
  Walks of the reference: unsealed.
-/
set_option linter.unusedVariables false
set_option linter.unusedSimpArgs false
namespace Go.Proofs.Ytlahejakcgoheaa
open Go.RowKit
set_option maxRecDepth 100000 in
set_option maxHeartbeats 4000000 in
theorem runsealed_any (key : Nat) (x : Lv) (w : World) (hk : key < 18446744073709551616) (ho : LkOk x.l) (hkb : x.l.ki.size ≤ 100000000000000) (hb : Byts w x.ba x.l.bo) (hl : x.l.bo.length ≤ 1000000) (h32 : x.l.bo.length % 32 = 0) : Calls Try.prog 84 #[u64 key, lval x] w (Ret (unshV key x.l) w) := by
  have h1 := fun W => rsealKey_any key x W ho hkb
  have h3 := fun W (q : Byts W x.ba x.l.bo) => rcipher_any (sealK key x.l) x.ba x.l.bo x.bc W (p61_64 (sealK_lt _ _)) q hl
  have h4 := fun W (q : Byts W x.ba x.l.bo) => rdigest_any (sealK key x.l) x.ba x.l.bo x.bc W q (by omega)
  have h5 := fun a c W (q : Byts W a (ciph (sealK key x.l) x.l.bo)) (hc : (ciph (sealK key x.l) x.l.bo).length ≤ c) => runpad_any a (ciph (sealK key x.l) x.l.bo) c W q hc (by rw [ciph_len]; omega) (by rw [ciph_len]; exact h32)
  have H1 := Lib.hid h1; have H3 := Lib.hid h3; have H4 := Lib.hid h4; have H5 := Lib.hid h5; have HB := Lib.hid hb
  clear h1 h3 h4 h5 ho hk hb hl h32
  go_enter Try.func84, Try.ntmps84
  go_upto_region 1 with fail
  generalize hw1 : World.alloc _ _ = w1
  obtain ⟨he, o1, -⟩ := alloc1 hw1
  have HE := Lib.hid he
  obtain ⟨d0, d1, d2, d3, d4, d5, d6, d7, d8, d9⟩ := obj_cells10 o1
  have D7 := Lib.hid d7; have D8 := Lib.hid d8
  clear hw1 o1
  have E1 := Ext.refl w1
  go_wp2_with (fail)
  (with_reducible refine (H1.out _).mono ?_); rintro e w2 ⟨rfl, he2⟩
  clear d0 d1 d2 d3 d4 d5 d6 d7 d8 d9 E1
  have d7 := fun W (e : Ext w2 W) => D7.out W (he2.trans e)
  have E2 := Ext.refl w2
  go_wp2_with (fail)
  (with_reducible refine (H3.out _ (HB.out.ext (HE.out.trans he2))).mono ?_); rintro e w3 ⟨a3, c3, rfl, he3, o3⟩
  clear d7 E2
  go_wp2_with (fail)
  (with_reducible refine (H5.out _ _ _ o3.byts.1 o3.byts.2.2).mono ?_); rintro e w4 ⟨rfl, he4⟩
  have hx := ((he2.trans he3).trans he4)
  have HX := Lib.hid (HE.out.trans hx)
  have HBB := Lib.hid (HB.out.ext HX.out)
  have hr0 := Ext.refl w4
  have d7 := fun W (e : Ext w4 W) => D7.out W (hx.trans e)
  have d8 := fun W (e : Ext w4 W) => D8.out W (hx.trans e)
  clear o3 he he2 he3 he4 hx
  unfold unpV
  go_upto_region 3 with fail
  refine wp_region_ext (by kernel_rfl) (by kernel_rfl) hr0 ?_
  repeat (first | go_big_quiet_step (((go_at_call 15; exact Calls.later (H4.out _ (HBB.out.ext (Later.ok _)))))) | quiet_step (((go_at_call 15; exact Calls.later (H4.out _ (HBB.out.ext (Later.ok _)))))))
  refine wpQuiet_nil ?_
  rintro _ ⟨nq, rfl⟩
  have he5 := nq.ok
  go_wp2_with (fail)
  go_ret3
  refine ⟨?_, HX.out.trans he5⟩
  show Ending.returned (.tuple #[.string ⟨(unpT (ciph (sealK key x.l) x.l.bo)).toArray⟩, .bool (((x.l.tag : Nat) : Int) == ((hbs (nh (sealK key x.l)) x.l.bo : Nat) : Int)), .bool (unpOk (ciph (sealK key x.l) x.l.bo))]) = _
  rw [beq_cast]; rfl
end Go.Proofs.Ytlahejakcgoheaa
end
section
/-
  Walks of the reference: sealed.
-/
set_option linter.unusedVariables false
set_option linter.unusedSimpArgs false
namespace Go.Proofs.Ytlahejakcgoheaa
open Go.RowKit
set_option maxRecDepth 100000 in
set_option maxHeartbeats 4000000 in
theorem rsealed_any (key : Nat) (x : Lv) (s : ByteArray) (w : World) (hk : key < 18446744073709551616) (ho : LkOk x.l) (hkb : x.l.ki.size ≤ 100000000000000) (hs : s.size ≤ 2000) : Calls Try.prog 81 #[u64 key, lval x, .string s] w (RetCp (sealedL key x.l s.data.toList) w) := by
  have h1 := fun W => rsealKey_any key x W ho hkb
  have h2 := fun W => rpad_any s W hs
  have h3 := fun a c W (q : Byts W a (padB s.data.toList)) => rcipher_any (sealK key x.l) a (padB s.data.toList) c W (p61_64 (sealK_lt _ _)) q (by rw [padB_len, len_data]; have := padN_lt s.size; omega)
  have h4 := fun a c W (q : Byts W a (ciph (sealK key x.l) (padB s.data.toList))) => rdigest_any (sealK key x.l) a (ciph (sealK key x.l) (padB s.data.toList)) c W q (by rw [ciph_len, padB_len, len_data]; have := padN_lt s.size; omega)
  have H1 := Lib.hid h1; have H2 := Lib.hid h2; have H3 := Lib.hid h3; have H4 := Lib.hid h4
  clear h1 h2 h3 h4 ho hk
  go_enter Try.func81, Try.ntmps81
  go_upto_region 1 with fail
  generalize hw1 : World.alloc _ _ = w1
  obtain ⟨he, o1, o2, -⟩ := alloc2 hw1
  have hs1 : w1.heap.size = w.heap.size + 2 := by rw [← hw1, heap_size, heap_size]
  have O1 := Lib.hid o1; have O2 := Lib.hid o2; have HE := Lib.hid he
  obtain ⟨d0, d1, d2, d3, d4, d5, d6, d7, d8, d9⟩ := obj_cells10 o1
  clear hw1 o1 o2
  have E1 := Ext.refl w1
  go_wp2_with (fail)
  (with_reducible refine (H1.out _).mono ?_); rintro e w2 ⟨rfl, he2⟩
  clear d0 d1 d2 d3 d4 d5 d6 d7 d8 d9 E1
  go_wp2_with (fail)
  (with_reducible refine (H2.out _).mono ?_); rintro e w3 ⟨a3, c3, rfl, he3, o3⟩
  go_wp2_with (fail)
  (with_reducible refine (H3.out _ _ _ o3.byts.1).mono ?_); rintro e w4 ⟨a4, c4, rfl, he4, o4⟩
  have he14 := (he2.trans he3).trans he4
  have q1 := he14.block O1.out
  have q2 := he14.block O2.out
  obtain ⟨d0, d1, d2, d3, d4, d5, d6, d7, d8, d9⟩ := obj_cells10 q1
  replace d7 := d7 w4 (Ext.refl _)
  have f7 := obj_free q1 w4 (Ext.refl _) 7
  have hbk := block_set q1 7 (.slice a4 (ciph (sealK key x.l) (padB s.data.toList)).length c4)
  have hb2 : (w4.setCell ⟨w.heap.size, 7, none⟩ (.slice a4 (ciph (sealK key x.l) (padB s.data.toList)).length c4)).heap[w.heap.size + 1]? = _ := (heap_set_ne _ (by omega)).trans q2
  have he5 := (HE.out.trans he14).set (p := ⟨w.heap.size, 7, none⟩) (Nat.le_refl _) (.slice a4 (ciph (sealK key x.l) (padB s.data.toList)).length c4)
  have hfar : ∀ W v p u, p.block < w1.heap.size → OwnB W w1.heap.size v (ciph (sealK key x.l) (padB s.data.toList)) → OwnB (W.setCell p u) w1.heap.size v (ciph (sealK key x.l) (padB s.data.toList)) := fun W v p u hp h => by
    refine OwnB.far h u ?_ (Nat.le_refl _)
    intro k hk
    have := (h.lt _ hk).1
    omega
  have o4' : OwnB w4 w1.heap.size (.slice a4 (ciph (sealK key x.l) (padB s.data.toList)).length c4) (ciph (sealK key x.l) (padB s.data.toList)) := o4.mono (by have := (he2.trans he3).size; omega)
  have own5 := hfar w4 _ ⟨w.heap.size, 7, none⟩ (.slice a4 (ciph (sealK key x.l) (padB s.data.toList)).length c4) (by show w.heap.size < _; omega) o4'
  have HB1 := Lib.hid hbk; have HB2 := Lib.hid hb2; have HE5 := Lib.hid he5; have HO5 := Lib.hid own5; have HFAR := Lib.hid hfar
  clear d0 d1 d2 d3 d4 d5 d6 d8 d9 q1 q2 hbk hb2 he5 own5 he14 he2 he3 he4 o3 o4 o4' he hfar
  go_upto_region 3 with fail
  generalize World.setCell w4 ⟨w.heap.size, 7, none⟩ _ = w5 at *
  clear d7 f7
  simp only [lcells, List.setIfInBounds_toArray, List.set_cons_succ, List.set_cons_zero] at HB1
  obtain ⟨d0, d1, d2, d3, d4, d5, d6, d7, d8, d9⟩ := obj_cells10 HB1.out
  replace d7 := d7 w5 (Ext.refl _)
  clear d0 d1 d2 d3 d4 d5 d6 d8 d9
  have hby := HO5.out.byts.1
  go_wp2_with (fail)
  (with_reducible refine (H4.out _ _ _ hby).mono ?_); rintro e w6 ⟨rfl, he6⟩
  have q1 := he6.block HB1.out
  have q2 := he6.block HB2.out
  obtain ⟨d0, d1, d2, d3, d4, d5, d6, d7, d8, d9⟩ := obj_cells10 q1
  replace d8 := d8 w6 (Ext.refl _)
  have f8 := obj_free q1 w6 (Ext.refl _) 8
  have hbk := block_set q1 8 (u64 (hbs (nh (sealK key x.l)) (ciph (sealK key x.l) (padB s.data.toList))))
  have hb2 : (w6.setCell ⟨w.heap.size, 8, none⟩ (u64 (hbs (nh (sealK key x.l)) (ciph (sealK key x.l) (padB s.data.toList))))).heap[w.heap.size + 1]? = _ := (heap_set_ne _ (by omega)).trans q2
  have he7 := (HE5.out.trans he6).set (p := ⟨w.heap.size, 8, none⟩) (Nat.le_refl _) (u64 (hbs (nh (sealK key x.l)) (ciph (sealK key x.l) (padB s.data.toList))))
  have own7 := HFAR.out w6 _ ⟨w.heap.size, 8, none⟩ (u64 (hbs (nh (sealK key x.l)) (ciph (sealK key x.l) (padB s.data.toList)))) (by show w.heap.size < _; omega) (HO5.out.ext he6)
  have HB3 := Lib.hid hbk; have HB4 := Lib.hid hb2; have HE7 := Lib.hid he7; have HO7 := Lib.hid own7
  clear d0 d1 d2 d3 d4 d5 d6 d7 d9 q1 q2 hbk hb2 he7 own7 hby he6
  go_upto_region 4 with fail
  generalize World.setCell w6 ⟨w.heap.size, 8, none⟩ _ = w7 at *
  clear d8 f8
  simp only [List.setIfInBounds_toArray, List.set_cons_succ, List.set_cons_zero] at HB3
  obtain ⟨d0, d1, d2, d3, d4, d5, d6, d7, d8, d9⟩ := obj_cells10 HB3.out
  obtain ⟨z0, z1, z2, z3, z4, z5, z6, z7, z8, z9⟩ := obj_cells10 HB4.out
  have f1 := obj_free HB4.out w7 (Ext.refl _)
  replace d0 := d0 w7 (Ext.refl _); replace d1 := d1 w7 (Ext.refl _); replace d2 := d2 w7 (Ext.refl _); replace d3 := d3 w7 (Ext.refl _); replace d4 := d4 w7 (Ext.refl _)
  replace d5 := d5 w7 (Ext.refl _); replace d6 := d6 w7 (Ext.refl _); replace d7 := d7 w7 (Ext.refl _); replace d8 := d8 w7 (Ext.refl _); replace d9 := d9 w7 (Ext.refl _)
  replace z0 := z0 w7 (Ext.refl _); replace z1 := z1 w7 (Ext.refl _); replace z2 := z2 w7 (Ext.refl _); replace z3 := z3 w7 (Ext.refl _); replace z4 := z4 w7 (Ext.refl _)
  replace z5 := z5 w7 (Ext.refl _); replace z6 := z6 w7 (Ext.refl _); replace z7 := z7 w7 (Ext.refl _); replace z8 := z8 w7 (Ext.refl _); replace z9 := z9 w7 (Ext.refl _)
  go_wp2_with (fail)
  refine bodyPost_ret (v := lval ⟨sealedL key x.l s.data.toList, a4, c4⟩) (by simp [results, Try.results81, go_sem, z0, z1, z2, z3, z4, z5, z6, z7, z8, z9, sealedL]) rfl ⟨a4, c4, rfl, ?_, ?_⟩
  · repeat (refine Ext.set ?_ (by show w.heap.size ≤ w.heap.size + 1; omega) _)
    exact HE7.out
  · refine OwnB.mono (B := w1.heap.size) ?_ (by omega)
    show OwnB _ _ (.slice a4 (ciph (sealK key x.l) (padB s.data.toList)).length c4) (ciph (sealK key x.l) (padB s.data.toList))
    repeat (refine HFAR.out _ _ _ _ (by show w.heap.size + 1 < _; omega) ?_)
    exact HO7.out
end Go.Proofs.Ytlahejakcgoheaa
end
section
/-
  Walks of the reference: Chain.
-/
set_option linter.unusedVariables false
set_option linter.unusedSimpArgs false
namespace Go.Proofs.Ytlahejakcgoheaa
open Go.RowKit
def cur3 {α : Type} (l2 l6 l8 : Bool) (v0 v2 v6 v8 : α) : α := bif l8 then v8 else bif l6 then v6 else bif l2 then v2 else v0
def live (made used : Bool) (v : Value) (bs : List UInt8) : Option (Value × List UInt8) := bif made && !used then some (v, bs) else none
/-- A row of bytes that grows, beside up to three others that wait for it, all of one's own. -/
structure JB (w0 w : World) (cur : Value) (cs : List UInt8) (p1 p2 p3 : Option (Value × List UInt8)) : Prop where
  x : Ext w0 w
  own : OwnB w w0.heap.size cur cs
  q1 : ∀ v bs, p1 = some (v, bs) → OwnB w w0.heap.size v bs ∧ disj cur v
  q2 : ∀ v bs, p2 = some (v, bs) → OwnB w w0.heap.size v bs ∧ disj cur v
  q3 : ∀ v bs, p3 = some (v, bs) → OwnB w w0.heap.size v bs ∧ disj cur v
section
variable {w0 w : World} {cur : Value} {cs : List UInt8} {p1 p2 p3 : Option (Value × List UInt8)}
theorem JB.start (h : Ext w0 w) (ho : OwnB w w0.heap.size cur cs) : JB w0 w cur cs none none none := ⟨h, ho, fun _ _ e => (by cases e), fun _ _ e => (by cases e), fun _ _ e => (by cases e)⟩
theorem JB.ext {w' : World} (h : JB w0 w cur cs p1 p2 p3) (e : Ext w w') : JB w0 w' cur cs p1 p2 p3 :=
  ⟨h.x.trans e, h.own.ext e, fun v bs q => ⟨(h.q1 v bs q).1.ext e, (h.q1 v bs q).2⟩, fun v bs q => ⟨(h.q2 v bs q).1.ext e, (h.q2 v bs q).2⟩, fun v bs q => ⟨(h.q3 v bs q).1.ext e, (h.q3 v bs q).2⟩⟩
theorem JB.swap2 (h : JB w0 w cur cs p1 p2 p3) : JB w0 w cur cs p2 p1 p3 := ⟨h.x, h.own, h.q2, h.q1, h.q3⟩
theorem JB.swap3 (h : JB w0 w cur cs p1 p2 p3) : JB w0 w cur cs p3 p2 p1 := ⟨h.x, h.own, h.q3, h.q2, h.q1⟩
theorem live_some {u : Bool} {v v' : Value} {bs bs' : List UInt8} (h : live true u v bs = some (v', bs')) : v = v' ∧ bs = bs' := by
  cases u with
  | true => cases h
  | false => cases h; exact ⟨rfl, rfl⟩
theorem JB.make1 {w' : World} {v : Value} {bs : List UInt8} (h : JB w0 w cur cs none p2 p3) (e : Ext w w') (ho : OwnB w' w.heap.size v bs) (u : Bool) : JB w0 w' cur cs (live true u v bs) p2 p3 := by
  have h' := h.ext e
  refine ⟨h'.x, h'.own, fun v' bs' q => ?_, h'.q2, h'.q3⟩
  obtain ⟨rfl, rfl⟩ := live_some q
  exact ⟨ho.mono h.x.size, disj.made h.own ho (Nat.le_refl _)⟩
theorem JB.make2 {w' : World} {v : Value} {bs : List UInt8} (h : JB w0 w cur cs p1 none p3) (e : Ext w w') (ho : OwnB w' w.heap.size v bs) (u : Bool) : JB w0 w' cur cs p1 (live true u v bs) p3 := (h.swap2.make1 e ho u).swap2
theorem JB.make3 {w' : World} {v : Value} {bs : List UInt8} (h : JB w0 w cur cs p1 p2 none) (e : Ext w w') (ho : OwnB w' w.heap.size v bs) (u : Bool) : JB w0 w' cur cs p1 p2 (live true u v bs) := (h.swap3.make1 e ho u).swap3
theorem JB.joinF (h : JB w0 w cur cs p1 p2 p3) (a : Option Addr) (ys : List UInt8) (c : Nat) (hx : Byts w a ys) (hn : cs.length + ys.length ≤ 140737488355328) :
    ∃ v' w', (Builtin.append_ #[23, 23] 23 #[cur, .slice a ys.length c]).run Try.prog w = .ok v' w' ∧ JB w0 w' v' (cs ++ ys) p1 p2 p3 := by
  obtain ⟨v', w', r1, r2, r3, r4⟩ := app_beside w w0.heap.size 23 cur cs ys a c h.own hx hn h.x.size
  exact ⟨v', w', r1, r3 _ h.x (Nat.le_refl _), r2, fun v bs q => r4 _ _ (h.q1 v bs q).1 (h.q1 v bs q).2, fun v bs q => r4 _ _ (h.q2 v bs q).1 (h.q2 v bs q).2, fun v bs q => r4 _ _ (h.q3 v bs q).1 (h.q3 v bs q).2⟩
theorem JB.drop1 (h : JB w0 w cur cs p1 p2 p3) : JB w0 w cur cs none p2 p3 := ⟨h.x, h.own, fun _ _ e => (by cases e), h.q2, h.q3⟩
theorem JB.join1 {v : Value} {ys : List UInt8} (h : JB w0 w cur cs (some (v, ys)) p2 p3) (hn : cs.length + ys.length ≤ 140737488355328) :
    ∃ v' w', (Builtin.append_ #[23, 23] 23 #[cur, v]).run Try.prog w = .ok v' w' ∧ JB w0 w' v' (cs ++ ys) none p2 p3 := by
  have hv := (h.q1 v ys rfl).1
  obtain ⟨a, c, rfl⟩ := hv.slice
  exact h.drop1.joinF a ys c hv.byts.1 hn
theorem JB.join2 {v : Value} {ys : List UInt8} (h : JB w0 w cur cs p1 (some (v, ys)) p3) (hn : cs.length + ys.length ≤ 140737488355328) :
    ∃ v' w', (Builtin.append_ #[23, 23] 23 #[cur, v]).run Try.prog w = .ok v' w' ∧ JB w0 w' v' (cs ++ ys) p1 none p3 := by
  obtain ⟨v', w', r1, r2⟩ := h.swap2.join1 hn
  exact ⟨v', w', r1, r2.swap2⟩
theorem JB.join3 {v : Value} {ys : List UInt8} (h : JB w0 w cur cs p1 p2 (some (v, ys))) (hn : cs.length + ys.length ≤ 140737488355328) :
    ∃ v' w', (Builtin.append_ #[23, 23] 23 #[cur, v]).run Try.prog w = .ok v' w' ∧ JB w0 w' v' (cs ++ ys) p1 p2 none := by
  obtain ⟨v', w', r1, r2⟩ := h.swap3.join1 hn
  exact ⟨v', w', r1, r2.swap3⟩
end
set_option maxRecDepth 100000 in
set_option maxHeartbeats 4000000 in
theorem l32_2 {bx : Nat} {xs : List UInt8} {ki : ByteArray} {v0 : Value} {wb w0 : World} (HX : Hid (Ext wb w0)) (HO : Hid (OwnB w0 wb.heap.size v0 xs)) (h2 : ∀ W, Ext wb W → W.cell? ⟨bx, 2, none⟩ = some (.string ki)) (hki : ki.size ≤ 1000) (hxl : xs.length ≤ 1000000) {Q : Exit → Act → World → Prop} (aZ : Act) (hsz : aZ.tmps.size = 57) (o3 : aZ.tmps[3]?.getD undef = .pointer (some ⟨bx, 0, none⟩)) (o5 : aZ.tmps[5]?.getD undef = v0)
    (hend : ∀ (vs : Nat → Value) (w9 : World) (ls9 : Nat → Bool), (∀ j : Nat, j < 10 → ls9 j = true) → (JB wb w9 (cur3 (ls9 2) (ls9 6) (ls9 8) v0 (vs 2) (vs 6) (vs 8)) (cur3 (ls9 2) (ls9 6) (ls9 8) xs (xs ++ [0]) (xs ++ [0] ++ ki.data.toList) (xs ++ [0] ++ ki.data.toList ++ [0])) (live (ls9 1) (ls9 2) (vs 1) [0]) (live (ls9 5) (ls9 6) (vs 5) ki.data.toList) (live (ls9 7) (ls9 8) (vs 7) [0]) ∧ (ls9 8 = true → ls9 6 = true) ∧ (ls9 6 = true → ls9 2 = true) ∧ (ls9 9 = true → ls9 8 = true ∧ vs 9 = vs 8)) → (vs 0 = v0) → (True) → (True) → (vs 3 = .pointer (some ⟨bx, 2, none⟩)) → (vs 4 = .string ki) → (True) → (True) → (True) → (True) → (True) → Q .normal ((((((((((aZ.put (some 15) (vs 0)).put (some 16) (vs 1)).put (some 17) (vs 2)).put (some 18) (vs 3)).put (some 19) (vs 4)).put (some 20) (vs 5)).put (some 21) (vs 6)).put (some 22) (vs 7)).put (some 23) (vs 8)).put (some 5) (vs 9)) w9) : (regOf Try.f32 2).wp Try.prog Q aZ w0 := by
  conv => arg 2; whnf
  refine wp_region_said3 (fun i v wz => match i with
    | 0 => v = v0
    | 1 => True
    | 2 => True
    | 3 => v = .pointer (some ⟨bx, 2, none⟩)
    | 4 => v = .string ki
    | 5 => True
    | 6 => True
    | 7 => True
    | 8 => True
    | _ => True) (fun ls vs wz => JB wb wz (cur3 (ls 2) (ls 6) (ls 8) v0 (vs 2) (vs 6) (vs 8)) (cur3 (ls 2) (ls 6) (ls 8) xs (xs ++ [0]) (xs ++ [0] ++ ki.data.toList) (xs ++ [0] ++ ki.data.toList ++ [0])) (live (ls 1) (ls 2) (vs 1) [0]) (live (ls 5) (ls 6) (vs 5) ki.data.toList) (live (ls 7) (ls 8) (vs 7) [0]) ∧ (ls 8 = true → ls 6 = true) ∧ (ls 6 = true → ls 2 = true) ∧ (ls 9 = true → ls 8 = true ∧ vs 9 = vs 8)) (by kernel_rfl) (by kernel_rfl) (by rw [hsz]; kernel_rfl) ?_ ?_ ?_
  · exact ⟨(JB.start HX.out HO.out).ext (Ext.refl _).drew, fun e => (by cases e), fun e => (by cases e), fun e => (by cases e)⟩
  · refine ⟨?_, ?_, ?_, ?_, ?_, ?_, ?_, ?_, ?_, ?_, trivial⟩
    · intro ls vs a w1 hi hJ hold hdep K hK
      have q5 : a.tmps[5]?.getD undef = v0 := (hold 5 (by kernel_rfl)).trans o5
      rw [if_pos (by rfl)]
      clear hold hdep hend o3 o5
      have HJ := Lib.hid hJ
      clear hJ
      go_simp
      exact hK _ _ (fun _ _ _ h => h) HJ.out rfl
    · intro ls vs a w1 hi hJ hold hdep K hK
      rw [if_pos (by rfl)]
      clear hold hdep hend o3 o5
      have HJ := Lib.hid hJ
      clear hJ
      go_simp
      obtain ⟨j1, j2, j3, j4⟩ := HJ.out
      have hi1 : ls 1 = false := hi
      rw [hi1] at j1
      exact hK _ _ (fun _ _ _ h => h) ⟨j1.make1 ((Ext.refl w1).alloc _) (own_lit1 w1 0) (ls 2), j2, j3, j4⟩ trivial
    · intro ls vs a w1 hi hJ hold hdep K hK
      have q15 : a.tmps[15]?.getD undef = v0 := (hdep 0 15 (by kernel_rfl) (by kernel_rfl)).2.1.trans (hdep 0 15 (by kernel_rfl) (by kernel_rfl)).2.2
      obtain ⟨hl1, q16, p16⟩ := hdep 1 16 (by kernel_rfl) (by kernel_rfl)
      clear hold hdep hend o3 o5
      have HJ := Lib.hid hJ
      clear hJ
      obtain ⟨j1, j2, j3, j4⟩ := HJ.out
      have hi2 : ls 2 = false := hi
      have hi6 : ls 6 = false := by cases e : ls 6 with | false => rfl | true => have := j3 e; rw [hi2] at this; cases this
      have hi8 : ls 8 = false := by cases e : ls 8 with | false => rfl | true => have := j2 e; rw [hi6] at this; cases this
      rw [hl1, hi2, hi6, hi8] at j1
      obtain ⟨v', w', r1', r2'⟩ := j1.join1 (by show xs.length + _ ≤ _; simp; omega)
      dsimp only [cur3, cond_false, cond_true] at r1'
      refine step_app (by rfl) (.tmp 15) (.tmp 16) 23 (by rfl) _ _ (by simpa [Act.eval, Array.getD_eq_getD_getElem?] using q15) (by simpa [Act.eval, Array.getD_eq_getD_getElem?] using q16) (fun v3 w3 => v3 = v' ∧ w3 = w') ⟨_, _, r1', rfl, rfl⟩ ?_
      rintro v3 w3 ⟨rfl, rfl⟩
      refine hK _ _ (fun _ _ _ h => h) ⟨?_, j2, fun _ => rfl, fun e => (by have := (j4 e).1; rw [hi8] at this; cases this)⟩ trivial
      show JB wb _ (cur3 true (ls 6) (ls 8) v0 v3 (vs 6) (vs 8)) (cur3 true (ls 6) (ls 8) _ _ _ _) (live (ls 1) true (vs 1) [0]) (live (ls 5) (ls 6) (vs 5) _) (live (ls 7) (ls 8) (vs 7) [0])
      rw [hl1, hi6, hi8]; exact r2'
    · intro ls vs a w1 hi hJ hold hdep K hK
      have q3 : a.tmps[3]?.getD undef = .pointer (some ⟨bx, 0, none⟩) := (hold 3 (by kernel_rfl)).trans o3
      rw [if_pos (by rfl)]
      clear hold hdep hend o3 o5
      have HJ := Lib.hid hJ
      clear hJ
      go_simp
      exact hK _ _ (fun _ _ _ h => h) HJ.out rfl
    · intro ls vs a w1 hi hJ hold hdep K hK
      have q18 : a.tmps[18]?.getD undef = .pointer (some ⟨bx, 2, none⟩) := (hdep 3 18 (by kernel_rfl) (by kernel_rfl)).2.1.trans (hdep 3 18 (by kernel_rfl) (by kernel_rfl)).2.2
      rw [if_pos (by rfl)]
      clear hold hdep hend o3 o5
      have HJ := Lib.hid hJ
      clear hJ
      have hz1 := HJ.out.1.x
      go_simp
      exact hK _ _ (fun _ _ _ h => h) HJ.out rfl
    · intro ls vs a w1 hi hJ hold hdep K hK
      have q19 : a.tmps[19]?.getD undef = .string ki := (hdep 4 19 (by kernel_rfl) (by kernel_rfl)).2.1.trans (hdep 4 19 (by kernel_rfl) (by kernel_rfl)).2.2
      rw [if_pos (by rfl)]
      clear hold hdep hend o3 o5
      have HJ := Lib.hid hJ
      clear hJ
      go_simp
      obtain ⟨j1, j2, j3, j4⟩ := HJ.out
      have hi1 : ls 5 = false := hi
      rw [hi1] at j1
      obtain ⟨e1, o1, z1⟩ := bytesW_facts w1 ki (by unfold maxLen; omega)
      exact hK _ _ (fun _ _ _ h => h) ⟨j1.make2 e1 o1 (ls 6), j2, j3, j4⟩ trivial
    · intro ls vs a w1 hi hJ hold hdep K hK
      obtain ⟨hl2, q17, p17⟩ := hdep 2 17 (by kernel_rfl) (by kernel_rfl)
      obtain ⟨hl5, q20, p20⟩ := hdep 5 20 (by kernel_rfl) (by kernel_rfl)
      clear hold hdep hend o3 o5
      have HJ := Lib.hid hJ
      clear hJ
      obtain ⟨j1, j2, j3, j4⟩ := HJ.out
      have hi6 : ls 6 = false := hi
      have hi8 : ls 8 = false := by cases e : ls 8 with | false => rfl | true => have := j2 e; rw [hi6] at this; cases this
      rw [hl2, hl5, hi6, hi8] at j1
      obtain ⟨v', w', r1', r2'⟩ := j1.join2 (by show (xs ++ [0]).length + _ ≤ _; simp; omega)
      dsimp only [cur3, cond_false, cond_true] at r1'
      refine step_app (by rfl) (.tmp 17) (.tmp 20) 23 (by rfl) _ _ (by simpa [Act.eval, Array.getD_eq_getD_getElem?] using q17) (by simpa [Act.eval, Array.getD_eq_getD_getElem?] using q20) (fun v3 w3 => v3 = v' ∧ w3 = w') ⟨_, _, r1', rfl, rfl⟩ ?_
      rintro v3 w3 ⟨rfl, rfl⟩
      refine hK _ _ (fun _ _ _ h => h) ⟨?_, fun _ => rfl, fun _ => hl2, fun e => (by have := (j4 e).1; rw [hi8] at this; cases this)⟩ trivial
      show JB wb _ (cur3 (ls 2) true (ls 8) v0 (vs 2) v3 (vs 8)) (cur3 (ls 2) true (ls 8) _ _ _ _) (live (ls 1) (ls 2) (vs 1) [0]) (live (ls 5) true (vs 5) _) (live (ls 7) (ls 8) (vs 7) [0])
      rw [hl2, hl5, hi8]; exact r2'
    · intro ls vs a w1 hi hJ hold hdep K hK
      rw [if_pos (by rfl)]
      clear hold hdep hend o3 o5
      have HJ := Lib.hid hJ
      clear hJ
      go_simp
      obtain ⟨j1, j2, j3, j4⟩ := HJ.out
      have hi1 : ls 7 = false := hi
      rw [hi1] at j1
      exact hK _ _ (fun _ _ _ h => h) ⟨j1.make3 ((Ext.refl w1).alloc _) (own_lit1 w1 0) (ls 8), j2, j3, j4⟩ trivial
    · intro ls vs a w1 hi hJ hold hdep K hK
      obtain ⟨hl6, q21, p21⟩ := hdep 6 21 (by kernel_rfl) (by kernel_rfl)
      obtain ⟨hl7, q22, p22⟩ := hdep 7 22 (by kernel_rfl) (by kernel_rfl)
      clear hold hdep hend o3 o5
      have HJ := Lib.hid hJ
      clear hJ
      obtain ⟨j1, j2, j3, j4⟩ := HJ.out
      have hi8 : ls 8 = false := hi
      rw [hl6, hl7, hi8] at j1
      obtain ⟨v', w', r1', r2'⟩ := j1.join3 (by show (xs ++ [0] ++ ki.data.toList).length + _ ≤ _; simp; omega)
      dsimp only [cur3, cond_false, cond_true] at r1'
      refine step_app (by rfl) (.tmp 21) (.tmp 22) 23 (by rfl) _ _ (by simpa [Act.eval, Array.getD_eq_getD_getElem?] using q21) (by simpa [Act.eval, Array.getD_eq_getD_getElem?] using q22) (fun v3 w3 => v3 = v' ∧ w3 = w') ⟨_, _, r1', rfl, rfl⟩ ?_
      rintro v3 w3 ⟨rfl, rfl⟩
      refine hK _ _ (fun _ _ _ h => h) ⟨?_, fun _ => hl6, j3, fun e => (by have := (j4 e).1; rw [hi8] at this; cases this)⟩ trivial
      show JB wb _ (cur3 (ls 2) (ls 6) true v0 (vs 2) (vs 6) v3) (cur3 (ls 2) (ls 6) true _ _ _ _) (live (ls 1) (ls 2) (vs 1) [0]) (live (ls 5) (ls 6) (vs 5) _) (live (ls 7) true (vs 7) [0])
      rw [hl6, hl7]; exact r2'
    · intro ls vs a w1 hi hJ hold hdep K hK
      obtain ⟨hl8, q23, p23⟩ := hdep 8 23 (by kernel_rfl) (by kernel_rfl)
      rw [if_pos (by rfl)]
      clear hold hdep hend o3 o5
      have HJ := Lib.hid hJ
      clear hJ
      obtain ⟨j1, j2, j3, j4⟩ := HJ.out
      go_simp
      exact hK _ _ (fun _ _ _ h => h) ⟨j1, j2, j3, fun _ => ⟨hl8, rfl⟩⟩ trivial
  · intro vs w9 ls9 hl9 hJ9 hφ
    have e0 := hφ 0 (by kernel_rfl)
    have e1 := hφ 1 (by kernel_rfl)
    have e2 := hφ 2 (by kernel_rfl)
    have e3 := hφ 3 (by kernel_rfl)
    have e4 := hφ 4 (by kernel_rfl)
    have e5 := hφ 5 (by kernel_rfl)
    have e6 := hφ 6 (by kernel_rfl)
    have e7 := hφ 7 (by kernel_rfl)
    have e8 := hφ 8 (by kernel_rfl)
    have e9 := hφ 9 (by kernel_rfl)
    have hq := hend vs w9 ls9 hl9 hJ9 e0 e1 e2 e3 e4 e5 e6 e7 e8 e9
    simp only [Act.put] at hq
    simp only [putAll, Act.put]
    exact hq
set_option maxRecDepth 100000 in
set_option maxHeartbeats 4000000 in
theorem l32_8 {bx n0 tg bc q m : Nat} {cs tb bo : List UInt8} {ba : Option Addr} {v0 : Value} {wb w0 : World} (HX : Hid (Ext wb w0)) (HO : Hid (OwnB w0 wb.heap.size v0 cs)) (h8 : ∀ W, Ext wb W → W.cell? ⟨bx, 8, none⟩ = some (.int .u64 (tg : Int))) (h7 : ∀ W, Ext wb W → W.cell? ⟨bx, 7, none⟩ = some (.slice ba bo.length bc)) (HB : Hid (Byts wb ba bo)) (HTB : Hid (∀ W, Ext wb W → Calls Try.prog 59 #[.int .u64 (tg : Int), .int .i64 8] W (RetB tb W))) (HD : Hid (∀ W a c, Ext wb W → Byts W a (cs ++ tb ++ bo) → Calls Try.prog 15 #[.int .u64 (n0 : Int), .slice a m c] W (Ret (.int .u64 (q : Int)) W))) (HLM : Hid ((cs ++ tb ++ bo).length = m)) (hcl : cs.length ≤ 1000000) (htl : tb.length ≤ 1000000) (hbl : bo.length ≤ 1000000) {Q : Exit → Act → World → Prop} (aZ : Act) (hsz : aZ.tmps.size = 57) (o0 : aZ.tmps[0]?.getD undef = .int .u64 (n0 : Int)) (o3 : aZ.tmps[3]?.getD undef = .pointer (some ⟨bx, 0, none⟩)) (o5 : aZ.tmps[5]?.getD undef = v0)
    (hend : ∀ (vs : Nat → Value) (w9 : World) (ls9 : Nat → Bool), (∀ j : Nat, j < 11 → ls9 j = true) → (JB wb w9 (cur3 (ls9 5) (ls9 8) false v0 (vs 5) (vs 8) v0) (cur3 (ls9 5) (ls9 8) false cs (cs ++ tb) (cs ++ tb ++ bo) cs) (live (ls9 4) (ls9 5) (vs 4) tb) none none ∧ (ls9 8 = true → ls9 5 = true)) → (vs 0 = .int .u64 (n0 : Int)) → (vs 1 = v0) → (vs 2 = .pointer (some ⟨bx, 8, none⟩)) → (vs 3 = .int .u64 (tg : Int)) → (True) → (True) → (vs 6 = .pointer (some ⟨bx, 7, none⟩)) → (vs 7 = .slice ba bo.length bc) → (True) → (vs 9 = .int .u64 (q : Int)) → (vs 10 = .int .u64 (q : Int)) → Q .normal (((((((((((aZ.put (some 47) (vs 0)).put (some 48) (vs 1)).put (some 49) (vs 2)).put (some 50) (vs 3)).put (some 51) (vs 4)).put (some 52) (vs 5)).put (some 53) (vs 6)).put (some 54) (vs 7)).put (some 55) (vs 8)).put (some 56) (vs 9)).put (some 4) (vs 10)) w9) : (regOf Try.f32 8).wp Try.prog Q aZ w0 := by
  conv => arg 2; whnf
  refine wp_region_said3 (fun i v wz => match i with
    | 0 => v = .int .u64 (n0 : Int)
    | 1 => v = v0
    | 2 => v = .pointer (some ⟨bx, 8, none⟩)
    | 3 => v = .int .u64 (tg : Int)
    | 4 => True
    | 5 => True
    | 6 => v = .pointer (some ⟨bx, 7, none⟩)
    | 7 => v = .slice ba bo.length bc
    | 8 => True
    | 9 => v = .int .u64 (q : Int)
    | _ => v = .int .u64 (q : Int)) (fun ls vs wz => JB wb wz (cur3 (ls 5) (ls 8) false v0 (vs 5) (vs 8) v0) (cur3 (ls 5) (ls 8) false cs (cs ++ tb) (cs ++ tb ++ bo) cs) (live (ls 4) (ls 5) (vs 4) tb) none none ∧ (ls 8 = true → ls 5 = true)) (by kernel_rfl) (by kernel_rfl) (by rw [hsz]; kernel_rfl) ?_ ?_ ?_
  · exact ⟨(JB.start HX.out HO.out).ext (Ext.refl _).drew, fun e => (by cases e)⟩
  · refine ⟨?_, ?_, ?_, ?_, ?_, ?_, ?_, ?_, ?_, ?_, ?_, trivial⟩
    · intro ls vs a w1 hi hJ hold hdep K hK
      have q0 : a.tmps[0]?.getD undef = .int .u64 (n0 : Int) := (hold 0 (by kernel_rfl)).trans o0
      rw [if_pos (by rfl)]
      clear hold hdep hend o0 o3 o5
      have HJ := Lib.hid hJ
      clear hJ
      go_simp
      exact hK _ _ (fun _ _ _ h => h) HJ.out rfl
    · intro ls vs a w1 hi hJ hold hdep K hK
      have q5 : a.tmps[5]?.getD undef = v0 := (hold 5 (by kernel_rfl)).trans o5
      rw [if_pos (by rfl)]
      clear hold hdep hend o0 o3 o5
      have HJ := Lib.hid hJ
      clear hJ
      go_simp
      exact hK _ _ (fun _ _ _ h => h) HJ.out rfl
    · intro ls vs a w1 hi hJ hold hdep K hK
      have q3 : a.tmps[3]?.getD undef = .pointer (some ⟨bx, 0, none⟩) := (hold 3 (by kernel_rfl)).trans o3
      rw [if_pos (by rfl)]
      clear hold hdep hend o0 o3 o5
      have HJ := Lib.hid hJ
      clear hJ
      go_simp
      exact hK _ _ (fun _ _ _ h => h) HJ.out rfl
    · intro ls vs a w1 hi hJ hold hdep K hK
      have q49 : a.tmps[49]?.getD undef = .pointer (some ⟨bx, 8, none⟩) := (hdep 2 49 (by kernel_rfl) (by kernel_rfl)).2.1.trans (hdep 2 49 (by kernel_rfl) (by kernel_rfl)).2.2
      rw [if_pos (by rfl)]
      clear hold hdep hend o0 o3 o5
      have HJ := Lib.hid hJ
      clear hJ
      have hz1 := HJ.out.1.x
      go_simp
      exact hK _ _ (fun _ _ _ h => h) HJ.out rfl
    · intro ls vs a w1 hi hJ hold hdep K hK
      have q50 : a.tmps[50]?.getD undef = .int .u64 (tg : Int) := (hdep 3 50 (by kernel_rfl) (by kernel_rfl)).2.1.trans (hdep 3 50 (by kernel_rfl) (by kernel_rfl)).2.2
      rw [if_pos (by rfl)]
      clear hold hdep hend o0 o3 o5
      have HJ := Lib.hid hJ
      clear hJ
      go_simp
      obtain ⟨j1, j2⟩ := HJ.out
      have hi4 : ls 4 = false := hi
      rw [hi4] at j1
      go_at_call 59
      (with_reducible refine (HTB.out _ j1.x).mono ?_); rintro e w20 ⟨a', c', rfl, he, hb⟩
      exact hK _ _ (fun _ _ _ h => h) ⟨j1.make1 he hb (ls 5), j2⟩ trivial
    · intro ls vs a w1 hi hJ hold hdep K hK
      have q48 : a.tmps[48]?.getD undef = v0 := (hdep 1 48 (by kernel_rfl) (by kernel_rfl)).2.1.trans (hdep 1 48 (by kernel_rfl) (by kernel_rfl)).2.2
      obtain ⟨hl4, q51, p51⟩ := hdep 4 51 (by kernel_rfl) (by kernel_rfl)
      clear hold hdep hend o0 o3 o5
      have HJ := Lib.hid hJ
      clear hJ
      obtain ⟨j1, j2⟩ := HJ.out
      have hi5 : ls 5 = false := hi
      have hi8 : ls 8 = false := by cases e : ls 8 with | false => rfl | true => have := j2 e; rw [hi5] at this; cases this
      rw [hl4, hi5, hi8] at j1
      obtain ⟨v', w', r1', r2'⟩ := j1.join1 (by show cs.length + _ ≤ _; omega)
      dsimp only [cur3, cond_false, cond_true] at r1'
      refine step_app (by rfl) (.tmp 48) (.tmp 51) 23 (by rfl) _ _ (by simpa [Act.eval, Array.getD_eq_getD_getElem?] using q48) (by simpa [Act.eval, Array.getD_eq_getD_getElem?] using q51) (fun v3 w3 => v3 = v' ∧ w3 = w') ⟨_, _, r1', rfl, rfl⟩ ?_
      rintro v3 w3 ⟨rfl, rfl⟩
      refine hK _ _ (fun _ _ _ h => h) ⟨?_, fun _ => rfl⟩ trivial
      show JB wb _ (cur3 true (ls 8) false v0 v3 (vs 8) v0) (cur3 true (ls 8) false _ _ _ _) (live (ls 4) true (vs 4) tb) none none
      rw [hl4, hi8]; exact r2'
    · intro ls vs a w1 hi hJ hold hdep K hK
      have q3 : a.tmps[3]?.getD undef = .pointer (some ⟨bx, 0, none⟩) := (hold 3 (by kernel_rfl)).trans o3
      rw [if_pos (by rfl)]
      clear hold hdep hend o0 o3 o5
      have HJ := Lib.hid hJ
      clear hJ
      go_simp
      exact hK _ _ (fun _ _ _ h => h) HJ.out rfl
    · intro ls vs a w1 hi hJ hold hdep K hK
      have q53 : a.tmps[53]?.getD undef = .pointer (some ⟨bx, 7, none⟩) := (hdep 6 53 (by kernel_rfl) (by kernel_rfl)).2.1.trans (hdep 6 53 (by kernel_rfl) (by kernel_rfl)).2.2
      rw [if_pos (by rfl)]
      clear hold hdep hend o0 o3 o5
      have HJ := Lib.hid hJ
      clear hJ
      have hz1 := HJ.out.1.x
      go_simp
      exact hK _ _ (fun _ _ _ h => h) HJ.out rfl
    · intro ls vs a w1 hi hJ hold hdep K hK
      obtain ⟨hl5, q52, p52⟩ := hdep 5 52 (by kernel_rfl) (by kernel_rfl)
      have q54 : a.tmps[54]?.getD undef = .slice ba bo.length bc := (hdep 7 54 (by kernel_rfl) (by kernel_rfl)).2.1.trans (hdep 7 54 (by kernel_rfl) (by kernel_rfl)).2.2
      clear hold hdep hend o0 o3 o5
      have HJ := Lib.hid hJ
      clear hJ
      obtain ⟨j1, j2⟩ := HJ.out
      have hi8 : ls 8 = false := hi
      rw [hl5, hi8] at j1
      obtain ⟨v', w', r1', r2'⟩ := j1.joinF ba bo bc (HB.out.ext j1.x) (by show (cs ++ tb).length + _ ≤ _; rw [List.length_append]; omega)
      dsimp only [cur3, cond_false, cond_true] at r1'
      refine step_app (by rfl) (.tmp 52) (.tmp 54) 23 (by rfl) _ _ (by simpa [Act.eval, Array.getD_eq_getD_getElem?] using q52) (by simpa [Act.eval, Array.getD_eq_getD_getElem?] using q54) (fun v3 w3 => v3 = v' ∧ w3 = w') ⟨_, _, r1', rfl, rfl⟩ ?_
      rintro v3 w3 ⟨rfl, rfl⟩
      refine hK _ _ (fun _ _ _ h => h) ⟨?_, fun _ => hl5⟩ trivial
      show JB wb _ (cur3 (ls 5) true false v0 (vs 5) v3 v0) (cur3 (ls 5) true false _ _ _ _) (live (ls 4) (ls 5) (vs 4) tb) none none
      rw [hl5]
      have : live (ls 4) true (vs 4) tb = none := by cases ls 4 <;> rfl
      rw [this] at r2' ⊢; exact r2'
    · intro ls vs a w1 hi hJ hold hdep K hK
      have q47 : a.tmps[47]?.getD undef = .int .u64 (n0 : Int) := (hdep 0 47 (by kernel_rfl) (by kernel_rfl)).2.1.trans (hdep 0 47 (by kernel_rfl) (by kernel_rfl)).2.2
      obtain ⟨hl8, q55, p55⟩ := hdep 8 55 (by kernel_rfl) (by kernel_rfl)
      rw [if_pos (by rfl)]
      clear hold hdep hend o0 o3 o5
      have HJ := Lib.hid hJ
      clear hJ
      obtain ⟨j1, j2⟩ := HJ.out
      have j3 := j1.own
      rw [hl8] at j3
      have j4 : OwnB w1 wb.heap.size (vs 8) (cs ++ tb ++ bo) := j3
      obtain ⟨a', c', hv⟩ := j4.slice
      rw [HLM.out] at hv
      rw [hv] at q55 j4
      go_simp
      go_at_call 15
      (with_reducible refine (HD.out _ a' c' j1.x j4.byts.1).mono ?_); rintro e w20 ⟨rfl, he⟩
      exact hK _ _ (fun _ _ _ h => h) ⟨j1.ext he, j2⟩ rfl
    · intro ls vs a w1 hi hJ hold hdep K hK
      have q56 : a.tmps[56]?.getD undef = .int .u64 (q : Int) := (hdep 9 56 (by kernel_rfl) (by kernel_rfl)).2.1.trans (hdep 9 56 (by kernel_rfl) (by kernel_rfl)).2.2
      rw [if_pos (by rfl)]
      clear hold hdep hend o0 o3 o5
      have HJ := Lib.hid hJ
      clear hJ
      go_simp
      exact hK _ _ (fun _ _ _ h => h) HJ.out rfl
  · intro vs w9 ls9 hl9 hJ9 hφ
    have e0 := hφ 0 (by kernel_rfl)
    have e1 := hφ 1 (by kernel_rfl)
    have e2 := hφ 2 (by kernel_rfl)
    have e3 := hφ 3 (by kernel_rfl)
    have e4 := hφ 4 (by kernel_rfl)
    have e5 := hφ 5 (by kernel_rfl)
    have e6 := hφ 6 (by kernel_rfl)
    have e7 := hφ 7 (by kernel_rfl)
    have e8 := hφ 8 (by kernel_rfl)
    have e9 := hφ 9 (by kernel_rfl)
    have e10 := hφ 10 (by kernel_rfl)
    have hq := hend vs w9 ls9 hl9 hJ9 e0 e1 e2 e3 e4 e5 e6 e7 e8 e9 e10
    simp only [Act.put] at hq
    simp only [putAll, Act.put]
    exact hq
end Go.Proofs.Ytlahejakcgoheaa
end
