/-
  Walks of the reference: Unpad.
-/
import Derived.Test.YtlahejakcgoheaaRP
set_option linter.unusedVariables false
set_option linter.unusedSimpArgs false
namespace Go.Proofs.Ytlahejakcgoheaa
open Go.RowKit
theorem bth_toNat (b : List UInt8) (i : Nat) : bth b i = (b.getD i 0).toNat := rfl
theorem num2 (b : List UInt8) (h : 2 ≤ b.length) : numB (unpN b) 2 = b.take 2 := by
  match b, h with
  | x :: y :: r, _ =>
    have hx : x.toNat < 256 := UInt8.toNat_lt x
    have hy : y.toNat < 256 := UInt8.toNat_lt y
    have e : unpN (x :: y :: r) = x.toNat * 256 + y.toNat := rfl
    rw [e]
    show [UInt8.ofNat ((x.toNat * 256 + y.toNat) / 2 ^ (8 * 1)), UInt8.ofNat ((x.toNat * 256 + y.toNat) / 2 ^ (8 * 0))] = [x, y]
    have e1 : (x.toNat * 256 + y.toNat) / 2 ^ (8 * 1) = x.toNat := by omega
    have e2 : (x.toNat * 256 + y.toNat) / 2 ^ (8 * 0) = x.toNat * 256 + y.toNat := by omega
    rw [e1, e2]
    congr 1
    · simp
    · congr 1
      apply UInt8.toNat_inj.1
      rw [UInt8.toNat_ofNat']; omega
/-- A padded form in blocks of 32 bytes is the padded form of its text, just if it unpads. -/
theorem unp_eq (b : List UInt8) (h32 : b.length % 32 = 0) (hge : 32 ≤ b.length) (hn : unpN b ≤ 2000) (hl : unpN b + 2 ≤ b.length) : unpOk b = decide (padB ((b.drop 2).take (unpN b)) = b) := by
  obtain ⟨n, hnn⟩ : ∃ n, n = unpN b := ⟨_, rfl⟩
  have htl : ((b.drop 2).take (unpN b)).length = unpN b := by rw [List.length_take, List.length_drop]; omega
  have hb : b = b.take 2 ++ ((b.drop 2).take (unpN b) ++ b.drop (unpN b + 2)) := by
    have e := List.take_append_drop 2 b
    have e2 := List.take_append_drop (unpN b) (b.drop 2)
    rw [List.drop_drop, Nat.add_comm 2] at e2
    rw [e2, e]
  have hpad : padB ((b.drop 2).take (unpN b)) = b.take 2 ++ ((b.drop 2).take (unpN b) ++ List.replicate (padN (unpN b) - (unpN b + 2)) 0) := by
    unfold padB
    rw [htl, num2 b (by omega), List.append_assoc]
  have hiff : padB ((b.drop 2).take (unpN b)) = b ↔ List.replicate (padN (unpN b) - (unpN b + 2)) 0 = b.drop (unpN b + 2) := by
    rw [hpad]
    constructor
    · intro h
      have h' : b.take 2 ++ ((b.drop 2).take (unpN b) ++ List.replicate (padN (unpN b) - (unpN b + 2)) 0) = b.take 2 ++ ((b.drop 2).take (unpN b) ++ b.drop (unpN b + 2)) := by rw [h]; exact hb
      exact List.append_cancel_left (List.append_cancel_left h')
    · intro h
      rw [h]; exact hb.symm
  rw [Bool.eq_iff_iff, decide_eq_true_eq, hiff]
  unfold unpOk
  simp only [Bool.and_eq_true, decide_eq_true_eq]
  have hdl : (b.drop (unpN b + 2)).length = b.length - (unpN b + 2) := List.length_drop
  constructor
  · rintro ⟨-, -, -, h4, h5⟩
    have hp : padN (unpN b) = b.length := by unfold padN; omega
    rw [hp, ← hdl]
    refine (List.eq_replicate_iff.2 ⟨rfl, fun x hx => ?_⟩).symm
    have := List.all_eq_true.1 h5 x hx
    simpa using this
  · intro h
    have hle := congrArg List.length h
    rw [List.length_replicate, hdl] at hle
    have hg := padN_ge (unpN b)
    have hlt := padN_lt (unpN b)
    refine ⟨hge, hn, hl, by omega, ?_⟩
    rw [← h, List.all_eq_true]
    intro x hx
    rw [(List.mem_replicate.1 hx).2]; rfl
set_option maxRecDepth 100000 in
set_option maxHeartbeats 4000000 in
theorem runpad_any (a : Option Addr) (xs : List UInt8) (c : Nat) (w : World) (hx : Byts w a xs) (hc : xs.length ≤ c) (hl : xs.length ≤ 140737488355328) (h32 : xs.length % 32 = 0) : Calls Try.prog 97 #[.slice a xs.length c] w (Ret (unpV xs) w) := by
  have HX := Lib.hid hx; clear hx
  obtain ⟨L, hL⟩ : ∃ L, L = xs.length := ⟨_, rfl⟩
  have HL := Lib.hid hL
  have H32 := Lib.hid h32
  have HXC := Lib.hid hc
  rw [← hL] at hc hl ⊢
  by_cases hlt : L < 32
  · have hv : Hid (unpV xs = .tuple #[.string ⟨[].toArray⟩, .bool false]) := by
      have : unpOk xs = false := by simp [unpOk]; intro h; omega
      simp [Hid, unpV, unpT, this]
    clear hL h32
    go_enter Try.func97, Try.ntmps97
    go_wp2_with (fail)
    go_ret2
    exact ⟨by rw [hv.out]; rfl, Ext.refl w⟩
  · obtain ⟨b, o, rfl, c0⟩ := HX.out.at 0 (by omega)
    obtain ⟨b', o', e, c1⟩ := HX.out.at 1 (by omega)
    simp only [Option.some.injEq, Addr.mk.injEq, and_true] at e
    obtain ⟨rfl, rfl⟩ := e
    have hr0 := Ext.refl w
    have b0 := bth_lt xs 0
    have b1 := bth_lt xs 1
    simp only [Nat.add_zero] at c0
    have hm2 : (L : Int) % 32 = 0 := by rw [hL]; omega
    have hge : ¬ (L : Int) < 32 := by omega
    have hbad : ∀ x : Bool, Hid (x = false) → unpOk xs = x → Hid (unpV xs = .tuple #[.string ⟨[].toArray⟩, .bool false]) := fun x hx hv => by
      have : unpOk xs = false := hv.trans hx.out
      simp [Hid, unpV, unpT, this]
    clear hL h32
    go_enter Try.func97, Try.ntmps97
    go_upto_region 3 with fail
    refine wp_region_ext (by kernel_rfl) (by kernel_rfl) hr0 ?_
    repeat (first | go_big_quiet_step ((fail)) | quiet_step ((fail)))
    refine wpQuiet_nil ?_
    rintro _ ⟨nq, rfl⟩
    have he := nq.ok
    obtain ⟨n, hn⟩ : ∃ n, n = bth xs 0 * 256 + bth xs 1 := ⟨_, rfl⟩
    have hn2 : n < 65536 := by omega
    rw [show ((bth xs 0 : Int) * 256 + (bth xs 1 : Int)) = (n : Int) by omega]
    have hu : Hid (n = unpN xs) := hn
    clear hn c0 c1 b0 b1
    cases T1 : decide (2000 < (n : Int))
    · cases T2 : decide ((L : Int) < (n : Int) + 2)
      · have h2 : n + 2 ≤ L := by simp at T2; omega
        have hb1 : (n : Int) + 2 ≤ (c : Int) := by omega
        have hb2 : (2 : Int) ≤ (n : Int) + 2 := by omega
        have hb0 : (0 : Int) ≤ (n : Int) + 2 := by omega
        have hw2 : IntKind.i64.wrap (2 + (n : Int)) = (n : Int) + 2 := by rw [IntKind.wrap_i64]; omega
        have hcm : (2 : Int) + (n : Int) = (n : Int) + 2 := by omega
        have htx := run_stringOf nq.val (cutA (some ⟨b, o, none⟩) 2 c) ((xs.drop 2).take n) (c - 2) (((HX.out.ext he).cut 2 c (by have := HL.out; omega) HXC.out).take n)
        have htl : ((xs.drop 2).take n).length = n := by rw [List.length_take, List.length_drop]; have := HL.out; omega
        rw [htl] at htx
        obtain ⟨ts, hts⟩ : ∃ ts : ByteArray, ts = ⟨((xs.drop 2).take n).toArray⟩ := ⟨_, rfl⟩
        rw [← hts] at htx
        have hds : ts.data.toList = (xs.drop 2).take n := by rw [hts]
        have htz : ts.size = n := by rw [← len_data, hds, htl]
        have HDS := Lib.hid hds; have HTZ := Lib.hid htz; have HTS := Lib.hid hts
        have hok : Hid (unpOk xs = decide (padB ts.data.toList = xs)) := by
          rw [Hid, HDS.out, hu.out]
          exact unp_eq xs H32.out (by have := HL.out; omega) (by rw [← hu.out]; simp at T1; omega) (by rw [← hu.out]; have := HL.out; omega)
        clear htl hts hds htz
        have hpd := rpad_any ts nq.val (by rw [HTZ.out]; simp at T1; omega)
        go_wp2_with (fail)
        (with_reducible refine hpd.mono ?_); rintro e w2 ⟨a2, c2, rfl, he2, o2⟩
        clear hpd htx
        obtain ⟨ys, hys⟩ : ∃ ys, ys = padB ts.data.toList := ⟨_, rfl⟩
        rw [← hys] at o2 hok ⊢
        have HY := Lib.hid o2.byts.1
        obtain ⟨M, hM⟩ : ∃ M, M = ys.length := ⟨_, rfl⟩
        have HM := Lib.hid hM
        rw [← hM]
        have HE2 := Lib.hid (he.trans he2)
        clear o2 hys hM he he2
        cases T3 : ((M : Int) != (L : Int))
        · have hML : M = L := by simp at T3; omega
          subst hML
          go_wp2_with (fail)
          go_loopw [7] (fun i wr => ∃ k : Nat, k ≤ M ∧ i = .int .i64 k ∧ Hid (Ext w2 wr) ∧ Hid (∀ j, j < k → bth ys j = bth xs j)) (fun i _ => M - (intOf i).toNat)
          case atStart => exact ⟨0, Nat.zero_le _, rfl, Ext.refl _, fun j hj => by omega⟩
          case round =>
            obtain ⟨k, hk, rfl, her, hz⟩ := hrel
            by_cases hltk : k < M
            · obtain ⟨b3, o3, hba, x0⟩ := HX.out.at k (by rw [← HL.out]; exact hltk)
              simp only [Option.some.injEq, Addr.mk.injEq, and_true] at hba
              obtain ⟨rfl, rfl⟩ := hba
              obtain ⟨b4, o4, rfl, y0⟩ := HY.out.at k (by rw [← HM.out]; exact hltk)
              have x1 := fun W (e : Ext wr W) => x0 W ((HE2.out.trans her.out).trans e)
              have y1 := fun W (e : Ext wr W) => y0 W (her.out.trans e)
              have hr0 := Ext.refl wr
              have hi0 : (0 : Int) ≤ (k : Int) := by omega
              have hi1 : (k : Int) < (M : Int) := by omega
              clear x0 y0
              go_upto_region 13 with fail
              refine wp_region_ext (by kernel_rfl) (by kernel_rfl) hr0 ?_
              repeat (first | go_big_quiet_step ((fail)) | quiet_step ((fail)))
              refine wpQuiet_nil ?_
              rintro _ ⟨nq, rfl⟩
              have he3 := nq.ok
              clear x1 y1
              cases T4 : ((bth ys k : Int) != (bth xs k : Int))
              · have hz2 : Hid (∀ j, j < k + 1 → bth ys j = bth xs j) := fun j hj => by
                  by_cases e : j = k
                  · subst e; simp at T4; omega
                  · exact hz.out j (by omega)
                go_wp2_with (fail)
                go_roundw
                case rel => exact ⟨k + 1, by omega, by go_num, her.out.trans he3, hz2⟩
                case measure => simp [intOf]; omega
              · have hv := hbad _ rfl (by
                  rw [hok.out, decide_eq_false_iff_not]
                  intro e; rw [e] at T4; simp at T4)
                go_wp2_with (fail)
                go_ret2
                exact ⟨by rw [hv.out]; rfl, HE2.out.trans (her.out.trans he3)⟩
            · obtain rfl : k = M := by omega
              have hv : Hid (unpV xs = .tuple #[.string ts, .bool true]) := by
                have : unpOk xs = true := by
                  rw [hok.out, decide_eq_true_eq]
                  apply List.ext_getElem
                  · rw [← HM.out, ← HL.out]
                  · intro i h1 h2
                    have := hz.out i (by rw [HM.out]; exact h1)
                    rw [bth_eq _ _ h1, bth_eq _ _ h2] at this
                    exact UInt8.toNat_inj.1 this
                rw [Hid, unpV, unpT, this, HTS.out, hu.out]; rfl
              go_wp2_with (fail)
              go_ret2
              exact ⟨by rw [hv.out]; rfl, HE2.out.trans her.out⟩
        · have hv := hbad _ rfl (by
            rw [hok.out, decide_eq_false_iff_not]
            intro e
            have := congrArg List.length e
            rw [← HM.out, ← HL.out] at this
            rw [this] at T3; simp at T3)
          go_wp2_with (fail)
          go_ret2
          exact ⟨by rw [hv.out]; rfl, HE2.out⟩
      · have hv := hbad _ rfl (by
          have t1 : ¬ unpN xs + 2 ≤ xs.length := by rw [← hu.out, ← HL.out]; simp at T2; omega
          simp [unpOk, t1])
        go_wp2_with (fail)
        go_ret2
        exact ⟨by rw [hv.out]; rfl, he⟩
    · have hv := hbad _ rfl (by
        have t1 : ¬ unpN xs ≤ 2000 := by rw [← hu.out]; simp at T1; omega
        simp [unpOk, t1])
      go_wp2_with (fail)
      go_ret2
      exact ⟨by rw [hv.out]; rfl, he⟩
end Go.Proofs.Ytlahejakcgoheaa
