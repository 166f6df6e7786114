/-
  Walks of the reference: Bytes.
-/
import Derived.Test.YtlahejakcgoheaaRC
set_option linter.unusedVariables false
set_option linter.unusedSimpArgs false
namespace Go.Proofs.Ytlahejakcgoheaa
open Go.RowKit
set_option maxRecDepth 100000 in
set_option maxHeartbeats 1000000 in
theorem rbytes_any (x n : Nat) (w : World) (hx : x < 18446744073709551616) (hn : n ≤ 8) : Calls Try.prog 59 #[u64 x, .int .i64 n] w (RetB (numB x n) w) := by
  have HXX := Lib.hid hx
  go_enter Try.func59, Try.ntmps59
  go_upto_region 2 with fail
  generalize hw1 : World.alloc _ _ = w1
  obtain ⟨he1, o1, hz1⟩ := alloc1 hw1
  have HO : Hid (OwnB w1 w.heap.size (.slice (some ⟨w.heap.size, 0, none⟩) 0 0) []) := .inr ⟨w.heap.size, 0, #[], (0, 0), rfl, Nat.le_refl _, o1, by simp, by simp [maxLen], by simp, by simp [rowB], .inl rfl⟩
  have HE := Lib.hid he1
  clear hw1 o1 hz1 he1 hx
  go_wp2_with (fail)
  go_loopw [5, 6] (fun out i wr => ∃ r : Nat, r ≤ n ∧ i = .int .i64 ((r : Int) - 1) ∧ Hid (Ext w wr) ∧ Hid (∃ pre, OwnB wr w.heap.size out pre ∧ pre ++ numB x r = numB x n)) (fun _ i _ => (intOf i + 1).toNat)
  case atStart => exact ⟨n, Nat.le_refl _, by go_num, HE.out, [], HO.out, rfl⟩
  case round =>
    obtain ⟨r, hr, rfl, he, ho⟩ := hrel
    obtain ⟨pre, hop, hpre⟩ := ho.out
    have HOP := Lib.hid hop; have HPRE := Lib.hid hpre
    clear ho hop hpre
    cases r with
    | zero =>
      obtain ⟨a5, c5, rfl⟩ := HOP.out.slice
      have hend : Hid (pre = numB x n) := by rw [Hid, ← HPRE.out]; simp [numB]
      go_wp2_with (fail)
      go_ret
      refine ⟨a5, c5, by rw [hend.out]; rfl, he.out, ?_⟩
      have := HOP.out
      rw [hend.out] at this
      exact this
    | succ r =>
      have hi : ((r + 1 : Nat) : Int) - 1 = (r : Int) := by omega
      rw [hi]
      have hr0 : (0 : Int) ≤ (r : Int) := by omega
      obtain ⟨z, hz⟩ : ∃ z : UInt8, z = UInt8.ofNat (x / 2 ^ (8 * r)) := ⟨_, rfl⟩
      have hzi : (x : Int) / 2 ^ (8 * r) % 256 = ((z.toNat : Nat) : Int) := by
        rw [hz, UInt8.toNat_ofNat']
        simp
      have yb : Byts (wr.alloc (.cells #[.int .u8 ((x : Int) / 2 ^ (8 * r) % 256)] 5)) (some ⟨wr.heap.size, 0, none⟩) [z] := by
        rw [hzi]; exact byts_lit (bs := [z]) (heap_new _ _)
      have hxa := (Ext.refl wr).alloc (.cells #[.int .u8 ((x : Int) / 2 ^ (8 * r) % 256)] 5)
      have hpl : pre.length ≤ n := by
        have h1 := congrArg List.length HPRE.out
        rw [List.length_append, numB_len, numB_len] at h1; omega
      have hap := app_bytes (wr.alloc (.cells #[.int .u8 ((x : Int) / 2 ^ (8 * r) % 256)] 5)) w.heap.size 23 _ pre [z] (some ⟨wr.heap.size, 0, none⟩) 1 (HOP.out.ext hxa) yb (by simp; omega) (by have := he.out.size; have := hxa.size; omega)
      have hpr2 : (pre ++ [z]) ++ numB x r = numB x n := by
        rw [← HPRE.out, numB, hz, List.append_assoc]; rfl
      have HAPP := Lib.hid hap; have HXA := Lib.hid (he.out.trans hxa); have HLT := Lib.hid HOP.out.lt; have HPR2 := Lib.hid hpr2
      clear hap yb hxa hz hzi hpl hpr2
      go_wp2_with (first | (at_builtin; refine wpList_app _ rfl _ _ 23 rfl _ HAPP.out ?_; clear HAPP; rintro v' w2 ⟨ho5, hg5, -⟩; have HO5 := Lib.hid ho5; have HE5 := Lib.hid (grown_ext HXA.out hg5 (fun k hk => (HLT.out k hk).1)); clear ho5 hg5) | fail)
      go_roundw
      case rel => exact ⟨r, by omega, by go_num, HE5, _, HO5.out, HPR2.out⟩
      case measure => simp [intOf]
set_option maxRecDepth 100000 in
set_option maxHeartbeats 1000000 in
theorem rpad_any (s : ByteArray) (w : World) (hs : s.size ≤ 2000) : Calls Try.prog 96 #[.string s] w (RetB (padB s.data.toList) w) := by
  have hb : Calls Try.prog 59 #[.int .u64 s.size, .int .i64 2] w (RetB (numB s.size 2) w) := rbytes_any s.size 2 w (by omega) (by omega)
  have HB := Lib.hid hb
  clear hb
  go_enter Try.func96, Try.ntmps96
  go_wp2_with (fail)
  (with_reducible refine HB.out.mono ?_); rintro e w1 ⟨a1, c1, rfl, he1, ho1⟩
  rw [numB_len] at ho1 ⊢
  obtain ⟨e2, o2, z2⟩ := bytesW_facts w1 s (by unfold maxLen; omega)
  have hap := app_bytes (bytesW w1 s) w.heap.size 23 _ (numB s.size 2) s.data.toList (some ⟨w1.heap.size, 0, none⟩) (bytesC w1 s) (by rw [← numB_len s.size 2] at ho1; exact ho1.ext e2) o2.byts.1 (by rw [numB_len]; simp; omega) (by have := he1.size; have := e2.size; omega)
  rw [len_data] at hap
  have HAPP := Lib.hid hap; have HLT := Lib.hid ho1.lt; have HE := Lib.hid (he1.trans e2)
  clear hap ho1 he1 e2 o2 z2 HB
  go_wp2_with (first | (at_builtin; refine wpList_app _ rfl _ _ 23 rfl _ HAPP.out ?_; clear HAPP; rintro v' w2 ⟨ho5, hg5, -⟩; have HO5 := Lib.hid ho5; have HE5 := Lib.hid (grown_ext HE.out hg5 (fun k hk => (HLT.out k hk).1)); clear ho5 hg5) | fail)
  go_loopw [3] (fun out wr => Hid (Ext w wr) ∧ Hid (∃ j, j ≤ padN s.size - (s.size + 2) ∧ OwnB wr w.heap.size out (numB s.size 2 ++ s.data.toList ++ List.replicate j 0))) (fun out _ => padN s.size - (match out with | .slice _ n _ => n | _ => 0))
  case atStart => exact ⟨HE5.out, 0, Nat.zero_le _, by simpa using HO5.out⟩
  case round =>
    obtain ⟨he, ho⟩ := hrel
    obtain ⟨j, hj, hop⟩ := ho.out
    obtain ⟨bs, hbs⟩ : ∃ bs, bs = numB s.size 2 ++ s.data.toList ++ List.replicate j 0 := ⟨_, rfl⟩
    have hL : bs.length = s.size + 2 + j := by rw [hbs]; simp [numB_len]; omega
    rw [← hbs] at hop
    obtain ⟨a5, c5, rfl⟩ := hop.slice
    obtain ⟨L, hLL⟩ : ∃ L, L = bs.length := ⟨_, rfl⟩
    rw [← hLL] at hop hL ⊢
    have HLL := Lib.hid hLL; have HBS := Lib.hid hbs; have HOP := Lib.hid hop
    clear hLL hbs hop ho
    have hp := padN_ge s.size
    have hp2 : padN s.size = (s.size + 33) / 32 * 32 := rfl
    obtain ⟨D, hD⟩ : ∃ D, D = padN s.size := ⟨_, rfl⟩
    rw [← hD] at hp hp2 hj
    have HD := Lib.hid hD
    clear hD
    cases T : ((L : Int) % 32 != 0)
    · have hend : Hid (bs = padB s.data.toList) := by
        have h1 : L % 32 = 0 := by rw [bne_eq_false_iff_eq] at T; omega
        have h2 : j = D - (s.size + 2) := by omega
        rw [Hid, HBS.out, padB, len_data, h2, HD.out]
      go_wp2_with (fail)
      go_ret
      refine ⟨a5, c5, by rw [← hend.out, ← HLL.out]; rfl, he.out, ?_⟩
      have := HOP.out
      rw [HLL.out, hend.out] at this
      exact this
    · have h1 : j < D - (s.size + 2) := by
        have h3 : L % 32 ≠ 0 := by rw [bne_iff_ne] at T; omega
        omega
      have yb : Byts (wr.alloc (.cells #[.int .u8 0] 5)) (some ⟨wr.heap.size, 0, none⟩) [0] := byts_lit (bs := [0]) (heap_new _ _)
      have hxa := (Ext.refl wr).alloc (.cells #[.int .u8 0] 5)
      have hap2 := app_bytes (wr.alloc (.cells #[.int .u8 0] 5)) w.heap.size 23 _ bs [0] (some ⟨wr.heap.size, 0, none⟩) 1 (by have := HOP.out; rw [HLL.out] at this; exact this.ext hxa) yb (by rw [← HLL.out]; simp; omega) (by have := he.out.size; have := hxa.size; omega)
      rw [← HLL.out] at hap2
      have hrep : bs ++ [0] = numB s.size 2 ++ s.data.toList ++ List.replicate (j + 1) 0 := by
        rw [HBS.out, List.replicate_succ', List.append_assoc]
      rw [hrep] at hap2
      have HAPP := Lib.hid hap2; have HXA := Lib.hid (he.out.trans hxa); have HLT := Lib.hid HOP.out.lt
      have hm : Hid (∀ w' B v, OwnB w' B v (numB s.size 2 ++ s.data.toList ++ List.replicate (j + 1) 0) → ∃ a c, v = .slice a (L + 1) c) := fun w' B v h => by
        obtain ⟨a, c, e⟩ := h.slice
        refine ⟨a, c, ?_⟩
        rw [e, ← hrep, List.length_append, ← HLL.out]; rfl
      clear hap2 yb hxa hrep
      go_wp2_with (first | (at_builtin; refine wpList_app _ rfl _ _ 23 rfl _ HAPP.out ?_; clear HAPP; rintro v' w2 ⟨ho5, hg5, -⟩; have HO6 := Lib.hid ho5; have HE6 := Lib.hid (grown_ext HXA.out hg5 (fun k hk => (HLT.out k hk).1)); clear ho5 hg5) | fail)
      obtain ⟨a6, c6, rfl⟩ := hm.out _ _ _ HO6.out
      go_roundw
      case rel => exact ⟨HE6, j + 1, by rw [← HD.out]; omega, HO6.out⟩
      case measure => rw [← HD.out]; simp; omega
end Go.Proofs.Ytlahejakcgoheaa
