/-
  Walks of the reference: Revise.
-/
import Derived.Test.YtlahejakcgoheaaRU
set_option linter.unusedVariables false
set_option linter.unusedSimpArgs false
namespace Go.Proofs.Ytlahejakcgoheaa
open Go.RowKit
set_option maxRecDepth 100000 in
set_option maxHeartbeats 4000000 in
theorem l52_14 {vb xb n c kn m : Nat} {al : Option Addr} {la : Option Addr} {lc : Nat} {nm ps tx : ByteArray} {dy num : Int} {sl : Lk} {L : List Lk} {G0 : Option Addr → List Lv → Prop} {wb w0 : World} (HJ0 : Hid (JS wb w0 vb xb (.cells #[.bool false, .slice al n c] 40 (0, 0)) L G0 false false undef)) (HK : Hid (∀ W, Ext wb W → Calls Try.prog 17 #[.string nm, .string ps] W (Ret (u64 kn) W))) (HS : Hid (∀ W, Ext wb W → Calls Try.prog 81 #[u64 kn, .agg #[.int .u8 4, .string nm, .string ⟨#[]⟩, .int .i64 num, .int .i64 ((m : Int) + 1), .int .i64 dy, .int .i64 0, .slice none 0 0, .int .u64 0, .int .u64 0], .string tx] W (RetCp sl W))) (HW : Hid (∀ W ba bc, Ext wb W → Byts W ba sl.bo → FrB wb ba → Calls Try.prog 78 #[.agg #[.bool false, .slice al n c], lval ⟨sl, ba, bc⟩] W (RetV L G0 W))) (hm : m ≤ 100) {Q : Exit → Act → World → Prop} (aZ : Act) (hsz : aZ.tmps.size = 71) (o1 : aZ.tmps[1]?.getD undef = .string nm) (o2 : aZ.tmps[2]?.getD undef = .string ps) (o3 : aZ.tmps[3]?.getD undef = .int .i64 num) (o4 : aZ.tmps[4]?.getD undef = .string tx) (o5 : aZ.tmps[5]?.getD undef = .pointer (some ⟨vb, 0, none⟩)) (o10 : aZ.tmps[10]?.getD undef = .pointer (some ⟨xb, 0, none⟩)) (o14 : aZ.tmps[14]?.getD undef = .int .i64 dy) (o16 : aZ.tmps[16]?.getD undef = .slice la m lc)
    (hend : ∀ (vs : Nat → Value) (w9 : World) (ls9 : Nat → Bool), (∀ j : Nat, j < 20 → ls9 j = true) → (JS wb w9 vb xb (.cells #[.bool false, .slice al n c] 40 (0, 0)) L G0 (ls9 13) (ls9 17) (vs 13)) → (vs 0 = .agg #[.bool false, .slice al n c]) → (vs 1 = .string nm) → (vs 2 = .string ps) → (vs 3 = u64 kn) → (vs 4 = .string nm) → (vs 5 = .int .i64 num) → (vs 6 = .slice la m lc) → (vs 7 = .int .i64 m) → (vs 8 = .int .i64 (m + 1)) → (vs 9 = .int .i64 dy) → (vs 10 = .agg #[.int .u8 4, .string nm, .string ⟨#[]⟩, .int .i64 num, .int .i64 ((m : Int) + 1), .int .i64 dy, .int .i64 0, .slice none 0 0, .int .u64 0, .int .u64 0]) → (vs 11 = .string tx) → (∃ ba bc, vs 12 = lval ⟨sl, ba, bc⟩ ∧ Byts w9 ba sl.bo ∧ FrB wb ba) → (True) → (vs 14 = .slice la m lc) → (vs 15 = .int .i64 m) → (vs 16 = .int .i64 (m + 1)) → (vs 18 = .int .i64 ((m : Int) + 1)) → (vs 19 = .int .i64 0) → Q .normal (((((((((((((((((((aZ.put (some 54) (vs 0)).put (some 55) (vs 1)).put (some 56) (vs 2)).put (some 57) (vs 3)).put (some 58) (vs 4)).put (some 59) (vs 5)).put (some 60) (vs 6)).put (some 61) (vs 7)).put (some 62) (vs 8)).put (some 63) (vs 9)).put (some 64) (vs 10)).put (some 65) (vs 11)).put (some 66) (vs 12)).put (some 67) (vs 13)).put (some 68) (vs 14)).put (some 69) (vs 15)).put (some 70) (vs 16)).put (some 11) (vs 18)).put (some 12) (vs 19)) w9) : (regOf Try.f52 14).wp Try.prog Q aZ w0 := by
  conv => arg 2; whnf
  refine wp_region_said3 (fun i v wz => match i with
    | 0 => v = .agg #[.bool false, .slice al n c]
    | 1 => v = .string nm
    | 2 => v = .string ps
    | 3 => v = u64 kn
    | 4 => v = .string nm
    | 5 => v = .int .i64 num
    | 6 => v = .slice la m lc
    | 7 => v = .int .i64 m
    | 8 => v = .int .i64 (m + 1)
    | 9 => v = .int .i64 dy
    | 10 => v = .agg #[.int .u8 4, .string nm, .string ⟨#[]⟩, .int .i64 num, .int .i64 ((m : Int) + 1), .int .i64 dy, .int .i64 0, .slice none 0 0, .int .u64 0, .int .u64 0]
    | 11 => v = .string tx
    | 12 => ∃ ba bc, v = lval ⟨sl, ba, bc⟩ ∧ Byts wz ba sl.bo ∧ FrB wb ba
    | 13 => True
    | 14 => v = .slice la m lc
    | 15 => v = .int .i64 m
    | 16 => v = .int .i64 (m + 1)
    | 17 => True
    | 18 => v = .int .i64 ((m : Int) + 1)
    | _ => v = .int .i64 0) (fun ls vs wz => JS wb wz vb xb (.cells #[.bool false, .slice al n c] 40 (0, 0)) L G0 (ls 13) (ls 17) (vs 13)) (by kernel_rfl) (by kernel_rfl) (by rw [hsz]; kernel_rfl) ?_ ?_ ?_
  · exact (JS.any HJ0.out).ext (Ext.refl _).drew
  · refine ⟨?_, ?_, ?_, ?_, ?_, ?_, ?_, ?_, ?_, ?_, ?_, ?_, ?_, ?_, ?_, ?_, ?_, ?_, ?_, ?_, trivial⟩
    · intro ls vs a w1 hi hJ hold hdep K hK
      have q5 : a.tmps[5]?.getD undef = .pointer (some ⟨vb, 0, none⟩) := (hold 5 (by kernel_rfl)).trans o5
      rw [if_pos (by rfl)]
      clear hold hdep hend o1 o2 o3 o4 o5 o10 o14 o16
      have HJ := Lib.hid hJ
      clear hJ
      obtain ⟨z0, z1⟩ := obj_cells2 HJ.out.bv
      have E1 := Ext.refl w1
      go_simp
      exact hK _ _ (fun _ _ _ h => h) HJ.out rfl
    · intro ls vs a w1 hi hJ hold hdep K hK
      have q1 : a.tmps[1]?.getD undef = .string nm := (hold 1 (by kernel_rfl)).trans o1
      rw [if_pos (by rfl)]
      clear hold hdep hend o1 o2 o3 o4 o5 o10 o14 o16
      have HJ := Lib.hid hJ
      clear hJ
      go_simp
      exact hK _ _ (fun _ _ _ h => h) HJ.out rfl
    · intro ls vs a w1 hi hJ hold hdep K hK
      have q2 : a.tmps[2]?.getD undef = .string ps := (hold 2 (by kernel_rfl)).trans o2
      rw [if_pos (by rfl)]
      clear hold hdep hend o1 o2 o3 o4 o5 o10 o14 o16
      have HJ := Lib.hid hJ
      clear hJ
      go_simp
      exact hK _ _ (fun _ _ _ h => h) HJ.out rfl
    · intro ls vs a w1 hi hJ hold hdep K hK
      have q55 : a.tmps[55]?.getD undef = .string nm := (hdep 1 55 (by kernel_rfl) (by kernel_rfl)).2.1.trans (hdep 1 55 (by kernel_rfl) (by kernel_rfl)).2.2
      have q56 : a.tmps[56]?.getD undef = .string ps := (hdep 2 56 (by kernel_rfl) (by kernel_rfl)).2.1.trans (hdep 2 56 (by kernel_rfl) (by kernel_rfl)).2.2
      rw [if_pos (by rfl)]
      clear hold hdep hend o1 o2 o3 o4 o5 o10 o14 o16
      have HJ := Lib.hid hJ
      clear hJ
      have hx := HJ.out.x
      go_simp
      go_at_call 17
      (with_reducible refine (HK.out _ hx).mono ?_); rintro e w20 ⟨rfl, he⟩
      exact hK _ _ (fun j u _ h => by
            match j, h with
            | 0, h | 1, h | 2, h | 3, h | 4, h | 5, h | 6, h | 7, h | 8, h | 9, h | 10, h | 11, h | 13, h | 14, h | 15, h | 16, h | 17, h | 18, h => exact h
            | 12, h => obtain ⟨ba, bc, h1, h2, h3⟩ := h; exact ⟨ba, bc, h1, h2.ext he, h3⟩
            | (n + 19), h => exact h) (HJ.out.ext he) rfl
    · intro ls vs a w1 hi hJ hold hdep K hK
      have q1 : a.tmps[1]?.getD undef = .string nm := (hold 1 (by kernel_rfl)).trans o1
      rw [if_pos (by rfl)]
      clear hold hdep hend o1 o2 o3 o4 o5 o10 o14 o16
      have HJ := Lib.hid hJ
      clear hJ
      go_simp
      exact hK _ _ (fun _ _ _ h => h) HJ.out rfl
    · intro ls vs a w1 hi hJ hold hdep K hK
      have q3 : a.tmps[3]?.getD undef = .int .i64 num := (hold 3 (by kernel_rfl)).trans o3
      rw [if_pos (by rfl)]
      clear hold hdep hend o1 o2 o3 o4 o5 o10 o14 o16
      have HJ := Lib.hid hJ
      clear hJ
      go_simp
      exact hK _ _ (fun _ _ _ h => h) HJ.out rfl
    · intro ls vs a w1 hi hJ hold hdep K hK
      have q16 : a.tmps[16]?.getD undef = .slice la m lc := (hold 16 (by kernel_rfl)).trans o16
      rw [if_pos (by rfl)]
      clear hold hdep hend o1 o2 o3 o4 o5 o10 o14 o16
      have HJ := Lib.hid hJ
      clear hJ
      go_simp
      exact hK _ _ (fun _ _ _ h => h) HJ.out rfl
    · intro ls vs a w1 hi hJ hold hdep K hK
      have q60 : a.tmps[60]?.getD undef = .slice la m lc := (hdep 6 60 (by kernel_rfl) (by kernel_rfl)).2.1.trans (hdep 6 60 (by kernel_rfl) (by kernel_rfl)).2.2
      rw [if_pos (by rfl)]
      clear hold hdep hend o1 o2 o3 o4 o5 o10 o14 o16
      have HJ := Lib.hid hJ
      clear hJ
      go_simp
      exact hK _ _ (fun _ _ _ h => h) HJ.out rfl
    · intro ls vs a w1 hi hJ hold hdep K hK
      have q61 : a.tmps[61]?.getD undef = .int .i64 m := (hdep 7 61 (by kernel_rfl) (by kernel_rfl)).2.1.trans (hdep 7 61 (by kernel_rfl) (by kernel_rfl)).2.2
      rw [if_pos (by rfl)]
      clear hold hdep hend o1 o2 o3 o4 o5 o10 o14 o16
      have HJ := Lib.hid hJ
      clear hJ
      go_simp
      rw [IntWalk.i64_in _ (by omega)]
      exact hK _ _ (fun _ _ _ h => h) HJ.out rfl
    · intro ls vs a w1 hi hJ hold hdep K hK
      have q14 : a.tmps[14]?.getD undef = .int .i64 dy := (hold 14 (by kernel_rfl)).trans o14
      rw [if_pos (by rfl)]
      clear hold hdep hend o1 o2 o3 o4 o5 o10 o14 o16
      have HJ := Lib.hid hJ
      clear hJ
      go_simp
      exact hK _ _ (fun _ _ _ h => h) HJ.out rfl
    · intro ls vs a w1 hi hJ hold hdep K hK
      have q58 : a.tmps[58]?.getD undef = .string nm := (hdep 4 58 (by kernel_rfl) (by kernel_rfl)).2.1.trans (hdep 4 58 (by kernel_rfl) (by kernel_rfl)).2.2
      have q59 : a.tmps[59]?.getD undef = .int .i64 num := (hdep 5 59 (by kernel_rfl) (by kernel_rfl)).2.1.trans (hdep 5 59 (by kernel_rfl) (by kernel_rfl)).2.2
      have q62 : a.tmps[62]?.getD undef = .int .i64 (m + 1) := (hdep 8 62 (by kernel_rfl) (by kernel_rfl)).2.1.trans (hdep 8 62 (by kernel_rfl) (by kernel_rfl)).2.2
      have q63 : a.tmps[63]?.getD undef = .int .i64 dy := (hdep 9 63 (by kernel_rfl) (by kernel_rfl)).2.1.trans (hdep 9 63 (by kernel_rfl) (by kernel_rfl)).2.2
      rw [if_pos (by rfl)]
      clear hold hdep hend o1 o2 o3 o4 o5 o10 o14 o16
      have HJ := Lib.hid hJ
      clear hJ
      go_simp
      exact hK _ _ (fun _ _ _ h => h) HJ.out rfl
    · intro ls vs a w1 hi hJ hold hdep K hK
      have q4 : a.tmps[4]?.getD undef = .string tx := (hold 4 (by kernel_rfl)).trans o4
      rw [if_pos (by rfl)]
      clear hold hdep hend o1 o2 o3 o4 o5 o10 o14 o16
      have HJ := Lib.hid hJ
      clear hJ
      go_simp
      exact hK _ _ (fun _ _ _ h => h) HJ.out rfl
    · intro ls vs a w1 hi hJ hold hdep K hK
      have q57 : a.tmps[57]?.getD undef = u64 kn := (hdep 3 57 (by kernel_rfl) (by kernel_rfl)).2.1.trans (hdep 3 57 (by kernel_rfl) (by kernel_rfl)).2.2
      have q64 : a.tmps[64]?.getD undef = .agg #[.int .u8 4, .string nm, .string ⟨#[]⟩, .int .i64 num, .int .i64 ((m : Int) + 1), .int .i64 dy, .int .i64 0, .slice none 0 0, .int .u64 0, .int .u64 0] := (hdep 10 64 (by kernel_rfl) (by kernel_rfl)).2.1.trans (hdep 10 64 (by kernel_rfl) (by kernel_rfl)).2.2
      have q65 : a.tmps[65]?.getD undef = .string tx := (hdep 11 65 (by kernel_rfl) (by kernel_rfl)).2.1.trans (hdep 11 65 (by kernel_rfl) (by kernel_rfl)).2.2
      rw [if_pos (by rfl)]
      clear hold hdep hend o1 o2 o3 o4 o5 o10 o14 o16
      have HJ := Lib.hid hJ
      clear hJ
      have hx := HJ.out.x
      go_simp
      go_at_call 81
      (with_reducible refine (HS.out _ hx).mono ?_); rintro e w20 ⟨ba, bc, rfl, he, hb⟩
      exact hK _ _ (fun j u _ h => by
            match j, h with
            | 0, h | 1, h | 2, h | 3, h | 4, h | 5, h | 6, h | 7, h | 8, h | 9, h | 10, h | 11, h | 13, h | 14, h | 15, h | 16, h | 17, h | 18, h => exact h
            | 12, h => obtain ⟨ba, bc, h1, h2, h3⟩ := h; exact ⟨ba, bc, h1, h2.ext he, h3⟩
            | (n + 19), h => exact h) (HJ.out.ext he) ⟨_, _, rfl, hb.byts.1, FrB.own hb hx⟩
    · intro ls vs a w1 hi hJ hold hdep K hK
      have q54 : a.tmps[54]?.getD undef = .agg #[.bool false, .slice al n c] := (hdep 0 54 (by kernel_rfl) (by kernel_rfl)).2.1.trans (hdep 0 54 (by kernel_rfl) (by kernel_rfl)).2.2
      obtain ⟨hl12, q66, p66⟩ := hdep 12 66 (by kernel_rfl) (by kernel_rfl)
      rw [if_pos (by rfl)]
      clear hold hdep hend o1 o2 o3 o4 o5 o10 o14 o16
      have HJ := Lib.hid hJ
      clear hJ
      have hx := HJ.out.x
      have j1 := HJ.out
      have hi13 : ls 13 = false := hi
      rw [hi13] at j1
      obtain ⟨ba, bc, k1, k2, k3⟩ := p66
      rw [k1] at q66
      go_simp
      go_at_call 78
      (with_reducible refine (HW.out _ ba bc hx k2 k3).mono ?_); rintro e w20 hr
      obtain ⟨v, rfl, he, hj⟩ := j1.call hr
      exact hK _ _ (fun j u _ h => by
            match j, h with
            | 0, h | 1, h | 2, h | 3, h | 4, h | 5, h | 6, h | 7, h | 8, h | 9, h | 10, h | 11, h | 13, h | 14, h | 15, h | 16, h | 17, h | 18, h => exact h
            | 12, h => obtain ⟨ba, bc, h1, h2, h3⟩ := h; exact ⟨ba, bc, h1, h2.ext he, h3⟩
            | (n + 19), h => exact h) hj trivial
    · intro ls vs a w1 hi hJ hold hdep K hK
      have q16 : a.tmps[16]?.getD undef = .slice la m lc := (hold 16 (by kernel_rfl)).trans o16
      rw [if_pos (by rfl)]
      clear hold hdep hend o1 o2 o3 o4 o5 o10 o14 o16
      have HJ := Lib.hid hJ
      clear hJ
      go_simp
      exact hK _ _ (fun _ _ _ h => h) HJ.out rfl
    · intro ls vs a w1 hi hJ hold hdep K hK
      have q68 : a.tmps[68]?.getD undef = .slice la m lc := (hdep 14 68 (by kernel_rfl) (by kernel_rfl)).2.1.trans (hdep 14 68 (by kernel_rfl) (by kernel_rfl)).2.2
      rw [if_pos (by rfl)]
      clear hold hdep hend o1 o2 o3 o4 o5 o10 o14 o16
      have HJ := Lib.hid hJ
      clear hJ
      go_simp
      exact hK _ _ (fun _ _ _ h => h) HJ.out rfl
    · intro ls vs a w1 hi hJ hold hdep K hK
      have q69 : a.tmps[69]?.getD undef = .int .i64 m := (hdep 15 69 (by kernel_rfl) (by kernel_rfl)).2.1.trans (hdep 15 69 (by kernel_rfl) (by kernel_rfl)).2.2
      rw [if_pos (by rfl)]
      clear hold hdep hend o1 o2 o3 o4 o5 o10 o14 o16
      have HJ := Lib.hid hJ
      clear hJ
      go_simp
      rw [IntWalk.i64_in _ (by omega)]
      exact hK _ _ (fun _ _ _ h => h) HJ.out rfl
    · intro ls vs a w1 hi hJ hold hdep K hK
      have q10 : a.tmps[10]?.getD undef = .pointer (some ⟨xb, 0, none⟩) := (hold 10 (by kernel_rfl)).trans o10
      obtain ⟨hl13, q67, p67⟩ := hdep 13 67 (by kernel_rfl) (by kernel_rfl)
      rw [if_pos (by rfl)]
      clear hold hdep hend o1 o2 o3 o4 o5 o10 o14 o16
      have HJ := Lib.hid hJ
      clear hJ
      have j1 := HJ.out
      have hi17 : ls 17 = false := hi
      rw [hl13, hi17] at j1
      obtain ⟨ra, rn, rc, hv, z0, z1, f1, hj, hoff⟩ := j1.store
      rw [hv] at q67
      go_simp
      refine hK undef _ (fun j u _ h => by
            match j, h with
            | 0, h | 1, h | 2, h | 3, h | 4, h | 5, h | 6, h | 7, h | 8, h | 9, h | 10, h | 11, h | 13, h | 14, h | 15, h | 16, h | 17, h | 18, h => exact h
            | 12, h => obtain ⟨ba, bc, h1, h2, h3⟩ := h; exact ⟨ba, bc, h1, hoff _ _ h2, h3⟩
            | (n + 19), h => exact h) ?_ trivial
      show JS wb _ vb xb _ L G0 (ls 13) true (vs 13)
      rw [hl13]; exact hj
    · intro ls vs a w1 hi hJ hold hdep K hK
      have q70 : a.tmps[70]?.getD undef = .int .i64 (m + 1) := (hdep 16 70 (by kernel_rfl) (by kernel_rfl)).2.1.trans (hdep 16 70 (by kernel_rfl) (by kernel_rfl)).2.2
      rw [if_pos (by rfl)]
      clear hold hdep hend o1 o2 o3 o4 o5 o10 o14 o16
      have HJ := Lib.hid hJ
      clear hJ
      go_simp
      exact hK _ _ (fun _ _ _ h => h) HJ.out rfl
    · intro ls vs a w1 hi hJ hold hdep K hK
      rw [if_pos (by rfl)]
      clear hold hdep hend o1 o2 o3 o4 o5 o10 o14 o16
      have HJ := Lib.hid hJ
      clear hJ
      go_simp
      exact hK _ _ (fun _ _ _ h => h) HJ.out rfl
  · intro vs w9 ls9 hl9 hJ9 hφ
    have e0 := hφ 0 (by kernel_rfl)
    have e1 := hφ 1 (by kernel_rfl)
    have e2 := hφ 2 (by kernel_rfl)
    have e3 := hφ 3 (by kernel_rfl)
    have e4 := hφ 4 (by kernel_rfl)
    have e5 := hφ 5 (by kernel_rfl)
    have e6 := hφ 6 (by kernel_rfl)
    have e7 := hφ 7 (by kernel_rfl)
    have e8 := hφ 8 (by kernel_rfl)
    have e9 := hφ 9 (by kernel_rfl)
    have e10 := hφ 10 (by kernel_rfl)
    have e11 := hφ 11 (by kernel_rfl)
    have e12 := hφ 12 (by kernel_rfl)
    have e13 := hφ 13 (by kernel_rfl)
    have e14 := hφ 14 (by kernel_rfl)
    have e15 := hφ 15 (by kernel_rfl)
    have e16 := hφ 16 (by kernel_rfl)
    have e18 := hφ 18 (by kernel_rfl)
    have e19 := hφ 19 (by kernel_rfl)
    have hq := hend vs w9 ls9 hl9 hJ9 e0 e1 e2 e3 e4 e5 e6 e7 e8 e9 e10 e11 e12 e13 e14 e15 e16 e18 e19
    simp only [Act.put] at hq
    simp only [putAll, Act.put]
    exact hq
section
variable {S : PV} {n p : ByteArray} {num : Int}
theorem Good.recV_len (h : Good S) (n : ByteArray) (num : Int) : (recV S n num).length ≤ 20 := by
  unfold recV
  cases hf : S.find n with
  | none => exact Nat.zero_le _
  | some c =>
    show (versC c num).length ≤ 20
    unfold versC
    split
    · exact Nat.zero_le _
    · rename_i z
      have hlt : (num - 1).toNat < c.recs.length := by omega
      rw [getD_lt _ hlt]
      exact ((h.ok.cs c (find_mem hf).1).rr _ (List.getElem_mem hlt)).2
theorem Good.rec_1 (h : Good S) (he : enterR S n p = 0) (h1 : recV S n num = []) : recAt S n num = ([], 3) := by
  obtain ⟨c, hf⟩ := enter_find he
  rw [h.recA hf, if_pos h1]
theorem Good.rec_2 (h : Good S) (he : enterR S n p = 0) (h1 : recV S n num ≠ []) (h2 : untilR (recV S n num) < S.day) : recAt S n num = ([], 111) := by
  obtain ⟨c, hf⟩ := enter_find he
  rw [h.recA hf, if_neg h1, if_pos h2]
theorem Good.rec_3 (h : Good S) (he : enterR S n p = 0) (h1 : recV S n num ≠ []) (h2 : ¬ untilR (recV S n num) < S.day) : recAt S n num = (recV S n num, 0) := by
  obtain ⟨c, hf⟩ := enter_find he
  rw [h.recA hf, if_neg h1, if_neg h2]
theorem revE_0 {t : ByteArray} (h : enterR S n p ≠ 0) : revE S n p num t = enterR S n p := by unfold revE; rw [if_pos h]
theorem revE_1 {t : ByteArray} {q : Int} (h : enterR S n p = 0) (h1 : recAt S n num = ([], q)) (hq : q ≠ 0) : revE S n p num t = q := by unfold revE; rw [if_neg (by simpa using h), h1, if_pos hq]
theorem revE_2 {t : ByteArray} (h : enterR S n p = 0) (h1 : recAt S n num = (recV S n num, 0)) : revE S n p num t = if 2000 < t.size then 5 else if 20 ≤ (recV S n num).length then 8 else 0 := by unfold revE; rw [if_neg (by simpa using h), h1, if_neg (by simp)]
theorem revS_no {t : ByteArray} {q : Int} (h : revE S n p num t = q) (h0 : q ≠ 0) : revS S n p num t = S := by unfold revS; rw [h, if_neg h0]
theorem revS_yes {t : ByteArray} (h : revE S n p num t = 0) : (revS S n p num t).chain = S.chain ++ [chained S (revL S n p num t)] := by unfold revS; rw [if_pos h, putS_chain]
end
set_option maxRecDepth 100000 in
set_option maxHeartbeats 4000000 in
theorem rrev_any (S : PV) (al : Option Addr) (xs : List Lv) (c : Nat) (nm ps tx : ByteArray) (num : Int) (w : World) (hR : RvAt w S al xs) (hn : nm.size ≤ 1000) (hp : ps.size ≤ 1000) (ht : tx.size ≤ 1000000) (hu0 : -9223372036854775808 ≤ num) (hu1 : num ≤ 9223372036854775807) :
    Calls Try.prog 52 #[rv false al xs.length c, .string nm, .string ps, .int .i64 num, .string tx] w (RetVEE (revS S nm ps num tx).chain (Grow w al xs) (.int .i64 (if revE S nm ps num tx = 0 then ((recAt S nm num).1.length : Int) + 1 else 0)) (.int .i64 (revE S nm ps num tx)) w) := by
  have hen := hR.ent c nm ps (by omega) (by omega)
  have hdy := hR.day false c
  have hvs := hR.vers false c nm num
  have hgn := hR.gone false c
  obtain ⟨en, hen2⟩ : ∃ z, z = enterR S nm ps := ⟨_, rfl⟩
  obtain ⟨dy, hdd⟩ : ∃ z, z = S.day := ⟨_, rfl⟩
  obtain ⟨ad, had⟩ : ∃ z, z = S.adv := ⟨_, rfl⟩
  obtain ⟨n, hnn⟩ : ∃ z, z = xs.length := ⟨_, rfl⟩
  obtain ⟨R, hRR⟩ : ∃ z, z = recV S nm num := ⟨_, rfl⟩
  have hRl := hR.good.recV_len nm num
  have r1 := hR.good.rec_1 (n := nm) (p := ps) (num := num)
  have r2 := hR.good.rec_2 (n := nm) (p := ps) (num := num)
  have r3 := hR.good.rec_3 (n := nm) (p := ps) (num := num)
  have s0 := revE_0 (S := S) (n := nm) (p := ps) (num := num) (t := tx)
  have s1 := fun q => revE_1 (S := S) (n := nm) (p := ps) (num := num) (t := tx) (q := q)
  have s2 := revE_2 (S := S) (n := nm) (p := ps) (num := num) (t := tx)
  obtain ⟨rn, hrn⟩ : ∃ z, z = (if revE S nm ps num tx = 0 then ((recAt S nm num).1.length : Int) + 1 else 0) := ⟨_, rfl⟩
  rw [← hrn]
  rw [← hen2] at hen r1 r2 r3 s0 s1 s2; rw [← hdd] at hdy hgn r2 r3; rw [← had] at hdy; rw [← hRR] at hvs hRl r1 r2 r3 s2; rw [← hnn] at hen hdy hvs hgn ⊢
  have HEN := Lib.hid hen; have HDY := Lib.hid hdy; have HVS := Lib.hid hvs; have HGN := Lib.hid hgn; have HR := Lib.hid hR; have HN := Lib.hid hnn
  have R1 := Lib.hid r1; have R2 := Lib.hid r2; have R3 := Lib.hid r3; have S0 := Lib.hid s0; have S1 := Lib.hid s1; have S2 := Lib.hid s2; have HRN := Lib.hid hrn; have HDD := Lib.hid hdd; have HRL := Lib.hid hRl
  have hN := Lib.hid hn; have hP := Lib.hid hp; have hU := Lib.hid (And.intro hu0 hu1)
  have htx2 : tx.size ≤ 9223372036854775807 := by omega
  clear hen hdy hvs hgn hen2 hdd had hnn hR s0 s1 s2 r1 r2 r3 hrn hn hp hRR hRl
  go_enter Try.func52, Try.ntmps52
  go_upto_region 1 with fail
  generalize hw1 : World.alloc _ _ = w1
  obtain ⟨he, o1, o2, hs1⟩ := alloc2 hw1
  have O1 := Lib.hid o1; have O2 := Lib.hid o2; have HE := Lib.hid he
  obtain ⟨v0, v1⟩ := obj_cells2 o1
  obtain ⟨z0, z1⟩ := obj_cells2 o2
  have f1 := obj_free o2
  have E1 := Ext.refl w1
  clear hw1 o1 o2
  have hend : ∀ (W : World) (q : Int), Ext w1 W → revE S nm ps num tx = q → q ≠ 0 → RetVEE (revS S nm ps num tx).chain (Grow w al xs) (.int .i64 rn) (.int .i64 (revE S nm ps num tx)) w (.returned (.tuple #[rv false al n c, .int .i64 0, .int .i64 q])) ((W.setCell ⟨w.heap.size + 1, 0, none⟩ (.bool false)).setCell ⟨w.heap.size + 1, 1, none⟩ (.slice al n c)) := fun W q e hq h0 => by
    obtain ⟨k1, k2⟩ := same40 (N := false) (c := c) HR.out.lk HR.out.ok HN.out (HE.out.trans e) (by omega) (e.block O2.out)
    rw [revS_no hq h0, HRN.out, hq, if_neg h0]
    exact ⟨al, c, xs, by rw [HN.out], k1, k2, HR.out.ok, HR.out.ch, Grow.same _ _ _⟩
  have HEND := Lib.hid hend
  clear hend
  go_wp2_with (fail)
  (with_reducible refine (HEN.out _ he).mono ?_); rintro e w2 ⟨rfl, he2⟩
  have E2 := Ext.refl w2
  by_cases h0 : en = 0
  · subst h0
    go_wp2_with (fail)
    (with_reducible refine (HDY.out _ (he.trans he2)).mono ?_); rintro e w3 ⟨rfl, he3⟩
    have he13 := he2.trans he3
    have E3 := Ext.refl w3
    clear E2 he2 he3
    go_wp2_with (fail)
    (with_reducible refine (HVS.out _ (HE.out.trans he13)).mono ?_); rintro e w4 ⟨la, lc, ys, rfl, he4, hyl, hyo, hyr⟩
    have he14 := he13.trans he4
    have E4 := Ext.refl w4
    obtain ⟨m, hm⟩ : ∃ m, m = ys.length := ⟨_, rfl⟩
    have hm2 : m = R.length := by rw [hm, ← hyr, lks_len]
    have HYL := Lib.hid hyl; have HYR := Lib.hid hyr; have HM := Lib.hid hm; have HM2 := Lib.hid hm2
    rw [← hm]
    have hm20 : m ≤ 20 := by rw [hm2]; exact HRL.out
    clear E3 he13 he4 hyl hyo hyr hm hm2
    by_cases hz : m = 0
    · have hnil : Hid (R = []) := List.length_eq_zero_iff.1 (by rw [← HM2.out]; exact hz)
      subst hz
      go_wp2_with (fail)
      refine bodyPost_ret (v := .tuple #[rv false al n c, .int .i64 0, .int .i64 3]) (by simp [results, Try.results52, go_sem, z0 _ he14, z1 _ he14]) rfl (HEND.out w4 3 he14 (S1.out 3 (by simp) (R1.out (by simp) hnil.out) (by omega)) (by omega))
    · have hnn : Hid (R ≠ []) := fun e => hz (by rw [HM2.out, e]; rfl)
      have hz1 : ¬ ((m : Int) = 0) := by omega
      have hgo := HGN.out la ys lc w4 (HE.out.trans he14) HYL.out (by rw [← HM.out]; omega)
      rw [← HM.out, HYR.out] at hgo
      obtain ⟨g, hg⟩ : ∃ g, g = decide (untilR R < dy) := ⟨_, rfl⟩
      rw [← hg] at hgo
      have HGO := Lib.hid hgo; have HG := Lib.hid hg
      clear hgo hg
      go_wp2_with (fail)
      (with_reducible refine HGO.out.mono ?_); rintro e w5 ⟨rfl, he5⟩
      have he15 := he14.trans he5
      have E5 := Ext.refl w5
      clear E4 he14 he5
      cases g
      · have hrc := R3.out (by simp) hnn.out (by have := of_decide_eq_false HG.out.symm; omega)
        have h4 := S2.out (by simp) hrc
        have HRC := Lib.hid hrc
        clear hrc
        by_cases h3 : 2000 < tx.size
        · rw [if_pos h3] at h4
          have H4 := Lib.hid h4
          have h3' : (2000 : Int) < (tx.size : Int) := by omega
          clear h4
          go_wp2_with (fail)
          refine bodyPost_ret (v := .tuple #[rv false al n c, .int .i64 0, .int .i64 5]) (by simp [results, Try.results52, go_sem, z0 _ he15, z1 _ he15]) rfl (HEND.out w5 5 he15 H4.out (by omega))
        · rw [if_neg h3, ← HM2.out] at h4
          have h3' : ¬ (2000 : Int) < (tx.size : Int) := by omega
          by_cases h5 : 20 ≤ m
          · rw [if_pos h5] at h4
            have H4 := Lib.hid h4
            have h5' : (20 : Int) ≤ (m : Int) := by omega
            clear h4
            go_wp2_with (fail)
            refine bodyPost_ret (v := .tuple #[rv false al n c, .int .i64 0, .int .i64 8]) (by simp [results, Try.results52, go_sem, z0 _ he15, z1 _ he15]) rfl (HEND.out w5 8 he15 H4.out (by omega))
          · rw [if_neg h5] at h4
            have hch := revS_yes h4
            have hrn := HRN.out
            have hml : (recAt S nm num).1.length = m := by rw [HRC.out]; exact HM2.out.symm
            rw [if_pos h4, hml] at hrn
            have H4 := Lib.hid h4; have HCHN := Lib.hid hch; have HRN2 := Lib.hid hrn; have HML := Lib.hid hml
            have h5' : ¬ (20 : Int) ≤ (m : Int) := by omega
            have hm : m ≤ 100 := by omega
            have HJ0 := Lib.hid (JS.start (L := S.chain ++ [chained S (revL S nm ps num tx)]) (G := Grow w al xs) (HE.out.trans he15) (show w.heap.size ≤ w.heap.size + 1 by omega) (show w.heap.size ≠ w.heap.size + 1 by omega) (he15.block O1.out) (he15.block O2.out) undef)
            have HK : Hid (∀ W, Ext w W → Calls Try.prog 17 #[.string nm, .string ps] W (Ret (u64 (keyN nm ps)) W)) := fun W e => rkey_any nm ps W (by have := hN.out; omega) (by have := hP.out; omega)
            have hl0 : LkOk (revL0 S nm num) := revL0_ok HR.out.good (by rw [HML.out]; omega) (by have := hN.out; unfold maxLen; omega) hU.out.1 hU.out.2
            have HS : Hid (∀ W, Ext w W → Calls Try.prog 81 #[u64 (keyN nm ps), .agg #[.int .u8 4, .string nm, .string ⟨#[]⟩, .int .i64 num, .int .i64 ((m : Int) + 1), .int .i64 dy, .int .i64 0, .slice none 0 0, .int .u64 0, .int .u64 0], .string tx] W (RetCp (revL S nm ps num tx) W)) := fun W e => by
              rw [← HML.out, HDD.out]
              exact rsealed_any (keyN nm ps) ⟨revL0 S nm num, none, 0⟩ tx W (p61_64 (keyN_lt _ _)) hl0 (by show 0 ≤ _; omega) (by omega)
            have HW : Hid (∀ W ba bc, Ext w W → Byts W ba (revL S nm ps num tx).bo → FrB w ba → Calls Try.prog 78 #[.agg #[.bool false, .slice al n c], lval ⟨revL S nm ps num tx, ba, bc⟩] W (RetV (S.chain ++ [chained S (revL S nm ps num tx)]) (Grow w al xs) W)) := fun W ba bc e hb hf => by
              have := HR.out.put false c ⟨revL S nm ps num tx, ba, bc⟩ W e (sealed_ok hl0 (by omega)) (sealed_small (by omega) (by have := hN.out; exact this) (by show 0 ≤ _; omega)) hb hf
              rw [← HN.out] at this
              exact this
            clear h4 hch he15 hl0 hrn hml
            go_upto_region 14 with fail
            refine l52_14 HJ0 HK HS HW hm _ (by rfl) rfl rfl rfl rfl rfl rfl rfl rfl ?_
            intro vs w9 ls9 hl9 hJ9 e0 e1 e2 e3 e4 e5 e6 e7 e8 e9 e10 e11 e12 e13 e14 e15 e16 e18 e19
            simp only [Act.put, List.setIfInBounds_toArray, List.set_cons_zero, List.set_cons_succ]
            rw [e0, e1, e2, e3, e4, e5, e6, e7, e8, e9, e10, e11, e14, e15, e16, e18, e19]
            obtain ⟨ra, rc, ys, hv, h1, h2, h3, h6, h4⟩ := hJ9.ac (hl9 13 (by omega))
            have hb := h4 (hl9 17 (by omega))
            rw [hv]
            obtain ⟨y0, y1⟩ := obj_cells2 hb
            replace y0 := y0 w9 (Ext.refl _)
            replace y1 := y1 w9 (Ext.refl _)
            have HXX := Lib.hid hJ9.x; have HL1 := Lib.hid h1; have HL2 := Lib.hid h2; have HL3 := Lib.hid h3; have HL6 := Lib.hid h6
            obtain ⟨L, hL⟩ : ∃ L, L = ys.length := ⟨_, rfl⟩
            rw [← hL] at y1 ⊢
            have HLL := Lib.hid hL
            clear hJ9 hl9 e0 e1 e2 e3 e4 e5 e6 e7 e8 e9 e10 e11 e12 e13 e14 e15 e16 e18 e19 hb h1 h2 h3 h4 h6 hv hL z0 z1 f1 v0 v1 E1 E5
            go_wp2_with (fail)
            refine bodyPost_ret (v := .tuple #[rv false ra L rc, .int .i64 ((m : Int) + 1), .int .i64 0]) (by simp [results, Try.results52, go_sem, y0, y1]) rfl ⟨ra, rc, ys, by rw [HLL.out, H4.out, HRN2.out], HXX.out, HL1.out, HL2.out, by rw [HL3.out, HCHN.out], HL6.out⟩
      · have hrc := R2.out (by simp) hnn.out (of_decide_eq_true HG.out.symm)
        have h4 := S1.out 111 (by simp) hrc (by omega)
        have H4 := Lib.hid h4
        clear h4 hrc
        go_wp2_with (fail)
        refine bodyPost_ret (v := .tuple #[rv false al n c, .int .i64 0, .int .i64 111]) (by simp [results, Try.results52, go_sem, z0 _ he15, z1 _ he15]) rfl (HEND.out w5 111 he15 H4.out (by omega))
  · have h0' : (en == 0) = false := by simpa using h0
    go_wp2_with (fail)
    refine bodyPost_ret (v := .tuple #[rv false al n c, .int .i64 0, .int .i64 en]) (by simp [results, Try.results52, go_sem, z0 _ he2, z1 _ he2]) rfl (HEND.out w2 en he2 (S0.out h0) h0)
end Go.Proofs.Ytlahejakcgoheaa
