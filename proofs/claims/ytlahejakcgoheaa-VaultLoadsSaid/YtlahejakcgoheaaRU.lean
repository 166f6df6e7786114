/-
  Walks of the reference: Seal.
-/
import Derived.Test.YtlahejakcgoheaaRT
set_option linter.unusedVariables false
set_option linter.unusedSimpArgs false
namespace Go.Proofs.Ytlahejakcgoheaa
open Go.RowKit
set_option maxRecDepth 100000 in
set_option maxHeartbeats 4000000 in
theorem l51_14 {vb xb n c kn m : Nat} {al : Option Addr} {nm ps kd tx : ByteArray} {dy un : Int} {sl : Lk} {L : List Lk} {G0 : Option Addr → List Lv → Prop} {wb w0 : World} (HJ0 : Hid (JS wb w0 vb xb (.cells #[.bool false, .slice al n c] 40 (0, 0)) L G0 false false undef)) (HK : Hid (∀ W, Ext wb W → Calls Try.prog 17 #[.string nm, .string ps] W (Ret (u64 kn) W))) (HS : Hid (∀ W, Ext wb W → Calls Try.prog 81 #[u64 kn, .agg #[.int .u8 3, .string nm, .string kd, .int .i64 ((m : Int) + 1), .int .i64 1, .int .i64 dy, .int .i64 un, .slice none 0 0, .int .u64 0, .int .u64 0], .string tx] W (RetCp sl W))) (HW : Hid (∀ W ba bc, Ext wb W → Byts W ba sl.bo → FrB wb ba → Calls Try.prog 78 #[.agg #[.bool false, .slice al n c], lval ⟨sl, ba, bc⟩] W (RetV L G0 W))) (hm : m ≤ 100) {Q : Exit → Act → World → Prop} (aZ : Act) (hsz : aZ.tmps.size = 74) (o1 : aZ.tmps[1]?.getD undef = .string nm) (o2 : aZ.tmps[2]?.getD undef = .string ps) (o3 : aZ.tmps[3]?.getD undef = .string kd) (o4 : aZ.tmps[4]?.getD undef = .int .i64 un) (o5 : aZ.tmps[5]?.getD undef = .string tx) (o6 : aZ.tmps[6]?.getD undef = .pointer (some ⟨vb, 0, none⟩)) (o12 : aZ.tmps[12]?.getD undef = .pointer (some ⟨xb, 0, none⟩)) (o16 : aZ.tmps[16]?.getD undef = .int .i64 dy) (o18 : aZ.tmps[18]?.getD undef = .int .i64 m)
    (hend : ∀ (vs : Nat → Value) (w9 : World) (ls9 : Nat → Bool), (∀ j : Nat, j < 19 → ls9 j = true) → (JS wb w9 vb xb (.cells #[.bool false, .slice al n c] 40 (0, 0)) L G0 (ls9 13) (ls9 16) (vs 13)) → (vs 0 = .agg #[.bool false, .slice al n c]) → (vs 1 = .string nm) → (vs 2 = .string ps) → (vs 3 = u64 kn) → (vs 4 = .string nm) → (vs 5 = .string kd) → (vs 6 = .int .i64 m) → (vs 7 = .int .i64 (m + 1)) → (vs 8 = .int .i64 dy) → (vs 9 = .int .i64 un) → (vs 10 = .agg #[.int .u8 3, .string nm, .string kd, .int .i64 ((m : Int) + 1), .int .i64 1, .int .i64 dy, .int .i64 un, .slice none 0 0, .int .u64 0, .int .u64 0]) → (vs 11 = .string tx) → (∃ ba bc, vs 12 = lval ⟨sl, ba, bc⟩ ∧ Byts w9 ba sl.bo ∧ FrB wb ba) → (True) → (vs 14 = .int .i64 m) → (vs 15 = .int .i64 (m + 1)) → (vs 17 = .int .i64 ((m : Int) + 1)) → (vs 18 = .int .i64 0) → Q .normal ((((((((((((((((((aZ.put (some 58) (vs 0)).put (some 59) (vs 1)).put (some 60) (vs 2)).put (some 61) (vs 3)).put (some 62) (vs 4)).put (some 63) (vs 5)).put (some 64) (vs 6)).put (some 65) (vs 7)).put (some 66) (vs 8)).put (some 67) (vs 9)).put (some 68) (vs 10)).put (some 69) (vs 11)).put (some 70) (vs 12)).put (some 71) (vs 13)).put (some 72) (vs 14)).put (some 73) (vs 15)).put (some 13) (vs 17)).put (some 14) (vs 18)) w9) : (regOf Try.f51 14).wp Try.prog Q aZ w0 := by
  conv => arg 2; whnf
  refine wp_region_said3 (fun i v wz => match i with
    | 0 => v = .agg #[.bool false, .slice al n c]
    | 1 => v = .string nm
    | 2 => v = .string ps
    | 3 => v = u64 kn
    | 4 => v = .string nm
    | 5 => v = .string kd
    | 6 => v = .int .i64 m
    | 7 => v = .int .i64 (m + 1)
    | 8 => v = .int .i64 dy
    | 9 => v = .int .i64 un
    | 10 => v = .agg #[.int .u8 3, .string nm, .string kd, .int .i64 ((m : Int) + 1), .int .i64 1, .int .i64 dy, .int .i64 un, .slice none 0 0, .int .u64 0, .int .u64 0]
    | 11 => v = .string tx
    | 12 => ∃ ba bc, v = lval ⟨sl, ba, bc⟩ ∧ Byts wz ba sl.bo ∧ FrB wb ba
    | 13 => True
    | 14 => v = .int .i64 m
    | 15 => v = .int .i64 (m + 1)
    | 16 => True
    | 17 => v = .int .i64 ((m : Int) + 1)
    | _ => v = .int .i64 0) (fun ls vs wz => JS wb wz vb xb (.cells #[.bool false, .slice al n c] 40 (0, 0)) L G0 (ls 13) (ls 16) (vs 13)) (by kernel_rfl) (by kernel_rfl) (by rw [hsz]; kernel_rfl) ?_ ?_ ?_
  · exact (JS.any HJ0.out).ext (Ext.refl _).drew
  · refine ⟨?_, ?_, ?_, ?_, ?_, ?_, ?_, ?_, ?_, ?_, ?_, ?_, ?_, ?_, ?_, ?_, ?_, ?_, ?_, trivial⟩
    · intro ls vs a w1 hi hJ hold hdep K hK
      have q6 : a.tmps[6]?.getD undef = .pointer (some ⟨vb, 0, none⟩) := (hold 6 (by kernel_rfl)).trans o6
      rw [if_pos (by rfl)]
      clear hold hdep hend o1 o2 o3 o4 o5 o6 o12 o16 o18
      have HJ := Lib.hid hJ
      clear hJ
      obtain ⟨z0, z1⟩ := obj_cells2 HJ.out.bv
      have E1 := Ext.refl w1
      go_simp
      exact hK _ _ (fun _ _ _ h => h) HJ.out rfl
    · intro ls vs a w1 hi hJ hold hdep K hK
      have q1 : a.tmps[1]?.getD undef = .string nm := (hold 1 (by kernel_rfl)).trans o1
      rw [if_pos (by rfl)]
      clear hold hdep hend o1 o2 o3 o4 o5 o6 o12 o16 o18
      have HJ := Lib.hid hJ
      clear hJ
      go_simp
      exact hK _ _ (fun _ _ _ h => h) HJ.out rfl
    · intro ls vs a w1 hi hJ hold hdep K hK
      have q2 : a.tmps[2]?.getD undef = .string ps := (hold 2 (by kernel_rfl)).trans o2
      rw [if_pos (by rfl)]
      clear hold hdep hend o1 o2 o3 o4 o5 o6 o12 o16 o18
      have HJ := Lib.hid hJ
      clear hJ
      go_simp
      exact hK _ _ (fun _ _ _ h => h) HJ.out rfl
    · intro ls vs a w1 hi hJ hold hdep K hK
      have q59 : a.tmps[59]?.getD undef = .string nm := (hdep 1 59 (by kernel_rfl) (by kernel_rfl)).2.1.trans (hdep 1 59 (by kernel_rfl) (by kernel_rfl)).2.2
      have q60 : a.tmps[60]?.getD undef = .string ps := (hdep 2 60 (by kernel_rfl) (by kernel_rfl)).2.1.trans (hdep 2 60 (by kernel_rfl) (by kernel_rfl)).2.2
      rw [if_pos (by rfl)]
      clear hold hdep hend o1 o2 o3 o4 o5 o6 o12 o16 o18
      have HJ := Lib.hid hJ
      clear hJ
      have hx := HJ.out.x
      go_simp
      go_at_call 17
      (with_reducible refine (HK.out _ hx).mono ?_); rintro e w20 ⟨rfl, he⟩
      exact hK _ _ (fun j u _ h => by
            match j, h with
            | 0, h | 1, h | 2, h | 3, h | 4, h | 5, h | 6, h | 7, h | 8, h | 9, h | 10, h | 11, h | 13, h | 14, h | 15, h | 16, h | 17, h => exact h
            | 12, h => obtain ⟨ba, bc, h1, h2, h3⟩ := h; exact ⟨ba, bc, h1, h2.ext he, h3⟩
            | (n + 18), h => exact h) (HJ.out.ext he) rfl
    · intro ls vs a w1 hi hJ hold hdep K hK
      have q1 : a.tmps[1]?.getD undef = .string nm := (hold 1 (by kernel_rfl)).trans o1
      rw [if_pos (by rfl)]
      clear hold hdep hend o1 o2 o3 o4 o5 o6 o12 o16 o18
      have HJ := Lib.hid hJ
      clear hJ
      go_simp
      exact hK _ _ (fun _ _ _ h => h) HJ.out rfl
    · intro ls vs a w1 hi hJ hold hdep K hK
      have q3 : a.tmps[3]?.getD undef = .string kd := (hold 3 (by kernel_rfl)).trans o3
      rw [if_pos (by rfl)]
      clear hold hdep hend o1 o2 o3 o4 o5 o6 o12 o16 o18
      have HJ := Lib.hid hJ
      clear hJ
      go_simp
      exact hK _ _ (fun _ _ _ h => h) HJ.out rfl
    · intro ls vs a w1 hi hJ hold hdep K hK
      have q18 : a.tmps[18]?.getD undef = .int .i64 m := (hold 18 (by kernel_rfl)).trans o18
      rw [if_pos (by rfl)]
      clear hold hdep hend o1 o2 o3 o4 o5 o6 o12 o16 o18
      have HJ := Lib.hid hJ
      clear hJ
      go_simp
      exact hK _ _ (fun _ _ _ h => h) HJ.out rfl
    · intro ls vs a w1 hi hJ hold hdep K hK
      have q64 : a.tmps[64]?.getD undef = .int .i64 m := (hdep 6 64 (by kernel_rfl) (by kernel_rfl)).2.1.trans (hdep 6 64 (by kernel_rfl) (by kernel_rfl)).2.2
      rw [if_pos (by rfl)]
      clear hold hdep hend o1 o2 o3 o4 o5 o6 o12 o16 o18
      have HJ := Lib.hid hJ
      clear hJ
      go_simp
      rw [IntWalk.i64_in _ (by omega)]
      exact hK _ _ (fun _ _ _ h => h) HJ.out rfl
    · intro ls vs a w1 hi hJ hold hdep K hK
      have q16 : a.tmps[16]?.getD undef = .int .i64 dy := (hold 16 (by kernel_rfl)).trans o16
      rw [if_pos (by rfl)]
      clear hold hdep hend o1 o2 o3 o4 o5 o6 o12 o16 o18
      have HJ := Lib.hid hJ
      clear hJ
      go_simp
      exact hK _ _ (fun _ _ _ h => h) HJ.out rfl
    · intro ls vs a w1 hi hJ hold hdep K hK
      have q4 : a.tmps[4]?.getD undef = .int .i64 un := (hold 4 (by kernel_rfl)).trans o4
      rw [if_pos (by rfl)]
      clear hold hdep hend o1 o2 o3 o4 o5 o6 o12 o16 o18
      have HJ := Lib.hid hJ
      clear hJ
      go_simp
      exact hK _ _ (fun _ _ _ h => h) HJ.out rfl
    · intro ls vs a w1 hi hJ hold hdep K hK
      have q62 : a.tmps[62]?.getD undef = .string nm := (hdep 4 62 (by kernel_rfl) (by kernel_rfl)).2.1.trans (hdep 4 62 (by kernel_rfl) (by kernel_rfl)).2.2
      have q63 : a.tmps[63]?.getD undef = .string kd := (hdep 5 63 (by kernel_rfl) (by kernel_rfl)).2.1.trans (hdep 5 63 (by kernel_rfl) (by kernel_rfl)).2.2
      have q65 : a.tmps[65]?.getD undef = .int .i64 (m + 1) := (hdep 7 65 (by kernel_rfl) (by kernel_rfl)).2.1.trans (hdep 7 65 (by kernel_rfl) (by kernel_rfl)).2.2
      have q66 : a.tmps[66]?.getD undef = .int .i64 dy := (hdep 8 66 (by kernel_rfl) (by kernel_rfl)).2.1.trans (hdep 8 66 (by kernel_rfl) (by kernel_rfl)).2.2
      have q67 : a.tmps[67]?.getD undef = .int .i64 un := (hdep 9 67 (by kernel_rfl) (by kernel_rfl)).2.1.trans (hdep 9 67 (by kernel_rfl) (by kernel_rfl)).2.2
      rw [if_pos (by rfl)]
      clear hold hdep hend o1 o2 o3 o4 o5 o6 o12 o16 o18
      have HJ := Lib.hid hJ
      clear hJ
      go_simp
      exact hK _ _ (fun _ _ _ h => h) HJ.out rfl
    · intro ls vs a w1 hi hJ hold hdep K hK
      have q5 : a.tmps[5]?.getD undef = .string tx := (hold 5 (by kernel_rfl)).trans o5
      rw [if_pos (by rfl)]
      clear hold hdep hend o1 o2 o3 o4 o5 o6 o12 o16 o18
      have HJ := Lib.hid hJ
      clear hJ
      go_simp
      exact hK _ _ (fun _ _ _ h => h) HJ.out rfl
    · intro ls vs a w1 hi hJ hold hdep K hK
      have q61 : a.tmps[61]?.getD undef = u64 kn := (hdep 3 61 (by kernel_rfl) (by kernel_rfl)).2.1.trans (hdep 3 61 (by kernel_rfl) (by kernel_rfl)).2.2
      have q68 : a.tmps[68]?.getD undef = .agg #[.int .u8 3, .string nm, .string kd, .int .i64 ((m : Int) + 1), .int .i64 1, .int .i64 dy, .int .i64 un, .slice none 0 0, .int .u64 0, .int .u64 0] := (hdep 10 68 (by kernel_rfl) (by kernel_rfl)).2.1.trans (hdep 10 68 (by kernel_rfl) (by kernel_rfl)).2.2
      have q69 : a.tmps[69]?.getD undef = .string tx := (hdep 11 69 (by kernel_rfl) (by kernel_rfl)).2.1.trans (hdep 11 69 (by kernel_rfl) (by kernel_rfl)).2.2
      rw [if_pos (by rfl)]
      clear hold hdep hend o1 o2 o3 o4 o5 o6 o12 o16 o18
      have HJ := Lib.hid hJ
      clear hJ
      have hx := HJ.out.x
      go_simp
      go_at_call 81
      (with_reducible refine (HS.out _ hx).mono ?_); rintro e w20 ⟨ba, bc, rfl, he, hb⟩
      exact hK _ _ (fun j u _ h => by
            match j, h with
            | 0, h | 1, h | 2, h | 3, h | 4, h | 5, h | 6, h | 7, h | 8, h | 9, h | 10, h | 11, h | 13, h | 14, h | 15, h | 16, h | 17, h => exact h
            | 12, h => obtain ⟨ba, bc, h1, h2, h3⟩ := h; exact ⟨ba, bc, h1, h2.ext he, h3⟩
            | (n + 18), h => exact h) (HJ.out.ext he) ⟨_, _, rfl, hb.byts.1, FrB.own hb hx⟩
    · intro ls vs a w1 hi hJ hold hdep K hK
      have q58 : a.tmps[58]?.getD undef = .agg #[.bool false, .slice al n c] := (hdep 0 58 (by kernel_rfl) (by kernel_rfl)).2.1.trans (hdep 0 58 (by kernel_rfl) (by kernel_rfl)).2.2
      obtain ⟨hl12, q70, p70⟩ := hdep 12 70 (by kernel_rfl) (by kernel_rfl)
      rw [if_pos (by rfl)]
      clear hold hdep hend o1 o2 o3 o4 o5 o6 o12 o16 o18
      have HJ := Lib.hid hJ
      clear hJ
      have hx := HJ.out.x
      have j1 := HJ.out
      have hi13 : ls 13 = false := hi
      rw [hi13] at j1
      obtain ⟨ba, bc, k1, k2, k3⟩ := p70
      rw [k1] at q70
      go_simp
      go_at_call 78
      (with_reducible refine (HW.out _ ba bc hx k2 k3).mono ?_); rintro e w20 hr
      obtain ⟨v, rfl, he, hj⟩ := j1.call hr
      exact hK _ _ (fun j u _ h => by
            match j, h with
            | 0, h | 1, h | 2, h | 3, h | 4, h | 5, h | 6, h | 7, h | 8, h | 9, h | 10, h | 11, h | 13, h | 14, h | 15, h | 16, h | 17, h => exact h
            | 12, h => obtain ⟨ba, bc, h1, h2, h3⟩ := h; exact ⟨ba, bc, h1, h2.ext he, h3⟩
            | (n + 18), h => exact h) hj trivial
    · intro ls vs a w1 hi hJ hold hdep K hK
      have q18 : a.tmps[18]?.getD undef = .int .i64 m := (hold 18 (by kernel_rfl)).trans o18
      rw [if_pos (by rfl)]
      clear hold hdep hend o1 o2 o3 o4 o5 o6 o12 o16 o18
      have HJ := Lib.hid hJ
      clear hJ
      go_simp
      exact hK _ _ (fun _ _ _ h => h) HJ.out rfl
    · intro ls vs a w1 hi hJ hold hdep K hK
      have q72 : a.tmps[72]?.getD undef = .int .i64 m := (hdep 14 72 (by kernel_rfl) (by kernel_rfl)).2.1.trans (hdep 14 72 (by kernel_rfl) (by kernel_rfl)).2.2
      rw [if_pos (by rfl)]
      clear hold hdep hend o1 o2 o3 o4 o5 o6 o12 o16 o18
      have HJ := Lib.hid hJ
      clear hJ
      go_simp
      rw [IntWalk.i64_in _ (by omega)]
      exact hK _ _ (fun _ _ _ h => h) HJ.out rfl
    · intro ls vs a w1 hi hJ hold hdep K hK
      have q12 : a.tmps[12]?.getD undef = .pointer (some ⟨xb, 0, none⟩) := (hold 12 (by kernel_rfl)).trans o12
      obtain ⟨hl13, q71, p71⟩ := hdep 13 71 (by kernel_rfl) (by kernel_rfl)
      rw [if_pos (by rfl)]
      clear hold hdep hend o1 o2 o3 o4 o5 o6 o12 o16 o18
      have HJ := Lib.hid hJ
      clear hJ
      have j1 := HJ.out
      have hi16 : ls 16 = false := hi
      rw [hl13, hi16] at j1
      obtain ⟨ra, rn, rc, hv, z0, z1, f1, hj, hoff⟩ := j1.store
      rw [hv] at q71
      go_simp
      refine hK undef _ (fun j u _ h => by
            match j, h with
            | 0, h | 1, h | 2, h | 3, h | 4, h | 5, h | 6, h | 7, h | 8, h | 9, h | 10, h | 11, h | 13, h | 14, h | 15, h | 16, h | 17, h => exact h
            | 12, h => obtain ⟨ba, bc, h1, h2, h3⟩ := h; exact ⟨ba, bc, h1, hoff _ _ h2, h3⟩
            | (n + 18), h => exact h) ?_ trivial
      show JS wb _ vb xb _ L G0 (ls 13) true (vs 13)
      rw [hl13]; exact hj
    · intro ls vs a w1 hi hJ hold hdep K hK
      have q73 : a.tmps[73]?.getD undef = .int .i64 (m + 1) := (hdep 15 73 (by kernel_rfl) (by kernel_rfl)).2.1.trans (hdep 15 73 (by kernel_rfl) (by kernel_rfl)).2.2
      rw [if_pos (by rfl)]
      clear hold hdep hend o1 o2 o3 o4 o5 o6 o12 o16 o18
      have HJ := Lib.hid hJ
      clear hJ
      go_simp
      exact hK _ _ (fun _ _ _ h => h) HJ.out rfl
    · intro ls vs a w1 hi hJ hold hdep K hK
      rw [if_pos (by rfl)]
      clear hold hdep hend o1 o2 o3 o4 o5 o6 o12 o16 o18
      have HJ := Lib.hid hJ
      clear hJ
      go_simp
      exact hK _ _ (fun _ _ _ h => h) HJ.out rfl
  · intro vs w9 ls9 hl9 hJ9 hφ
    have e0 := hφ 0 (by kernel_rfl)
    have e1 := hφ 1 (by kernel_rfl)
    have e2 := hφ 2 (by kernel_rfl)
    have e3 := hφ 3 (by kernel_rfl)
    have e4 := hφ 4 (by kernel_rfl)
    have e5 := hφ 5 (by kernel_rfl)
    have e6 := hφ 6 (by kernel_rfl)
    have e7 := hφ 7 (by kernel_rfl)
    have e8 := hφ 8 (by kernel_rfl)
    have e9 := hφ 9 (by kernel_rfl)
    have e10 := hφ 10 (by kernel_rfl)
    have e11 := hφ 11 (by kernel_rfl)
    have e12 := hφ 12 (by kernel_rfl)
    have e13 := hφ 13 (by kernel_rfl)
    have e14 := hφ 14 (by kernel_rfl)
    have e15 := hφ 15 (by kernel_rfl)
    have e17 := hφ 17 (by kernel_rfl)
    have e18 := hφ 18 (by kernel_rfl)
    have hq := hend vs w9 ls9 hl9 hJ9 e0 e1 e2 e3 e4 e5 e6 e7 e8 e9 e10 e11 e12 e13 e14 e15 e17 e18
    simp only [Act.put] at hq
    simp only [putAll, Act.put]
    exact hq
theorem sealE_0 {S : PV} {n p k t : ByteArray} {un : Int} (h : enterR S n p ≠ 0) : sealE S n p k un t = enterR S n p := by unfold sealE; rw [if_pos h]
theorem sealE_1 {S : PV} {n p k t : ByteArray} {un : Int} (h : enterR S n p = 0) (h1 : nameB k = false) : sealE S n p k un t = 4 := by unfold sealE; rw [if_neg (by simpa using h), if_pos h1]
theorem sealE_2 {S : PV} {n p k t : ByteArray} {un : Int} (h : enterR S n p = 0) (h1 : nameB k = true) (h2 : un < S.day ∨ 1000000 < un) : sealE S n p k un t = 3 := by unfold sealE; rw [if_neg (by simpa using h), if_neg (by simp [h1]), if_pos h2]
theorem sealE_3 {S : PV} {n p k t : ByteArray} {un : Int} (h : enterR S n p = 0) (h1 : nameB k = true) (h2 : ¬ (un < S.day ∨ 1000000 < un)) (h3 : 2000 < t.size) : sealE S n p k un t = 5 := by unfold sealE; rw [if_neg (by simpa using h), if_neg (by simp [h1]), if_neg h2, if_pos h3]
theorem sealE_4 {S : PV} {n p k t : ByteArray} {un : Int} (h : enterR S n p = 0) (h1 : nameB k = true) (h2 : ¬ (un < S.day ∨ 1000000 < un)) (h3 : ¬ 2000 < t.size) : sealE S n p k un t = if 30 ≤ recsN S n then 8 else 0 := by unfold sealE; rw [if_neg (by simpa using h), if_neg (by simp [h1]), if_neg h2, if_neg h3]
theorem sealS_no {S : PV} {n p k t : ByteArray} {un q : Int} (h : sealE S n p k un t = q) (h0 : q ≠ 0) : sealS S n p k un t = S := by unfold sealS; rw [h, if_neg h0]
theorem sealS_yes {S : PV} {n p k t : ByteArray} {un : Int} (h : sealE S n p k un t = 0) : (sealS S n p k un t).chain = S.chain ++ [chained S (sealL S n p k un t)] := by unfold sealS; rw [if_pos h, putS_chain]
theorem sealed_small {key : Nat} {l : Lk} {t : ByteArray} (h : t.size ≤ 2000) (h1 : l.cu.size ≤ 1000) (h2 : l.ki.size ≤ 1000) : SmL (sealedL key l t.data.toList) := ⟨h1, h2, by have := (sealed_body (key := key) (l := l) h).2.1; omega⟩
set_option maxRecDepth 100000 in
set_option maxHeartbeats 4000000 in
theorem rseal_any (S : PV) (al : Option Addr) (xs : List Lv) (c : Nat) (nm ps kd tx : ByteArray) (un : Int) (w : World) (hR : RvAt w S al xs) (hn : nm.size ≤ 1000) (hp : ps.size ≤ 1000) (hk : kd.size ≤ 1000) (ht : tx.size ≤ 1000000) (hu0 : -9223372036854775808 ≤ un) (hu1 : un ≤ 9223372036854775807) :
    Calls Try.prog 51 #[rv false al xs.length c, .string nm, .string ps, .string kd, .int .i64 un, .string tx] w (RetVEE (sealS S nm ps kd un tx).chain (Grow w al xs) (.int .i64 (if sealE S nm ps kd un tx = 0 then (recsN S nm : Int) + 1 else 0)) (.int .i64 (sealE S nm ps kd un tx)) w) := by
  have hen := hR.ent c nm ps (by omega) (by omega)
  have hdy := hR.day false c
  have hrc := hR.cnt false c nm
  have hkd := fun W => rname_any kd W (by unfold maxLen; omega)
  obtain ⟨en, hen2⟩ : ∃ z, z = enterR S nm ps := ⟨_, rfl⟩
  obtain ⟨dy, hdd⟩ : ∃ z, z = S.day := ⟨_, rfl⟩
  obtain ⟨ad, had⟩ : ∃ z, z = S.adv := ⟨_, rfl⟩
  obtain ⟨m, hm⟩ : ∃ z, z = recsN S nm := ⟨_, rfl⟩
  obtain ⟨b1, hb1⟩ : ∃ b, b = nameB kd := ⟨_, rfl⟩
  obtain ⟨n, hnn⟩ : ∃ z, z = xs.length := ⟨_, rfl⟩
  have s0 := sealE_0 (S := S) (n := nm) (p := ps) (k := kd) (t := tx) (un := un)
  have s1 := sealE_1 (S := S) (n := nm) (p := ps) (k := kd) (t := tx) (un := un)
  have s2 := sealE_2 (S := S) (n := nm) (p := ps) (k := kd) (t := tx) (un := un)
  have s3 := sealE_3 (S := S) (n := nm) (p := ps) (k := kd) (t := tx) (un := un)
  have s4 := sealE_4 (S := S) (n := nm) (p := ps) (k := kd) (t := tx) (un := un)
  obtain ⟨rn, hrn⟩ : ∃ z, z = (if sealE S nm ps kd un tx = 0 then (recsN S nm : Int) + 1 else 0) := ⟨_, rfl⟩
  rw [← hrn]
  rw [← hen2] at hen s0 s1 s2 s3 s4; rw [← hdd] at hdy s2 s3 s4; rw [← had] at hdy; rw [← hm] at hrc s4 hrn; rw [← hb1] at hkd s1 s2 s3 s4; rw [← hnn] at hen hdy hrc ⊢
  have HEN := Lib.hid hen; have HDY := Lib.hid hdy; have HRC := Lib.hid hrc; have HKD := Lib.hid hkd; have HR := Lib.hid hR; have HN := Lib.hid hnn
  have S0 := Lib.hid s0; have S1 := Lib.hid s1; have S2 := Lib.hid s2; have S3 := Lib.hid s3; have S4 := Lib.hid s4; have HRN := Lib.hid hrn; have HM := Lib.hid hm; have HDD := Lib.hid hdd
  have hN := Lib.hid hn; have hP := Lib.hid hp; have hKD := Lib.hid hk; have hU := Lib.hid (And.intro hu0 hu1)
  have htx2 : tx.size ≤ 9223372036854775807 := by omega
  clear hen hdy hrc hkd hen2 hdd had hm hb1 hnn hR s0 s1 s2 s3 s4 hrn hn hp hk
  go_enter Try.func51, Try.ntmps51
  go_upto_region 1 with fail
  generalize hw1 : World.alloc _ _ = w1
  obtain ⟨he, o1, o2, hs1⟩ := alloc2 hw1
  have O1 := Lib.hid o1; have O2 := Lib.hid o2; have HE := Lib.hid he
  obtain ⟨v0, v1⟩ := obj_cells2 o1
  obtain ⟨z0, z1⟩ := obj_cells2 o2
  have f1 := obj_free o2
  have E1 := Ext.refl w1
  clear hw1 o1 o2
  have hend : ∀ (W : World) (q : Int), Ext w1 W → sealE S nm ps kd un tx = q → q ≠ 0 → RetVEE (sealS S nm ps kd un tx).chain (Grow w al xs) (.int .i64 rn) (.int .i64 (sealE S nm ps kd un tx)) w (.returned (.tuple #[rv false al n c, .int .i64 0, .int .i64 q])) ((W.setCell ⟨w.heap.size + 1, 0, none⟩ (.bool false)).setCell ⟨w.heap.size + 1, 1, none⟩ (.slice al n c)) := fun W q e hq h0 => by
    obtain ⟨k1, k2⟩ := same40 (N := false) (c := c) HR.out.lk HR.out.ok HN.out (HE.out.trans e) (by omega) (e.block O2.out)
    rw [sealS_no hq h0, HRN.out, hq, if_neg h0]
    exact ⟨al, c, xs, by rw [HN.out], k1, k2, HR.out.ok, HR.out.ch, Grow.same _ _ _⟩
  have HEND := Lib.hid hend
  clear hend
  go_wp2_with (fail)
  (with_reducible refine (HEN.out _ he).mono ?_); rintro e w2 ⟨rfl, he2⟩
  have E2 := Ext.refl w2
  by_cases h0 : en = 0
  · subst h0
    go_wp2_with (fail)
    (with_reducible refine (HDY.out _ (he.trans he2)).mono ?_); rintro e w3 ⟨rfl, he3⟩
    have he13 := he2.trans he3
    have E3 := Ext.refl w3
    clear E2 he2 he3
    go_wp2_with (fail)
    (with_reducible refine (HRC.out _ (HE.out.trans he13)).mono ?_); rintro e w4 ⟨rfl, he4⟩
    have he14 := he13.trans he4
    have E4 := Ext.refl w4
    clear E3 he13 he4
    go_wp2_with (fail)
    (with_reducible refine (HKD.out _).mono ?_); rintro e w5 ⟨rfl, he5⟩
    have he15 := he14.trans he5
    have E5 := Ext.refl w5
    clear E4 he14 he5
    cases b1
    · go_wp2_with (fail)
      refine bodyPost_ret (v := .tuple #[rv false al n c, .int .i64 0, .int .i64 4]) (by simp [results, Try.results51, go_sem, z0 _ he15, z1 _ he15]) rfl (HEND.out w5 4 he15 (S1.out (by simp) (by simp)) (by omega))
    · by_cases h1 : un < dy
      · go_wp2_with (fail)
        refine bodyPost_ret (v := .tuple #[rv false al n c, .int .i64 0, .int .i64 3]) (by simp [results, Try.results51, go_sem, z0 _ he15, z1 _ he15]) rfl (HEND.out w5 3 he15 (S2.out (by simp) (by simp) (.inl h1)) (by omega))
      · by_cases h2 : 1000000 < un
        · go_wp2_with (fail)
          refine bodyPost_ret (v := .tuple #[rv false al n c, .int .i64 0, .int .i64 3]) (by simp [results, Try.results51, go_sem, z0 _ he15, z1 _ he15]) rfl (HEND.out w5 3 he15 (S2.out (by simp) (by simp) (.inr h2)) (by omega))
        · have hnd : Hid (¬ (un < dy ∨ 1000000 < un)) := by rw [Hid]; omega
          by_cases h3 : 2000 < tx.size
          · have h3' : (2000 : Int) < (tx.size : Int) := by omega
            go_wp2_with (fail)
            refine bodyPost_ret (v := .tuple #[rv false al n c, .int .i64 0, .int .i64 5]) (by simp [results, Try.results51, go_sem, z0 _ he15, z1 _ he15]) rfl (HEND.out w5 5 he15 (S3.out (by simp) (by simp) hnd.out h3) (by omega))
          · have h3' : ¬ (2000 : Int) < (tx.size : Int) := by omega
            have h4 := S4.out (by simp) (by simp) hnd.out h3
            by_cases h5 : 30 ≤ m
            · rw [if_pos h5] at h4
              have H4 := Lib.hid h4
              have h5' : (30 : Int) ≤ (m : Int) := by omega
              clear h4
              go_wp2_with (fail)
              refine bodyPost_ret (v := .tuple #[rv false al n c, .int .i64 0, .int .i64 8]) (by simp [results, Try.results51, go_sem, z0 _ he15, z1 _ he15]) rfl (HEND.out w5 8 he15 H4.out (by omega))
            · rw [if_neg h5] at h4
              have hch := sealS_yes h4
              have hrn := HRN.out
              rw [if_pos h4] at hrn
              have H4 := Lib.hid h4; have HCHN := Lib.hid hch; have HRN2 := Lib.hid hrn
              have h5' : ¬ (30 : Int) ≤ (m : Int) := by omega
              have hm : m ≤ 100 := by omega
              have HJ0 := Lib.hid (JS.start (L := S.chain ++ [chained S (sealL S nm ps kd un tx)]) (G := Grow w al xs) (HE.out.trans he15) (show w.heap.size ≤ w.heap.size + 1 by omega) (show w.heap.size ≠ w.heap.size + 1 by omega) (he15.block O1.out) (he15.block O2.out) undef)
              have HK : Hid (∀ W, Ext w W → Calls Try.prog 17 #[.string nm, .string ps] W (Ret (u64 (keyN nm ps)) W)) := fun W e => rkey_any nm ps W (by have := hN.out; omega) (by have := hP.out; omega)
              have hl0 : LkOk (sealL0 S nm kd un) := sealL0_ok HR.out.good (by rw [← HM.out]; omega) (by have := hN.out; unfold maxLen; omega) (by have := hKD.out; unfold maxLen; omega) hU.out.1 hU.out.2
              have HS : Hid (∀ W, Ext w W → Calls Try.prog 81 #[u64 (keyN nm ps), .agg #[.int .u8 3, .string nm, .string kd, .int .i64 ((m : Int) + 1), .int .i64 1, .int .i64 dy, .int .i64 un, .slice none 0 0, .int .u64 0, .int .u64 0], .string tx] W (RetCp (sealL S nm ps kd un tx) W)) := fun W e => by
                rw [HM.out, HDD.out]
                exact rsealed_any (keyN nm ps) ⟨sealL0 S nm kd un, none, 0⟩ tx W (p61_64 (keyN_lt _ _)) hl0 (by have := hKD.out; show kd.size ≤ _; omega) (by omega)
              have HW : Hid (∀ W ba bc, Ext w W → Byts W ba (sealL S nm ps kd un tx).bo → FrB w ba → Calls Try.prog 78 #[.agg #[.bool false, .slice al n c], lval ⟨sealL S nm ps kd un tx, ba, bc⟩] W (RetV (S.chain ++ [chained S (sealL S nm ps kd un tx)]) (Grow w al xs) W)) := fun W ba bc e hb hf => by
                have := HR.out.put false c ⟨sealL S nm ps kd un tx, ba, bc⟩ W e (sealed_ok hl0 (by omega)) (sealed_small (by omega) (by have := hN.out; exact this) (by have := hKD.out; exact this)) hb hf
                rw [← HN.out] at this
                exact this
              clear h4 hch he15 hl0 hrn
              go_upto_region 14 with fail
              refine l51_14 HJ0 HK HS HW hm _ (by rfl) rfl rfl rfl rfl rfl rfl rfl rfl rfl ?_
              intro vs w9 ls9 hl9 hJ9 e0 e1 e2 e3 e4 e5 e6 e7 e8 e9 e10 e11 e12 e13 e14 e15 e17 e18
              simp only [Act.put, List.setIfInBounds_toArray, List.set_cons_zero, List.set_cons_succ]
              rw [e0, e1, e2, e3, e4, e5, e6, e7, e8, e9, e10, e11, e14, e15, e17, e18]
              obtain ⟨ra, rc, ys, hv, h1, h2, h3, h6, h4⟩ := hJ9.ac (hl9 13 (by omega))
              have hb := h4 (hl9 16 (by omega))
              rw [hv]
              obtain ⟨y0, y1⟩ := obj_cells2 hb
              replace y0 := y0 w9 (Ext.refl _)
              replace y1 := y1 w9 (Ext.refl _)
              have HXX := Lib.hid hJ9.x; have HL1 := Lib.hid h1; have HL2 := Lib.hid h2; have HL3 := Lib.hid h3; have HL6 := Lib.hid h6
              obtain ⟨L, hL⟩ : ∃ L, L = ys.length := ⟨_, rfl⟩
              rw [← hL] at y1 ⊢
              have HLL := Lib.hid hL
              clear hJ9 hl9 e0 e1 e2 e3 e4 e5 e6 e7 e8 e9 e10 e11 e12 e13 e14 e15 e17 e18 hb h1 h2 h3 h4 h6 hv hL z0 z1 f1 v0 v1 E1 E5
              go_wp2_with (fail)
              refine bodyPost_ret (v := .tuple #[rv false ra L rc, .int .i64 ((m : Int) + 1), .int .i64 0]) (by simp [results, Try.results51, go_sem, y0, y1]) rfl ⟨ra, rc, ys, by rw [HLL.out, H4.out, HRN2.out], HXX.out, HL1.out, HL2.out, by rw [HL3.out, HCHN.out], HL6.out⟩
  · have h0' : (en == 0) = false := by simpa using h0
    go_wp2_with (fail)
    refine bodyPost_ret (v := .tuple #[rv false al n c, .int .i64 0, .int .i64 en]) (by simp [results, Try.results51, go_sem, z0 _ he2, z1 _ he2]) rfl (HEND.out w2 en he2 (S0.out h0) h0)
end Go.Proofs.Ytlahejakcgoheaa
