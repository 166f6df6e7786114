/-
  Walks of the reference: Borrow.
-/
import Derived.Test.YtlahejakcgoheaaRW
set_option linter.unusedVariables false
set_option linter.unusedSimpArgs false
namespace Go.Proofs.Ytlahejakcgoheaa
open Go.RowKit
set_option maxRecDepth 100000 in
set_option maxHeartbeats 4000000 in
theorem l56_7 {b o n1 c1 sk : Nat} {sh tb : ByteArray} {b1 b2 : Bool} {x : Lv} {wb w0 : World} (HB0 : Hid (Ext wb w0)) (hn1 : 0 < n1) (hsh : sh.size ≤ 1000000) (HD : Hid (∀ W a' c', Ext wb W → Byts W a' sh.data.toList → Calls Try.prog 15 #[.int .u64 3, .slice a' sh.size c'] W (Ret (u64 sk) W))) (HL : Hid (∀ W, Ext wb W → LinkC W b o x)) (HU : Hid (∀ W, Ext wb W → Calls Try.prog 84 #[u64 sk, lval x] W (Ret (.tuple #[.string tb, .bool b1, .bool b2]) W))) {Q : Exit → Act → World → Prop} (aZ : Act) (hsz : aZ.tmps.size = 63) (o5 : aZ.tmps[5]?.getD undef = .string sh) (o16 : aZ.tmps[16]?.getD undef = .slice (some ⟨b, o, none⟩) n1 c1)
    (hend : ∀ (vs : Nat → Value) (w9 : World) (ls9 : Nat → Bool), (∀ j : Nat, j < 14 → ls9 j = true) → (Ext wb w9) → (vs 0 = .string sh) → (∃ g c', vs 1 = .slice (some ⟨g, 0, none⟩) sh.size c' ∧ Byts w9 (some ⟨g, 0, none⟩) sh.data.toList) → (vs 2 = u64 sk) → (vs 3 = .slice (some ⟨b, o, none⟩) n1 c1) → (vs 4 = .pointer (some ⟨b, o, none⟩)) → (vs 5 = lval x) → (vs 6 = .tuple #[.string tb, .bool b1, .bool b2]) → (vs 7 = .tuple #[.string tb, .bool b1, .bool b2]) → (vs 8 = .string tb) → (vs 9 = .bool b1) → (vs 10 = .bool b2) → (vs 11 = .string tb) → (vs 12 = .bool b1) → (vs 13 = .bool b2) → Q .normal ((((((((((((((aZ.put (some 39) (vs 0)).put (some 40) (vs 1)).put (some 41) (vs 2)).put (some 42) (vs 3)).put (some 43) (vs 4)).put (some 44) (vs 5)).put (some 45) (vs 6)).put (some 38) (vs 7)).put (some 46) (vs 8)).put (some 47) (vs 9)).put (some 48) (vs 10)).put (some 17) (vs 11)).put (some 18) (vs 12)).put (some 19) (vs 13)) w9) : (regOf Try.f56 7).wp Try.prog Q aZ w0 := by
  conv => arg 2; whnf
  refine wp_region_said3 (fun i v wz => match i with
    | 0 => v = .string sh
    | 1 => ∃ g c', v = .slice (some ⟨g, 0, none⟩) sh.size c' ∧ Byts wz (some ⟨g, 0, none⟩) sh.data.toList
    | 2 => v = u64 sk
    | 3 => v = .slice (some ⟨b, o, none⟩) n1 c1
    | 4 => v = .pointer (some ⟨b, o, none⟩)
    | 5 => v = lval x
    | 6 => v = .tuple #[.string tb, .bool b1, .bool b2]
    | 7 => v = .tuple #[.string tb, .bool b1, .bool b2]
    | 8 => v = .string tb
    | 9 => v = .bool b1
    | 10 => v = .bool b2
    | 11 => v = .string tb
    | 12 => v = .bool b1
    | _ => v = .bool b2) (fun ls vs wz => Ext wb wz) (by kernel_rfl) (by kernel_rfl) (by rw [hsz]; kernel_rfl) ?_ ?_ ?_
  · exact HB0.out.trans (Ext.refl _).drew
  · refine ⟨?_, ?_, ?_, ?_, ?_, ?_, ?_, ?_, ?_, ?_, ?_, ?_, ?_, ?_, trivial⟩
    · intro ls vs a w1 hi hJ hold hdep K hK
      have q5 : a.tmps[5]?.getD undef = .string sh := (hold 5 (by kernel_rfl)).trans o5
      rw [if_pos (by rfl)]
      clear hold hdep hend o5 o16
      go_simp
      exact hK _ _ (fun _ _ _ h => h) hJ rfl
    · intro ls vs a w1 hi hJ hold hdep K hK
      have q39 : a.tmps[39]?.getD undef = .string sh := (hdep 0 39 (by kernel_rfl) (by kernel_rfl)).2.1.trans (hdep 0 39 (by kernel_rfl) (by kernel_rfl)).2.2
      rw [if_pos (by rfl)]
      clear hold hdep hend o5 o16
      go_simp
      obtain ⟨he, o1, z1⟩ := bytesW_facts w1 sh (by unfold maxLen; omega)
      exact hK _ _ (fun j u _ h => by
            match j, h with
            | 0, h | 2, h | 3, h | 4, h | 5, h | 6, h | 7, h | 8, h | 9, h | 10, h | 11, h | 12, h => exact h
            | 1, h => obtain ⟨g, c', h1, h2⟩ := h; exact ⟨g, c', h1, h2.ext he⟩
            | (n + 13), h => exact h) (hJ.trans he) ⟨_, _, rfl, o1.byts.1⟩
    · intro ls vs a w1 hi hJ hold hdep K hK
      obtain ⟨hl1, q40, p40⟩ := hdep 1 40 (by kernel_rfl) (by kernel_rfl)
      rw [if_pos (by rfl)]
      clear hold hdep hend o5 o16
      obtain ⟨g, c', k1, k2⟩ := p40
      rw [k1] at q40
      go_simp
      go_at_call 15
      (with_reducible refine (HD.out _ _ _ hJ k2).mono ?_); rintro e w20 ⟨rfl, he⟩
      exact hK _ _ (fun j u _ h => by
            match j, h with
            | 0, h | 2, h | 3, h | 4, h | 5, h | 6, h | 7, h | 8, h | 9, h | 10, h | 11, h | 12, h => exact h
            | 1, h => obtain ⟨g, c', h1, h2⟩ := h; exact ⟨g, c', h1, h2.ext he⟩
            | (n + 13), h => exact h) (hJ.trans he) rfl
    · intro ls vs a w1 hi hJ hold hdep K hK
      have q16 : a.tmps[16]?.getD undef = .slice (some ⟨b, o, none⟩) n1 c1 := (hold 16 (by kernel_rfl)).trans o16
      rw [if_pos (by rfl)]
      clear hold hdep hend o5 o16
      go_simp
      exact hK _ _ (fun _ _ _ h => h) hJ rfl
    · intro ls vs a w1 hi hJ hold hdep K hK
      have q42 : a.tmps[42]?.getD undef = .slice (some ⟨b, o, none⟩) n1 c1 := (hdep 3 42 (by kernel_rfl) (by kernel_rfl)).2.1.trans (hdep 3 42 (by kernel_rfl) (by kernel_rfl)).2.2
      rw [if_pos (by rfl)]
      clear hold hdep hend o5 o16
      go_simp
      exact hK _ _ (fun _ _ _ h => h) hJ rfl
    · intro ls vs a w1 hi hJ hold hdep K hK
      have q43 : a.tmps[43]?.getD undef = .pointer (some ⟨b, o, none⟩) := (hdep 4 43 (by kernel_rfl) (by kernel_rfl)).2.1.trans (hdep 4 43 (by kernel_rfl) (by kernel_rfl)).2.2
      rw [if_pos (by rfl)]
      clear hold hdep hend o5 o16
      obtain ⟨c0, c1, c2, c3, c4, c5, c6, c7, c8, c9⟩ := HL.out w1 hJ
      go_simp
      exact hK _ _ (fun _ _ _ h => h) hJ rfl
    · intro ls vs a w1 hi hJ hold hdep K hK
      have q41 : a.tmps[41]?.getD undef = u64 sk := (hdep 2 41 (by kernel_rfl) (by kernel_rfl)).2.1.trans (hdep 2 41 (by kernel_rfl) (by kernel_rfl)).2.2
      have q44 : a.tmps[44]?.getD undef = lval x := (hdep 5 44 (by kernel_rfl) (by kernel_rfl)).2.1.trans (hdep 5 44 (by kernel_rfl) (by kernel_rfl)).2.2
      rw [if_pos (by rfl)]
      clear hold hdep hend o5 o16
      go_simp
      go_at_call 84
      (with_reducible refine (HU.out _ hJ).mono ?_); rintro e w20 ⟨rfl, he⟩
      exact hK _ _ (fun j u _ h => by
            match j, h with
            | 0, h | 2, h | 3, h | 4, h | 5, h | 6, h | 7, h | 8, h | 9, h | 10, h | 11, h | 12, h => exact h
            | 1, h => obtain ⟨g, c', h1, h2⟩ := h; exact ⟨g, c', h1, h2.ext he⟩
            | (n + 13), h => exact h) (hJ.trans he) rfl
    · intro ls vs a w1 hi hJ hold hdep K hK
      have q45 : a.tmps[45]?.getD undef = .tuple #[.string tb, .bool b1, .bool b2] := (hdep 6 45 (by kernel_rfl) (by kernel_rfl)).2.1.trans (hdep 6 45 (by kernel_rfl) (by kernel_rfl)).2.2
      rw [if_pos (by rfl)]
      clear hold hdep hend o5 o16
      go_simp
      exact hK _ _ (fun _ _ _ h => h) hJ rfl
    · intro ls vs a w1 hi hJ hold hdep K hK
      have q38 : a.tmps[38]?.getD undef = .tuple #[.string tb, .bool b1, .bool b2] := (hdep 7 38 (by kernel_rfl) (by kernel_rfl)).2.1.trans (hdep 7 38 (by kernel_rfl) (by kernel_rfl)).2.2
      rw [if_pos (by rfl)]
      clear hold hdep hend o5 o16
      go_simp
      exact hK _ _ (fun _ _ _ h => h) hJ rfl
    · intro ls vs a w1 hi hJ hold hdep K hK
      have q38 : a.tmps[38]?.getD undef = .tuple #[.string tb, .bool b1, .bool b2] := (hdep 7 38 (by kernel_rfl) (by kernel_rfl)).2.1.trans (hdep 7 38 (by kernel_rfl) (by kernel_rfl)).2.2
      rw [if_pos (by rfl)]
      clear hold hdep hend o5 o16
      go_simp
      exact hK _ _ (fun _ _ _ h => h) hJ rfl
    · intro ls vs a w1 hi hJ hold hdep K hK
      have q38 : a.tmps[38]?.getD undef = .tuple #[.string tb, .bool b1, .bool b2] := (hdep 7 38 (by kernel_rfl) (by kernel_rfl)).2.1.trans (hdep 7 38 (by kernel_rfl) (by kernel_rfl)).2.2
      rw [if_pos (by rfl)]
      clear hold hdep hend o5 o16
      go_simp
      exact hK _ _ (fun _ _ _ h => h) hJ rfl
    · intro ls vs a w1 hi hJ hold hdep K hK
      have q46 : a.tmps[46]?.getD undef = .string tb := (hdep 8 46 (by kernel_rfl) (by kernel_rfl)).2.1.trans (hdep 8 46 (by kernel_rfl) (by kernel_rfl)).2.2
      rw [if_pos (by rfl)]
      clear hold hdep hend o5 o16
      go_simp
      exact hK _ _ (fun _ _ _ h => h) hJ rfl
    · intro ls vs a w1 hi hJ hold hdep K hK
      have q47 : a.tmps[47]?.getD undef = .bool b1 := (hdep 9 47 (by kernel_rfl) (by kernel_rfl)).2.1.trans (hdep 9 47 (by kernel_rfl) (by kernel_rfl)).2.2
      rw [if_pos (by rfl)]
      clear hold hdep hend o5 o16
      go_simp
      exact hK _ _ (fun _ _ _ h => h) hJ rfl
    · intro ls vs a w1 hi hJ hold hdep K hK
      have q48 : a.tmps[48]?.getD undef = .bool b2 := (hdep 10 48 (by kernel_rfl) (by kernel_rfl)).2.1.trans (hdep 10 48 (by kernel_rfl) (by kernel_rfl)).2.2
      rw [if_pos (by rfl)]
      clear hold hdep hend o5 o16
      go_simp
      exact hK _ _ (fun _ _ _ h => h) hJ rfl
  · intro vs w9 ls9 hl9 hJ9 hφ
    have e0 := hφ 0 (by kernel_rfl)
    have e1 := hφ 1 (by kernel_rfl)
    have e2 := hφ 2 (by kernel_rfl)
    have e3 := hφ 3 (by kernel_rfl)
    have e4 := hφ 4 (by kernel_rfl)
    have e5 := hφ 5 (by kernel_rfl)
    have e6 := hφ 6 (by kernel_rfl)
    have e7 := hφ 7 (by kernel_rfl)
    have e8 := hφ 8 (by kernel_rfl)
    have e9 := hφ 9 (by kernel_rfl)
    have e10 := hφ 10 (by kernel_rfl)
    have e11 := hφ 11 (by kernel_rfl)
    have e12 := hφ 12 (by kernel_rfl)
    have e13 := hφ 13 (by kernel_rfl)
    have hq := hend vs w9 ls9 hl9 hJ9 e0 e1 e2 e3 e4 e5 e6 e7 e8 e9 e10 e11 e12 e13
    simp only [Act.put] at hq
    simp only [putAll, Act.put]
    exact hq
set_option maxRecDepth 100000 in
set_option maxHeartbeats 4000000 in
theorem l56_10 {vb n c : Nat} {al : Option Addr} {fr : ByteArray} {num : Int} {g : Bool} {R : List Lk} {wb w0 : World} (HB0 : Hid (Ext wb w0)) (h0 : ∀ W, Ext wb W → W.cell? ⟨vb, 0, none⟩ = some (.bool false)) (h1 : ∀ W, Ext wb W → W.cell? ⟨vb, 1, none⟩ = some (.slice al n c)) (HV : Hid (∀ W, Ext wb W → Calls Try.prog 82 #[.agg #[.bool false, .slice al n c], .string fr, .int .i64 num] W (RetR R W))) (HG : Hid (∀ W la lc (ys : List Lv), Ext wb W → Links W la ys → lks ys = R → Calls Try.prog 83 #[.agg #[.bool false, .slice al n c], .slice la ys.length lc] W (Ret (.bool g) W))) {Q : Exit → Act → World → Prop} (aZ : Act) (hsz : aZ.tmps.size = 63) (o3 : aZ.tmps[3]?.getD undef = .string fr) (o4 : aZ.tmps[4]?.getD undef = .int .i64 num) (o6 : aZ.tmps[6]?.getD undef = .pointer (some ⟨vb, 0, none⟩))
    (hend : ∀ (vs : Nat → Value) (w9 : World) (ls9 : Nat → Bool), (∀ j : Nat, j < 7 → ls9 j = true) → (Ext wb w9) → (vs 0 = .agg #[.bool false, .slice al n c]) → (vs 1 = .agg #[.bool false, .slice al n c]) → (vs 2 = .string fr) → (vs 3 = .int .i64 num) → (∃ la lc ys, vs 4 = .slice la ys.length lc ∧ Links w9 la ys ∧ lks ys = R) → (vs 5 = .bool g) → (vs 6 = .bool g) → Q .normal (((((((aZ.put (some 53) (vs 0)).put (some 54) (vs 1)).put (some 55) (vs 2)).put (some 56) (vs 3)).put (some 57) (vs 4)).put (some 58) (vs 5)).put (some 52) (vs 6)) w9) : (regOf Try.f56 10).wp Try.prog Q aZ w0 := by
  conv => arg 2; whnf
  refine wp_region_said3 (fun i v wz => match i with
    | 0 => v = .agg #[.bool false, .slice al n c]
    | 1 => v = .agg #[.bool false, .slice al n c]
    | 2 => v = .string fr
    | 3 => v = .int .i64 num
    | 4 => ∃ la lc ys, v = .slice la ys.length lc ∧ Links wz la ys ∧ lks ys = R
    | 5 => v = .bool g
    | _ => v = .bool g) (fun ls vs wz => Ext wb wz) (by kernel_rfl) (by kernel_rfl) (by rw [hsz]; kernel_rfl) ?_ ?_ ?_
  · exact HB0.out.trans (Ext.refl _).drew
  · refine ⟨?_, ?_, ?_, ?_, ?_, ?_, ?_, trivial⟩
    · intro ls vs a w1 hi hJ hold hdep K hK
      have q6 : a.tmps[6]?.getD undef = .pointer (some ⟨vb, 0, none⟩) := (hold 6 (by kernel_rfl)).trans o6
      rw [if_pos (by rfl)]
      clear hold hdep hend o3 o4 o6
      go_simp
      exact hK _ _ (fun _ _ _ h => h) hJ rfl
    · intro ls vs a w1 hi hJ hold hdep K hK
      have q6 : a.tmps[6]?.getD undef = .pointer (some ⟨vb, 0, none⟩) := (hold 6 (by kernel_rfl)).trans o6
      rw [if_pos (by rfl)]
      clear hold hdep hend o3 o4 o6
      go_simp
      exact hK _ _ (fun _ _ _ h => h) hJ rfl
    · intro ls vs a w1 hi hJ hold hdep K hK
      have q3 : a.tmps[3]?.getD undef = .string fr := (hold 3 (by kernel_rfl)).trans o3
      rw [if_pos (by rfl)]
      clear hold hdep hend o3 o4 o6
      go_simp
      exact hK _ _ (fun _ _ _ h => h) hJ rfl
    · intro ls vs a w1 hi hJ hold hdep K hK
      have q4 : a.tmps[4]?.getD undef = .int .i64 num := (hold 4 (by kernel_rfl)).trans o4
      rw [if_pos (by rfl)]
      clear hold hdep hend o3 o4 o6
      go_simp
      exact hK _ _ (fun _ _ _ h => h) hJ rfl
    · intro ls vs a w1 hi hJ hold hdep K hK
      have q54 : a.tmps[54]?.getD undef = .agg #[.bool false, .slice al n c] := (hdep 1 54 (by kernel_rfl) (by kernel_rfl)).2.1.trans (hdep 1 54 (by kernel_rfl) (by kernel_rfl)).2.2
      have q55 : a.tmps[55]?.getD undef = .string fr := (hdep 2 55 (by kernel_rfl) (by kernel_rfl)).2.1.trans (hdep 2 55 (by kernel_rfl) (by kernel_rfl)).2.2
      have q56 : a.tmps[56]?.getD undef = .int .i64 num := (hdep 3 56 (by kernel_rfl) (by kernel_rfl)).2.1.trans (hdep 3 56 (by kernel_rfl) (by kernel_rfl)).2.2
      rw [if_pos (by rfl)]
      clear hold hdep hend o3 o4 o6
      go_simp
      go_at_call 82
      (with_reducible refine (HV.out _ hJ).mono ?_); rintro e w20 ⟨la, lc, ys, rfl, he, k1, k2, k3⟩
      exact hK _ _ (fun j u _ h => by
            match j, h with
            | 0, h | 1, h | 2, h | 3, h | 5, h => exact h
            | 4, h => obtain ⟨la, lc, ys, h1, h2, h3⟩ := h; exact ⟨la, lc, ys, h1, h2.ext he, h3⟩
            | (n + 6), h => exact h) (hJ.trans he) ⟨_, _, _, rfl, k1, k3⟩
    · intro ls vs a w1 hi hJ hold hdep K hK
      have q53 : a.tmps[53]?.getD undef = .agg #[.bool false, .slice al n c] := (hdep 0 53 (by kernel_rfl) (by kernel_rfl)).2.1.trans (hdep 0 53 (by kernel_rfl) (by kernel_rfl)).2.2
      obtain ⟨hl4, q57, p57⟩ := hdep 4 57 (by kernel_rfl) (by kernel_rfl)
      rw [if_pos (by rfl)]
      clear hold hdep hend o3 o4 o6
      obtain ⟨la, lc, ys, k1, k2, k3⟩ := p57
      obtain ⟨m, hm⟩ : ∃ m, m = ys.length := ⟨_, rfl⟩
      have hg := HG.out _ la lc ys hJ k2 k3
      rw [← hm] at k1 hg
      rw [k1] at q57
      have HGG := Lib.hid hg
      clear k1 k2 k3 hm hg
      go_simp
      go_at_call 83
      (with_reducible refine HGG.out.mono ?_); rintro e w20 ⟨rfl, he⟩
      exact hK _ _ (fun j u _ h => by
            match j, h with
            | 0, h | 1, h | 2, h | 3, h | 5, h => exact h
            | 4, h => obtain ⟨la, lc, ys, h1, h2, h3⟩ := h; exact ⟨la, lc, ys, h1, h2.ext he, h3⟩
            | (n + 6), h => exact h) (hJ.trans he) rfl
    · intro ls vs a w1 hi hJ hold hdep K hK
      have q58 : a.tmps[58]?.getD undef = .bool g := (hdep 5 58 (by kernel_rfl) (by kernel_rfl)).2.1.trans (hdep 5 58 (by kernel_rfl) (by kernel_rfl)).2.2
      rw [if_pos (by rfl)]
      clear hold hdep hend o3 o4 o6
      go_simp
      exact hK _ _ (fun _ _ _ h => h) hJ rfl
  · intro vs w9 ls9 hl9 hJ9 hφ
    have e0 := hφ 0 (by kernel_rfl)
    have e1 := hφ 1 (by kernel_rfl)
    have e2 := hφ 2 (by kernel_rfl)
    have e3 := hφ 3 (by kernel_rfl)
    have e4 := hφ 4 (by kernel_rfl)
    have e5 := hφ 5 (by kernel_rfl)
    have e6 := hφ 6 (by kernel_rfl)
    have hq := hend vs w9 ls9 hl9 hJ9 e0 e1 e2 e3 e4 e5 e6
    simp only [Act.put] at hq
    simp only [putAll, Act.put]
    exact hq
section
variable {S : PV} {n p fr sh : ByteArray} {num : Int}
theorem bor_0 (h : enterR S n p ≠ 0) : borR S n p fr num sh = (⟨#[]⟩, enterR S n p) := by unfold borR; rw [if_pos h]
theorem bor_1 (h : enterR S n p = 0) (h1 : shareAt S fr (num, n) = none) : borR S n p fr num sh = (⟨#[]⟩, 7) := by unfold borR; rw [if_neg (by simpa using h), h1]
theorem bor_2 (hg : Good S) (h : enterR S n p = 0) {l : Lk} (h1 : shareAt S fr (num, n) = some l) : borR S n p fr num sh = if fitsL (shareK sh) l = false then (⟨#[]⟩, 110) else if untilR (recV S fr num) < S.day then (⟨#[]⟩, 111) else if okL (shareK sh) l = false then (⟨#[]⟩, 112) else (textB (shareK sh) l, 0) := by
  obtain ⟨c, hf, hne⟩ := hg.shareRec fr num n h1
  have hr := hg.recA hf num
  rw [if_neg hne] at hr
  unfold borR
  rw [if_neg (by simpa using h), h1, hr]
  simp only
  by_cases q1 : fitsL (shareK sh) l = false
  · rw [if_pos q1, if_pos q1]
  · rw [if_neg q1, if_neg q1]
    by_cases q2 : untilR (recV S fr num) < S.day
    · rw [if_pos q2, if_pos q2, if_pos (by simp)]
    · rw [if_neg q2, if_neg q2, if_neg (by simp)]
end
set_option maxRecDepth 100000 in
set_option maxHeartbeats 4000000 in
theorem rbor_any (S : PV) (al : Option Addr) (xs : List Lv) (c : Nat) (nm ps fr sh : ByteArray) (num : Int) (w : World) (hR : RvAt w S al xs) (hn : nm.size ≤ 1000) (hp : ps.size ≤ 1000) (hs : sh.size ≤ 1000000) :
    Calls Try.prog 56 #[rv false al xs.length c, .string nm, .string ps, .string fr, .int .i64 num, .string sh] w (Ret (borV S nm ps fr num sh) w) := by
  have hen := hR.ent c nm ps (by omega) (by omega)
  have hsr := hR.shr false c fr num nm
  have hvs := hR.vers false c fr num
  have hgn := hR.gone false c
  obtain ⟨en, hen2⟩ : ∃ z, z = enterR S nm ps := ⟨_, rfl⟩
  obtain ⟨dy, hdd⟩ : ∃ z, z = S.day := ⟨_, rfl⟩
  obtain ⟨mdn, hmd⟩ : ∃ z, z = madeN S fr := ⟨_, rfl⟩
  obtain ⟨n, hnn⟩ : ∃ z, z = xs.length := ⟨_, rfl⟩
  obtain ⟨so, hso⟩ : ∃ z, z = shareAt S fr (num, nm) := ⟨_, rfl⟩
  have hsb := fun l => hR.good.said.shareBody fr num nm (l := l)
  have hsm : ∀ l, shareAt S fr (num, nm) = some l → SmL l := fun l hl => by
    have h1 := hR.good.said.last fr num nm
    rw [hl] at h1
    exact hR.good.small.2 l (lastL_mem fr num nm l S.chain (by rw [h1]; simp)).1
  have hrec := fun l => hR.good.shareRec fr num nm (l := l)
  have s0 := bor_0 (S := S) (n := nm) (p := ps) (fr := fr) (num := num) (sh := sh)
  have s1 := bor_1 (S := S) (n := nm) (p := ps) (fr := fr) (num := num) (sh := sh)
  have s2 := fun l => bor_2 (S := S) (n := nm) (p := ps) (fr := fr) (num := num) (sh := sh) hR.good (l := l)
  rw [← hen2] at hen s0 s1 s2; rw [← hdd] at hgn s2; rw [← hmd] at hsr; rw [← hso] at hsr hsb hsm hrec s1 s2; rw [← hnn] at hen hsr hvs hgn ⊢
  have HEN := Lib.hid hen; have HSR := Lib.hid hsr; have HVS := Lib.hid hvs; have HGN := Lib.hid hgn; have HR := Lib.hid hR
  have S0 := Lib.hid s0; have S1 := Lib.hid s1; have S2 := Lib.hid s2; have HSB := Lib.hid hsb; have HSM := Lib.hid hsm; have HREC := Lib.hid hrec
  have hN := Lib.hid hn; have hP := Lib.hid hp
  have hend : Hid (∀ t q, borR S nm ps fr num sh = (t, q) → ∀ W, Ext w W → Ret (borV S nm ps fr num sh) w (.returned (.tuple #[.string t, .int .i64 q])) W) := fun t q h W e => by
    unfold borV; rw [h]; exact ⟨rfl, e⟩
  have hsh2 : sh.size ≤ 9223372036854775807 := by omega
  clear hen hsr hvs hgn hen2 hdd hmd hso hnn hR s0 s1 s2 hsb hsm hrec hn hp
  go_enter Try.func56, Try.ntmps56
  go_upto_region 1 with fail
  generalize hw1 : World.alloc _ _ = w1
  obtain ⟨he, o1, hs1⟩ := alloc1 hw1
  have HE := Lib.hid he
  obtain ⟨v0, v1⟩ := obj_cells2 o1
  have E1 := Ext.refl w1
  clear hw1 o1
  go_wp2_with (fail)
  (with_reducible refine (HEN.out _ he).mono ?_); rintro e w2 ⟨rfl, he2⟩
  have E2 := Ext.refl w2
  by_cases h0 : en = 0
  · subst h0
    go_wp2_with (fail)
    (with_reducible refine (HSR.out _ (HE.out.trans he2)).mono ?_); rintro e w4 ⟨la, lc, ys, rfl, he4, hyl, hyo, hyr⟩
    have he14 := he2.trans he4
    have E4 := Ext.refl w4
    cases so with
    | none =>
      have hy0 : ys.length = 0 := by rw [← lks_len, hyr]; rfl
      rw [hy0]
      clear E2 he2 he4 hyl hyo hyr hy0
      go_wp2_with (fail)
      go_ret2
      exact hend.out _ _ (S1.out (by simp) (by simp)) _ (HE.out.trans he14)
    | some l =>
      have hy1 : ys.length = 1 := by rw [← lks_len, hyr]; rfl
      have hxl : (lth ys 0).l = l := by
        have : (lks ys)[0]? = some l := by rw [hyr]; rfl
        rw [lth_eq _ _ (by omega)]
        simpa [lks, List.getElem?_map, hy1] using this
      obtain ⟨b, o, hla, hc⟩ := hyl.at 0 (by omega)
      subst hla
      obtain ⟨x, hx⟩ : ∃ x, x = lth ys 0 := ⟨_, rfl⟩
      have hxo : LkOk x.l := by rw [hx]; exact hyo 0 (by omega)
      have hxb : Byts w4 x.ba x.l.bo := by rw [hx]; exact hyl.2 0 (by omega)
      rw [← hx] at hc hxl
      subst hxl
      rw [hy1]
      have hq := S2.out _ (by simp) rfl
      obtain ⟨q1, q2⟩ := HSB.out _ rfl
      have q3 := (HSM.out _ rfl).ki
      have hrv := HREC.out _ rfl
      obtain ⟨cc, -, hrne⟩ := hrv
      obtain ⟨R, hRR⟩ : ∃ R, R = recV S fr num := ⟨_, rfl⟩
      have hvs := HVS.out
      rw [← hRR] at hq hrne hvs
      obtain ⟨g, hg⟩ : ∃ g, g = decide (untilR R < dy) := ⟨_, rfl⟩
      have hsk : shareK sh < 18446744073709551616 := p61_64 (hbs_lt _ _ (nh_lt _))
      have hu : ∀ W, Ext w4 W → Calls Try.prog 84 #[u64 (shareK sh), lval x] W (Ret (.tuple #[.string (textB (shareK sh) x.l), .bool (fitsL (shareK sh) x.l), .bool (okL (shareK sh) x.l)]) W) := fun W e =>
        runsealed_any (shareK sh) x W hsk hxo (by omega) (hxb.ext e) (by omega) q1
      obtain ⟨tb, htb⟩ : ∃ tb, tb = textB (shareK sh) x.l := ⟨_, rfl⟩
      obtain ⟨b1, hb1⟩ : ∃ z, z = fitsL (shareK sh) x.l := ⟨_, rfl⟩
      obtain ⟨b2, hb2⟩ : ∃ z, z = okL (shareK sh) x.l := ⟨_, rfl⟩
      rw [← htb, ← hb1, ← hb2] at hu hq
      have HU := Lib.hid hu; have HQ := Lib.hid hq; have HG := Lib.hid hg; have HV2 := Lib.hid hvs; have HRN := Lib.hid hrne
      have HB0 := Lib.hid (Ext.refl w4)
      have HD : Hid (∀ W a' c', Ext w4 W → Byts W a' sh.data.toList → Calls Try.prog 15 #[.int .u64 3, .slice a' sh.size c'] W (Ret (u64 (shareK sh)) W)) := fun W a' c' e hb => by
        have := rdigest_any 3 a' sh.data.toList c' W hb (by rw [len_data]; omega)
        rw [len_data] at this
        exact this
      have HL : Hid (∀ W, Ext w4 W → LinkC W b o x) := fun W e => by have := hc W e; simpa using this
      have hn1 : 0 < 1 := by omega
      have hsh := hs
      have HE14 := Lib.hid he14
      clear E2 he2 he4 hyl hyo hyr hy1 hxo hxb hx hc hq hg hrne hvs hu htb hb1 hb2 q1 q2 q3 hsk hRR he14
      go_upto_region 7 with fail
      refine l56_7 HB0 hn1 hsh HD HL HU _ (by rfl) rfl rfl ?_
      intro vs w9 ls9 hl9 hJ9 e0 e1 e2 e3 e4 e5 e6 e7 e8 e9 e10 e11 e12 e13
      simp only [Act.put, List.setIfInBounds_toArray, List.set_cons_zero, List.set_cons_succ]
      rw [e0, e2, e3, e4, e5, e6, e7, e8, e9, e10, e11, e12, e13]
      clear e0 e1 e2 e3 e4 e5 e6 e7 e8 e9 e10 e11 e12 e13 hl9
      cases b1
      · have h4 := HQ.out
        rw [if_pos rfl] at h4
        have H4 := Lib.hid h4
        clear h4
        go_wp2_with (fail)
        go_ret2
        exact hend.out _ _ H4.out _ ((HE.out.trans HE14.out).trans hJ9)
      · have h4 := HQ.out
        rw [if_neg (by simp)] at h4
        have HB0 : Hid (Ext w1 w9) := HE14.out.trans hJ9
        have h0 := v0
        have h1 := v1
        have HV : Hid (∀ W, Ext w1 W → Calls Try.prog 82 #[.agg #[.bool false, .slice al n c], .string fr, .int .i64 num] W (RetR R W)) := fun W e => HV2.out W (HE.out.trans e)
        have HG2 : Hid (∀ W la lc (ys : List Lv), Ext w1 W → Links W la ys → lks ys = R → Calls Try.prog 83 #[.agg #[.bool false, .slice al n c], .slice la ys.length lc] W (Ret (.bool g) W)) := fun W la lc ys e hl hr => by
          have := HGN.out la ys lc W (HE.out.trans e) hl (by rw [← lks_len, hr]; exact List.length_pos_iff.2 HRN.out)
          rw [hr, ← HG.out] at this
          exact this
        have HQ2 := Lib.hid h4
        clear h4 hJ9
        go_upto_region 10 with fail
        refine l56_10 HB0 h0 h1 HV HG2 _ (by rfl) rfl rfl rfl ?_
        intro vs w9 ls9 hl9 hJ9 e0 e1 e2 e3 e4 e5 e6
        simp only [Act.put, List.setIfInBounds_toArray, List.set_cons_zero, List.set_cons_succ]
        rw [e0, e1, e2, e3, e5, e6]
        clear e0 e1 e2 e3 e4 e5 e6 hl9
        have h4 := HQ2.out
        cases g
        · rw [if_neg (by have := of_decide_eq_false HG.out.symm; exact this)] at h4
          cases b2
          · rw [if_pos rfl] at h4
            have H4 := Lib.hid h4
            clear h4
            go_wp2_with (fail)
            go_ret2
            exact hend.out _ _ H4.out _ (HE.out.trans hJ9)
          · rw [if_neg (by simp)] at h4
            have H4 := Lib.hid h4
            clear h4
            go_wp2_with (fail)
            go_ret2
            exact hend.out _ _ H4.out _ (HE.out.trans hJ9)
        · rw [if_pos (of_decide_eq_true HG.out.symm)] at h4
          have H4 := Lib.hid h4
          clear h4
          go_wp2_with (fail)
          go_ret2
          exact hend.out _ _ H4.out _ (HE.out.trans hJ9)
  · have h0' : (en == 0) = false := by simpa using h0
    go_wp2_with (fail)
    go_ret2
    exact hend.out _ _ (S0.out h0) _ (HE.out.trans he2)
end Go.Proofs.Ytlahejakcgoheaa
