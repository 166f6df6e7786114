/-
  Walk: a drawn region of VaultChangesSeen.
-/
import Derived.Test.YtlahejakcgoheaaLC1
set_option linter.unusedVariables false
set_option linter.unusedSimpArgs false
namespace Go.Proofs.Ytlahejakcgoheaa
open Go.RowKit
set_option maxRecDepth 100000 in
set_option maxHeartbeats 4000000 in
theorem l8_tag {gd k at0 vl tg bw z : Nat} {wb wr : World} {R : World → Prop} (HB0 : Hid (Ext wb wr)) (HGE : Hid (wb.heap.size ≤ gd)) (HT : Hid (∀ W, Ext wr W → W.cell? ⟨gd, k * 10 + 8, none⟩ = some (.int .u64 (tg : Int)))) (HF : Hid (∀ W, Ext wr W → W.frozen? ⟨gd, k * 10 + 8, none⟩ = false)) (HV : Hid (∀ W, Ext wb W → W.cell? ⟨bw, 5, none⟩ = some (.int .u32 (vl : Int)))) (HA : Hid (∀ W, Ext wb W → W.cell? ⟨bw, 3, none⟩ = some (.int .u16 (at0 : Int)))) (HR : Hid (∀ W, Ext wr W → R (W.setCell ⟨gd, k * 10 + 8, none⟩ (.int .u64 (z : Int))))) (HZ : Hid (bits .xor .u64 (tg : Int) (IntKind.u64.wrap (IntKind.u64.wrap (IntKind.u32.wrap ((vl : Int).tmod 255 + 1)) * 2 ^ min (IntKind.u64.wrap (8 * IntKind.u64.wrap ((at0 : Int).tmod 8))).toNat 64)) = (z : Int))) {Q : Exit → Act → World → Prop} (aZ : Act) (hsz : aZ.tmps.size = 295) (o1 : aZ.tmps[1]?.getD undef = .pointer (some ⟨bw, 0, none⟩)) (o10 : aZ.tmps[10]?.getD undef = .pointer (some ⟨gd, k * 10, none⟩))
    (hend : ∀ (vs : Nat → Value) (w9 : World) (ls9 : Nat → Bool), (∀ j : Nat, j < 19 → ls9 j = true) → (Ext wb w9 ∧ (ls9 18 = true → ls9 15 = true) ∧ (ls9 15 = true → ls9 3 = true) ∧ (ls9 18 = false → Ext wr w9) ∧ (ls9 18 = true → R w9)) → (vs 0 = .pointer (some ⟨gd, k * 10, none⟩)) → (vs 1 = .pointer (some ⟨gd, k * 10, none⟩)) → (vs 2 = .pointer (some ⟨gd, k * 10 + 8, none⟩)) → (vs 3 = .int .u64 (tg : Int)) → (vs 4 = .pointer (some ⟨bw, 5, none⟩)) → (vs 5 = .int .u32 (vl : Int)) → (vs 6 = .int .u32 ((vl : Int).tmod 255)) → (vs 7 = .int .u32 (IntKind.u32.wrap ((vl : Int).tmod 255 + 1))) → (vs 8 = .int .u64 (IntKind.u64.wrap (IntKind.u32.wrap ((vl : Int).tmod 255 + 1)))) → (vs 9 = .pointer (some ⟨bw, 3, none⟩)) → (vs 10 = .int .u16 (at0 : Int)) → (vs 11 = .int .u16 ((at0 : Int).tmod 8)) → (vs 12 = .int .u64 (IntKind.u64.wrap ((at0 : Int).tmod 8))) → (vs 13 = .int .u64 (IntKind.u64.wrap (8 * IntKind.u64.wrap ((at0 : Int).tmod 8)))) → (vs 14 = .int .u64 (IntKind.u64.wrap (IntKind.u64.wrap (IntKind.u32.wrap ((vl : Int).tmod 255 + 1)) * 2 ^ min (IntKind.u64.wrap (8 * IntKind.u64.wrap ((at0 : Int).tmod 8))).toNat 64))) → (vs 15 = .int .u64 (z : Int)) → (vs 16 = .pointer (some ⟨gd, k * 10, none⟩)) → (vs 17 = .pointer (some ⟨gd, k * 10 + 8, none⟩)) → Q .normal ((((((((((((((((((aZ.put (some 182) (vs 0)).put (some 183) (vs 1)).put (some 184) (vs 2)).put (some 185) (vs 3)).put (some 186) (vs 4)).put (some 187) (vs 5)).put (some 188) (vs 6)).put (some 189) (vs 7)).put (some 190) (vs 8)).put (some 191) (vs 9)).put (some 192) (vs 10)).put (some 193) (vs 11)).put (some 194) (vs 12)).put (some 195) (vs 13)).put (some 196) (vs 14)).put (some 197) (vs 15)).put (some 198) (vs 16)).put (some 199) (vs 17)) w9) : (regOf Try.f8 39).wp Try.prog Q aZ wr := by
  conv => arg 2; whnf
  refine wp_region_said3 (fun i v wz => match i with
    | 0 => v = .pointer (some ⟨gd, k * 10, none⟩)
    | 1 => v = .pointer (some ⟨gd, k * 10, none⟩)
    | 2 => v = .pointer (some ⟨gd, k * 10 + 8, none⟩)
    | 3 => v = .int .u64 (tg : Int)
    | 4 => v = .pointer (some ⟨bw, 5, none⟩)
    | 5 => v = .int .u32 (vl : Int)
    | 6 => v = .int .u32 ((vl : Int).tmod 255)
    | 7 => v = .int .u32 (IntKind.u32.wrap ((vl : Int).tmod 255 + 1))
    | 8 => v = .int .u64 (IntKind.u64.wrap (IntKind.u32.wrap ((vl : Int).tmod 255 + 1)))
    | 9 => v = .pointer (some ⟨bw, 3, none⟩)
    | 10 => v = .int .u16 (at0 : Int)
    | 11 => v = .int .u16 ((at0 : Int).tmod 8)
    | 12 => v = .int .u64 (IntKind.u64.wrap ((at0 : Int).tmod 8))
    | 13 => v = .int .u64 (IntKind.u64.wrap (8 * IntKind.u64.wrap ((at0 : Int).tmod 8)))
    | 14 => v = .int .u64 (IntKind.u64.wrap (IntKind.u64.wrap (IntKind.u32.wrap ((vl : Int).tmod 255 + 1)) * 2 ^ min (IntKind.u64.wrap (8 * IntKind.u64.wrap ((at0 : Int).tmod 8))).toNat 64))
    | 15 => v = .int .u64 (z : Int)
    | 16 => v = .pointer (some ⟨gd, k * 10, none⟩)
    | 17 => v = .pointer (some ⟨gd, k * 10 + 8, none⟩)
    | _ => True) (fun ls vs wz => Ext wb wz ∧ (ls 18 = true → ls 15 = true) ∧ (ls 15 = true → ls 3 = true) ∧ (ls 18 = false → Ext wr wz) ∧ (ls 18 = true → R wz)) (by kernel_rfl) (by kernel_rfl) (by rw [hsz]; kernel_rfl) ?_ ?_ ?_
  · exact ⟨HB0.out.drew, fun e => (by cases e), fun e => (by cases e), fun _ => (Ext.refl _).drew, fun e => (by cases e)⟩
  · refine ⟨?_, ?_, ?_, ?_, ?_, ?_, ?_, ?_, ?_, ?_, ?_, ?_, ?_, ?_, ?_, ?_, ?_, ?_, ?_, trivial⟩
    · intro ls vs a w1 hi hJ hold hdep K hK
      have q10 : a.tmps[10]?.getD undef = .pointer (some ⟨gd, k * 10, none⟩) := (hold 10 (by kernel_rfl)).trans o10
      rw [if_pos (by rfl)]
      clear hold hdep hend o1 o10
      have HJ := Lib.hid hJ
      clear hJ
      go_simp
      exact hK _ _ (fun _ _ _ h => h) HJ.out rfl
    · intro ls vs a w1 hi hJ hold hdep K hK
      have q182 : a.tmps[182]?.getD undef = .pointer (some ⟨gd, k * 10, none⟩) := (hdep 0 182 (by kernel_rfl) (by kernel_rfl)).2.1.trans (hdep 0 182 (by kernel_rfl) (by kernel_rfl)).2.2
      rw [if_pos (by rfl)]
      clear hold hdep hend o1 o10
      have HJ := Lib.hid hJ
      clear hJ
      go_simp
      exact hK _ _ (fun _ _ _ h => h) HJ.out rfl
    · intro ls vs a w1 hi hJ hold hdep K hK
      have q183 : a.tmps[183]?.getD undef = .pointer (some ⟨gd, k * 10, none⟩) := (hdep 1 183 (by kernel_rfl) (by kernel_rfl)).2.1.trans (hdep 1 183 (by kernel_rfl) (by kernel_rfl)).2.2
      rw [if_pos (by rfl)]
      clear hold hdep hend o1 o10
      have HJ := Lib.hid hJ
      clear hJ
      go_simp
      exact hK _ _ (fun _ _ _ h => h) HJ.out rfl
    · intro ls vs a w1 hi hJ hold hdep K hK
      have q184 : a.tmps[184]?.getD undef = .pointer (some ⟨gd, k * 10 + 8, none⟩) := (hdep 2 184 (by kernel_rfl) (by kernel_rfl)).2.1.trans (hdep 2 184 (by kernel_rfl) (by kernel_rfl)).2.2
      rw [if_pos (by rfl)]
      clear hold hdep hend o1 o10
      have HJ := Lib.hid hJ
      clear hJ
      obtain ⟨j1, j2, j3, j4, j5⟩ := HJ.out
      have h18 : ls 18 = false := by
        cases e : ls 18 with
        | false => rfl
        | true => have := j3 (j2 e); have hi3 : ls 3 = false := hi; rw [hi3] at this; cases this
      have c8 := HT.out w1 (j4 h18)
      go_simp
      exact hK _ _ (fun _ _ _ h => h) ⟨j1, j2, fun _ => by simp, j4, j5⟩ rfl
    · intro ls vs a w1 hi hJ hold hdep K hK
      have q1 : a.tmps[1]?.getD undef = .pointer (some ⟨bw, 0, none⟩) := (hold 1 (by kernel_rfl)).trans o1
      rw [if_pos (by rfl)]
      clear hold hdep hend o1 o10
      have HJ := Lib.hid hJ
      clear hJ
      go_simp
      exact hK _ _ (fun _ _ _ h => h) HJ.out rfl
    · intro ls vs a w1 hi hJ hold hdep K hK
      have q186 : a.tmps[186]?.getD undef = .pointer (some ⟨bw, 5, none⟩) := (hdep 4 186 (by kernel_rfl) (by kernel_rfl)).2.1.trans (hdep 4 186 (by kernel_rfl) (by kernel_rfl)).2.2
      rw [if_pos (by rfl)]
      clear hold hdep hend o1 o10
      have HJ := Lib.hid hJ
      clear hJ
      have c5 := HV.out w1 HJ.out.1
      go_simp
      exact hK _ _ (fun _ _ _ h => h) HJ.out rfl
    · intro ls vs a w1 hi hJ hold hdep K hK
      have q187 : a.tmps[187]?.getD undef = .int .u32 (vl : Int) := (hdep 5 187 (by kernel_rfl) (by kernel_rfl)).2.1.trans (hdep 5 187 (by kernel_rfl) (by kernel_rfl)).2.2
      rw [if_pos (by rfl)]
      clear hold hdep hend o1 o10
      have HJ := Lib.hid hJ
      clear hJ
      go_simp
      exact hK _ _ (fun _ _ _ h => h) HJ.out rfl
    · intro ls vs a w1 hi hJ hold hdep K hK
      have q188 : a.tmps[188]?.getD undef = .int .u32 ((vl : Int).tmod 255) := (hdep 6 188 (by kernel_rfl) (by kernel_rfl)).2.1.trans (hdep 6 188 (by kernel_rfl) (by kernel_rfl)).2.2
      rw [if_pos (by rfl)]
      clear hold hdep hend o1 o10
      have HJ := Lib.hid hJ
      clear hJ
      go_simp
      exact hK _ _ (fun _ _ _ h => h) HJ.out rfl
    · intro ls vs a w1 hi hJ hold hdep K hK
      have q189 : a.tmps[189]?.getD undef = .int .u32 (IntKind.u32.wrap ((vl : Int).tmod 255 + 1)) := (hdep 7 189 (by kernel_rfl) (by kernel_rfl)).2.1.trans (hdep 7 189 (by kernel_rfl) (by kernel_rfl)).2.2
      rw [if_pos (by rfl)]
      clear hold hdep hend o1 o10
      have HJ := Lib.hid hJ
      clear hJ
      go_simp
      exact hK _ _ (fun _ _ _ h => h) HJ.out rfl
    · intro ls vs a w1 hi hJ hold hdep K hK
      have q1 : a.tmps[1]?.getD undef = .pointer (some ⟨bw, 0, none⟩) := (hold 1 (by kernel_rfl)).trans o1
      rw [if_pos (by rfl)]
      clear hold hdep hend o1 o10
      have HJ := Lib.hid hJ
      clear hJ
      go_simp
      exact hK _ _ (fun _ _ _ h => h) HJ.out rfl
    · intro ls vs a w1 hi hJ hold hdep K hK
      have q191 : a.tmps[191]?.getD undef = .pointer (some ⟨bw, 3, none⟩) := (hdep 9 191 (by kernel_rfl) (by kernel_rfl)).2.1.trans (hdep 9 191 (by kernel_rfl) (by kernel_rfl)).2.2
      rw [if_pos (by rfl)]
      clear hold hdep hend o1 o10
      have HJ := Lib.hid hJ
      clear hJ
      have c3 := HA.out w1 HJ.out.1
      go_simp
      exact hK _ _ (fun _ _ _ h => h) HJ.out rfl
    · intro ls vs a w1 hi hJ hold hdep K hK
      have q192 : a.tmps[192]?.getD undef = .int .u16 (at0 : Int) := (hdep 10 192 (by kernel_rfl) (by kernel_rfl)).2.1.trans (hdep 10 192 (by kernel_rfl) (by kernel_rfl)).2.2
      rw [if_pos (by rfl)]
      clear hold hdep hend o1 o10
      have HJ := Lib.hid hJ
      clear hJ
      go_simp
      exact hK _ _ (fun _ _ _ h => h) HJ.out rfl
    · intro ls vs a w1 hi hJ hold hdep K hK
      have q193 : a.tmps[193]?.getD undef = .int .u16 ((at0 : Int).tmod 8) := (hdep 11 193 (by kernel_rfl) (by kernel_rfl)).2.1.trans (hdep 11 193 (by kernel_rfl) (by kernel_rfl)).2.2
      rw [if_pos (by rfl)]
      clear hold hdep hend o1 o10
      have HJ := Lib.hid hJ
      clear hJ
      go_simp
      exact hK _ _ (fun _ _ _ h => h) HJ.out rfl
    · intro ls vs a w1 hi hJ hold hdep K hK
      have q194 : a.tmps[194]?.getD undef = .int .u64 (IntKind.u64.wrap ((at0 : Int).tmod 8)) := (hdep 12 194 (by kernel_rfl) (by kernel_rfl)).2.1.trans (hdep 12 194 (by kernel_rfl) (by kernel_rfl)).2.2
      rw [if_pos (by rfl)]
      clear hold hdep hend o1 o10
      have HJ := Lib.hid hJ
      clear hJ
      go_simp
      exact hK _ _ (fun _ _ _ h => h) HJ.out rfl
    · intro ls vs a w1 hi hJ hold hdep K hK
      have q190 : a.tmps[190]?.getD undef = .int .u64 (IntKind.u64.wrap (IntKind.u32.wrap ((vl : Int).tmod 255 + 1))) := (hdep 8 190 (by kernel_rfl) (by kernel_rfl)).2.1.trans (hdep 8 190 (by kernel_rfl) (by kernel_rfl)).2.2
      have q195 : a.tmps[195]?.getD undef = .int .u64 (IntKind.u64.wrap (8 * IntKind.u64.wrap ((at0 : Int).tmod 8))) := (hdep 13 195 (by kernel_rfl) (by kernel_rfl)).2.1.trans (hdep 13 195 (by kernel_rfl) (by kernel_rfl)).2.2
      rw [if_pos (by rfl)]
      clear hold hdep hend o1 o10
      have HJ := Lib.hid hJ
      clear hJ
      go_simp
      exact hK _ _ (fun _ _ _ h => h) HJ.out rfl
    · intro ls vs a w1 hi hJ hold hdep K hK
      have q185 : a.tmps[185]?.getD undef = .int .u64 (tg : Int) := (hdep 3 185 (by kernel_rfl) (by kernel_rfl)).2.1.trans (hdep 3 185 (by kernel_rfl) (by kernel_rfl)).2.2
      have q196 : a.tmps[196]?.getD undef = .int .u64 (IntKind.u64.wrap (IntKind.u64.wrap (IntKind.u32.wrap ((vl : Int).tmod 255 + 1)) * 2 ^ min (IntKind.u64.wrap (8 * IntKind.u64.wrap ((at0 : Int).tmod 8))).toNat 64)) := (hdep 14 196 (by kernel_rfl) (by kernel_rfl)).2.1.trans (hdep 14 196 (by kernel_rfl) (by kernel_rfl)).2.2
      obtain ⟨hl3, -, -⟩ := hdep 3 185 (by kernel_rfl) (by kernel_rfl)
      rw [if_pos (by rfl)]
      clear hold hdep hend o1 o10
      have HJ := Lib.hid hJ
      clear hJ
      obtain ⟨j1, j2, j3, j4, j5⟩ := HJ.out
      have hl3' : ls 3 = true := hl3
      go_simp
      exact hK _ _ (fun _ _ _ h => h) ⟨j1, fun _ => by simp, fun _ => by simpa using hl3', j4, j5⟩ (congrArg (Value.int .u64) HZ.out)
    · intro ls vs a w1 hi hJ hold hdep K hK
      have q182 : a.tmps[182]?.getD undef = .pointer (some ⟨gd, k * 10, none⟩) := (hdep 0 182 (by kernel_rfl) (by kernel_rfl)).2.1.trans (hdep 0 182 (by kernel_rfl) (by kernel_rfl)).2.2
      rw [if_pos (by rfl)]
      clear hold hdep hend o1 o10
      have HJ := Lib.hid hJ
      clear hJ
      go_simp
      exact hK _ _ (fun _ _ _ h => h) HJ.out rfl
    · intro ls vs a w1 hi hJ hold hdep K hK
      have q198 : a.tmps[198]?.getD undef = .pointer (some ⟨gd, k * 10, none⟩) := (hdep 16 198 (by kernel_rfl) (by kernel_rfl)).2.1.trans (hdep 16 198 (by kernel_rfl) (by kernel_rfl)).2.2
      rw [if_pos (by rfl)]
      clear hold hdep hend o1 o10
      have HJ := Lib.hid hJ
      clear hJ
      go_simp
      exact hK _ _ (fun _ _ _ h => h) HJ.out rfl
    · intro ls vs a w1 hi hJ hold hdep K hK
      have q197 : a.tmps[197]?.getD undef = .int .u64 (z : Int) := (hdep 15 197 (by kernel_rfl) (by kernel_rfl)).2.1.trans (hdep 15 197 (by kernel_rfl) (by kernel_rfl)).2.2
      have q199 : a.tmps[199]?.getD undef = .pointer (some ⟨gd, k * 10 + 8, none⟩) := (hdep 17 199 (by kernel_rfl) (by kernel_rfl)).2.1.trans (hdep 17 199 (by kernel_rfl) (by kernel_rfl)).2.2
      obtain ⟨hl15, -, -⟩ := hdep 15 197 (by kernel_rfl) (by kernel_rfl)
      rw [if_pos (by rfl)]
      clear hold hdep hend o1 o10
      have HJ := Lib.hid hJ
      clear hJ
      obtain ⟨j1, j2, j3, j4, j5⟩ := HJ.out
      have hi18 : ls 18 = false := hi
      have hl15' : ls 15 = true := hl15
      have c8 := HT.out w1 (j4 hi18)
      have f8 := HF.out w1 (j4 hi18)
      have hR := HR.out w1 (j4 hi18)
      have hx := j1.set (p := ⟨gd, k * 10 + 8, none⟩) HGE.out (.int .u64 (z : Int))
      go_simp
      exact hK undef _ (fun _ _ _ h => h) ⟨hx, fun _ => by simpa using hl15', fun e => by have := j3 (by simpa using e); simpa using this, fun e => (by simp at e), fun _ => hR⟩ trivial
  · intro vs w9 ls9 hl9 hJ9 hφ
    have e0 := hφ 0 (by kernel_rfl)
    have e1 := hφ 1 (by kernel_rfl)
    have e2 := hφ 2 (by kernel_rfl)
    have e3 := hφ 3 (by kernel_rfl)
    have e4 := hφ 4 (by kernel_rfl)
    have e5 := hφ 5 (by kernel_rfl)
    have e6 := hφ 6 (by kernel_rfl)
    have e7 := hφ 7 (by kernel_rfl)
    have e8 := hφ 8 (by kernel_rfl)
    have e9 := hφ 9 (by kernel_rfl)
    have e10 := hφ 10 (by kernel_rfl)
    have e11 := hφ 11 (by kernel_rfl)
    have e12 := hφ 12 (by kernel_rfl)
    have e13 := hφ 13 (by kernel_rfl)
    have e14 := hφ 14 (by kernel_rfl)
    have e15 := hφ 15 (by kernel_rfl)
    have e16 := hφ 16 (by kernel_rfl)
    have e17 := hφ 17 (by kernel_rfl)
    have hq := hend vs w9 ls9 hl9 hJ9 e0 e1 e2 e3 e4 e5 e6 e7 e8 e9 e10 e11 e12 e13 e14 e15 e16 e17
    simp only [Act.put] at hq
    simp only [putAll, Act.put]
    exact hq
end Go.Proofs.Ytlahejakcgoheaa
