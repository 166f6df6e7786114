/-
  Walk: the law VaultDigests.
-/
import Derived.Test.YtlahejakcgoheaaRB
import Derived.Test.YtlahejakcgoheaaLD
import Derived.Test.YtlahejakcgoheaaWL
set_option linter.unusedVariables false
set_option linter.unusedSimpArgs false
namespace Go.Proofs.Ytlahejakcgoheaa
open Go.RowKit
set_option maxRecDepth 100000 in
set_option maxHeartbeats 4000000 in
theorem l3_law {ad a4 a5 : Option Addr} {n c c4 c5 s d kn : Nat} {nm sx : ByteArray} {ys : List UInt8} {w w0 : World} (HB0 : Hid (Ext w w0)) (HD1 : Hid (∀ W, Ext w0 W → Calls Try.prog 14 #[u64 s, .slice a4 n c4] W (Ret (u64 d) W))) (HD2 : Hid (∀ W, Ext w W → Calls Try.prog 15 #[u64 s, .slice ad n c] W (Ret (u64 d) W))) (HK1 : Hid (∀ W, Ext w W → Calls Try.prog 16 #[.string nm, .string sx] W (Ret (u64 kn) W))) (HK2 : Hid (∀ W, Ext w W → Calls Try.prog 17 #[.string nm, .string sx] W (Ret (u64 kn) W))) (HC : Hid (∀ W, Ext w W → Calls Try.prog 19 #[u64 s, .slice ad n c] W (fun e w' => ∃ a' c', e = .returned (.slice a' n c') ∧ Ext W w' ∧ Byts w' a' ys))) (HS1 : Hid (∀ W, Ext w0 W → ∀ a' c', Byts W a' ys → Calls Try.prog 18 #[.slice a5 n c5, .slice a' n c'] W (Ret (.bool true) W))) (HS2 : Hid (∀ W, Ext w0 W → Calls Try.prog 18 #[.slice a4 n c4, .slice ad n c] W (Ret (.bool true) W))) (HST : Hid (∀ W, Ext w W → (convert 23 9 (.slice ad n c)).run Try.prog W = .ok (.string sx) W)) {Q : Exit → Act → World → Prop} (aZ : Act) (hsz : aZ.tmps.size = 57) (o0 : aZ.tmps[0]?.getD undef = u64 s) (o1 : aZ.tmps[1]?.getD undef = .slice ad n c) (o2 : aZ.tmps[2]?.getD undef = .string nm) (o7 : aZ.tmps[7]?.getD undef = .slice a4 n c4) (o8 : aZ.tmps[8]?.getD undef = .slice a5 n c5)
    (hend : ∀ (vs : Nat → Value) (w9 : World) (ls9 : Nat → Bool), (∀ j : Nat, j < 34 → ls9 j = true) → (Ext w0 w9) → (vs 0 = u64 s) → (vs 1 = .slice a4 n c4) → (vs 2 = u64 d) → (vs 3 = u64 s) → (vs 4 = .slice ad n c) → (vs 5 = u64 d) → (vs 6 = .bool true) → (vs 7 = .bool true) → (vs 8 = .string nm) → (vs 9 = .slice ad n c) → (vs 10 = .string sx) → (vs 11 = u64 kn) → (vs 12 = .string nm) → (vs 13 = .slice ad n c) → (vs 14 = .string sx) → (vs 15 = u64 kn) → (vs 16 = .bool true) → (vs 17 = .bool true) → (vs 18 = .bool true) → (vs 19 = .slice a5 n c5) → (vs 20 = u64 s) → (vs 21 = .slice ad n c) → (∃ a' c', vs 22 = .slice a' n c' ∧ Byts w9 a' ys) → (vs 23 = .bool true) → (vs 24 = .bool true) → (vs 25 = .bool true) → (vs 26 = .slice a4 n c4) → (vs 27 = .slice ad n c) → (vs 28 = .bool true) → (vs 29 = .bool true) → (vs 30 = .bool true) → (vs 31 = .bool true) → (vs 32 = .bool true) → (vs 33 = .bool true) → Q .normal ((((((((((((((((((((((((((((((((((aZ.put (some 24) (vs 0)).put (some 25) (vs 1)).put (some 26) (vs 2)).put (some 27) (vs 3)).put (some 28) (vs 4)).put (some 29) (vs 5)).put (some 30) (vs 6)).put (some 31) (vs 7)).put (some 32) (vs 8)).put (some 33) (vs 9)).put (some 34) (vs 10)).put (some 35) (vs 11)).put (some 36) (vs 12)).put (some 37) (vs 13)).put (some 38) (vs 14)).put (some 39) (vs 15)).put (some 40) (vs 16)).put (some 41) (vs 17)).put (some 42) (vs 18)).put (some 43) (vs 19)).put (some 44) (vs 20)).put (some 45) (vs 21)).put (some 46) (vs 22)).put (some 47) (vs 23)).put (some 48) (vs 24)).put (some 49) (vs 25)).put (some 50) (vs 26)).put (some 51) (vs 27)).put (some 52) (vs 28)).put (some 53) (vs 29)).put (some 54) (vs 30)).put (some 55) (vs 31)).put (some 56) (vs 32)).put (some 6) (vs 33)) w9) : (regOf Try.f3 5).wp Try.prog Q aZ w0 := by
  conv => arg 2; whnf
  refine wp_region_said3 (fun i v wz => match i with
    | 0 => v = u64 s
    | 1 => v = .slice a4 n c4
    | 2 => v = u64 d
    | 3 => v = u64 s
    | 4 => v = .slice ad n c
    | 5 => v = u64 d
    | 6 => v = .bool true
    | 7 => v = .bool true
    | 8 => v = .string nm
    | 9 => v = .slice ad n c
    | 10 => v = .string sx
    | 11 => v = u64 kn
    | 12 => v = .string nm
    | 13 => v = .slice ad n c
    | 14 => v = .string sx
    | 15 => v = u64 kn
    | 16 => v = .bool true
    | 17 => v = .bool true
    | 18 => v = .bool true
    | 19 => v = .slice a5 n c5
    | 20 => v = u64 s
    | 21 => v = .slice ad n c
    | 22 => ∃ a' c', v = .slice a' n c' ∧ Byts wz a' ys
    | 23 => v = .bool true
    | 24 => v = .bool true
    | 25 => v = .bool true
    | 26 => v = .slice a4 n c4
    | 27 => v = .slice ad n c
    | 28 => v = .bool true
    | 29 => v = .bool true
    | 30 => v = .bool true
    | 31 => v = .bool true
    | 32 => v = .bool true
    | _ => v = .bool true) (fun ls vs wz => Ext w0 wz) (by kernel_rfl) (by kernel_rfl) (by rw [hsz]; kernel_rfl) ?_ ?_ ?_
  · exact (Ext.refl _).drew
  · refine ⟨?_, ?_, ?_, ?_, ?_, ?_, ?_, ?_, ?_, ?_, ?_, ?_, ?_, ?_, ?_, ?_, ?_, ?_, ?_, ?_, ?_, ?_, ?_, ?_, ?_, ?_, ?_, ?_, ?_, ?_, ?_, ?_, ?_, ?_, trivial⟩
    · intro ls vs a w1 hi hJ hold hdep K hK
      have q0 : a.tmps[0]?.getD undef = u64 s := (hold 0 (by kernel_rfl)).trans o0
      rw [if_pos (by rfl)]
      clear hold hdep hend o0 o1 o2 o7 o8
      go_simp
      exact hK _ _ (fun _ _ _ h => h) hJ rfl
    · intro ls vs a w1 hi hJ hold hdep K hK
      have q7 : a.tmps[7]?.getD undef = .slice a4 n c4 := (hold 7 (by kernel_rfl)).trans o7
      rw [if_pos (by rfl)]
      clear hold hdep hend o0 o1 o2 o7 o8
      go_simp
      exact hK _ _ (fun _ _ _ h => h) hJ rfl
    · intro ls vs a w1 hi hJ hold hdep K hK
      have q24 : a.tmps[24]?.getD undef = u64 s := (hdep 0 24 (by kernel_rfl) (by kernel_rfl)).2.1.trans (hdep 0 24 (by kernel_rfl) (by kernel_rfl)).2.2
      have q25 : a.tmps[25]?.getD undef = .slice a4 n c4 := (hdep 1 25 (by kernel_rfl) (by kernel_rfl)).2.1.trans (hdep 1 25 (by kernel_rfl) (by kernel_rfl)).2.2
      rw [if_pos (by rfl)]
      clear hold hdep hend o0 o1 o2 o7 o8
      go_simp
      go_at_call 14
      (with_reducible refine (HD1.out _ hJ).mono ?_); rintro e w20 ⟨rfl, he⟩
      exact hK _ _ (fun j u _ h => by
            match j, h with
            | 0, h | 1, h | 2, h | 3, h | 4, h | 5, h | 6, h | 7, h | 8, h | 9, h | 10, h | 11, h | 12, h | 13, h | 14, h | 15, h | 16, h | 17, h | 18, h | 19, h | 20, h | 21, h | 23, h | 24, h | 25, h | 26, h | 27, h | 28, h | 29, h | 30, h | 31, h | 32, h => exact h
            | 22, h => obtain ⟨a', c', h1, h2⟩ := h; exact ⟨a', c', h1, h2.ext he⟩
            | (n + 33), h => exact h) (hJ.trans he) rfl
    · intro ls vs a w1 hi hJ hold hdep K hK
      have q0 : a.tmps[0]?.getD undef = u64 s := (hold 0 (by kernel_rfl)).trans o0
      rw [if_pos (by rfl)]
      clear hold hdep hend o0 o1 o2 o7 o8
      go_simp
      exact hK _ _ (fun _ _ _ h => h) hJ rfl
    · intro ls vs a w1 hi hJ hold hdep K hK
      have q1 : a.tmps[1]?.getD undef = .slice ad n c := (hold 1 (by kernel_rfl)).trans o1
      rw [if_pos (by rfl)]
      clear hold hdep hend o0 o1 o2 o7 o8
      go_simp
      exact hK _ _ (fun _ _ _ h => h) hJ rfl
    · intro ls vs a w1 hi hJ hold hdep K hK
      have q27 : a.tmps[27]?.getD undef = u64 s := (hdep 3 27 (by kernel_rfl) (by kernel_rfl)).2.1.trans (hdep 3 27 (by kernel_rfl) (by kernel_rfl)).2.2
      have q28 : a.tmps[28]?.getD undef = .slice ad n c := (hdep 4 28 (by kernel_rfl) (by kernel_rfl)).2.1.trans (hdep 4 28 (by kernel_rfl) (by kernel_rfl)).2.2
      rw [if_pos (by rfl)]
      clear hold hdep hend o0 o1 o2 o7 o8
      go_simp
      go_at_call 15
      (with_reducible refine (HD2.out _ (HB0.out.trans hJ)).mono ?_); rintro e w20 ⟨rfl, he⟩
      exact hK _ _ (fun j u _ h => by
            match j, h with
            | 0, h | 1, h | 2, h | 3, h | 4, h | 5, h | 6, h | 7, h | 8, h | 9, h | 10, h | 11, h | 12, h | 13, h | 14, h | 15, h | 16, h | 17, h | 18, h | 19, h | 20, h | 21, h | 23, h | 24, h | 25, h | 26, h | 27, h | 28, h | 29, h | 30, h | 31, h | 32, h => exact h
            | 22, h => obtain ⟨a', c', h1, h2⟩ := h; exact ⟨a', c', h1, h2.ext he⟩
            | (n + 33), h => exact h) (hJ.trans he) rfl
    · intro ls vs a w1 hi hJ hold hdep K hK
      have q26 : a.tmps[26]?.getD undef = u64 d := (hdep 2 26 (by kernel_rfl) (by kernel_rfl)).2.1.trans (hdep 2 26 (by kernel_rfl) (by kernel_rfl)).2.2
      have q29 : a.tmps[29]?.getD undef = u64 d := (hdep 5 29 (by kernel_rfl) (by kernel_rfl)).2.1.trans (hdep 5 29 (by kernel_rfl) (by kernel_rfl)).2.2
      rw [if_pos (by rfl)]
      clear hold hdep hend o0 o1 o2 o7 o8
      go_simp
      exact hK _ _ (fun _ _ _ h => h) hJ rfl
    · intro ls vs a w1 hi hJ hold hdep K hK
      have q30 : a.tmps[30]?.getD undef = .bool true := (hdep 6 30 (by kernel_rfl) (by kernel_rfl)).2.1.trans (hdep 6 30 (by kernel_rfl) (by kernel_rfl)).2.2
      rw [if_pos (by rfl)]
      clear hold hdep hend o0 o1 o2 o7 o8
      go_simp
      exact hK _ _ (fun _ _ _ h => h) hJ rfl
    · intro ls vs a w1 hi hJ hold hdep K hK
      have q2 : a.tmps[2]?.getD undef = .string nm := (hold 2 (by kernel_rfl)).trans o2
      have q31 : a.tmps[31]?.getD undef = .bool true := (hdep 7 31 (by kernel_rfl) (by kernel_rfl)).2.1.trans (hdep 7 31 (by kernel_rfl) (by kernel_rfl)).2.2
      clear hold hdep hend o0 o1 o2 o7 o8
      rw [wanted_of rfl (by kernel_rfl) q31, if_pos (by rfl)]
      go_simp
      exact hK _ _ (fun _ _ _ h => h) hJ rfl
    · intro ls vs a w1 hi hJ hold hdep K hK
      have q1 : a.tmps[1]?.getD undef = .slice ad n c := (hold 1 (by kernel_rfl)).trans o1
      have q31 : a.tmps[31]?.getD undef = .bool true := (hdep 7 31 (by kernel_rfl) (by kernel_rfl)).2.1.trans (hdep 7 31 (by kernel_rfl) (by kernel_rfl)).2.2
      clear hold hdep hend o0 o1 o2 o7 o8
      rw [wanted_of rfl (by kernel_rfl) q31, if_pos (by rfl)]
      go_simp
      exact hK _ _ (fun _ _ _ h => h) hJ rfl
    · intro ls vs a w1 hi hJ hold hdep K hK
      have q33 : a.tmps[33]?.getD undef = .slice ad n c := (hdep 9 33 (by kernel_rfl) (by kernel_rfl)).2.1.trans (hdep 9 33 (by kernel_rfl) (by kernel_rfl)).2.2
      have q31 : a.tmps[31]?.getD undef = .bool true := (hdep 7 31 (by kernel_rfl) (by kernel_rfl)).2.1.trans (hdep 7 31 (by kernel_rfl) (by kernel_rfl)).2.2
      clear hold hdep hend o0 o1 o2 o7 o8
      rw [wanted_of rfl (by kernel_rfl) q31, if_pos (by rfl)]
      have hst := HST.out _ (HB0.out.trans hJ)
      go_simp
      exact hK _ _ (fun _ _ _ h => h) hJ rfl
    · intro ls vs a w1 hi hJ hold hdep K hK
      have q32 : a.tmps[32]?.getD undef = .string nm := (hdep 8 32 (by kernel_rfl) (by kernel_rfl)).2.1.trans (hdep 8 32 (by kernel_rfl) (by kernel_rfl)).2.2
      have q34 : a.tmps[34]?.getD undef = .string sx := (hdep 10 34 (by kernel_rfl) (by kernel_rfl)).2.1.trans (hdep 10 34 (by kernel_rfl) (by kernel_rfl)).2.2
      have q31 : a.tmps[31]?.getD undef = .bool true := (hdep 7 31 (by kernel_rfl) (by kernel_rfl)).2.1.trans (hdep 7 31 (by kernel_rfl) (by kernel_rfl)).2.2
      clear hold hdep hend o0 o1 o2 o7 o8
      rw [wanted_of rfl (by kernel_rfl) q31, if_pos (by rfl)]
      go_simp
      go_at_call 16
      (with_reducible refine (HK1.out _ (HB0.out.trans hJ)).mono ?_); rintro e w20 ⟨rfl, he⟩
      exact hK _ _ (fun j u _ h => by
            match j, h with
            | 0, h | 1, h | 2, h | 3, h | 4, h | 5, h | 6, h | 7, h | 8, h | 9, h | 10, h | 11, h | 12, h | 13, h | 14, h | 15, h | 16, h | 17, h | 18, h | 19, h | 20, h | 21, h | 23, h | 24, h | 25, h | 26, h | 27, h | 28, h | 29, h | 30, h | 31, h | 32, h => exact h
            | 22, h => obtain ⟨a', c', h1, h2⟩ := h; exact ⟨a', c', h1, h2.ext he⟩
            | (n + 33), h => exact h) (hJ.trans he) rfl
    · intro ls vs a w1 hi hJ hold hdep K hK
      have q2 : a.tmps[2]?.getD undef = .string nm := (hold 2 (by kernel_rfl)).trans o2
      have q31 : a.tmps[31]?.getD undef = .bool true := (hdep 7 31 (by kernel_rfl) (by kernel_rfl)).2.1.trans (hdep 7 31 (by kernel_rfl) (by kernel_rfl)).2.2
      clear hold hdep hend o0 o1 o2 o7 o8
      rw [wanted_of rfl (by kernel_rfl) q31, if_pos (by rfl)]
      go_simp
      exact hK _ _ (fun _ _ _ h => h) hJ rfl
    · intro ls vs a w1 hi hJ hold hdep K hK
      have q1 : a.tmps[1]?.getD undef = .slice ad n c := (hold 1 (by kernel_rfl)).trans o1
      have q31 : a.tmps[31]?.getD undef = .bool true := (hdep 7 31 (by kernel_rfl) (by kernel_rfl)).2.1.trans (hdep 7 31 (by kernel_rfl) (by kernel_rfl)).2.2
      clear hold hdep hend o0 o1 o2 o7 o8
      rw [wanted_of rfl (by kernel_rfl) q31, if_pos (by rfl)]
      go_simp
      exact hK _ _ (fun _ _ _ h => h) hJ rfl
    · intro ls vs a w1 hi hJ hold hdep K hK
      have q37 : a.tmps[37]?.getD undef = .slice ad n c := (hdep 13 37 (by kernel_rfl) (by kernel_rfl)).2.1.trans (hdep 13 37 (by kernel_rfl) (by kernel_rfl)).2.2
      have q31 : a.tmps[31]?.getD undef = .bool true := (hdep 7 31 (by kernel_rfl) (by kernel_rfl)).2.1.trans (hdep 7 31 (by kernel_rfl) (by kernel_rfl)).2.2
      clear hold hdep hend o0 o1 o2 o7 o8
      rw [wanted_of rfl (by kernel_rfl) q31, if_pos (by rfl)]
      have hst := HST.out _ (HB0.out.trans hJ)
      go_simp
      exact hK _ _ (fun _ _ _ h => h) hJ rfl
    · intro ls vs a w1 hi hJ hold hdep K hK
      have q36 : a.tmps[36]?.getD undef = .string nm := (hdep 12 36 (by kernel_rfl) (by kernel_rfl)).2.1.trans (hdep 12 36 (by kernel_rfl) (by kernel_rfl)).2.2
      have q38 : a.tmps[38]?.getD undef = .string sx := (hdep 14 38 (by kernel_rfl) (by kernel_rfl)).2.1.trans (hdep 14 38 (by kernel_rfl) (by kernel_rfl)).2.2
      have q31 : a.tmps[31]?.getD undef = .bool true := (hdep 7 31 (by kernel_rfl) (by kernel_rfl)).2.1.trans (hdep 7 31 (by kernel_rfl) (by kernel_rfl)).2.2
      clear hold hdep hend o0 o1 o2 o7 o8
      rw [wanted_of rfl (by kernel_rfl) q31, if_pos (by rfl)]
      go_simp
      go_at_call 17
      (with_reducible refine (HK2.out _ (HB0.out.trans hJ)).mono ?_); rintro e w20 ⟨rfl, he⟩
      exact hK _ _ (fun j u _ h => by
            match j, h with
            | 0, h | 1, h | 2, h | 3, h | 4, h | 5, h | 6, h | 7, h | 8, h | 9, h | 10, h | 11, h | 12, h | 13, h | 14, h | 15, h | 16, h | 17, h | 18, h | 19, h | 20, h | 21, h | 23, h | 24, h | 25, h | 26, h | 27, h | 28, h | 29, h | 30, h | 31, h | 32, h => exact h
            | 22, h => obtain ⟨a', c', h1, h2⟩ := h; exact ⟨a', c', h1, h2.ext he⟩
            | (n + 33), h => exact h) (hJ.trans he) rfl
    · intro ls vs a w1 hi hJ hold hdep K hK
      have q35 : a.tmps[35]?.getD undef = u64 kn := (hdep 11 35 (by kernel_rfl) (by kernel_rfl)).2.1.trans (hdep 11 35 (by kernel_rfl) (by kernel_rfl)).2.2
      have q39 : a.tmps[39]?.getD undef = u64 kn := (hdep 15 39 (by kernel_rfl) (by kernel_rfl)).2.1.trans (hdep 15 39 (by kernel_rfl) (by kernel_rfl)).2.2
      have q31 : a.tmps[31]?.getD undef = .bool true := (hdep 7 31 (by kernel_rfl) (by kernel_rfl)).2.1.trans (hdep 7 31 (by kernel_rfl) (by kernel_rfl)).2.2
      clear hold hdep hend o0 o1 o2 o7 o8
      rw [wanted_of rfl (by kernel_rfl) q31, if_pos (by rfl)]
      go_simp
      exact hK _ _ (fun _ _ _ h => h) hJ rfl
    · intro ls vs a w1 hi hJ hold hdep K hK
      have q31 : a.tmps[31]?.getD undef = .bool true := (hdep 7 31 (by kernel_rfl) (by kernel_rfl)).2.1.trans (hdep 7 31 (by kernel_rfl) (by kernel_rfl)).2.2
      have q40 : a.tmps[40]?.getD undef = .bool true := (hdep 16 40 (by kernel_rfl) (by kernel_rfl)).2.1.trans (hdep 16 40 (by kernel_rfl) (by kernel_rfl)).2.2
      rw [if_pos (by rfl)]
      clear hold hdep hend o0 o1 o2 o7 o8
      go_simp
      exact hK _ _ (fun _ _ _ h => h) hJ rfl
    · intro ls vs a w1 hi hJ hold hdep K hK
      have q41 : a.tmps[41]?.getD undef = .bool true := (hdep 17 41 (by kernel_rfl) (by kernel_rfl)).2.1.trans (hdep 17 41 (by kernel_rfl) (by kernel_rfl)).2.2
      rw [if_pos (by rfl)]
      clear hold hdep hend o0 o1 o2 o7 o8
      go_simp
      exact hK _ _ (fun _ _ _ h => h) hJ rfl
    · intro ls vs a w1 hi hJ hold hdep K hK
      have q8 : a.tmps[8]?.getD undef = .slice a5 n c5 := (hold 8 (by kernel_rfl)).trans o8
      have q42 : a.tmps[42]?.getD undef = .bool true := (hdep 18 42 (by kernel_rfl) (by kernel_rfl)).2.1.trans (hdep 18 42 (by kernel_rfl) (by kernel_rfl)).2.2
      clear hold hdep hend o0 o1 o2 o7 o8
      rw [wanted_of rfl (by kernel_rfl) q42, if_pos (by rfl)]
      go_simp
      exact hK _ _ (fun _ _ _ h => h) hJ rfl
    · intro ls vs a w1 hi hJ hold hdep K hK
      have q0 : a.tmps[0]?.getD undef = u64 s := (hold 0 (by kernel_rfl)).trans o0
      have q42 : a.tmps[42]?.getD undef = .bool true := (hdep 18 42 (by kernel_rfl) (by kernel_rfl)).2.1.trans (hdep 18 42 (by kernel_rfl) (by kernel_rfl)).2.2
      clear hold hdep hend o0 o1 o2 o7 o8
      rw [wanted_of rfl (by kernel_rfl) q42, if_pos (by rfl)]
      go_simp
      exact hK _ _ (fun _ _ _ h => h) hJ rfl
    · intro ls vs a w1 hi hJ hold hdep K hK
      have q1 : a.tmps[1]?.getD undef = .slice ad n c := (hold 1 (by kernel_rfl)).trans o1
      have q42 : a.tmps[42]?.getD undef = .bool true := (hdep 18 42 (by kernel_rfl) (by kernel_rfl)).2.1.trans (hdep 18 42 (by kernel_rfl) (by kernel_rfl)).2.2
      clear hold hdep hend o0 o1 o2 o7 o8
      rw [wanted_of rfl (by kernel_rfl) q42, if_pos (by rfl)]
      go_simp
      exact hK _ _ (fun _ _ _ h => h) hJ rfl
    · intro ls vs a w1 hi hJ hold hdep K hK
      have q44 : a.tmps[44]?.getD undef = u64 s := (hdep 20 44 (by kernel_rfl) (by kernel_rfl)).2.1.trans (hdep 20 44 (by kernel_rfl) (by kernel_rfl)).2.2
      have q45 : a.tmps[45]?.getD undef = .slice ad n c := (hdep 21 45 (by kernel_rfl) (by kernel_rfl)).2.1.trans (hdep 21 45 (by kernel_rfl) (by kernel_rfl)).2.2
      have q42 : a.tmps[42]?.getD undef = .bool true := (hdep 18 42 (by kernel_rfl) (by kernel_rfl)).2.1.trans (hdep 18 42 (by kernel_rfl) (by kernel_rfl)).2.2
      clear hold hdep hend o0 o1 o2 o7 o8
      rw [wanted_of rfl (by kernel_rfl) q42, if_pos (by rfl)]
      go_simp
      go_at_call 19
      (with_reducible refine (HC.out _ (HB0.out.trans hJ)).mono ?_); rintro e w20 ⟨a', c', rfl, he, hb⟩
      exact hK _ _ (fun j u _ h => by
            match j, h with
            | 0, h | 1, h | 2, h | 3, h | 4, h | 5, h | 6, h | 7, h | 8, h | 9, h | 10, h | 11, h | 12, h | 13, h | 14, h | 15, h | 16, h | 17, h | 18, h | 19, h | 20, h | 21, h | 23, h | 24, h | 25, h | 26, h | 27, h | 28, h | 29, h | 30, h | 31, h | 32, h => exact h
            | 22, h => obtain ⟨a', c', h1, h2⟩ := h; exact ⟨a', c', h1, h2.ext he⟩
            | (n + 33), h => exact h) (hJ.trans he) ⟨_, _, rfl, hb⟩
    · intro ls vs a w1 hi hJ hold hdep K hK
      have q43 : a.tmps[43]?.getD undef = .slice a5 n c5 := (hdep 19 43 (by kernel_rfl) (by kernel_rfl)).2.1.trans (hdep 19 43 (by kernel_rfl) (by kernel_rfl)).2.2
      obtain ⟨hl22, q46, p46⟩ := hdep 22 46 (by kernel_rfl) (by kernel_rfl)
      have q42 : a.tmps[42]?.getD undef = .bool true := (hdep 18 42 (by kernel_rfl) (by kernel_rfl)).2.1.trans (hdep 18 42 (by kernel_rfl) (by kernel_rfl)).2.2
      clear hold hdep hend o0 o1 o2 o7 o8
      rw [wanted_of rfl (by kernel_rfl) q42, if_pos (by rfl)]
      obtain ⟨a', c', h1, h2⟩ := p46
      rw [h1] at q46
      go_simp
      go_at_call 18
      (with_reducible refine (HS1.out _ hJ a' c' h2).mono ?_); rintro e w20 ⟨rfl, he⟩
      exact hK _ _ (fun j u _ h => by
            match j, h with
            | 0, h | 1, h | 2, h | 3, h | 4, h | 5, h | 6, h | 7, h | 8, h | 9, h | 10, h | 11, h | 12, h | 13, h | 14, h | 15, h | 16, h | 17, h | 18, h | 19, h | 20, h | 21, h | 23, h | 24, h | 25, h | 26, h | 27, h | 28, h | 29, h | 30, h | 31, h | 32, h => exact h
            | 22, h => obtain ⟨a', c', h1, h2⟩ := h; exact ⟨a', c', h1, h2.ext he⟩
            | (n + 33), h => exact h) (hJ.trans he) rfl
    · intro ls vs a w1 hi hJ hold hdep K hK
      have q42 : a.tmps[42]?.getD undef = .bool true := (hdep 18 42 (by kernel_rfl) (by kernel_rfl)).2.1.trans (hdep 18 42 (by kernel_rfl) (by kernel_rfl)).2.2
      have q47 : a.tmps[47]?.getD undef = .bool true := (hdep 23 47 (by kernel_rfl) (by kernel_rfl)).2.1.trans (hdep 23 47 (by kernel_rfl) (by kernel_rfl)).2.2
      rw [if_pos (by rfl)]
      clear hold hdep hend o0 o1 o2 o7 o8
      go_simp
      exact hK _ _ (fun _ _ _ h => h) hJ rfl
    · intro ls vs a w1 hi hJ hold hdep K hK
      have q48 : a.tmps[48]?.getD undef = .bool true := (hdep 24 48 (by kernel_rfl) (by kernel_rfl)).2.1.trans (hdep 24 48 (by kernel_rfl) (by kernel_rfl)).2.2
      rw [if_pos (by rfl)]
      clear hold hdep hend o0 o1 o2 o7 o8
      go_simp
      exact hK _ _ (fun _ _ _ h => h) hJ rfl
    · intro ls vs a w1 hi hJ hold hdep K hK
      have q7 : a.tmps[7]?.getD undef = .slice a4 n c4 := (hold 7 (by kernel_rfl)).trans o7
      have q49 : a.tmps[49]?.getD undef = .bool true := (hdep 25 49 (by kernel_rfl) (by kernel_rfl)).2.1.trans (hdep 25 49 (by kernel_rfl) (by kernel_rfl)).2.2
      clear hold hdep hend o0 o1 o2 o7 o8
      rw [wanted_of rfl (by kernel_rfl) q49, if_pos (by rfl)]
      go_simp
      exact hK _ _ (fun _ _ _ h => h) hJ rfl
    · intro ls vs a w1 hi hJ hold hdep K hK
      have q1 : a.tmps[1]?.getD undef = .slice ad n c := (hold 1 (by kernel_rfl)).trans o1
      have q49 : a.tmps[49]?.getD undef = .bool true := (hdep 25 49 (by kernel_rfl) (by kernel_rfl)).2.1.trans (hdep 25 49 (by kernel_rfl) (by kernel_rfl)).2.2
      clear hold hdep hend o0 o1 o2 o7 o8
      rw [wanted_of rfl (by kernel_rfl) q49, if_pos (by rfl)]
      go_simp
      exact hK _ _ (fun _ _ _ h => h) hJ rfl
    · intro ls vs a w1 hi hJ hold hdep K hK
      have q50 : a.tmps[50]?.getD undef = .slice a4 n c4 := (hdep 26 50 (by kernel_rfl) (by kernel_rfl)).2.1.trans (hdep 26 50 (by kernel_rfl) (by kernel_rfl)).2.2
      have q51 : a.tmps[51]?.getD undef = .slice ad n c := (hdep 27 51 (by kernel_rfl) (by kernel_rfl)).2.1.trans (hdep 27 51 (by kernel_rfl) (by kernel_rfl)).2.2
      have q49 : a.tmps[49]?.getD undef = .bool true := (hdep 25 49 (by kernel_rfl) (by kernel_rfl)).2.1.trans (hdep 25 49 (by kernel_rfl) (by kernel_rfl)).2.2
      clear hold hdep hend o0 o1 o2 o7 o8
      rw [wanted_of rfl (by kernel_rfl) q49, if_pos (by rfl)]
      go_simp
      go_at_call 18
      (with_reducible refine (HS2.out _ hJ).mono ?_); rintro e w20 ⟨rfl, he⟩
      exact hK _ _ (fun j u _ h => by
            match j, h with
            | 0, h | 1, h | 2, h | 3, h | 4, h | 5, h | 6, h | 7, h | 8, h | 9, h | 10, h | 11, h | 12, h | 13, h | 14, h | 15, h | 16, h | 17, h | 18, h | 19, h | 20, h | 21, h | 23, h | 24, h | 25, h | 26, h | 27, h | 28, h | 29, h | 30, h | 31, h | 32, h => exact h
            | 22, h => obtain ⟨a', c', h1, h2⟩ := h; exact ⟨a', c', h1, h2.ext he⟩
            | (n + 33), h => exact h) (hJ.trans he) rfl
    · intro ls vs a w1 hi hJ hold hdep K hK
      have q49 : a.tmps[49]?.getD undef = .bool true := (hdep 25 49 (by kernel_rfl) (by kernel_rfl)).2.1.trans (hdep 25 49 (by kernel_rfl) (by kernel_rfl)).2.2
      have q52 : a.tmps[52]?.getD undef = .bool true := (hdep 28 52 (by kernel_rfl) (by kernel_rfl)).2.1.trans (hdep 28 52 (by kernel_rfl) (by kernel_rfl)).2.2
      rw [if_pos (by rfl)]
      clear hold hdep hend o0 o1 o2 o7 o8
      go_simp
      exact hK _ _ (fun _ _ _ h => h) hJ rfl
    · intro ls vs a w1 hi hJ hold hdep K hK
      have q53 : a.tmps[53]?.getD undef = .bool true := (hdep 29 53 (by kernel_rfl) (by kernel_rfl)).2.1.trans (hdep 29 53 (by kernel_rfl) (by kernel_rfl)).2.2
      rw [if_pos (by rfl)]
      clear hold hdep hend o0 o1 o2 o7 o8
      go_simp
      exact hK _ _ (fun _ _ _ h => h) hJ rfl
    · intro ls vs a w1 hi hJ hold hdep K hK
      have q54 : a.tmps[54]?.getD undef = .bool true := (hdep 30 54 (by kernel_rfl) (by kernel_rfl)).2.1.trans (hdep 30 54 (by kernel_rfl) (by kernel_rfl)).2.2
      clear hold hdep hend o0 o1 o2 o7 o8
      rw [wanted_of rfl (by kernel_rfl) q54, if_pos (by rfl)]
      go_simp
      go_at_call 12
      (with_reducible refine (known_any _).mono ?_); rintro e w20 ⟨rfl, he⟩
      exact hK _ _ (fun j u _ h => by
            match j, h with
            | 0, h | 1, h | 2, h | 3, h | 4, h | 5, h | 6, h | 7, h | 8, h | 9, h | 10, h | 11, h | 12, h | 13, h | 14, h | 15, h | 16, h | 17, h | 18, h | 19, h | 20, h | 21, h | 23, h | 24, h | 25, h | 26, h | 27, h | 28, h | 29, h | 30, h | 31, h | 32, h => exact h
            | 22, h => obtain ⟨a', c', h1, h2⟩ := h; exact ⟨a', c', h1, h2.ext he⟩
            | (n + 33), h => exact h) (hJ.trans he) rfl
    · intro ls vs a w1 hi hJ hold hdep K hK
      have q54 : a.tmps[54]?.getD undef = .bool true := (hdep 30 54 (by kernel_rfl) (by kernel_rfl)).2.1.trans (hdep 30 54 (by kernel_rfl) (by kernel_rfl)).2.2
      have q55 : a.tmps[55]?.getD undef = .bool true := (hdep 31 55 (by kernel_rfl) (by kernel_rfl)).2.1.trans (hdep 31 55 (by kernel_rfl) (by kernel_rfl)).2.2
      rw [if_pos (by rfl)]
      clear hold hdep hend o0 o1 o2 o7 o8
      go_simp
      exact hK _ _ (fun _ _ _ h => h) hJ rfl
    · intro ls vs a w1 hi hJ hold hdep K hK
      have q56 : a.tmps[56]?.getD undef = .bool true := (hdep 32 56 (by kernel_rfl) (by kernel_rfl)).2.1.trans (hdep 32 56 (by kernel_rfl) (by kernel_rfl)).2.2
      rw [if_pos (by rfl)]
      clear hold hdep hend o0 o1 o2 o7 o8
      go_simp
      exact hK _ _ (fun _ _ _ h => h) hJ rfl
  · intro vs w9 ls9 hl9 hJ9 hφ
    have e0 := hφ 0 (by kernel_rfl)
    have e1 := hφ 1 (by kernel_rfl)
    have e2 := hφ 2 (by kernel_rfl)
    have e3 := hφ 3 (by kernel_rfl)
    have e4 := hφ 4 (by kernel_rfl)
    have e5 := hφ 5 (by kernel_rfl)
    have e6 := hφ 6 (by kernel_rfl)
    have e7 := hφ 7 (by kernel_rfl)
    have e8 := hφ 8 (by kernel_rfl)
    have e9 := hφ 9 (by kernel_rfl)
    have e10 := hφ 10 (by kernel_rfl)
    have e11 := hφ 11 (by kernel_rfl)
    have e12 := hφ 12 (by kernel_rfl)
    have e13 := hφ 13 (by kernel_rfl)
    have e14 := hφ 14 (by kernel_rfl)
    have e15 := hφ 15 (by kernel_rfl)
    have e16 := hφ 16 (by kernel_rfl)
    have e17 := hφ 17 (by kernel_rfl)
    have e18 := hφ 18 (by kernel_rfl)
    have e19 := hφ 19 (by kernel_rfl)
    have e20 := hφ 20 (by kernel_rfl)
    have e21 := hφ 21 (by kernel_rfl)
    have e22 := hφ 22 (by kernel_rfl)
    have e23 := hφ 23 (by kernel_rfl)
    have e24 := hφ 24 (by kernel_rfl)
    have e25 := hφ 25 (by kernel_rfl)
    have e26 := hφ 26 (by kernel_rfl)
    have e27 := hφ 27 (by kernel_rfl)
    have e28 := hφ 28 (by kernel_rfl)
    have e29 := hφ 29 (by kernel_rfl)
    have e30 := hφ 30 (by kernel_rfl)
    have e31 := hφ 31 (by kernel_rfl)
    have e32 := hφ 32 (by kernel_rfl)
    have e33 := hφ 33 (by kernel_rfl)
    have hq := hend vs w9 ls9 hl9 hJ9 e0 e1 e2 e3 e4 e5 e6 e7 e8 e9 e10 e11 e12 e13 e14 e15 e16 e17 e18 e19 e20 e21 e22 e23 e24 e25 e26 e27 e28 e29 e30 e31 e32 e33
    simp only [Act.put] at hq
    simp only [putAll, Act.put]
    exact hq

set_option maxRecDepth 100000 in
set_option maxHeartbeats 4000000 in
theorem digests_any (s : Nat) (a : Option Addr) (xs : List UInt8) (c : Nat) (nm : ByteArray) (w : World) (hs : s < 18446744073709551616) (hx : Byts w a xs) :
    Calls Try.prog 3 #[.int .u64 s, .slice a xs.length c, .string nm] w (Ret (.bool true) w) := by
  have HX := Lib.hid hx; have HS := Lib.hid hs
  obtain ⟨n, hn⟩ : ∃ n, n = xs.length := ⟨_, rfl⟩
  have HN := Lib.hid hn
  rw [← hn]
  clear hx hn hs
  cases T1 : decide (300 < (n : Int))
  · cases T2 : decide (300 < (nm.size : Int))
    · have hn3 : n ≤ 300 := by simp at T1; omega
      have hm3 : nm.size ≤ 300 := by simp at T2; omega
      go_enter Try.func3, Try.ntmps3
      go_upto_region 3 with fail
      have happ := app_bytes (w.alloc (.cells #[] 5)) w.heap.size 23 (.slice (some ⟨w.heap.size, 0, none⟩) 0 0) [] xs a c (own_emptyB w) (HX.out.ext ((Ext.refl w).alloc _)) (by rw [← HN.out]; simp; omega) (by rw [heap_size]; omega)
      rw [← HN.out] at happ
      simp only [List.nil_append] at happ
      have HA := Lib.hid happ
      clear happ
      go_upto_region 4 with (at_builtin; refine wpList_app _ rfl _ _ 23 rfl _ HA.out ?_; rintro v' w5 ⟨ho5, hg5, -⟩; have he5 := grown_ext (w := w) ((Ext.refl w).alloc _) hg5 (by intro k hk; simp [Value.ownBlock] at hk; omega); obtain ⟨a4, c4, rfl⟩ := ho5.slice; rw [← HN.out] at ho5 ⊢; have HO5 := Lib.hid ho5; have HE5 := Lib.hid he5; clear ho5 hg5 he5)
      have hcp : Calls Try.prog 13 #[.int .u64 s, .slice a4 n c4] w5 (RetB (ciph s xs) w5) := by
        have := cipher_any s a4 xs c4 w5 HS.out HO5.out.byts.1 (by rw [← HN.out]; omega)
        rwa [← HN.out] at this
      have HCP := Lib.hid hcp
      clear HA hcp
      go_wp2_with (fail)
      (with_reducible refine HCP.out.mono ?_); rintro e w0 ⟨a5, c5, rfl, he6, ho6⟩
      have hcl : (ciph s xs).length = n := by rw [ciph_len, ← HN.out]
      rw [hcl] at ho6 ⊢
      have HE6 := Lib.hid he6; have HO6 := Lib.hid ho6; have HCL := Lib.hid hcl
      clear HCP he6 ho6 hcl
      have HB0 : Hid (Ext w w0) := HE5.out.trans HE6.out
      have HD1 : Hid (∀ W, Ext w0 W → Calls Try.prog 14 #[u64 s, .slice a4 n c4] W (Ret (u64 (hbs (nh s) xs)) W)) := fun W e => by
        have := digest_any s a4 xs c4 W ((HO5.out.byts.1.ext HE6.out).ext e) (by rw [← HN.out]; omega)
        rwa [← HN.out] at this
      have HD2 : Hid (∀ W, Ext w W → Calls Try.prog 15 #[u64 s, .slice a n c] W (Ret (u64 (hbs (nh s) xs)) W)) := fun W e => by
        have := rdigest_any s a xs c W (HX.out.ext e) (by rw [← HN.out]; omega)
        rwa [← HN.out] at this
      have hsx : (⟨xs.toArray⟩ : ByteArray).size = n := by rw [HN.out]; rfl
      have HK1 : Hid (∀ W, Ext w W → Calls Try.prog 16 #[.string nm, .string ⟨xs.toArray⟩] W (Ret (u64 (keyN nm ⟨xs.toArray⟩)) W)) := fun W e => key_any nm _ W (by unfold maxLen; omega) (by rw [hsx]; unfold maxLen; omega)
      have HK2 : Hid (∀ W, Ext w W → Calls Try.prog 17 #[.string nm, .string ⟨xs.toArray⟩] W (Ret (u64 (keyN nm ⟨xs.toArray⟩)) W)) := fun W e => rkey_any nm _ W (by omega) (by rw [hsx]; omega)
      have HC : Hid (∀ W, Ext w W → Calls Try.prog 19 #[u64 s, .slice a n c] W (fun e w' => ∃ a' c', e = .returned (.slice a' n c') ∧ Ext W w' ∧ Byts w' a' (ciph s xs))) := fun W e => by
        have := rcipher_any s a xs c W HS.out (HX.out.ext e) (by rw [← HN.out]; omega)
        rw [← HN.out] at this
        refine this.mono fun e w' ⟨a', c', h1, h2, h3⟩ => ⟨a', c', ?_, h2, h3.byts.1⟩
        rw [h1, HCL.out]
      have HS1 : Hid (∀ W, Ext w0 W → ∀ a' c', Byts W a' (ciph s xs) → Calls Try.prog 18 #[.slice a5 n c5, .slice a' n c'] W (Ret (.bool true) W)) := fun W e a' c' hb => by
        have := sameBytes_any a5 a' (ciph s xs) (ciph s xs) c5 c' W (HO6.out.byts.1.ext e) hb (by rw [HCL.out]; omega)
        rw [HCL.out, decide_eq_true rfl] at this
        exact this
      have HS2 : Hid (∀ W, Ext w0 W → Calls Try.prog 18 #[.slice a4 n c4, .slice a n c] W (Ret (.bool true) W)) := fun W e => by
        have := sameBytes_any a4 a xs xs c4 c W ((HO5.out.byts.1.ext HE6.out).ext e) (HX.out.ext (HB0.out.trans e)) (by rw [← HN.out]; omega)
        rw [← HN.out, decide_eq_true rfl] at this
        exact this
      have HST : Hid (∀ W, Ext w W → (convert 23 9 (.slice a n c)).run Try.prog W = .ok (.string ⟨xs.toArray⟩) W) := fun W e => by
        have := run_stringOf W a xs c (HX.out.ext e)
        rwa [← HN.out] at this
      clear hsx
      go_upto_region 5 with fail
      refine l3_law HB0 HD1 HD2 HK1 HK2 HC HS1 HS2 HST _ (by rfl) rfl rfl rfl rfl rfl ?_
      intro vs w9 ls9 hl9 hJ9 e0 e1 e2 e3 e4 e5 e6 e7 e8 e9 e10 e11 e12 e13 e14 e15 e16 e17 e18 e19 e20 e21 e22 e23 e24 e25 e26 e27 e28 e29 e30 e31 e32 e33
      simp only [Act.put, List.setIfInBounds_toArray, List.set_cons_zero, List.set_cons_succ]
      rw [e0, e1, e2, e3, e4, e5, e6, e7, e8, e9, e10, e11, e12, e13, e14, e15, e16, e17, e18, e19, e20, e21, e23, e24, e25, e26, e27, e28, e29, e30, e31, e32, e33]
      clear e0 e1 e2 e3 e4 e5 e6 e7 e8 e9 e10 e11 e12 e13 e14 e15 e16 e17 e18 e19 e20 e21 e22 e23 e24 e25 e26 e27 e28 e29 e30 e31 e32 e33
      go_wp2_with (fail)
      go_ret
      exact ⟨rfl, HB0.out.trans hJ9⟩
    · go_enter Try.func3, Try.ntmps3
      go_wp2_with (fail)
      (with_reducible refine (known_any _).mono ?_); rintro e w1 ⟨rfl, he1⟩
      go_wp2_with (fail)
      go_ret
      exact ⟨rfl, he1⟩
  · go_enter Try.func3, Try.ntmps3
    go_wp2_with (fail)
    (with_reducible refine (known_any _).mono ?_); rintro e w1 ⟨rfl, he1⟩
    go_wp2_with (fail)
    go_ret
    exact ⟨rfl, he1⟩
end Go.Proofs.Ytlahejakcgoheaa
