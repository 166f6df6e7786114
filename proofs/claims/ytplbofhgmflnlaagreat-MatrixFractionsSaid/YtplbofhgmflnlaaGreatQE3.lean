/-
  Walk: the reference's Aliases, behind a region of its own.
-/
import Derived.Test.YtplbofhgmflnlaaGreatQE2
set_option linter.unusedVariables false
set_option linter.unusedSimpArgs false
namespace Go.Proofs.YtplbofhgmflnlaaGreat
open Go.RowKit
set_option maxRecDepth 100000 in
set_option maxHeartbeats 4000000 in
theorem al38_law {lb lo n lc k xm z u N : Nat} {xo : Bool} {V : Value} {wr : World} {T : World → Nat → Nat → Prop} (hk0 : (0 : Int) ≤ (k : Int)) (hkn : (k : Int) < (n : Int)) (hxor : bits .xor .u16 (xm : Int) (u : Int) = (z : Int)) (HY0 : Hid (∀ W, Ext wr W → W.cell? ⟨lb, lo + k * 2, none⟩ = some (.int .u16 (xm : Int)))) (HY1 : Hid (∀ W, Ext wr W → W.cell? ⟨lb, lo + k * 2 + 1, none⟩ = some (.bool xo))) (HCALL : Hid (∀ W, Ext wr W → Calls Tryz.prog 90 #[V, .agg #[.int .u16 (z : Int), .bool xo]] W (fun e w' => ∃ g' c', e = .returned (.slice (some ⟨g', 0, none⟩) N c') ∧ Ext W w' ∧ T w' g' c'))) {Q : Exit → Act → World → Prop} (aZ : Act) (hsz : aZ.tmps.size = 37) (o1 : aZ.tmps[1]?.getD undef = .int .u16 (u : Int)) (o5 : aZ.tmps[5]?.getD undef = .slice (some ⟨lb, lo, none⟩) n lc) (o7 : aZ.tmps[7]?.getD undef = V) (o8 : aZ.tmps[8]?.getD undef = .int .i64 (k : Int))
    (hend : ∀ (vs : Nat → Value) (w9 : World) (ls9 : Nat → Bool), (∀ j : Nat, j < 16 → ls9 j = true) → (Ext wr w9 ∧ (ls9 14 = true → ∃ g c, vs 14 = .slice (some ⟨g, 0, none⟩) N c ∧ T w9 g c) ∧ (ls9 15 = true → vs 15 = vs 14)) → (vs 0 = V) → (vs 1 = .slice (some ⟨lb, lo, none⟩) n lc) → (vs 2 = .int .i64 (k : Int)) → (vs 3 = .pointer (some ⟨lb, lo + k * 2, none⟩)) → (vs 4 = .pointer (some ⟨lb, lo + k * 2, none⟩)) → (vs 5 = .int .u16 (xm : Int)) → (vs 6 = .int .u16 (u : Int)) → (vs 7 = .int .u16 (z : Int)) → (vs 8 = .slice (some ⟨lb, lo, none⟩) n lc) → (vs 9 = .int .i64 (k : Int)) → (vs 10 = .pointer (some ⟨lb, lo + k * 2, none⟩)) → (vs 11 = .pointer (some ⟨lb, lo + k * 2 + 1, none⟩)) → (vs 12 = .bool xo) → (vs 13 = .agg #[.int .u16 (z : Int), .bool xo]) → (True) → (True) → Q .normal ((((((((((((((((aZ.put (some 21) (vs 0)).put (some 22) (vs 1)).put (some 23) (vs 2)).put (some 24) (vs 3)).put (some 25) (vs 4)).put (some 26) (vs 5)).put (some 27) (vs 6)).put (some 28) (vs 7)).put (some 29) (vs 8)).put (some 30) (vs 9)).put (some 31) (vs 10)).put (some 32) (vs 11)).put (some 33) (vs 12)).put (some 34) (vs 13)).put (some 35) (vs 14)).put (some 7) (vs 15)) w9) : (regOf Tryz.f38 6).wp Tryz.prog Q aZ wr := by
  conv => arg 2; whnf
  refine wp_region_said3 (fun i v wz => match i with
    | 0 => v = V
    | 1 => v = .slice (some ⟨lb, lo, none⟩) n lc
    | 2 => v = .int .i64 (k : Int)
    | 3 => v = .pointer (some ⟨lb, lo + k * 2, none⟩)
    | 4 => v = .pointer (some ⟨lb, lo + k * 2, none⟩)
    | 5 => v = .int .u16 (xm : Int)
    | 6 => v = .int .u16 (u : Int)
    | 7 => v = .int .u16 (z : Int)
    | 8 => v = .slice (some ⟨lb, lo, none⟩) n lc
    | 9 => v = .int .i64 (k : Int)
    | 10 => v = .pointer (some ⟨lb, lo + k * 2, none⟩)
    | 11 => v = .pointer (some ⟨lb, lo + k * 2 + 1, none⟩)
    | 12 => v = .bool xo
    | 13 => v = .agg #[.int .u16 (z : Int), .bool xo]
    | 14 => True
    | _ => True) (fun ls vs wz => Ext wr wz ∧ (ls 14 = true → ∃ g c, vs 14 = .slice (some ⟨g, 0, none⟩) N c ∧ T wz g c) ∧ (ls 15 = true → vs 15 = vs 14)) (by kernel_rfl) (by kernel_rfl) (by rw [hsz]; kernel_rfl) ?_ ?_ ?_
  · exact ⟨(Ext.refl _).drew, fun e => (by cases e), fun e => (by cases e)⟩
  · refine ⟨?_, ?_, ?_, ?_, ?_, ?_, ?_, ?_, ?_, ?_, ?_, ?_, ?_, ?_, ?_, ?_, trivial⟩
    · intro ls vs a w1 hi hJ hold hdep hdon hcl K hK
      have q7 : a.tmps[7]?.getD undef = V := (hold 7 (by kernel_rfl)).trans o7
      rw [if_pos (by rfl)]
      clear hold hdep hend hdon hcl o1 o5 o7 o8
      have HJ := Lib.hid hJ
      clear hJ
      go_simp
      exact hK _ _ (fun _ _ _ h => h) HJ.out rfl
    · intro ls vs a w1 hi hJ hold hdep hdon hcl K hK
      have q5 : a.tmps[5]?.getD undef = .slice (some ⟨lb, lo, none⟩) n lc := (hold 5 (by kernel_rfl)).trans o5
      rw [if_pos (by rfl)]
      clear hold hdep hend hdon hcl o1 o5 o7 o8
      have HJ := Lib.hid hJ
      clear hJ
      go_simp
      exact hK _ _ (fun _ _ _ h => h) HJ.out rfl
    · intro ls vs a w1 hi hJ hold hdep hdon hcl K hK
      have q8 : a.tmps[8]?.getD undef = .int .i64 (k : Int) := (hold 8 (by kernel_rfl)).trans o8
      rw [if_pos (by rfl)]
      clear hold hdep hend hdon hcl o1 o5 o7 o8
      have HJ := Lib.hid hJ
      clear hJ
      go_simp
      exact hK _ _ (fun _ _ _ h => h) HJ.out rfl
    · intro ls vs a w1 hi hJ hold hdep hdon hcl K hK
      have q22 : a.tmps[22]?.getD undef = .slice (some ⟨lb, lo, none⟩) n lc := (hdep 1 22 (by kernel_rfl) (by kernel_rfl)).2.1.trans (hdep 1 22 (by kernel_rfl) (by kernel_rfl)).2.2
      have q23 : a.tmps[23]?.getD undef = .int .i64 (k : Int) := (hdep 2 23 (by kernel_rfl) (by kernel_rfl)).2.1.trans (hdep 2 23 (by kernel_rfl) (by kernel_rfl)).2.2
      rw [if_pos (by rfl)]
      clear hold hdep hend hdon hcl o1 o5 o7 o8
      have HJ := Lib.hid hJ
      clear hJ
      go_simp
      exact hK _ _ (fun _ _ _ h => h) HJ.out rfl
    · intro ls vs a w1 hi hJ hold hdep hdon hcl K hK
      have q24 : a.tmps[24]?.getD undef = .pointer (some ⟨lb, lo + k * 2, none⟩) := (hdep 3 24 (by kernel_rfl) (by kernel_rfl)).2.1.trans (hdep 3 24 (by kernel_rfl) (by kernel_rfl)).2.2
      rw [if_pos (by rfl)]
      clear hold hdep hend hdon hcl o1 o5 o7 o8
      have HJ := Lib.hid hJ
      clear hJ
      go_simp
      exact hK _ _ (fun _ _ _ h => h) HJ.out rfl
    · intro ls vs a w1 hi hJ hold hdep hdon hcl K hK
      have q25 : a.tmps[25]?.getD undef = .pointer (some ⟨lb, lo + k * 2, none⟩) := (hdep 4 25 (by kernel_rfl) (by kernel_rfl)).2.1.trans (hdep 4 25 (by kernel_rfl) (by kernel_rfl)).2.2
      rw [if_pos (by rfl)]
      clear hold hdep hend hdon hcl o1 o5 o7 o8
      have HJ := Lib.hid hJ
      clear hJ
      have c7 := HY0.out w1 HJ.out.1
      go_simp
      exact hK _ _ (fun _ _ _ h => h) HJ.out rfl
    · intro ls vs a w1 hi hJ hold hdep hdon hcl K hK
      have q1 : a.tmps[1]?.getD undef = .int .u16 (u : Int) := (hold 1 (by kernel_rfl)).trans o1
      rw [if_pos (by rfl)]
      clear hold hdep hend hdon hcl o1 o5 o7 o8
      have HJ := Lib.hid hJ
      clear hJ
      go_simp
      exact hK _ _ (fun _ _ _ h => h) HJ.out rfl
    · intro ls vs a w1 hi hJ hold hdep hdon hcl K hK
      have q26 : a.tmps[26]?.getD undef = .int .u16 (xm : Int) := (hdep 5 26 (by kernel_rfl) (by kernel_rfl)).2.1.trans (hdep 5 26 (by kernel_rfl) (by kernel_rfl)).2.2
      have q27 : a.tmps[27]?.getD undef = .int .u16 (u : Int) := (hdep 6 27 (by kernel_rfl) (by kernel_rfl)).2.1.trans (hdep 6 27 (by kernel_rfl) (by kernel_rfl)).2.2
      rw [if_pos (by rfl)]
      clear hold hdep hend hdon hcl o1 o5 o7 o8
      have HJ := Lib.hid hJ
      clear hJ
      go_simp
      exact hK _ _ (fun _ _ _ h => h) HJ.out rfl
    · intro ls vs a w1 hi hJ hold hdep hdon hcl K hK
      have q5 : a.tmps[5]?.getD undef = .slice (some ⟨lb, lo, none⟩) n lc := (hold 5 (by kernel_rfl)).trans o5
      rw [if_pos (by rfl)]
      clear hold hdep hend hdon hcl o1 o5 o7 o8
      have HJ := Lib.hid hJ
      clear hJ
      go_simp
      exact hK _ _ (fun _ _ _ h => h) HJ.out rfl
    · intro ls vs a w1 hi hJ hold hdep hdon hcl K hK
      have q8 : a.tmps[8]?.getD undef = .int .i64 (k : Int) := (hold 8 (by kernel_rfl)).trans o8
      rw [if_pos (by rfl)]
      clear hold hdep hend hdon hcl o1 o5 o7 o8
      have HJ := Lib.hid hJ
      clear hJ
      go_simp
      exact hK _ _ (fun _ _ _ h => h) HJ.out rfl
    · intro ls vs a w1 hi hJ hold hdep hdon hcl K hK
      have q29 : a.tmps[29]?.getD undef = .slice (some ⟨lb, lo, none⟩) n lc := (hdep 8 29 (by kernel_rfl) (by kernel_rfl)).2.1.trans (hdep 8 29 (by kernel_rfl) (by kernel_rfl)).2.2
      have q30 : a.tmps[30]?.getD undef = .int .i64 (k : Int) := (hdep 9 30 (by kernel_rfl) (by kernel_rfl)).2.1.trans (hdep 9 30 (by kernel_rfl) (by kernel_rfl)).2.2
      rw [if_pos (by rfl)]
      clear hold hdep hend hdon hcl o1 o5 o7 o8
      have HJ := Lib.hid hJ
      clear hJ
      go_simp
      exact hK _ _ (fun _ _ _ h => h) HJ.out rfl
    · intro ls vs a w1 hi hJ hold hdep hdon hcl K hK
      have q31 : a.tmps[31]?.getD undef = .pointer (some ⟨lb, lo + k * 2, none⟩) := (hdep 10 31 (by kernel_rfl) (by kernel_rfl)).2.1.trans (hdep 10 31 (by kernel_rfl) (by kernel_rfl)).2.2
      rw [if_pos (by rfl)]
      clear hold hdep hend hdon hcl o1 o5 o7 o8
      have HJ := Lib.hid hJ
      clear hJ
      go_simp
      exact hK _ _ (fun _ _ _ h => h) HJ.out rfl
    · intro ls vs a w1 hi hJ hold hdep hdon hcl K hK
      have q32 : a.tmps[32]?.getD undef = .pointer (some ⟨lb, lo + k * 2 + 1, none⟩) := (hdep 11 32 (by kernel_rfl) (by kernel_rfl)).2.1.trans (hdep 11 32 (by kernel_rfl) (by kernel_rfl)).2.2
      rw [if_pos (by rfl)]
      clear hold hdep hend hdon hcl o1 o5 o7 o8
      have HJ := Lib.hid hJ
      clear hJ
      have c7 := HY1.out w1 HJ.out.1
      go_simp
      exact hK _ _ (fun _ _ _ h => h) HJ.out rfl
    · intro ls vs a w1 hi hJ hold hdep hdon hcl K hK
      have q28 : a.tmps[28]?.getD undef = .int .u16 (z : Int) := (hdep 7 28 (by kernel_rfl) (by kernel_rfl)).2.1.trans (hdep 7 28 (by kernel_rfl) (by kernel_rfl)).2.2
      have q33 : a.tmps[33]?.getD undef = .bool xo := (hdep 12 33 (by kernel_rfl) (by kernel_rfl)).2.1.trans (hdep 12 33 (by kernel_rfl) (by kernel_rfl)).2.2
      rw [if_pos (by rfl)]
      clear hold hdep hend hdon hcl o1 o5 o7 o8
      have HJ := Lib.hid hJ
      clear hJ
      go_simp
      exact hK _ _ (fun _ _ _ h => h) HJ.out rfl
    · intro ls vs a w1 hi hJ hold hdep hdon hcl K hK
      have q21 : a.tmps[21]?.getD undef = V := (hdep 0 21 (by kernel_rfl) (by kernel_rfl)).2.1.trans (hdep 0 21 (by kernel_rfl) (by kernel_rfl)).2.2
      have q34 : a.tmps[34]?.getD undef = .agg #[.int .u16 (z : Int), .bool xo] := (hdep 13 34 (by kernel_rfl) (by kernel_rfl)).2.1.trans (hdep 13 34 (by kernel_rfl) (by kernel_rfl)).2.2
      have hn15 : ls 15 = false := by
        cases e : ls 15 with
        | false => rfl
        | true =>
          replace e := hcl 15 14 e (by kernel_rfl)
          rw [show ls 14 = false from hi] at e
          cases e
      have hl0 := hdon 0 (by kernel_rfl)
      have hl13 := hdon 13 (by kernel_rfl)
      rw [if_pos (by rfl)]
      clear hold hdep hend hdon hcl o1 o5 o7 o8
      have HJ := Lib.hid hJ
      clear hJ
      obtain ⟨j1, j2, j3⟩ := HJ.out
      have hc := HCALL.out w1 j1
      go_simp
      go_at_call 90
      (with_reducible refine hc.mono ?_); rintro e w20 ⟨ga, gc, rfl, he2, ht⟩
      exact hK _ _ (fun _ _ _ h => h) ⟨j1.trans he2, fun _ => ⟨ga, gc, rfl, ht⟩, fun e => (by simp [hn15] at e)⟩ trivial
    · intro ls vs a w1 hi hJ hold hdep hdon hcl K hK
      obtain ⟨hl14, q35, p35⟩ := hdep 14 35 (by kernel_rfl) (by kernel_rfl)
      have hl14 := hdon 14 (by kernel_rfl)
      rw [if_pos (by rfl)]
      clear hold hdep hend hdon hcl o1 o5 o7 o8
      have HJ := Lib.hid hJ
      clear hJ
      obtain ⟨j1, j2, j3⟩ := HJ.out
      go_simp
      exact hK _ _ (fun _ _ _ h => h) ⟨j1, j2, fun _ => rfl⟩ trivial
  · intro vs w9 ls9 hl9 hJ9 hφ
    have e0 := hφ 0 (by kernel_rfl)
    have e1 := hφ 1 (by kernel_rfl)
    have e2 := hφ 2 (by kernel_rfl)
    have e3 := hφ 3 (by kernel_rfl)
    have e4 := hφ 4 (by kernel_rfl)
    have e5 := hφ 5 (by kernel_rfl)
    have e6 := hφ 6 (by kernel_rfl)
    have e7 := hφ 7 (by kernel_rfl)
    have e8 := hφ 8 (by kernel_rfl)
    have e9 := hφ 9 (by kernel_rfl)
    have e10 := hφ 10 (by kernel_rfl)
    have e11 := hφ 11 (by kernel_rfl)
    have e12 := hφ 12 (by kernel_rfl)
    have e13 := hφ 13 (by kernel_rfl)
    have e14 := hφ 14 (by kernel_rfl)
    have e15 := hφ 15 (by kernel_rfl)
    have hq := hend vs w9 ls9 hl9 hJ9 e0 e1 e2 e3 e4 e5 e6 e7 e8 e9 e10 e11 e12 e13 e14 e15
    simp only [Act.put] at hq
    simp only [putAll, Act.put]
    exact hq
theorem aliTo_mask {u : Wd} {l : List Wd} (hu : u.mask < 65536) (hl : ∀ x ∈ l, x.mask < 65536) : ∀ k, k ≤ l.length → ∀ x ∈ aliTo u l k, x.mask < 65536
  | 0, _, x, hx => by simp [aliTo] at hx
  | k + 1, hk, x, hx => by
    simp only [aliTo] at hx
    rcases putW_mem hx with rfl | hx
    · refine mulW_lt ?_ hu
      have : l.getD k oneW ∈ l := by simp [List.getD, List.getElem?_eq_getElem (show k < l.length by omega)]
      exact hl _ this
    · exact aliTo_mask hu hl k (by omega) x hx
theorem aliTo_len (u : Wd) (l : List Wd) : ∀ k, (aliTo u l k).length ≤ k
  | 0 => by simp [aliTo]
  | k + 1 => by
    have ih := aliTo_len u l k
    have := putW_len (aliTo u l k) (mulW (l.getD k oneW) u)
    simp only [aliTo]; omega
set_option maxRecDepth 100000 in
set_option maxHeartbeats 4000000 in
theorem rAli_any (F : Fr) (u : Nat) (w : World) (h : FrAt w F) (hl : F.ws.length ≤ 8) (hm : ∀ j, j < F.ws.length → (wth F.ws j).mask < 65536) (hu : u < 65536) (hc : clashW F.ws = false) :
    Calls Tryz.prog 38 #[frV F, .int .u16 (u : Int)] w (fun e w' => ∃ a c, e = .returned (.slice a (aliTo ⟨u, false⟩ (relTo F.ws (2 ^ F.ws.length)) (relTo F.ws (2 ^ F.ws.length)).length).length c) ∧ Ext w w' ∧ Wds w' a (aliTo ⟨u, false⟩ (relTo F.ws (2 ^ F.ws.length)) (relTo F.ws (2 ^ F.ws.length)).length)) := by
  have hre := fun W (e : Ext w W) => rRel_any F W (h.ext e) hl hm
  have hq : 2 ^ F.ws.length ≤ 256 := by
    have : (2 : Nat) ^ F.ws.length ≤ 2 ^ 8 := Nat.pow_le_pow_right (by omega) hl
    omega
  obtain ⟨L, hL⟩ : ∃ L, L = relTo F.ws (2 ^ F.ws.length) := ⟨_, rfl⟩
  have HRE : Hid (∀ W, Ext w W → Calls Tryz.prog 35 #[frV F] W (fun e w' => ∃ g c, e = .returned (.tuple #[.slice (some ⟨g, 0, none⟩) L.length c, .bool true]) ∧ Ext W w' ∧ Wds w' (some ⟨g, 0, none⟩) L)) := fun W e => (hre W e).mono (by
    rintro e w' ⟨he, ⟨h1, -⟩ | ⟨-, g, c, rfl, h2, h3⟩⟩
    · rw [hc] at h1; cases h1
    · rw [← hL] at h2 ⊢
      exact ⟨g, c, rfl, he, h2⟩)
  have hLm : ∀ x ∈ L, x.mask < 65536 := by rw [hL]; exact relTo_mask hm _
  have hLl : L.length ≤ 256 := by rw [hL]; have := relTo_len F.ws (2 ^ F.ws.length); omega
  rw [← hL]
  have HLM : Hid (∀ j, j < L.length → (wth L j).mask < 65536) := fun j hj => hLm _ (by rw [wth_eq _ _ hj]; exact List.getElem_mem _)
  have HAM := Lib.hid (aliTo_mask (u := ⟨u, false⟩) hu hLm)
  have HAL := Lib.hid (aliTo_len ⟨u, false⟩ L)
  have HAS : Hid (∀ k, aliTo ⟨u, false⟩ L (k + 1) = putW (aliTo ⟨u, false⟩ L k) (mulW (wth L k) ⟨u, false⟩)) := fun k => rfl
  obtain ⟨fn, ws, wa, wc⟩ := F
  obtain ⟨n, hnn⟩ : ∃ n, n = L.length := ⟨_, rfl⟩
  have HN := Lib.hid hnn
  obtain ⟨A, hA⟩ : ∃ A : Nat → List Wd, A = aliTo ⟨u, false⟩ L := ⟨_, rfl⟩
  rw [← hnn] at HRE HLM HAM hLl ⊢
  rw [← hA] at HAM HAL HAS ⊢
  have HA0 : Hid (A 0 = []) := by rw [hA]; rfl
  obtain ⟨m, hmm⟩ : ∃ m, m = ws.length := ⟨_, rfl⟩
  have HMM := Lib.hid hmm
  show Calls Tryz.prog 38 #[.agg #[.int .i64 fn, .slice wa ws.length wc], .int .u16 (u : Int)] w _
  rw [← hmm]
  have HRE2 : Hid (∀ W, Ext w W → Calls Tryz.prog 35 #[.agg #[.int .i64 fn, .slice wa m wc]] W (fun e w' => ∃ g c, e = .returned (.tuple #[.slice (some ⟨g, 0, none⟩) n c, .bool true]) ∧ Ext W w' ∧ Wds w' (some ⟨g, 0, none⟩) L)) := by rw [hmm]; exact HRE
  clear h hl hm hc hre hq hL HRE hLm hnn hA hmm
  go_enter Tryz.func38, Tryz.ntmps38
  go_upto_region 1 with fail
  generalize hw1 : World.alloc _ _ = w1
  obtain ⟨he, o1, -⟩ := alloc1 hw1
  obtain ⟨b0, b1⟩ := obj_cells2 o1
  have HE := Lib.hid he
  have E1 := Ext.refl w1
  clear hw1 o1 he
  go_wp2_with (fail)
  (with_reducible refine (HRE2.out _ HE.out).mono ?_); rintro e w2 ⟨lb, lc, rfl, he2, hl2⟩
  have HL2 := Lib.hid hl2
  have HX0 : Hid (Ext w1 (w2.alloc (.cells #[] 75))) := he2.alloc _
  have HY0' : Hid (Ext w2 (w2.alloc (.cells #[] 75))) := (Ext.refl _).alloc _
  clear he2 hl2 b0 b1 E1 HRE2
  go_wp2_with (fail)
  go_loopw [7, 8] (fun ov iv wr => ∃ (k g c : Nat), k ≤ n ∧ iv = .int .i64 k ∧ ov = .slice (some ⟨g, 0, none⟩) (A k).length c ∧ Hid (Ext w1 wr ∧ Ext w2 wr ∧ Wds wr (some ⟨g, 0, none⟩) (A k) ∧ (A k).length ≤ c)) (fun _ iv _ => n - (intOf iv).toNat)
  case atStart => exact ⟨0, _, 0, Nat.zero_le _, rfl, by rw [HA0.out]; rfl, HX0.out, HY0'.out, by rw [HA0.out]; exact .inl rfl, by rw [HA0.out]; exact Nat.le_refl _⟩
  case round =>
    obtain ⟨k, g, c, hk, rfl, rfl, HX⟩ := hrel
    by_cases hlt : k < n
    · obtain ⟨lb', lo', hlb, q0, q1⟩ := wd_at (RowAt.ext wdC_len HL2.out HX.out.2.1) k (by rw [← HN.out]; exact hlt)
      simp only [Option.some.injEq, Addr.mk.injEq, and_true] at hlb
      obtain ⟨rfl, rfl⟩ := hlb
      have hm1 := HLM.out k hlt
      have HAK := Lib.hid (HAS.out k)
      have HPM := Lib.hid (HAM.out k hk)
      obtain ⟨x, hxe⟩ : ∃ x, x = wth L k := ⟨_, rfl⟩
      rw [← hxe] at q0 q1 hm1 HAK
      clear hxe
      obtain ⟨xm, xo⟩ := x
      simp only at q0 q1 hm1
      obtain ⟨z, hz⟩ : ∃ z, z = xm ^^^ u := ⟨_, rfl⟩
      have hxor : bits .xor .u16 (xm : Int) (u : Int) = (z : Int) := by rw [hz]; exact bits_xor_u16_nat xm u hm1 hu
      have hzl : z < 65536 := by rw [hz]; exact mulW_lt (x := ⟨xm, xo⟩) (y := ⟨u, false⟩) hm1 hu
      have HNZ : Hid (A (k + 1) = putW (A k) ⟨z, xo⟩) := by
        rw [Hid, HAK.out, mulW, ← hz]
        cases xo <;> rfl
      have hk0 : (0 : Int) ≤ (k : Int) := by omega
      have hkn : (k : Int) < (n : Int) := by omega
      have HY0 := Lib.hid q0
      have HY1 := Lib.hid q1
      have HCALL : Hid (∀ W, Ext wr W → Calls Tryz.prog 90 #[.slice (some ⟨g, 0, none⟩) (A k).length c, .agg #[.int .u16 (z : Int), .bool xo]] W (fun e w' => ∃ g' c', e = .returned (.slice (some ⟨g', 0, none⟩) (A (k + 1)).length c') ∧ Ext W w' ∧ (fun W' g' c' => Wds W' (some ⟨g', 0, none⟩) (A (k + 1)) ∧ (A (k + 1)).length ≤ c') w' g' c')) := fun W e => by
        rw [HNZ.out]
        have := rPut_any (A k) ⟨z, xo⟩ g c W (RowAt.ext wdC_len HX.out.2.2.1 e) (by have := HAL.out k; omega) HX.out.2.2.2 (fun j hj => HPM.out _ (by rw [wth_eq _ _ hj]; exact List.getElem_mem _)) hzl
        refine this.mono ?_
        rintro e w' ⟨g', c', rfl, he, h1, h2⟩
        exact ⟨g', c', rfl, he, h1, h2⟩
      clear hz q0 q1 hm1 hzl HAK HPM
      go_upto_region 6 with fail
      refine al38_law hk0 hkn hxor HY0 HY1 HCALL _ (by rfl) rfl rfl rfl rfl ?_
      intro vs w9 ls9 hl9 hJ9 e0 e1 e2 e3 e4 e5 e6 e7 e8 e9 e10 e11 e12 e13 e14 e15
      simp only [Act.put, List.setIfInBounds_toArray, List.set_cons_zero, List.set_cons_succ]
      rw [e0, e1, e2, e3, e4, e5, e6, e7, e8, e9, e10, e11, e12, e13]
      obtain ⟨he9, j2, j3⟩ := hJ9
      obtain ⟨g9, c9, hv, hw9, hc9⟩ := j2 (hl9 14 (by omega))
      rw [j3 (hl9 15 (by omega)), hv]
      have HX9 : Hid (Ext w1 w9 ∧ Ext w2 w9 ∧ Wds w9 (some ⟨g9, 0, none⟩) (A (k + 1)) ∧ (A (k + 1)).length ≤ c9) := ⟨HX.out.1.trans he9, HX.out.2.1.trans he9, hw9, hc9⟩
      clear he9 j2 j3 hv hw9 hc9 hl9 e0 e1 e2 e3 e4 e5 e6 e7 e8 e9 e10 e11 e12 e13 e14 e15 HX HCALL HY0 HY1 hxor
      go_wp2_with (fail)
      go_roundw
      case rel => exact ⟨k + 1, g9, c9, by omega, by go_num, rfl, HX9.out⟩
      case measure => simp [intOf]; omega
    · obtain rfl : k = n := by omega
      go_wp2_with (fail)
      go_ret
      exact ⟨_, c, rfl, HE.out.trans HX.out.1, HX.out.2.2.1⟩
end Go.Proofs.YtplbofhgmflnlaaGreat
