/-
  HallSecret's regions that draw their order, each a theorem of its own (printed by wip/tools/regthm.py from wip/tools/spec4_*.txt).
-/
import Derived.Test.YtjpgignbjkgjiaaR27
import Derived.Test.YtjpgignbjkgjiaaB9
import Derived.Test.YtjpgignbjkgjiaaR10
import Derived.Test.YtjpgignbjkgjiaaA22
import Derived.Deep.RegionHeld3
import Derived.Deep.DrawnRows
set_option linter.unusedVariables false
set_option linter.unusedSimpArgs false
namespace Go.Proofs.Ytjpgignbjkgjiaa
open Go.RowKit
attribute [local go_sem ↓] Go.wp_at_zero Go.wp_at_succ
set_option maxRecDepth 100000 in
set_option maxHeartbeats 4000000 in
theorem r20_law {ha : Hal} {l : List Camp} {p ch : List Int} {cu kk : Int} {B go cc b o lc pb po pc k : Nat} {w w6 wq : World} (hw6 : Ext w w6) (hr : Ext w6 wq) (hgoB : B ≤ go) (hB : B = w6.heap.size) (hlt : k < l.length) (hk0 : 0 ≤ kk) (hk1 : kk ≤ 255) (he0 : 0 ≤ (cth l k).ea) (hep : (cth l k).ea ≤ nth p k) (hp96 : nth p k ≤ 96) (hOT : Hid (OwnC wq B (.slice (some ⟨go, 0, none⟩) l.length cc) (othTo ha.st.length ha.cl cu l p ch k))) (HSS : Hid ((othTo ha.st.length ha.cl cu l p ch k).set k (cth l k) = othTo ha.st.length ha.cl cu l p ch k)) (a0 : ∀ W, Ext w6 W → W.cell? ⟨w.heap.size + 1, 0, none⟩ = some (.slice (some ⟨pb, po, none⟩) l.length pc)) (p0 : ∀ W, Ext w W → W.cell? ⟨pb, po + k, none⟩ = some (.int .i64 (nth p k))) (c4 : ∀ W, Ext w W → W.cell? ⟨b, o + k * 7 + 4, none⟩ = some (.int .i64 (cth l k).ea)) {Q : Exit → Act → World → Prop} (aZ : Act) (hsz : aZ.tmps.size = 282) (o1 : aZ.tmps[1]?.getD undef = .slice (some ⟨b, o, none⟩) l.length lc) (o5 : aZ.tmps[5]?.getD undef = .pointer (some ⟨w.heap.size + 1, 0, none⟩)) (o9 : aZ.tmps[9]?.getD undef = .slice (some ⟨go, 0, none⟩) l.length cc) (o14 : aZ.tmps[14]?.getD undef = .int .i64 k) (o15 : aZ.tmps[15]?.getD undef = .int .u8 kk)
    (hend : ∀ (vs : Nat → Value) (w9 : World) (ls9 : Nat → Bool), (∀ j : Nat, j < 21 → ls9 j = true) → (Ext w6 w9 ∧ (ls9 20 = false → Ext wq w9) ∧ (ls9 20 = true → ExtX go wq w9 ∧ OwnC w9 B (.slice (some ⟨go, 0, none⟩) l.length cc) ((othTo ha.st.length ha.cl cu l p ch k).set k (cput (cth l k) 1 (kk % (nth p k - (cth l k).ea + 1) % 25))))) → (vs 0 = .slice (some ⟨go, 0, none⟩) l.length cc) → (vs 1 = .int .i64 k) → (vs 2 = .int .u8 kk) → (vs 3 = .int .i64 kk) → (vs 4 = .pointer (some ⟨w.heap.size + 1, 0, none⟩)) → (vs 5 = .slice (some ⟨pb, po, none⟩) l.length pc) → (vs 6 = .int .i64 k) → (vs 7 = .pointer (some ⟨pb, po + k, none⟩)) → (vs 8 = .int .i64 (nth p k)) → (vs 9 = .slice (some ⟨b, o, none⟩) l.length lc) → (vs 10 = .int .i64 k) → (vs 11 = .pointer (some ⟨b, o + k * 7, none⟩)) → (vs 12 = .pointer (some ⟨b, o + k * 7 + 4, none⟩)) → (vs 13 = .int .i64 (cth l k).ea) → (vs 14 = .int .i64 ((nth p k) - (cth l k).ea)) → (vs 15 = .int .i64 (((nth p k) - (cth l k).ea) + 1)) → (vs 16 = .int .i64 (kk % (nth p k - (cth l k).ea + 1))) → (vs 17 = .int .i64 (kk % (nth p k - (cth l k).ea + 1) % 25)) → (vs 18 = .pointer (some ⟨go, k * 7, none⟩)) → (vs 19 = .pointer (some ⟨go, k * 7 + 1, none⟩)) → Q .normal ((((((((((((((((((((aZ.put (some 119) (vs 0)).put (some 120) (vs 1)).put (some 121) (vs 2)).put (some 122) (vs 3)).put (some 123) (vs 4)).put (some 124) (vs 5)).put (some 125) (vs 6)).put (some 126) (vs 7)).put (some 127) (vs 8)).put (some 128) (vs 9)).put (some 129) (vs 10)).put (some 130) (vs 11)).put (some 131) (vs 12)).put (some 132) (vs 13)).put (some 133) (vs 14)).put (some 134) (vs 15)).put (some 135) (vs 16)).put (some 136) (vs 17)).put (some 137) (vs 18)).put (some 138) (vs 19)) w9) : (regOf Try.f4 20).wp Try.prog Q aZ wq := by
  conv => arg 2; whnf
  refine wp_region_said3 (fun i v wz => match i with
    | 0 => v = .slice (some ⟨go, 0, none⟩) l.length cc
    | 1 => v = .int .i64 k
    | 2 => v = .int .u8 kk
    | 3 => v = .int .i64 kk
    | 4 => v = .pointer (some ⟨w.heap.size + 1, 0, none⟩)
    | 5 => v = .slice (some ⟨pb, po, none⟩) l.length pc
    | 6 => v = .int .i64 k
    | 7 => v = .pointer (some ⟨pb, po + k, none⟩)
    | 8 => v = .int .i64 (nth p k)
    | 9 => v = .slice (some ⟨b, o, none⟩) l.length lc
    | 10 => v = .int .i64 k
    | 11 => v = .pointer (some ⟨b, o + k * 7, none⟩)
    | 12 => v = .pointer (some ⟨b, o + k * 7 + 4, none⟩)
    | 13 => v = .int .i64 (cth l k).ea
    | 14 => v = .int .i64 ((nth p k) - (cth l k).ea)
    | 15 => v = .int .i64 (((nth p k) - (cth l k).ea) + 1)
    | 16 => v = .int .i64 (kk % (nth p k - (cth l k).ea + 1))
    | 17 => v = .int .i64 (kk % (nth p k - (cth l k).ea + 1) % 25)
    | 18 => v = .pointer (some ⟨go, k * 7, none⟩)
    | 19 => v = .pointer (some ⟨go, k * 7 + 1, none⟩)
    | _ => True) (fun ls vs wz => Ext w6 wz ∧ (ls 20 = false → Ext wq wz) ∧ (ls 20 = true → ExtX go wq wz ∧ OwnC wz B (.slice (some ⟨go, 0, none⟩) l.length cc) ((othTo ha.st.length ha.cl cu l p ch k).set k (cput (cth l k) 1 (kk % (nth p k - (cth l k).ea + 1) % 25))))) (by kernel_rfl) (by kernel_rfl) (by rw [hsz]; kernel_rfl) ?_ ?_ ?_
  · exact ⟨hr.trans (Ext.refl _).drew, fun _ => (Ext.refl _).drew, fun h => by cases h⟩
  · refine ⟨?_, ?_, ?_, ?_, ?_, ?_, ?_, ?_, ?_, ?_, ?_, ?_, ?_, ?_, ?_, ?_, ?_, ?_, ?_, ?_, ?_, trivial⟩
    · intro ls vs a w1 hi hJ hold hdep K hK
      have q9 : a.tmps[9]?.getD undef = .slice (some ⟨go, 0, none⟩) l.length cc := (hold 9 (by kernel_rfl)).trans o9
      rw [if_pos (by rfl)]
      clear hold hdep hend o1 o5 o9 o14 o15
      go_simp
      exact hK _ _ (fun _ _ _ h => h) hJ rfl
    · intro ls vs a w1 hi hJ hold hdep K hK
      have q14 : a.tmps[14]?.getD undef = .int .i64 k := (hold 14 (by kernel_rfl)).trans o14
      rw [if_pos (by rfl)]
      clear hold hdep hend o1 o5 o9 o14 o15
      go_simp
      exact hK _ _ (fun _ _ _ h => h) hJ rfl
    · intro ls vs a w1 hi hJ hold hdep K hK
      have q15 : a.tmps[15]?.getD undef = .int .u8 kk := (hold 15 (by kernel_rfl)).trans o15
      rw [if_pos (by rfl)]
      clear hold hdep hend o1 o5 o9 o14 o15
      go_simp
      exact hK _ _ (fun _ _ _ h => h) hJ rfl
    · intro ls vs a w1 hi hJ hold hdep K hK
      have q121 : a.tmps[121]?.getD undef = .int .u8 kk := (hdep 2 121 (by kernel_rfl) (by kernel_rfl)).2.1.trans (hdep 2 121 (by kernel_rfl) (by kernel_rfl)).2.2
      rw [if_pos (by rfl)]
      clear hold hdep hend o1 o5 o9 o14 o15
      go_simp
      rw [IntWalk.i64_in _ (by omega)]
      exact hK _ _ (fun _ _ _ h => h) hJ rfl
    · intro ls vs a w1 hi hJ hold hdep K hK
      have q5 : a.tmps[5]?.getD undef = .pointer (some ⟨w.heap.size + 1, 0, none⟩) := (hold 5 (by kernel_rfl)).trans o5
      rw [if_pos (by rfl)]
      clear hold hdep hend o1 o5 o9 o14 o15
      go_simp
      exact hK _ _ (fun _ _ _ h => h) hJ rfl
    · intro ls vs a w1 hi hJ hold hdep K hK
      have q123 : a.tmps[123]?.getD undef = .pointer (some ⟨w.heap.size + 1, 0, none⟩) := (hdep 4 123 (by kernel_rfl) (by kernel_rfl)).2.1.trans (hdep 4 123 (by kernel_rfl) (by kernel_rfl)).2.2
      rw [if_pos (by rfl)]
      clear hold hdep hend o1 o5 o9 o14 o15
      have hz := hJ.1
      go_simp
      exact hK _ _ (fun _ _ _ h => h) hJ rfl
    · intro ls vs a w1 hi hJ hold hdep K hK
      have q14 : a.tmps[14]?.getD undef = .int .i64 k := (hold 14 (by kernel_rfl)).trans o14
      rw [if_pos (by rfl)]
      clear hold hdep hend o1 o5 o9 o14 o15
      go_simp
      exact hK _ _ (fun _ _ _ h => h) hJ rfl
    · intro ls vs a w1 hi hJ hold hdep K hK
      have q124 : a.tmps[124]?.getD undef = .slice (some ⟨pb, po, none⟩) l.length pc := (hdep 5 124 (by kernel_rfl) (by kernel_rfl)).2.1.trans (hdep 5 124 (by kernel_rfl) (by kernel_rfl)).2.2
      have q125 : a.tmps[125]?.getD undef = .int .i64 k := (hdep 6 125 (by kernel_rfl) (by kernel_rfl)).2.1.trans (hdep 6 125 (by kernel_rfl) (by kernel_rfl)).2.2
      rw [if_pos (by rfl)]
      clear hold hdep hend o1 o5 o9 o14 o15
      go_simp
      exact hK _ _ (fun _ _ _ h => h) hJ rfl
    · intro ls vs a w1 hi hJ hold hdep K hK
      have q126 : a.tmps[126]?.getD undef = .pointer (some ⟨pb, po + k, none⟩) := (hdep 7 126 (by kernel_rfl) (by kernel_rfl)).2.1.trans (hdep 7 126 (by kernel_rfl) (by kernel_rfl)).2.2
      rw [if_pos (by rfl)]
      clear hold hdep hend o1 o5 o9 o14 o15
      have hz := hw6.trans hJ.1
      go_simp
      exact hK _ _ (fun _ _ _ h => h) hJ rfl
    · intro ls vs a w1 hi hJ hold hdep K hK
      have q1 : a.tmps[1]?.getD undef = .slice (some ⟨b, o, none⟩) l.length lc := (hold 1 (by kernel_rfl)).trans o1
      rw [if_pos (by rfl)]
      clear hold hdep hend o1 o5 o9 o14 o15
      go_simp
      exact hK _ _ (fun _ _ _ h => h) hJ rfl
    · intro ls vs a w1 hi hJ hold hdep K hK
      have q14 : a.tmps[14]?.getD undef = .int .i64 k := (hold 14 (by kernel_rfl)).trans o14
      rw [if_pos (by rfl)]
      clear hold hdep hend o1 o5 o9 o14 o15
      go_simp
      exact hK _ _ (fun _ _ _ h => h) hJ rfl
    · intro ls vs a w1 hi hJ hold hdep K hK
      have q128 : a.tmps[128]?.getD undef = .slice (some ⟨b, o, none⟩) l.length lc := (hdep 9 128 (by kernel_rfl) (by kernel_rfl)).2.1.trans (hdep 9 128 (by kernel_rfl) (by kernel_rfl)).2.2
      have q129 : a.tmps[129]?.getD undef = .int .i64 k := (hdep 10 129 (by kernel_rfl) (by kernel_rfl)).2.1.trans (hdep 10 129 (by kernel_rfl) (by kernel_rfl)).2.2
      rw [if_pos (by rfl)]
      clear hold hdep hend o1 o5 o9 o14 o15
      go_simp
      exact hK _ _ (fun _ _ _ h => h) hJ rfl
    · intro ls vs a w1 hi hJ hold hdep K hK
      have q130 : a.tmps[130]?.getD undef = .pointer (some ⟨b, o + k * 7, none⟩) := (hdep 11 130 (by kernel_rfl) (by kernel_rfl)).2.1.trans (hdep 11 130 (by kernel_rfl) (by kernel_rfl)).2.2
      rw [if_pos (by rfl)]
      clear hold hdep hend o1 o5 o9 o14 o15
      go_simp
      exact hK _ _ (fun _ _ _ h => h) hJ rfl
    · intro ls vs a w1 hi hJ hold hdep K hK
      have q131 : a.tmps[131]?.getD undef = .pointer (some ⟨b, o + k * 7 + 4, none⟩) := (hdep 12 131 (by kernel_rfl) (by kernel_rfl)).2.1.trans (hdep 12 131 (by kernel_rfl) (by kernel_rfl)).2.2
      rw [if_pos (by rfl)]
      clear hold hdep hend o1 o5 o9 o14 o15
      have hz := hw6.trans hJ.1
      go_simp
      exact hK _ _ (fun _ _ _ h => h) hJ rfl
    · intro ls vs a w1 hi hJ hold hdep K hK
      have q127 : a.tmps[127]?.getD undef = .int .i64 (nth p k) := (hdep 8 127 (by kernel_rfl) (by kernel_rfl)).2.1.trans (hdep 8 127 (by kernel_rfl) (by kernel_rfl)).2.2
      have q132 : a.tmps[132]?.getD undef = .int .i64 (cth l k).ea := (hdep 13 132 (by kernel_rfl) (by kernel_rfl)).2.1.trans (hdep 13 132 (by kernel_rfl) (by kernel_rfl)).2.2
      rw [if_pos (by rfl)]
      clear hold hdep hend o1 o5 o9 o14 o15
      go_simp
      rw [IntWalk.i64_in _ (by omega)]
      exact hK _ _ (fun _ _ _ h => h) hJ rfl
    · intro ls vs a w1 hi hJ hold hdep K hK
      have q133 : a.tmps[133]?.getD undef = .int .i64 ((nth p k) - (cth l k).ea) := (hdep 14 133 (by kernel_rfl) (by kernel_rfl)).2.1.trans (hdep 14 133 (by kernel_rfl) (by kernel_rfl)).2.2
      rw [if_pos (by rfl)]
      clear hold hdep hend o1 o5 o9 o14 o15
      go_simp
      rw [IntWalk.i64_in _ (by omega)]
      exact hK _ _ (fun _ _ _ h => h) hJ rfl
    · intro ls vs a w1 hi hJ hold hdep K hK
      have q122 : a.tmps[122]?.getD undef = .int .i64 kk := (hdep 3 122 (by kernel_rfl) (by kernel_rfl)).2.1.trans (hdep 3 122 (by kernel_rfl) (by kernel_rfl)).2.2
      have q134 : a.tmps[134]?.getD undef = .int .i64 (((nth p k) - (cth l k).ea) + 1) := (hdep 15 134 (by kernel_rfl) (by kernel_rfl)).2.1.trans (hdep 15 134 (by kernel_rfl) (by kernel_rfl)).2.2
      rw [if_pos (by rfl)]
      clear hold hdep hend o1 o5 o9 o14 o15
      go_simp
      rw [if_neg (by omega), Int.tmod_eq_emod_of_nonneg hk0]
      go_simp
      exact hK _ _ (fun _ _ _ h => h) hJ rfl
    · intro ls vs a w1 hi hJ hold hdep K hK
      have q135 : a.tmps[135]?.getD undef = .int .i64 (kk % (nth p k - (cth l k).ea + 1)) := (hdep 16 135 (by kernel_rfl) (by kernel_rfl)).2.1.trans (hdep 16 135 (by kernel_rfl) (by kernel_rfl)).2.2
      rw [if_pos (by rfl)]
      clear hold hdep hend o1 o5 o9 o14 o15
      have hrm : 0 ≤ kk % (nth p k - (cth l k).ea + 1) := Int.emod_nonneg _ (by omega)
      go_simp
      try rw [Int.tmod_eq_emod_of_nonneg hrm]
      exact hK _ _ (fun _ _ _ h => h) hJ rfl
    · intro ls vs a w1 hi hJ hold hdep K hK
      have q119 : a.tmps[119]?.getD undef = .slice (some ⟨go, 0, none⟩) l.length cc := (hdep 0 119 (by kernel_rfl) (by kernel_rfl)).2.1.trans (hdep 0 119 (by kernel_rfl) (by kernel_rfl)).2.2
      have q120 : a.tmps[120]?.getD undef = .int .i64 k := (hdep 1 120 (by kernel_rfl) (by kernel_rfl)).2.1.trans (hdep 1 120 (by kernel_rfl) (by kernel_rfl)).2.2
      rw [if_pos (by rfl)]
      clear hold hdep hend o1 o5 o9 o14 o15
      go_simp
      exact hK _ _ (fun _ _ _ h => h) hJ rfl
    · intro ls vs a w1 hi hJ hold hdep K hK
      have q137 : a.tmps[137]?.getD undef = .pointer (some ⟨go, k * 7, none⟩) := (hdep 18 137 (by kernel_rfl) (by kernel_rfl)).2.1.trans (hdep 18 137 (by kernel_rfl) (by kernel_rfl)).2.2
      rw [if_pos (by rfl)]
      clear hold hdep hend o1 o5 o9 o14 o15
      go_simp
      exact hK _ _ (fun _ _ _ h => h) hJ rfl
    · intro ls vs a w1 hi hJ hold hdep K hK
      have q136 : a.tmps[136]?.getD undef = .int .i64 (kk % (nth p k - (cth l k).ea + 1) % 25) := (hdep 17 136 (by kernel_rfl) (by kernel_rfl)).2.1.trans (hdep 17 136 (by kernel_rfl) (by kernel_rfl)).2.2
      have q138 : a.tmps[138]?.getD undef = .pointer (some ⟨go, k * 7 + 1, none⟩) := (hdep 19 138 (by kernel_rfl) (by kernel_rfl)).2.1.trans (hdep 19 138 (by kernel_rfl) (by kernel_rfl)).2.2
      rw [if_pos (by rfl)]
      clear hold hdep hend o1 o5 o9 o14 o15
      have hz := hJ.2.1 hi
      have ho := hOT.out.ext hz
      have fz := ownC_free (othTo_len ..) ho (k * 7 + 1)
      have hcl := ownC_cell (j := 1) (othTo_len ..) ho hlt (by omega)
      rw [cth_othTo _ _ _ _ _ _ _ _ hlt, if_neg (by omega)] at hcl
      have hcl' : ∀ W, Ext w1 W → W.cell? ⟨go, k * 7 + 1, none⟩ = some (.int .i64 (cth l k).pr) := fun W h => h.cell hcl
      have hr1 := Ext.refl w1
      go_simp
      have hp := ownC_putC (X := cth l k) (j := 1) (othTo_len ..) (by rw [HSS.out]; exact ho) hlt (by omega) (kk % (nth p k - (cth l k).ea + 1) % 25)
      have hx := (hz.x (X := go)).set (k * 7 + 1) (.int .i64 (kk % (nth p k - (cth l k).ea + 1) % 25))
      exact hK undef _ (fun _ _ _ h => h) ⟨(hr.x.trans hx).ext (by rw [← hB]; exact hgoB), fun h => by simp at h, fun _ => ⟨hx, hp⟩⟩ trivial
  · intro vs w9 ls9 hl9 hJ9 hφ
    have e0 := hφ 0 (by kernel_rfl)
    have e1 := hφ 1 (by kernel_rfl)
    have e2 := hφ 2 (by kernel_rfl)
    have e3 := hφ 3 (by kernel_rfl)
    have e4 := hφ 4 (by kernel_rfl)
    have e5 := hφ 5 (by kernel_rfl)
    have e6 := hφ 6 (by kernel_rfl)
    have e7 := hφ 7 (by kernel_rfl)
    have e8 := hφ 8 (by kernel_rfl)
    have e9 := hφ 9 (by kernel_rfl)
    have e10 := hφ 10 (by kernel_rfl)
    have e11 := hφ 11 (by kernel_rfl)
    have e12 := hφ 12 (by kernel_rfl)
    have e13 := hφ 13 (by kernel_rfl)
    have e14 := hφ 14 (by kernel_rfl)
    have e15 := hφ 15 (by kernel_rfl)
    have e16 := hφ 16 (by kernel_rfl)
    have e17 := hφ 17 (by kernel_rfl)
    have e18 := hφ 18 (by kernel_rfl)
    have e19 := hφ 19 (by kernel_rfl)
    have hq := hend vs w9 ls9 hl9 hJ9 e0 e1 e2 e3 e4 e5 e6 e7 e8 e9 e10 e11 e12 e13 e14 e15 e16 e17 e18 e19
    simp only [Act.put] at hq
    simp only [putAll, Act.put]
    exact hq

set_option maxRecDepth 100000 in
set_option maxHeartbeats 4000000 in
theorem r28_law {ha : Hal} {sa : Option Addr} {sc : Nat} {l : List Camp} {q : Int} {B13 gq qc k : Nat} {w w6 we : World} (hre : Ext w6 we) (hgq6 : w6.heap.size ≤ gq) (hlt : k < l.length) (hOC : Hid (OwnC we B13 (.slice (some ⟨gq, 0, none⟩) l.length qc) l)) (b2 : ∀ W, Ext w6 W → W.cell? ⟨w.heap.size, 2, none⟩ = some (.slice sa ha.st.length sc)) {Q : Exit → Act → World → Prop} (aZ : Act) (hsz : aZ.tmps.size = 282) (o3 : aZ.tmps[3]?.getD undef = .pointer (some ⟨w.heap.size, 0, none⟩)) (o12 : aZ.tmps[12]?.getD undef = .slice (some ⟨gq, 0, none⟩) l.length qc) (o14 : aZ.tmps[14]?.getD undef = .int .i64 k) (o17 : aZ.tmps[17]?.getD undef = .int .i64 (1 + q))
    (hend : ∀ (vs : Nat → Value) (w9 : World) (ls9 : Nat → Bool), (∀ j : Nat, j < 14 → ls9 j = true) → (ExtX gq we w9 ∧ OwnC w9 B13 (.slice (some ⟨gq, 0, none⟩) l.length qc) (l.set k (c25 (cth l k) (ls9 10) (1 + q) (ls9 13) ha.st.length))) → (vs 0 = .slice (some ⟨gq, 0, none⟩) l.length qc) → (vs 1 = .int .i64 k) → (vs 2 = .slice (some ⟨gq, 0, none⟩) l.length qc) → (vs 3 = .int .i64 k) → (vs 4 = .int .i64 (1 + q)) → (vs 5 = .pointer (some ⟨w.heap.size, 2, none⟩)) → (vs 6 = .slice sa ha.st.length sc) → (vs 7 = .int .i64 ha.st.length) → (vs 8 = .pointer (some ⟨gq, k * 7, none⟩)) → (vs 9 = .pointer (some ⟨gq, k * 7 + 2, none⟩)) → (vs 11 = .pointer (some ⟨gq, k * 7, none⟩)) → (vs 12 = .pointer (some ⟨gq, k * 7 + 5, none⟩)) → Q .normal ((((((((((((aZ.put (some 204) (vs 0)).put (some 205) (vs 1)).put (some 206) (vs 2)).put (some 207) (vs 3)).put (some 208) (vs 4)).put (some 209) (vs 5)).put (some 210) (vs 6)).put (some 211) (vs 7)).put (some 212) (vs 8)).put (some 213) (vs 9)).put (some 214) (vs 11)).put (some 215) (vs 12)) w9) : (regOf Try.f4 28).wp Try.prog Q aZ we := by
  conv => arg 2; whnf
  refine wp_region_said3 (fun i v wz => match i with
    | 0 => v = .slice (some ⟨gq, 0, none⟩) l.length qc
    | 1 => v = .int .i64 k
    | 2 => v = .slice (some ⟨gq, 0, none⟩) l.length qc
    | 3 => v = .int .i64 k
    | 4 => v = .int .i64 (1 + q)
    | 5 => v = .pointer (some ⟨w.heap.size, 2, none⟩)
    | 6 => v = .slice sa ha.st.length sc
    | 7 => v = .int .i64 ha.st.length
    | 8 => v = .pointer (some ⟨gq, k * 7, none⟩)
    | 9 => v = .pointer (some ⟨gq, k * 7 + 2, none⟩)
    | 10 => True
    | 11 => v = .pointer (some ⟨gq, k * 7, none⟩)
    | 12 => v = .pointer (some ⟨gq, k * 7 + 5, none⟩)
    | _ => True) (fun ls vs wz => ExtX gq we wz ∧ OwnC wz B13 (.slice (some ⟨gq, 0, none⟩) l.length qc) (l.set k (c25 (cth l k) (ls 10) (1 + q) (ls 13) ha.st.length))) (by kernel_rfl) (by kernel_rfl) (by rw [hsz]; kernel_rfl) ?_ ?_ ?_
  · exact ⟨(Ext.refl _).drew.x, by rw [show c25 (cth l k) false (1 + q) false ha.st.length = cth l k from rfl, set_same _ _ hlt]; exact own_ext hOC.out (Ext.refl _).drew⟩
  · refine ⟨?_, ?_, ?_, ?_, ?_, ?_, ?_, ?_, ?_, ?_, ?_, ?_, ?_, ?_, trivial⟩
    · intro ls vs a w1 hi hJ hold hdep K hK
      have q12 : a.tmps[12]?.getD undef = .slice (some ⟨gq, 0, none⟩) l.length qc := (hold 12 (by kernel_rfl)).trans o12
      rw [if_pos (by rfl)]
      clear hold hdep hend o3 o12 o14 o17
      go_simp
      exact hK _ _ (fun _ _ _ h => h) hJ rfl
    · intro ls vs a w1 hi hJ hold hdep K hK
      have q14 : a.tmps[14]?.getD undef = .int .i64 k := (hold 14 (by kernel_rfl)).trans o14
      rw [if_pos (by rfl)]
      clear hold hdep hend o3 o12 o14 o17
      go_simp
      exact hK _ _ (fun _ _ _ h => h) hJ rfl
    · intro ls vs a w1 hi hJ hold hdep K hK
      have q12 : a.tmps[12]?.getD undef = .slice (some ⟨gq, 0, none⟩) l.length qc := (hold 12 (by kernel_rfl)).trans o12
      rw [if_pos (by rfl)]
      clear hold hdep hend o3 o12 o14 o17
      go_simp
      exact hK _ _ (fun _ _ _ h => h) hJ rfl
    · intro ls vs a w1 hi hJ hold hdep K hK
      have q14 : a.tmps[14]?.getD undef = .int .i64 k := (hold 14 (by kernel_rfl)).trans o14
      rw [if_pos (by rfl)]
      clear hold hdep hend o3 o12 o14 o17
      go_simp
      exact hK _ _ (fun _ _ _ h => h) hJ rfl
    · intro ls vs a w1 hi hJ hold hdep K hK
      have q17 : a.tmps[17]?.getD undef = .int .i64 (1 + q) := (hold 17 (by kernel_rfl)).trans o17
      rw [if_pos (by rfl)]
      clear hold hdep hend o3 o12 o14 o17
      go_simp
      exact hK _ _ (fun _ _ _ h => h) hJ rfl
    · intro ls vs a w1 hi hJ hold hdep K hK
      have q3 : a.tmps[3]?.getD undef = .pointer (some ⟨w.heap.size, 0, none⟩) := (hold 3 (by kernel_rfl)).trans o3
      rw [if_pos (by rfl)]
      clear hold hdep hend o3 o12 o14 o17
      go_simp
      exact hK _ _ (fun _ _ _ h => h) hJ rfl
    · intro ls vs a w1 hi hJ hold hdep K hK
      have q209 : a.tmps[209]?.getD undef = .pointer (some ⟨w.heap.size, 2, none⟩) := (hdep 5 209 (by kernel_rfl) (by kernel_rfl)).2.1.trans (hdep 5 209 (by kernel_rfl) (by kernel_rfl)).2.2
      rw [if_pos (by rfl)]
      clear hold hdep hend o3 o12 o14 o17
      have hz1 := (hre.x.trans hJ.1).ext hgq6
      go_simp
      exact hK _ _ (fun _ _ _ h => h) hJ rfl
    · intro ls vs a w1 hi hJ hold hdep K hK
      have q210 : a.tmps[210]?.getD undef = .slice sa ha.st.length sc := (hdep 6 210 (by kernel_rfl) (by kernel_rfl)).2.1.trans (hdep 6 210 (by kernel_rfl) (by kernel_rfl)).2.2
      rw [if_pos (by rfl)]
      clear hold hdep hend o3 o12 o14 o17
      go_simp
      exact hK _ _ (fun _ _ _ h => h) hJ rfl
    · intro ls vs a w1 hi hJ hold hdep K hK
      have q204 : a.tmps[204]?.getD undef = .slice (some ⟨gq, 0, none⟩) l.length qc := (hdep 0 204 (by kernel_rfl) (by kernel_rfl)).2.1.trans (hdep 0 204 (by kernel_rfl) (by kernel_rfl)).2.2
      have q205 : a.tmps[205]?.getD undef = .int .i64 k := (hdep 1 205 (by kernel_rfl) (by kernel_rfl)).2.1.trans (hdep 1 205 (by kernel_rfl) (by kernel_rfl)).2.2
      rw [if_pos (by rfl)]
      clear hold hdep hend o3 o12 o14 o17
      go_simp
      exact hK _ _ (fun _ _ _ h => h) hJ rfl
    · intro ls vs a w1 hi hJ hold hdep K hK
      have q212 : a.tmps[212]?.getD undef = .pointer (some ⟨gq, k * 7, none⟩) := (hdep 8 212 (by kernel_rfl) (by kernel_rfl)).2.1.trans (hdep 8 212 (by kernel_rfl) (by kernel_rfl)).2.2
      rw [if_pos (by rfl)]
      clear hold hdep hend o3 o12 o14 o17
      go_simp
      exact hK _ _ (fun _ _ _ h => h) hJ rfl
    · intro ls vs a w1 hi hJ hold hdep K hK
      have q208 : a.tmps[208]?.getD undef = .int .i64 (1 + q) := (hdep 4 208 (by kernel_rfl) (by kernel_rfl)).2.1.trans (hdep 4 208 (by kernel_rfl) (by kernel_rfl)).2.2
      have q213 : a.tmps[213]?.getD undef = .pointer (some ⟨gq, k * 7 + 2, none⟩) := (hdep 9 213 (by kernel_rfl) (by kernel_rfl)).2.1.trans (hdep 9 213 (by kernel_rfl) (by kernel_rfl)).2.2
      rw [if_pos (by rfl)]
      clear hold hdep hend o3 o12 o14 o17
      have hc := ownC_atC (j := 2) rfl hJ.2 hlt (by omega)
      have hcl : ∀ W, Ext w1 W → W.cell? ⟨gq, k * 7 + 2, none⟩ = some _ := fun W h => h.cell hc.1
      have fz := hc.2 (k * 7 + 2)
      have hr1 := Ext.refl w1
      have hp := ownC_putC (j := 2) rfl hJ.2 hlt (by omega) (1 + q)
      clear hc
      go_simp
      exact hK undef _ (fun _ _ _ h => h) ⟨hJ.1.set _ _, hp⟩ trivial
    · intro ls vs a w1 hi hJ hold hdep K hK
      have q206 : a.tmps[206]?.getD undef = .slice (some ⟨gq, 0, none⟩) l.length qc := (hdep 2 206 (by kernel_rfl) (by kernel_rfl)).2.1.trans (hdep 2 206 (by kernel_rfl) (by kernel_rfl)).2.2
      have q207 : a.tmps[207]?.getD undef = .int .i64 k := (hdep 3 207 (by kernel_rfl) (by kernel_rfl)).2.1.trans (hdep 3 207 (by kernel_rfl) (by kernel_rfl)).2.2
      rw [if_pos (by rfl)]
      clear hold hdep hend o3 o12 o14 o17
      go_simp
      exact hK _ _ (fun _ _ _ h => h) hJ rfl
    · intro ls vs a w1 hi hJ hold hdep K hK
      have q214 : a.tmps[214]?.getD undef = .pointer (some ⟨gq, k * 7, none⟩) := (hdep 11 214 (by kernel_rfl) (by kernel_rfl)).2.1.trans (hdep 11 214 (by kernel_rfl) (by kernel_rfl)).2.2
      rw [if_pos (by rfl)]
      clear hold hdep hend o3 o12 o14 o17
      go_simp
      exact hK _ _ (fun _ _ _ h => h) hJ rfl
    · intro ls vs a w1 hi hJ hold hdep K hK
      have q211 : a.tmps[211]?.getD undef = .int .i64 ha.st.length := (hdep 7 211 (by kernel_rfl) (by kernel_rfl)).2.1.trans (hdep 7 211 (by kernel_rfl) (by kernel_rfl)).2.2
      have q215 : a.tmps[215]?.getD undef = .pointer (some ⟨gq, k * 7 + 5, none⟩) := (hdep 12 215 (by kernel_rfl) (by kernel_rfl)).2.1.trans (hdep 12 215 (by kernel_rfl) (by kernel_rfl)).2.2
      rw [if_pos (by rfl)]
      clear hold hdep hend o3 o12 o14 o17
      have hc := ownC_atC (j := 5) rfl hJ.2 hlt (by omega)
      have hcl : ∀ W, Ext w1 W → W.cell? ⟨gq, k * 7 + 5, none⟩ = some _ := fun W h => h.cell hc.1
      have fz := hc.2 (k * 7 + 5)
      have hr1 := Ext.refl w1
      have hp := ownC_putC (j := 5) rfl hJ.2 hlt (by omega) ha.st.length
      clear hc
      go_simp
      exact hK undef _ (fun _ _ _ h => h) ⟨hJ.1.set _ _, hp⟩ trivial
  · intro vs w9 ls9 hl9 hJ9 hφ
    have e0 := hφ 0 (by kernel_rfl)
    have e1 := hφ 1 (by kernel_rfl)
    have e2 := hφ 2 (by kernel_rfl)
    have e3 := hφ 3 (by kernel_rfl)
    have e4 := hφ 4 (by kernel_rfl)
    have e5 := hφ 5 (by kernel_rfl)
    have e6 := hφ 6 (by kernel_rfl)
    have e7 := hφ 7 (by kernel_rfl)
    have e8 := hφ 8 (by kernel_rfl)
    have e9 := hφ 9 (by kernel_rfl)
    have e11 := hφ 11 (by kernel_rfl)
    have e12 := hφ 12 (by kernel_rfl)
    have hq := hend vs w9 ls9 hl9 hJ9 e0 e1 e2 e3 e4 e5 e6 e7 e8 e9 e11 e12
    simp only [Act.put] at hq
    simp only [putAll, Act.put]
    exact hq

set_option maxRecDepth 100000 in
set_option maxHeartbeats 4000000 in
theorem r30_law {l : List Camp} {q : Int} {b o lc b18 k : Nat} {wf wg : World} (hxg : Ext wf wg) (hb18 : wf.heap.size = b18) (hlt : k < l.length) (hho1 : 1 ≤ (cth l k).ho) (hho2 : (cth l k).ho ≤ 24) (hq0 : 0 ≤ q) (hq1 : q ≤ (cth l k).ho - 2) (hk18 : wg.heap[b18]? = some (.cells #[.int .i64 (cth l k).cu, .int .i64 (cth l k).pr, .int .i64 (cth l k).ho, .int .i64 (cth l k).en, .int .i64 (cth l k).ea, .int .i64 (cth l k).la, .int .i64 (cth l k).we] 45 (0, 0))) (c2 : ∀ W, Ext wf W → W.cell? ⟨b, o + k * 7 + 2, none⟩ = some (.int .i64 (cth l k).ho)) {Q : Exit → Act → World → Prop} (aZ : Act) (hsz : aZ.tmps.size = 282) (o1 : aZ.tmps[1]?.getD undef = .slice (some ⟨b, o, none⟩) l.length lc) (o14 : aZ.tmps[14]?.getD undef = .int .i64 k) (o17 : aZ.tmps[17]?.getD undef = .int .i64 (1 + q)) (o18 : aZ.tmps[18]?.getD undef = .pointer (some ⟨b18, 0, none⟩))
    (hend : ∀ (vs : Nat → Value) (w9 : World) (ls9 : Nat → Bool), (∀ j : Nat, j < 11 → ls9 j = true) → (ExtX b18 wg w9 ∧ w9.heap[b18]? = some (.cells (crow (c12 (cth l k) (ls9 8) 0 (ls9 10) ((cth l k).ho - (1 + q)))) 45 (0, 0))) → (vs 0 = .slice (some ⟨b, o, none⟩) l.length lc) → (vs 1 = .int .i64 k) → (vs 2 = .pointer (some ⟨b, o + k * 7, none⟩)) → (vs 3 = .pointer (some ⟨b, o + k * 7 + 2, none⟩)) → (vs 4 = .int .i64 (cth l k).ho) → (vs 5 = .int .i64 (1 + q)) → (vs 6 = .int .i64 ((cth l k).ho - (1 + q))) → (vs 7 = .pointer (some ⟨b18, 1, none⟩)) → (vs 9 = .pointer (some ⟨b18, 2, none⟩)) → Q .normal (((((((((aZ.put (some 220) (vs 0)).put (some 221) (vs 1)).put (some 222) (vs 2)).put (some 223) (vs 3)).put (some 224) (vs 4)).put (some 225) (vs 5)).put (some 226) (vs 6)).put (some 227) (vs 7)).put (some 228) (vs 9)) w9) : (regOf Try.f4 30).wp Try.prog Q aZ wg := by
  conv => arg 2; whnf
  refine wp_region_said3 (fun i v wz => match i with
    | 0 => v = .slice (some ⟨b, o, none⟩) l.length lc
    | 1 => v = .int .i64 k
    | 2 => v = .pointer (some ⟨b, o + k * 7, none⟩)
    | 3 => v = .pointer (some ⟨b, o + k * 7 + 2, none⟩)
    | 4 => v = .int .i64 (cth l k).ho
    | 5 => v = .int .i64 (1 + q)
    | 6 => v = .int .i64 ((cth l k).ho - (1 + q))
    | 7 => v = .pointer (some ⟨b18, 1, none⟩)
    | 8 => True
    | 9 => v = .pointer (some ⟨b18, 2, none⟩)
    | _ => True) (fun ls vs wz => ExtX b18 wg wz ∧ wz.heap[b18]? = some (.cells (crow (c12 (cth l k) (ls 8) 0 (ls 10) ((cth l k).ho - (1 + q)))) 45 (0, 0))) (by kernel_rfl) (by kernel_rfl) (by rw [hsz]; kernel_rfl) ?_ ?_ ?_
  · exact ⟨(Ext.refl _).drew.x, hk18⟩
  · refine ⟨?_, ?_, ?_, ?_, ?_, ?_, ?_, ?_, ?_, ?_, ?_, trivial⟩
    · intro ls vs a w1 hi hJ hold hdep K hK
      have q1 : a.tmps[1]?.getD undef = .slice (some ⟨b, o, none⟩) l.length lc := (hold 1 (by kernel_rfl)).trans o1
      rw [if_pos (by rfl)]
      clear hold hdep hend o1 o14 o17 o18
      go_simp
      exact hK _ _ (fun _ _ _ h => h) hJ rfl
    · intro ls vs a w1 hi hJ hold hdep K hK
      have q14 : a.tmps[14]?.getD undef = .int .i64 k := (hold 14 (by kernel_rfl)).trans o14
      rw [if_pos (by rfl)]
      clear hold hdep hend o1 o14 o17 o18
      go_simp
      exact hK _ _ (fun _ _ _ h => h) hJ rfl
    · intro ls vs a w1 hi hJ hold hdep K hK
      have q220 : a.tmps[220]?.getD undef = .slice (some ⟨b, o, none⟩) l.length lc := (hdep 0 220 (by kernel_rfl) (by kernel_rfl)).2.1.trans (hdep 0 220 (by kernel_rfl) (by kernel_rfl)).2.2
      have q221 : a.tmps[221]?.getD undef = .int .i64 k := (hdep 1 221 (by kernel_rfl) (by kernel_rfl)).2.1.trans (hdep 1 221 (by kernel_rfl) (by kernel_rfl)).2.2
      rw [if_pos (by rfl)]
      clear hold hdep hend o1 o14 o17 o18
      go_simp
      exact hK _ _ (fun _ _ _ h => h) hJ rfl
    · intro ls vs a w1 hi hJ hold hdep K hK
      have q222 : a.tmps[222]?.getD undef = .pointer (some ⟨b, o + k * 7, none⟩) := (hdep 2 222 (by kernel_rfl) (by kernel_rfl)).2.1.trans (hdep 2 222 (by kernel_rfl) (by kernel_rfl)).2.2
      rw [if_pos (by rfl)]
      clear hold hdep hend o1 o14 o17 o18
      go_simp
      exact hK _ _ (fun _ _ _ h => h) hJ rfl
    · intro ls vs a w1 hi hJ hold hdep K hK
      have q223 : a.tmps[223]?.getD undef = .pointer (some ⟨b, o + k * 7 + 2, none⟩) := (hdep 3 223 (by kernel_rfl) (by kernel_rfl)).2.1.trans (hdep 3 223 (by kernel_rfl) (by kernel_rfl)).2.2
      rw [if_pos (by rfl)]
      clear hold hdep hend o1 o14 o17 o18
      have hz1 := (hxg.x.trans hJ.1).ext (Nat.le_of_eq hb18)
      go_simp
      exact hK _ _ (fun _ _ _ h => h) hJ rfl
    · intro ls vs a w1 hi hJ hold hdep K hK
      have q17 : a.tmps[17]?.getD undef = .int .i64 (1 + q) := (hold 17 (by kernel_rfl)).trans o17
      rw [if_pos (by rfl)]
      clear hold hdep hend o1 o14 o17 o18
      go_simp
      exact hK _ _ (fun _ _ _ h => h) hJ rfl
    · intro ls vs a w1 hi hJ hold hdep K hK
      have q224 : a.tmps[224]?.getD undef = .int .i64 (cth l k).ho := (hdep 4 224 (by kernel_rfl) (by kernel_rfl)).2.1.trans (hdep 4 224 (by kernel_rfl) (by kernel_rfl)).2.2
      have q225 : a.tmps[225]?.getD undef = .int .i64 (1 + q) := (hdep 5 225 (by kernel_rfl) (by kernel_rfl)).2.1.trans (hdep 5 225 (by kernel_rfl) (by kernel_rfl)).2.2
      rw [if_pos (by rfl)]
      clear hold hdep hend o1 o14 o17 o18
      go_simp
      rw [IntWalk.i64_in _ (by omega)]
      exact hK _ _ (fun _ _ _ h => h) hJ rfl
    · intro ls vs a w1 hi hJ hold hdep K hK
      have q18 : a.tmps[18]?.getD undef = .pointer (some ⟨b18, 0, none⟩) := (hold 18 (by kernel_rfl)).trans o18
      rw [if_pos (by rfl)]
      clear hold hdep hend o1 o14 o17 o18
      go_simp
      exact hK _ _ (fun _ _ _ h => h) hJ rfl
    · intro ls vs a w1 hi hJ hold hdep K hK
      have q227 : a.tmps[227]?.getD undef = .pointer (some ⟨b18, 1, none⟩) := (hdep 7 227 (by kernel_rfl) (by kernel_rfl)).2.1.trans (hdep 7 227 (by kernel_rfl) (by kernel_rfl)).2.2
      rw [if_pos (by rfl)]
      clear hold hdep hend o1 o14 o17 o18
      obtain ⟨i0, i1, i2, i3, i4, i5, i6⟩ := obj_cells7 hJ.2
      have fz := obj_free hJ.2 w1 (Ext.refl _)
      have hr1 := Ext.refl w1
      have hp := block_set hJ.2 1 (.int .i64 0)
      go_simp
      exact hK undef _ (fun _ _ _ h => h) ⟨hJ.1.set _ _, hp⟩ trivial
    · intro ls vs a w1 hi hJ hold hdep K hK
      have q18 : a.tmps[18]?.getD undef = .pointer (some ⟨b18, 0, none⟩) := (hold 18 (by kernel_rfl)).trans o18
      rw [if_pos (by rfl)]
      clear hold hdep hend o1 o14 o17 o18
      go_simp
      exact hK _ _ (fun _ _ _ h => h) hJ rfl
    · intro ls vs a w1 hi hJ hold hdep K hK
      have q226 : a.tmps[226]?.getD undef = .int .i64 ((cth l k).ho - (1 + q)) := (hdep 6 226 (by kernel_rfl) (by kernel_rfl)).2.1.trans (hdep 6 226 (by kernel_rfl) (by kernel_rfl)).2.2
      have q228 : a.tmps[228]?.getD undef = .pointer (some ⟨b18, 2, none⟩) := (hdep 9 228 (by kernel_rfl) (by kernel_rfl)).2.1.trans (hdep 9 228 (by kernel_rfl) (by kernel_rfl)).2.2
      rw [if_pos (by rfl)]
      clear hold hdep hend o1 o14 o17 o18
      obtain ⟨i0, i1, i2, i3, i4, i5, i6⟩ := obj_cells7 hJ.2
      have fz := obj_free hJ.2 w1 (Ext.refl _)
      have hr1 := Ext.refl w1
      have hp := block_set hJ.2 2 (.int .i64 ((cth l k).ho - (1 + q)))
      go_simp
      exact hK undef _ (fun _ _ _ h => h) ⟨hJ.1.set _ _, hp⟩ trivial
  · intro vs w9 ls9 hl9 hJ9 hφ
    have e0 := hφ 0 (by kernel_rfl)
    have e1 := hφ 1 (by kernel_rfl)
    have e2 := hφ 2 (by kernel_rfl)
    have e3 := hφ 3 (by kernel_rfl)
    have e4 := hφ 4 (by kernel_rfl)
    have e5 := hφ 5 (by kernel_rfl)
    have e6 := hφ 6 (by kernel_rfl)
    have e7 := hφ 7 (by kernel_rfl)
    have e9 := hφ 9 (by kernel_rfl)
    have hq := hend vs w9 ls9 hl9 hJ9 e0 e1 e2 e3 e4 e5 e6 e7 e9
    simp only [Act.put] at hq
    simp only [putAll, Act.put]
    exact hq

set_option maxRecDepth 100000 in
set_option maxHeartbeats 4000000 in
theorem r31_law {ha : Hal} {l l1 : List Camp} {p ch : List Int} {cu q : Int} {B B13 go gq gi b18 cc qc rc pb po pc k : Nat} {w w6 w11 wh : World} (hw6 : Ext w w6) (hw11 : Ext w6 w11) (hgoB : B ≤ go) (hB : B = w6.heap.size) (hB13 : B13 = w11.heap.size) (hgB13 : go < B13) (hgqB : B13 ≤ gq) (hgiB : B13 ≤ gi) (hgqb : gq < b18) (hgib : gi < b18) (hgqs : gq < wh.heap.size) (hgis : gi < wh.heap.size) (hlt : k < l.length) (hl15 : l.length ≤ 15) (hp0 : 0 ≤ nth p k) (hp96 : nth p k ≤ 96) (hho2 : (cth l k).ho ≤ 24) (hq0 : 0 ≤ q) (hq1 : q ≤ (cth l k).ho - 2) (hl1n : Hid (l1.length = l.length)) (HPN : Hid (p.length = l.length)) (hX : Hid (ExtX go w11 wh)) (hOT : Hid (OwnC wh B (.slice (some ⟨go, 0, none⟩) l.length cc) (othTo ha.st.length ha.cl cu l p ch (k + 1)))) (hOC : Hid (OwnC wh B13 (.slice (some ⟨gq, 0, none⟩) l.length qc) l1)) (hOI : Hid (OwnI wh B13 (.slice (some ⟨gi, 0, none⟩) l.length rc) p)) (hk18 : wh.heap[b18]? = some (.cells (crow (restC (cth l k) (1 + q))) 45 (0, 0))) (a0 : ∀ W, Ext w6 W → W.cell? ⟨w.heap.size + 1, 0, none⟩ = some (.slice (some ⟨pb, po, none⟩) l.length pc)) (p0 : ∀ W, Ext w W → W.cell? ⟨pb, po + k, none⟩ = some (.int .i64 (nth p k))) {Q : Exit → Act → World → Prop} (aZ : Act) (hsz : aZ.tmps.size = 282) (o5 : aZ.tmps[5]?.getD undef = .pointer (some ⟨w.heap.size + 1, 0, none⟩)) (o12 : aZ.tmps[12]?.getD undef = .slice (some ⟨gq, 0, none⟩) l.length qc) (o13 : aZ.tmps[13]?.getD undef = .slice (some ⟨gi, 0, none⟩) l.length rc) (o14 : aZ.tmps[14]?.getD undef = .int .i64 k) (o17 : aZ.tmps[17]?.getD undef = .int .i64 (1 + q)) (o18 : aZ.tmps[18]?.getD undef = .pointer (some ⟨b18, 0, none⟩))
    (hend : ∀ (vs : Nat → Value) (w9 : World) (ls9 : Nat → Bool), (∀ j : Nat, j < 16 → ls9 j = true) → (ExtX go w11 w9 ∧ OwnC w9 B (.slice (some ⟨go, 0, none⟩) l.length cc) (othTo ha.st.length ha.cl cu l p ch (k + 1)) ∧ w9.heap[b18]? = some (.cells (crow (restC (cth l k) (1 + q))) 45 (0, 0)) ∧ gq < w9.heap.size ∧ gi < w9.heap.size ∧ (ls9 3 = false → OwnC w9 B13 (.slice (some ⟨gq, 0, none⟩) l.length qc) l1) ∧ (ls9 13 = false → OwnI w9 B13 (.slice (some ⟨gi, 0, none⟩) l.length rc) p) ∧ (ls9 3 = true → OwnC w9 B13 (vs 3) (l1 ++ [restC (cth l k) (1 + q)])) ∧ (ls9 13 = true → OwnI w9 B13 (vs 13) (p ++ [nth p k + (1 + q)])) ∧ (ls9 14 = true → ls9 3 = true ∧ vs 14 = vs 3) ∧ (ls9 15 = true → ls9 13 = true ∧ vs 15 = vs 13)) → (vs 0 = .slice (some ⟨gq, 0, none⟩) l.length qc) → (vs 1 = .agg (crow (restC (cth l k) (1 + q)))) → (∃ g, vs 2 = .slice (some ⟨g, 0, none⟩) 1 1 ∧ w9.heap[g]? = some (.cells (crow (restC (cth l k) (1 + q))) 45 (0, 0)) ∧ g ≠ gq) → (True) → (vs 4 = .slice (some ⟨gi, 0, none⟩) l.length rc) → (vs 5 = .pointer (some ⟨w.heap.size + 1, 0, none⟩)) → (vs 6 = .slice (some ⟨pb, po, none⟩) l.length pc) → (vs 7 = .int .i64 k) → (vs 8 = .pointer (some ⟨pb, po + k, none⟩)) → (vs 9 = .int .i64 (nth p k)) → (vs 10 = .int .i64 (1 + q)) → (vs 11 = .int .i64 ((nth p k) + (1 + q))) → (∃ g, vs 12 = .slice (some ⟨g, 0, none⟩) 1 1 ∧ w9.heap[g]? = some (.cells #[.int .i64 (nth p k + (1 + q))] 3 (0, 0)) ∧ g ≠ gi) → (True) → (True) → (True) → Q .normal ((((((((((((((((aZ.put (some 229) (vs 0)).put (some 230) (vs 1)).put (some 231) (vs 2)).put (some 232) (vs 3)).put (some 233) (vs 4)).put (some 234) (vs 5)).put (some 235) (vs 6)).put (some 236) (vs 7)).put (some 237) (vs 8)).put (some 238) (vs 9)).put (some 239) (vs 10)).put (some 240) (vs 11)).put (some 241) (vs 12)).put (some 242) (vs 13)).put (some 12) (vs 14)).put (some 13) (vs 15)) w9) : (regOf Try.f4 31).wp Try.prog Q aZ wh := by
  conv => arg 2; whnf
  refine wp_region_said3 (fun i v wz => match i with
    | 0 => v = .slice (some ⟨gq, 0, none⟩) l.length qc
    | 1 => v = .agg (crow (restC (cth l k) (1 + q)))
    | 2 => ∃ g, v = .slice (some ⟨g, 0, none⟩) 1 1 ∧ wz.heap[g]? = some (.cells (crow (restC (cth l k) (1 + q))) 45 (0, 0)) ∧ g ≠ gq
    | 3 => True
    | 4 => v = .slice (some ⟨gi, 0, none⟩) l.length rc
    | 5 => v = .pointer (some ⟨w.heap.size + 1, 0, none⟩)
    | 6 => v = .slice (some ⟨pb, po, none⟩) l.length pc
    | 7 => v = .int .i64 k
    | 8 => v = .pointer (some ⟨pb, po + k, none⟩)
    | 9 => v = .int .i64 (nth p k)
    | 10 => v = .int .i64 (1 + q)
    | 11 => v = .int .i64 ((nth p k) + (1 + q))
    | 12 => ∃ g, v = .slice (some ⟨g, 0, none⟩) 1 1 ∧ wz.heap[g]? = some (.cells #[.int .i64 (nth p k + (1 + q))] 3 (0, 0)) ∧ g ≠ gi
    | 13 => True
    | 14 => True
    | _ => True) (fun ls vs wz => ExtX go w11 wz ∧ OwnC wz B (.slice (some ⟨go, 0, none⟩) l.length cc) (othTo ha.st.length ha.cl cu l p ch (k + 1)) ∧ wz.heap[b18]? = some (.cells (crow (restC (cth l k) (1 + q))) 45 (0, 0)) ∧ gq < wz.heap.size ∧ gi < wz.heap.size ∧ (ls 3 = false → OwnC wz B13 (.slice (some ⟨gq, 0, none⟩) l.length qc) l1) ∧ (ls 13 = false → OwnI wz B13 (.slice (some ⟨gi, 0, none⟩) l.length rc) p) ∧ (ls 3 = true → OwnC wz B13 (vs 3) (l1 ++ [restC (cth l k) (1 + q)])) ∧ (ls 13 = true → OwnI wz B13 (vs 13) (p ++ [nth p k + (1 + q)])) ∧ (ls 14 = true → ls 3 = true ∧ vs 14 = vs 3) ∧ (ls 15 = true → ls 13 = true ∧ vs 15 = vs 13)) (by kernel_rfl) (by kernel_rfl) (by rw [hsz]; kernel_rfl) ?_ ?_ ?_
  · exact ⟨hX.out.trans (Ext.refl _).drew.x, own_ext hOT.out (Ext.refl _).drew, hk18, hgqs, hgis, fun _ => own_ext hOC.out (Ext.refl _).drew, fun _ => own_ext hOI.out (Ext.refl _).drew, fun e => (by cases e), fun e => (by cases e), fun e => (by cases e), fun e => (by cases e)⟩
  · refine ⟨?_, ?_, ?_, ?_, ?_, ?_, ?_, ?_, ?_, ?_, ?_, ?_, ?_, ?_, ?_, ?_, trivial⟩
    · intro ls vs a w1 hi hJ hold hdep K hK
      have q12 : a.tmps[12]?.getD undef = .slice (some ⟨gq, 0, none⟩) l.length qc := (hold 12 (by kernel_rfl)).trans o12
      rw [if_pos (by rfl)]
      clear hold hdep hend o5 o12 o13 o14 o17 o18
      have HJ := Lib.hid hJ
      clear hJ
      go_simp
      exact hK _ _ (fun _ _ _ h => h) HJ.out rfl
    · intro ls vs a w1 hi hJ hold hdep K hK
      have q18 : a.tmps[18]?.getD undef = .pointer (some ⟨b18, 0, none⟩) := (hold 18 (by kernel_rfl)).trans o18
      rw [if_pos (by rfl)]
      clear hold hdep hend o5 o12 o13 o14 o17 o18
      have HJ := Lib.hid hJ
      clear hJ
      obtain ⟨i0, i1, i2, i3, i4, i5, i6⟩ := obj_cells7 HJ.out.2.2.1
      have hr1 := Ext.refl w1
      go_simp
      exact hK _ _ (fun _ _ _ h => h) HJ.out rfl
    · intro ls vs a w1 hi hJ hold hdep K hK
      have q230 : a.tmps[230]?.getD undef = .agg (crow (restC (cth l k) (1 + q))) := (hdep 1 230 (by kernel_rfl) (by kernel_rfl)).2.1.trans (hdep 1 230 (by kernel_rfl) (by kernel_rfl)).2.2
      rw [if_pos (by rfl)]
      clear hold hdep hend o5 o12 o13 o14 o17 o18
      have HJ := Lib.hid hJ
      clear hJ
      simp only [crow] at q230
      go_simp
      obtain ⟨j1, j2, j3, j4, j5, j6, j7, j8, j9, j10, j11⟩ := HJ.out
      have hx := (Ext.refl w1).alloc (.cells (crow (restC (cth l k) (1 + q))) 45)
      exact hK _ _ (fun j u _ h => by
            match j, h with
            | 0, h | 1, h | 3, h | 4, h | 5, h | 6, h | 7, h | 8, h | 9, h | 10, h | 11, h | 13, h | 14, h => exact h
            | 2, h => (obtain ⟨g, h1, h2, h3⟩ := h; exact ⟨g, h1, hx.block h2, h3⟩)
            | 12, h => (obtain ⟨g, h1, h2, h3⟩ := h; exact ⟨g, h1, hx.block h2, h3⟩)
            | (n + 15), h => exact h) ⟨j1.trans hx.x, own_ext j2 hx, hx.block j3, Nat.lt_of_lt_of_le j4 hx.size, Nat.lt_of_lt_of_le j5 hx.size, fun e => own_ext (j6 e) hx, fun e => own_ext (j7 e) hx, fun e => own_ext (j8 e) hx, fun e => own_ext (j9 e) hx, j10, j11⟩ ⟨_, rfl, heap_new _ _, by omega⟩
    · intro ls vs a w1 hi hJ hold hdep K hK
      have q229 : a.tmps[229]?.getD undef = .slice (some ⟨gq, 0, none⟩) l.length qc := (hdep 0 229 (by kernel_rfl) (by kernel_rfl)).2.1.trans (hdep 0 229 (by kernel_rfl) (by kernel_rfl)).2.2
      obtain ⟨hl2, q231, p231⟩ := hdep 2 231 (by kernel_rfl) (by kernel_rfl)
      clear hold hdep hend o5 o12 o13 o14 o17 o18
      have HJ := Lib.hid hJ
      clear hJ
      obtain ⟨j1, j2, j3, j4, j5, j6, j7, j8, j9, j10, j11⟩ := HJ.out
      obtain ⟨g, hv, hb, hne⟩ := p231
      rw [hv] at q231
      have hO := j6 hi
      have happ := app_camps w1 B13 25 _ l1 [restC (cth l k) (1 + q)] (some ⟨g, 0, none⟩) 1 hO (camps_one hb) (by rw [hl1n.out]; simp only [List.length_singleton]; omega) (by have := j1.size; omega)
      refine step_app (by rfl) (.tmp 229) (.tmp 231) 25 (by rfl) _ _ (by simpa [Act.eval, Array.getD_eq_getD_getElem?] using q229) (by simpa [Act.eval, Array.getD_eq_getD_getElem?] using q231) _ happ ?_
      rintro v3 w3 ⟨ho3, hg3⟩
      have hkb : ∀ j, j < w1.heap.size → j ≠ gq → w3.heap[j]? = w1.heap[j]? := fun j h1 h2 => hg3.block j h1 (fun e => h2 (by cases e; rfl))
      refine hK _ _ ?_ ⟨?_, ?_, ?_, ?_, ?_, ?_, ?_, ?_, ?_, ?_, ?_⟩ trivial
      · exact (fun j u _ h => by
            match j, h with
            | 0, h | 1, h | 3, h | 4, h | 5, h | 6, h | 7, h | 8, h | 9, h | 10, h | 11, h | 13, h | 14, h => exact h
            | 2, h => (obtain ⟨g, h1, h2, h3⟩ := h; exact ⟨g, h1, (hkb _ (lt_of_block h2) h3).trans h2, h3⟩)
            | 12, h => (obtain ⟨g, h1, h2, h3⟩ := h; exact ⟨g, h1, block_grown h2 hO hg3 (by decide), h3⟩)
            | (n + 15), h => exact h)
      · exact grown_extX j1 hg3 (fun j e => by have h : gq = j := Option.some.inj e; omega)
      · exact ownC_at (g := go) j2 (hkb go (lt_of_block (ownsRow_blk j2).2.choose_spec) (by omega))
      · exact (hkb b18 (lt_of_block j3) (by omega)).trans j3
      · exact Nat.lt_of_lt_of_le j4 hg3.size
      · exact Nat.lt_of_lt_of_le j5 hg3.size
      · exact fun e => (by simp at e)
      · exact fun e => ownsRow_grown (j7 e) hO hg3 (by decide)
      · exact fun _ => ho3
      · exact fun e => ownsRow_grown (j9 e) hO hg3 (by decide)
      · exact fun e => absurd (j10 e).1 (by rw [hi]; decide)
      · exact fun e => j11 e
    · intro ls vs a w1 hi hJ hold hdep K hK
      have q13 : a.tmps[13]?.getD undef = .slice (some ⟨gi, 0, none⟩) l.length rc := (hold 13 (by kernel_rfl)).trans o13
      rw [if_pos (by rfl)]
      clear hold hdep hend o5 o12 o13 o14 o17 o18
      have HJ := Lib.hid hJ
      clear hJ
      go_simp
      exact hK _ _ (fun _ _ _ h => h) HJ.out rfl
    · intro ls vs a w1 hi hJ hold hdep K hK
      have q5 : a.tmps[5]?.getD undef = .pointer (some ⟨w.heap.size + 1, 0, none⟩) := (hold 5 (by kernel_rfl)).trans o5
      rw [if_pos (by rfl)]
      clear hold hdep hend o5 o12 o13 o14 o17 o18
      have HJ := Lib.hid hJ
      clear hJ
      go_simp
      exact hK _ _ (fun _ _ _ h => h) HJ.out rfl
    · intro ls vs a w1 hi hJ hold hdep K hK
      have q234 : a.tmps[234]?.getD undef = .pointer (some ⟨w.heap.size + 1, 0, none⟩) := (hdep 5 234 (by kernel_rfl) (by kernel_rfl)).2.1.trans (hdep 5 234 (by kernel_rfl) (by kernel_rfl)).2.2
      rw [if_pos (by rfl)]
      clear hold hdep hend o5 o12 o13 o14 o17 o18
      have HJ := Lib.hid hJ
      clear hJ
      have hz1 := (hw11.x.trans HJ.out.1).ext (by rw [← hB]; exact hgoB)
      go_simp
      exact hK _ _ (fun _ _ _ h => h) HJ.out rfl
    · intro ls vs a w1 hi hJ hold hdep K hK
      have q14 : a.tmps[14]?.getD undef = .int .i64 k := (hold 14 (by kernel_rfl)).trans o14
      rw [if_pos (by rfl)]
      clear hold hdep hend o5 o12 o13 o14 o17 o18
      have HJ := Lib.hid hJ
      clear hJ
      go_simp
      exact hK _ _ (fun _ _ _ h => h) HJ.out rfl
    · intro ls vs a w1 hi hJ hold hdep K hK
      have q235 : a.tmps[235]?.getD undef = .slice (some ⟨pb, po, none⟩) l.length pc := (hdep 6 235 (by kernel_rfl) (by kernel_rfl)).2.1.trans (hdep 6 235 (by kernel_rfl) (by kernel_rfl)).2.2
      have q236 : a.tmps[236]?.getD undef = .int .i64 k := (hdep 7 236 (by kernel_rfl) (by kernel_rfl)).2.1.trans (hdep 7 236 (by kernel_rfl) (by kernel_rfl)).2.2
      rw [if_pos (by rfl)]
      clear hold hdep hend o5 o12 o13 o14 o17 o18
      have HJ := Lib.hid hJ
      clear hJ
      go_simp
      exact hK _ _ (fun _ _ _ h => h) HJ.out rfl
    · intro ls vs a w1 hi hJ hold hdep K hK
      have q237 : a.tmps[237]?.getD undef = .pointer (some ⟨pb, po + k, none⟩) := (hdep 8 237 (by kernel_rfl) (by kernel_rfl)).2.1.trans (hdep 8 237 (by kernel_rfl) (by kernel_rfl)).2.2
      rw [if_pos (by rfl)]
      clear hold hdep hend o5 o12 o13 o14 o17 o18
      have HJ := Lib.hid hJ
      clear hJ
      have hz1 := hw6.trans ((hw11.x.trans HJ.out.1).ext (by rw [← hB]; exact hgoB))
      go_simp
      exact hK _ _ (fun _ _ _ h => h) HJ.out rfl
    · intro ls vs a w1 hi hJ hold hdep K hK
      have q17 : a.tmps[17]?.getD undef = .int .i64 (1 + q) := (hold 17 (by kernel_rfl)).trans o17
      rw [if_pos (by rfl)]
      clear hold hdep hend o5 o12 o13 o14 o17 o18
      have HJ := Lib.hid hJ
      clear hJ
      go_simp
      exact hK _ _ (fun _ _ _ h => h) HJ.out rfl
    · intro ls vs a w1 hi hJ hold hdep K hK
      have q238 : a.tmps[238]?.getD undef = .int .i64 (nth p k) := (hdep 9 238 (by kernel_rfl) (by kernel_rfl)).2.1.trans (hdep 9 238 (by kernel_rfl) (by kernel_rfl)).2.2
      have q239 : a.tmps[239]?.getD undef = .int .i64 (1 + q) := (hdep 10 239 (by kernel_rfl) (by kernel_rfl)).2.1.trans (hdep 10 239 (by kernel_rfl) (by kernel_rfl)).2.2
      rw [if_pos (by rfl)]
      clear hold hdep hend o5 o12 o13 o14 o17 o18
      have HJ := Lib.hid hJ
      clear hJ
      go_simp
      rw [IntWalk.i64_in _ (by omega)]
      exact hK _ _ (fun _ _ _ h => h) HJ.out rfl
    · intro ls vs a w1 hi hJ hold hdep K hK
      have q240 : a.tmps[240]?.getD undef = .int .i64 ((nth p k) + (1 + q)) := (hdep 11 240 (by kernel_rfl) (by kernel_rfl)).2.1.trans (hdep 11 240 (by kernel_rfl) (by kernel_rfl)).2.2
      rw [if_pos (by rfl)]
      clear hold hdep hend o5 o12 o13 o14 o17 o18
      have HJ := Lib.hid hJ
      clear hJ
      go_simp
      obtain ⟨j1, j2, j3, j4, j5, j6, j7, j8, j9, j10, j11⟩ := HJ.out
      have hx := (Ext.refl w1).alloc (.cells #[.int .i64 (nth p k + (1 + q))] 3)
      exact hK _ _ (fun j u _ h => by
            match j, h with
            | 0, h | 1, h | 3, h | 4, h | 5, h | 6, h | 7, h | 8, h | 9, h | 10, h | 11, h | 13, h | 14, h => exact h
            | 2, h => (obtain ⟨g, h1, h2, h3⟩ := h; exact ⟨g, h1, hx.block h2, h3⟩)
            | 12, h => (obtain ⟨g, h1, h2, h3⟩ := h; exact ⟨g, h1, hx.block h2, h3⟩)
            | (n + 15), h => exact h) ⟨j1.trans hx.x, own_ext j2 hx, hx.block j3, Nat.lt_of_lt_of_le j4 hx.size, Nat.lt_of_lt_of_le j5 hx.size, fun e => own_ext (j6 e) hx, fun e => own_ext (j7 e) hx, fun e => own_ext (j8 e) hx, fun e => own_ext (j9 e) hx, j10, j11⟩ ⟨_, rfl, heap_new _ _, by omega⟩
    · intro ls vs a w1 hi hJ hold hdep K hK
      have q233 : a.tmps[233]?.getD undef = .slice (some ⟨gi, 0, none⟩) l.length rc := (hdep 4 233 (by kernel_rfl) (by kernel_rfl)).2.1.trans (hdep 4 233 (by kernel_rfl) (by kernel_rfl)).2.2
      obtain ⟨hl12, q241, p241⟩ := hdep 12 241 (by kernel_rfl) (by kernel_rfl)
      clear hold hdep hend o5 o12 o13 o14 o17 o18
      have HJ := Lib.hid hJ
      clear hJ
      obtain ⟨j1, j2, j3, j4, j5, j6, j7, j8, j9, j10, j11⟩ := HJ.out
      obtain ⟨g, hv, hb, hne⟩ := p241
      rw [hv] at q241
      have hO := j7 hi
      have happ := app_ints w1 B13 22 _ p [nth p k + (1 + q)] (some ⟨g, 0, none⟩) 1 hO (ints_one hb) (by rw [HPN.out]; simp only [List.length_singleton]; omega) (by have := j1.size; omega)
      refine step_app (by rfl) (.tmp 233) (.tmp 241) 22 (by rfl) _ _ (by simpa [Act.eval, Array.getD_eq_getD_getElem?] using q233) (by simpa [Act.eval, Array.getD_eq_getD_getElem?] using q241) _ happ ?_
      rintro v3 w3 ⟨ho3, hg3⟩
      have hkb : ∀ j, j < w1.heap.size → j ≠ gi → w3.heap[j]? = w1.heap[j]? := fun j h1 h2 => hg3.block j h1 (fun e => h2 (by cases e; rfl))
      refine hK _ _ ?_ ⟨?_, ?_, ?_, ?_, ?_, ?_, ?_, ?_, ?_, ?_, ?_⟩ trivial
      · exact (fun j u _ h => by
            match j, h with
            | 0, h | 1, h | 3, h | 4, h | 5, h | 6, h | 7, h | 8, h | 9, h | 10, h | 11, h | 13, h | 14, h => exact h
            | 2, h => (obtain ⟨g, h1, h2, h3⟩ := h; exact ⟨g, h1, block_grown h2 hO hg3 (by decide), h3⟩)
            | 12, h => (obtain ⟨g, h1, h2, h3⟩ := h; exact ⟨g, h1, (hkb _ (lt_of_block h2) h3).trans h2, h3⟩)
            | (n + 15), h => exact h)
      · exact grown_extX j1 hg3 (fun j e => by have h : gi = j := Option.some.inj e; omega)
      · exact ownC_at (g := go) j2 (hkb go (lt_of_block (ownsRow_blk j2).2.choose_spec) (by omega))
      · exact (hkb b18 (lt_of_block j3) (by omega)).trans j3
      · exact Nat.lt_of_lt_of_le j4 hg3.size
      · exact Nat.lt_of_lt_of_le j5 hg3.size
      · exact fun e => ownsRow_grown (j6 e) hO hg3 (by decide)
      · exact fun e => (by simp at e)
      · exact fun e => ownsRow_grown (j8 e) hO hg3 (by decide)
      · exact fun _ => ho3
      · exact fun e => j10 e
      · exact fun e => absurd (j11 e).1 (by rw [hi]; decide)
    · intro ls vs a w1 hi hJ hold hdep K hK
      obtain ⟨hl3, q232, p232⟩ := hdep 3 232 (by kernel_rfl) (by kernel_rfl)
      rw [if_pos (by rfl)]
      clear hold hdep hend o5 o12 o13 o14 o17 o18
      have HJ := Lib.hid hJ
      clear hJ
      go_simp
      obtain ⟨j1, j2, j3, j4, j5, j6, j7, j8, j9, j10, j11⟩ := HJ.out
      exact hK _ _ (fun _ _ _ h => h) ⟨j1, j2, j3, j4, j5, j6, j7, j8, j9, fun _ => ⟨hl3, rfl⟩, fun e => j11 e⟩ trivial
    · intro ls vs a w1 hi hJ hold hdep K hK
      obtain ⟨hl13, q242, p242⟩ := hdep 13 242 (by kernel_rfl) (by kernel_rfl)
      rw [if_pos (by rfl)]
      clear hold hdep hend o5 o12 o13 o14 o17 o18
      have HJ := Lib.hid hJ
      clear hJ
      go_simp
      obtain ⟨j1, j2, j3, j4, j5, j6, j7, j8, j9, j10, j11⟩ := HJ.out
      exact hK _ _ (fun _ _ _ h => h) ⟨j1, j2, j3, j4, j5, j6, j7, j8, j9, fun e => j10 e, fun _ => ⟨hl13, rfl⟩⟩ trivial
  · intro vs w9 ls9 hl9 hJ9 hφ
    have e0 := hφ 0 (by kernel_rfl)
    have e1 := hφ 1 (by kernel_rfl)
    have e2 := hφ 2 (by kernel_rfl)
    have e3 := hφ 3 (by kernel_rfl)
    have e4 := hφ 4 (by kernel_rfl)
    have e5 := hφ 5 (by kernel_rfl)
    have e6 := hφ 6 (by kernel_rfl)
    have e7 := hφ 7 (by kernel_rfl)
    have e8 := hφ 8 (by kernel_rfl)
    have e9 := hφ 9 (by kernel_rfl)
    have e10 := hφ 10 (by kernel_rfl)
    have e11 := hφ 11 (by kernel_rfl)
    have e12 := hφ 12 (by kernel_rfl)
    have e13 := hφ 13 (by kernel_rfl)
    have e14 := hφ 14 (by kernel_rfl)
    have e15 := hφ 15 (by kernel_rfl)
    have hq := hend vs w9 ls9 hl9 hJ9 e0 e1 e2 e3 e4 e5 e6 e7 e8 e9 e10 e11 e12 e13 e14 e15
    simp only [Act.put] at hq
    simp only [putAll, Act.put]
    exact hq

set_option maxRecDepth 100000 in
set_option maxHeartbeats 4000000 in
theorem r32_law {ha : Hal} {l : List Camp} {p : List Int} {pa ca : Option Addr} {pc cc c6 c10 g6 g10 gz : Nat} {cu ev2 : Int} {vl2 : List Int} {w wr : World} (hwr : Ext w wr) (hl15 : l.length ≤ 15) (HPN : Hid (p.length = l.length)) (HIN : Hid (∀ W, Ext w W → p.length ≤ 1000000 → Calls Try.prog 17 #[.slice pa l.length pc] W (RetI p W))) (hvw : Hid (∀ W, Ext wr W → ∀ ia ic, Ints W ia p → Calls Try.prog 14 #[.agg #[.int .i64 4, .int .i64 ha.cl, .slice (some ⟨g6, 0, none⟩) ha.st.length c6, .slice (some ⟨g10, 0, none⟩) ha.en.length c10], .slice ca l.length cc, .slice ia p.length ic, .int .i64 cu] W (fun e W' => ∃ va vc, e = .returned (.tuple #[.slice va vl2.length vc, .int .i64 ev2]) ∧ Ext W W' ∧ Byts W' va vl2))) (z0 : ∀ W, Ext wr W → W.cell? ⟨gz, 0, none⟩ = some (.int .i64 4)) (z1 : ∀ W, Ext wr W → W.cell? ⟨gz, 1, none⟩ = some (.int .i64 ha.cl)) (z2 : ∀ W, Ext wr W → W.cell? ⟨gz, 2, none⟩ = some (.slice (some ⟨g6, 0, none⟩) ha.st.length c6)) (z3 : ∀ W, Ext wr W → W.cell? ⟨gz, 3, none⟩ = some (.slice (some ⟨g10, 0, none⟩) ha.en.length c10)) (f0 : ∀ W, Ext wr W → W.cell? ⟨w.heap.size + 1, 0, none⟩ = some (.slice pa l.length pc)) (f1 : ∀ W, Ext wr W → W.cell? ⟨w.heap.size + 1, 1, none⟩ = some (.int .i64 cu)) {Q : Exit → Act → World → Prop} (aZ : Act) (hsz : aZ.tmps.size = 282) (o5 : aZ.tmps[5]?.getD undef = .pointer (some ⟨w.heap.size + 1, 0, none⟩)) (o9 : aZ.tmps[9]?.getD undef = .slice ca l.length cc) (o10 : aZ.tmps[10]?.getD undef = .pointer (some ⟨gz, 0, none⟩))
    (hend : ∀ (vs : Nat → Value) (w9 : World) (ls9 : Nat → Bool), (∀ j : Nat, j < 13 → ls9 j = true) → (Ext wr w9) → (vs 0 = .agg #[.int .i64 4, .int .i64 ha.cl, .slice (some ⟨g6, 0, none⟩) ha.st.length c6, .slice (some ⟨g10, 0, none⟩) ha.en.length c10]) → (vs 1 = .slice ca l.length cc) → (vs 2 = .pointer (some ⟨w.heap.size + 1, 0, none⟩)) → (vs 3 = .slice pa l.length pc) → (∃ ia ic, vs 4 = .slice ia p.length ic ∧ Ints w9 ia p) → (vs 5 = .pointer (some ⟨w.heap.size + 1, 1, none⟩)) → (vs 6 = .int .i64 cu) → (∃ va vc, vs 7 = .tuple #[.slice va vl2.length vc, .int .i64 ev2] ∧ Byts w9 va vl2) → (∃ va vc, vs 8 = .tuple #[.slice va vl2.length vc, .int .i64 ev2] ∧ Byts w9 va vl2) → (∃ va vc, vs 9 = .slice va vl2.length vc ∧ Byts w9 va vl2) → (vs 10 = .int .i64 ev2) → (∃ va vc, vs 11 = .slice va vl2.length vc ∧ Byts w9 va vl2) → (vs 12 = .int .i64 ev2) → Q .normal (((((((((((((aZ.put (some 244) (vs 0)).put (some 245) (vs 1)).put (some 246) (vs 2)).put (some 247) (vs 3)).put (some 248) (vs 4)).put (some 249) (vs 5)).put (some 250) (vs 6)).put (some 251) (vs 7)).put (some 243) (vs 8)).put (some 252) (vs 9)).put (some 253) (vs 10)).put (some 19) (vs 11)).put (some 20) (vs 12)) w9) : (regOf Try.f4 32).wp Try.prog Q aZ wr := by
  conv => arg 2; whnf
  refine wp_region_said3 (fun i v wz => match i with
    | 0 => v = .agg #[.int .i64 4, .int .i64 ha.cl, .slice (some ⟨g6, 0, none⟩) ha.st.length c6, .slice (some ⟨g10, 0, none⟩) ha.en.length c10]
    | 1 => v = .slice ca l.length cc
    | 2 => v = .pointer (some ⟨w.heap.size + 1, 0, none⟩)
    | 3 => v = .slice pa l.length pc
    | 4 => ∃ ia ic, v = .slice ia p.length ic ∧ Ints wz ia p
    | 5 => v = .pointer (some ⟨w.heap.size + 1, 1, none⟩)
    | 6 => v = .int .i64 cu
    | 7 => ∃ va vc, v = .tuple #[.slice va vl2.length vc, .int .i64 ev2] ∧ Byts wz va vl2
    | 8 => ∃ va vc, v = .tuple #[.slice va vl2.length vc, .int .i64 ev2] ∧ Byts wz va vl2
    | 9 => ∃ va vc, v = .slice va vl2.length vc ∧ Byts wz va vl2
    | 10 => v = .int .i64 ev2
    | 11 => ∃ va vc, v = .slice va vl2.length vc ∧ Byts wz va vl2
    | _ => v = .int .i64 ev2) (fun ls vs wz => Ext wr wz) (by kernel_rfl) (by kernel_rfl) (by rw [hsz]; kernel_rfl) ?_ ?_ ?_
  · exact (Ext.refl _).drew
  · refine ⟨?_, ?_, ?_, ?_, ?_, ?_, ?_, ?_, ?_, ?_, ?_, ?_, ?_, trivial⟩
    · intro ls vs a w1 hi hJ hold hdep K hK
      have q10 : a.tmps[10]?.getD undef = .pointer (some ⟨gz, 0, none⟩) := (hold 10 (by kernel_rfl)).trans o10
      rw [if_pos (by rfl)]
      clear hold hdep hend o5 o9 o10
      go_simp
      exact hK _ _ (fun _ _ _ h => h) hJ rfl
    · intro ls vs a w1 hi hJ hold hdep K hK
      have q9 : a.tmps[9]?.getD undef = .slice ca l.length cc := (hold 9 (by kernel_rfl)).trans o9
      rw [if_pos (by rfl)]
      clear hold hdep hend o5 o9 o10
      go_simp
      exact hK _ _ (fun _ _ _ h => h) hJ rfl
    · intro ls vs a w1 hi hJ hold hdep K hK
      have q5 : a.tmps[5]?.getD undef = .pointer (some ⟨w.heap.size + 1, 0, none⟩) := (hold 5 (by kernel_rfl)).trans o5
      rw [if_pos (by rfl)]
      clear hold hdep hend o5 o9 o10
      go_simp
      exact hK _ _ (fun _ _ _ h => h) hJ rfl
    · intro ls vs a w1 hi hJ hold hdep K hK
      have q246 : a.tmps[246]?.getD undef = .pointer (some ⟨w.heap.size + 1, 0, none⟩) := (hdep 2 246 (by kernel_rfl) (by kernel_rfl)).2.1.trans (hdep 2 246 (by kernel_rfl) (by kernel_rfl)).2.2
      rw [if_pos (by rfl)]
      clear hold hdep hend o5 o9 o10
      go_simp
      exact hK _ _ (fun _ _ _ h => h) hJ rfl
    · intro ls vs a w1 hi hJ hold hdep K hK
      have q247 : a.tmps[247]?.getD undef = .slice pa l.length pc := (hdep 3 247 (by kernel_rfl) (by kernel_rfl)).2.1.trans (hdep 3 247 (by kernel_rfl) (by kernel_rfl)).2.2
      rw [if_pos (by rfl)]
      clear hold hdep hend o5 o9 o10
      go_simp
      go_at_call 17
      (with_reducible refine (HIN.out _ (hwr.trans hJ) (by rw [HPN.out]; omega)).mono ?_); rintro e w17 ⟨ia2, ic2, rfl, he, ho17⟩
      exact hK _ _ (fun j u _ h => by
            match j, h with
            | 0, h | 1, h | 2, h | 3, h | 5, h | 6, h | 10, h => exact h
            | 4, h => (obtain ⟨a1, a2, h1, h2⟩ := h; exact ⟨a1, a2, h1, h2.ext he⟩)
            | 7, h => (obtain ⟨a1, a2, h1, h2⟩ := h; exact ⟨a1, a2, h1, h2.ext he⟩)
            | 8, h => (obtain ⟨a1, a2, h1, h2⟩ := h; exact ⟨a1, a2, h1, h2.ext he⟩)
            | 9, h => (obtain ⟨a1, a2, h1, h2⟩ := h; exact ⟨a1, a2, h1, h2.ext he⟩)
            | 11, h => (obtain ⟨a1, a2, h1, h2⟩ := h; exact ⟨a1, a2, h1, h2.ext he⟩)
            | (n + 12), h => exact h) (hJ.trans he) ⟨_, _, rfl, ho17.ints.1⟩
    · intro ls vs a w1 hi hJ hold hdep K hK
      have q5 : a.tmps[5]?.getD undef = .pointer (some ⟨w.heap.size + 1, 0, none⟩) := (hold 5 (by kernel_rfl)).trans o5
      rw [if_pos (by rfl)]
      clear hold hdep hend o5 o9 o10
      go_simp
      exact hK _ _ (fun _ _ _ h => h) hJ rfl
    · intro ls vs a w1 hi hJ hold hdep K hK
      have q249 : a.tmps[249]?.getD undef = .pointer (some ⟨w.heap.size + 1, 1, none⟩) := (hdep 5 249 (by kernel_rfl) (by kernel_rfl)).2.1.trans (hdep 5 249 (by kernel_rfl) (by kernel_rfl)).2.2
      rw [if_pos (by rfl)]
      clear hold hdep hend o5 o9 o10
      go_simp
      exact hK _ _ (fun _ _ _ h => h) hJ rfl
    · intro ls vs a w1 hi hJ hold hdep K hK
      have q244 : a.tmps[244]?.getD undef = .agg #[.int .i64 4, .int .i64 ha.cl, .slice (some ⟨g6, 0, none⟩) ha.st.length c6, .slice (some ⟨g10, 0, none⟩) ha.en.length c10] := (hdep 0 244 (by kernel_rfl) (by kernel_rfl)).2.1.trans (hdep 0 244 (by kernel_rfl) (by kernel_rfl)).2.2
      have q245 : a.tmps[245]?.getD undef = .slice ca l.length cc := (hdep 1 245 (by kernel_rfl) (by kernel_rfl)).2.1.trans (hdep 1 245 (by kernel_rfl) (by kernel_rfl)).2.2
      obtain ⟨hl4, q248, p248⟩ := hdep 4 248 (by kernel_rfl) (by kernel_rfl)
      have q250 : a.tmps[250]?.getD undef = .int .i64 cu := (hdep 6 250 (by kernel_rfl) (by kernel_rfl)).2.1.trans (hdep 6 250 (by kernel_rfl) (by kernel_rfl)).2.2
      rw [if_pos (by rfl)]
      clear hold hdep hend o5 o9 o10
      obtain ⟨ia2, ic2, h1, h2⟩ := p248
      rw [h1] at q248
      go_simp
      go_at_call 14
      (with_reducible refine (hvw.out _ hJ ia2 ic2 h2).mono ?_); rintro e w18 ⟨va2, vc2, rfl, he, hb⟩
      exact hK _ _ (fun j u _ h => by
            match j, h with
            | 0, h | 1, h | 2, h | 3, h | 5, h | 6, h | 10, h => exact h
            | 4, h => (obtain ⟨a1, a2, h1, h2⟩ := h; exact ⟨a1, a2, h1, h2.ext he⟩)
            | 7, h => (obtain ⟨a1, a2, h1, h2⟩ := h; exact ⟨a1, a2, h1, h2.ext he⟩)
            | 8, h => (obtain ⟨a1, a2, h1, h2⟩ := h; exact ⟨a1, a2, h1, h2.ext he⟩)
            | 9, h => (obtain ⟨a1, a2, h1, h2⟩ := h; exact ⟨a1, a2, h1, h2.ext he⟩)
            | 11, h => (obtain ⟨a1, a2, h1, h2⟩ := h; exact ⟨a1, a2, h1, h2.ext he⟩)
            | (n + 12), h => exact h) (hJ.trans he) ⟨_, _, rfl, hb⟩
    · intro ls vs a w1 hi hJ hold hdep K hK
      obtain ⟨hl7, q251, p251⟩ := hdep 7 251 (by kernel_rfl) (by kernel_rfl)
      rw [if_pos (by rfl)]
      clear hold hdep hend o5 o9 o10
      go_simp
      exact hK _ _ (fun _ _ _ h => h) hJ p251
    · intro ls vs a w1 hi hJ hold hdep K hK
      obtain ⟨hl8, q243, p243⟩ := hdep 8 243 (by kernel_rfl) (by kernel_rfl)
      rw [if_pos (by rfl)]
      clear hold hdep hend o5 o9 o10
      obtain ⟨va2, vc2, h1, h2⟩ := p243
      rw [h1] at q243
      go_simp
      exact hK _ _ (fun _ _ _ h => h) hJ ⟨_, _, rfl, h2⟩
    · intro ls vs a w1 hi hJ hold hdep K hK
      obtain ⟨hl8, q243, p243⟩ := hdep 8 243 (by kernel_rfl) (by kernel_rfl)
      rw [if_pos (by rfl)]
      clear hold hdep hend o5 o9 o10
      obtain ⟨va2, vc2, h1, h2⟩ := p243
      rw [h1] at q243
      go_simp
      exact hK _ _ (fun _ _ _ h => h) hJ rfl
    · intro ls vs a w1 hi hJ hold hdep K hK
      obtain ⟨hl9, q252, p252⟩ := hdep 9 252 (by kernel_rfl) (by kernel_rfl)
      rw [if_pos (by rfl)]
      clear hold hdep hend o5 o9 o10
      go_simp
      exact hK _ _ (fun _ _ _ h => h) hJ p252
    · intro ls vs a w1 hi hJ hold hdep K hK
      have q253 : a.tmps[253]?.getD undef = .int .i64 ev2 := (hdep 10 253 (by kernel_rfl) (by kernel_rfl)).2.1.trans (hdep 10 253 (by kernel_rfl) (by kernel_rfl)).2.2
      rw [if_pos (by rfl)]
      clear hold hdep hend o5 o9 o10
      go_simp
      exact hK _ _ (fun _ _ _ h => h) hJ rfl
  · intro vs w9 ls9 hl9 hJ9 hφ
    have e0 := hφ 0 (by kernel_rfl)
    have e1 := hφ 1 (by kernel_rfl)
    have e2 := hφ 2 (by kernel_rfl)
    have e3 := hφ 3 (by kernel_rfl)
    have e4 := hφ 4 (by kernel_rfl)
    have e5 := hφ 5 (by kernel_rfl)
    have e6 := hφ 6 (by kernel_rfl)
    have e7 := hφ 7 (by kernel_rfl)
    have e8 := hφ 8 (by kernel_rfl)
    have e9 := hφ 9 (by kernel_rfl)
    have e10 := hφ 10 (by kernel_rfl)
    have e11 := hφ 11 (by kernel_rfl)
    have e12 := hφ 12 (by kernel_rfl)
    have hq := hend vs w9 ls9 hl9 hJ9 e0 e1 e2 e3 e4 e5 e6 e7 e8 e9 e10 e11 e12
    simp only [Act.put] at hq
    simp only [putAll, Act.put]
    exact hq

set_option maxRecDepth 100000 in
set_option maxHeartbeats 4000000 in
theorem r38_law {ha : Hal} {l : List Camp} {p : List Int} {sa ea qa ra : Option Addr} {sc ec qc rc n12 n13 : Nat} {cu : Int} {w wr wd : World} (hwd : Ext w wd) (hxc : Ext wr wd) (hn30 : ha.st.length ≤ 30) (hen200 : ha.en.length ≤ 200) (HOW : Hid (∀ W, Ext w W → ha.st.length ≤ 1000 → ha.en.length ≤ 1000 → Calls Try.prog 15 #[hval ha ⟨sa, sc, ea, ec⟩] W (RetOwn ha W))) (hvc : Hid (∀ W, Ext wr W → ∀ g6 c6 g10 c10 : Nat, HallAt W ha ⟨some ⟨g6, 0, none⟩, c6, some ⟨g10, 0, none⟩, c10⟩ → Calls Try.prog 14 #[hval ha ⟨some ⟨g6, 0, none⟩, c6, some ⟨g10, 0, none⟩, c10⟩, .slice qa n12 qc, .slice ra n13 rc, .int .i64 cu] W (fun e W' => ∃ va vc, e = .returned (.tuple #[.slice va ha.st.length vc, .int .i64 0]) ∧ Ext W W' ∧ Byts W' va (fl ha.st.length (viewF ha l p cu))))) (f1 : ∀ W, Ext wd W → W.cell? ⟨w.heap.size + 1, 1, none⟩ = some (.int .i64 cu)) (d0 : ∀ W, Ext wd W → W.cell? ⟨w.heap.size, 0, none⟩ = some (.int .i64 ha.ro)) (d1 : ∀ W, Ext wd W → W.cell? ⟨w.heap.size, 1, none⟩ = some (.int .i64 ha.cl)) (d2 : ∀ W, Ext wd W → W.cell? ⟨w.heap.size, 2, none⟩ = some (.slice sa ha.st.length sc)) (d3 : ∀ W, Ext wd W → W.cell? ⟨w.heap.size, 3, none⟩ = some (.slice ea ha.en.length ec)) {Q : Exit → Act → World → Prop} (aZ : Act) (hsz : aZ.tmps.size = 282) (o3 : aZ.tmps[3]?.getD undef = .pointer (some ⟨w.heap.size, 0, none⟩)) (o5 : aZ.tmps[5]?.getD undef = .pointer (some ⟨w.heap.size + 1, 0, none⟩)) (o12 : aZ.tmps[12]?.getD undef = .slice qa n12 qc) (o13 : aZ.tmps[13]?.getD undef = .slice ra n13 rc)
    (hend : ∀ (vs : Nat → Value) (w9 : World) (ls9 : Nat → Bool), (∀ j : Nat, j < 12 → ls9 j = true) → (Ext wd w9) → (vs 0 = hval ha ⟨sa, sc, ea, ec⟩) → (∃ g6 c6 g10 c10 : Nat, vs 1 = hval ha ⟨some ⟨g6, 0, none⟩, c6, some ⟨g10, 0, none⟩, c10⟩ ∧ HallAt w9 ha ⟨some ⟨g6, 0, none⟩, c6, some ⟨g10, 0, none⟩, c10⟩) → (vs 2 = .slice qa n12 qc) → (vs 3 = .slice ra n13 rc) → (vs 4 = .pointer (some ⟨w.heap.size + 1, 1, none⟩)) → (vs 5 = .int .i64 cu) → (∃ va vc, vs 6 = .tuple #[.slice va ha.st.length vc, .int .i64 0] ∧ Byts w9 va (fl ha.st.length (viewF ha l p cu))) → (∃ va vc, vs 7 = .tuple #[.slice va ha.st.length vc, .int .i64 0] ∧ Byts w9 va (fl ha.st.length (viewF ha l p cu))) → (∃ va vc, vs 8 = .slice va ha.st.length vc ∧ Byts w9 va (fl ha.st.length (viewF ha l p cu))) → (vs 9 = .int .i64 0) → (∃ va vc, vs 10 = .slice va ha.st.length vc ∧ Byts w9 va (fl ha.st.length (viewF ha l p cu))) → (vs 11 = .int .i64 0) → Q .normal ((((((((((((aZ.put (some 263) (vs 0)).put (some 264) (vs 1)).put (some 265) (vs 2)).put (some 266) (vs 3)).put (some 267) (vs 4)).put (some 268) (vs 5)).put (some 269) (vs 6)).put (some 262) (vs 7)).put (some 270) (vs 8)).put (some 271) (vs 9)).put (some 21) (vs 10)).put (some 22) (vs 11)) w9) : (regOf Try.f4 38).wp Try.prog Q aZ wd := by
  conv => arg 2; whnf
  refine wp_region_said3 (fun i v wz => match i with
    | 0 => v = hval ha ⟨sa, sc, ea, ec⟩
    | 1 => ∃ g6 c6 g10 c10 : Nat, v = hval ha ⟨some ⟨g6, 0, none⟩, c6, some ⟨g10, 0, none⟩, c10⟩ ∧ HallAt wz ha ⟨some ⟨g6, 0, none⟩, c6, some ⟨g10, 0, none⟩, c10⟩
    | 2 => v = .slice qa n12 qc
    | 3 => v = .slice ra n13 rc
    | 4 => v = .pointer (some ⟨w.heap.size + 1, 1, none⟩)
    | 5 => v = .int .i64 cu
    | 6 => ∃ va vc, v = .tuple #[.slice va ha.st.length vc, .int .i64 0] ∧ Byts wz va (fl ha.st.length (viewF ha l p cu))
    | 7 => ∃ va vc, v = .tuple #[.slice va ha.st.length vc, .int .i64 0] ∧ Byts wz va (fl ha.st.length (viewF ha l p cu))
    | 8 => ∃ va vc, v = .slice va ha.st.length vc ∧ Byts wz va (fl ha.st.length (viewF ha l p cu))
    | 9 => v = .int .i64 0
    | 10 => ∃ va vc, v = .slice va ha.st.length vc ∧ Byts wz va (fl ha.st.length (viewF ha l p cu))
    | _ => v = .int .i64 0) (fun ls vs wz => Ext wd wz) (by kernel_rfl) (by kernel_rfl) (by rw [hsz]; kernel_rfl) ?_ ?_ ?_
  · exact (Ext.refl _).drew
  · refine ⟨?_, ?_, ?_, ?_, ?_, ?_, ?_, ?_, ?_, ?_, ?_, ?_, trivial⟩
    · intro ls vs a w1 hi hJ hold hdep K hK
      have q3 : a.tmps[3]?.getD undef = .pointer (some ⟨w.heap.size, 0, none⟩) := (hold 3 (by kernel_rfl)).trans o3
      rw [if_pos (by rfl)]
      clear hold hdep hend o3 o5 o12 o13
      go_simp
      exact hK _ _ (fun _ _ _ h => h) hJ rfl
    · intro ls vs a w1 hi hJ hold hdep K hK
      have q263 : a.tmps[263]?.getD undef = hval ha ⟨sa, sc, ea, ec⟩ := (hdep 0 263 (by kernel_rfl) (by kernel_rfl)).2.1.trans (hdep 0 263 (by kernel_rfl) (by kernel_rfl)).2.2
      rw [if_pos (by rfl)]
      clear hold hdep hend o3 o5 o12 o13
      go_simp
      go_at_call 15
      (with_reducible refine (HOW.out _ (hwd.trans hJ) (by omega) (by omega)).mono ?_); rintro e w20 ⟨h6, i6, h10, i10, rfl, he, -, -, -, ho6, ho10⟩
      exact hK _ _ (fun j u _ h => by
            match j, h with
            | 0, h | 2, h | 3, h | 4, h | 5, h | 9, h => exact h
            | 1, h => (obtain ⟨a1, a2, a3, a4, h1, h2⟩ := h; exact ⟨a1, a2, a3, a4, h1, h2.ext he⟩)
            | 6, h => (obtain ⟨a1, a2, h1, h2⟩ := h; exact ⟨a1, a2, h1, h2.ext he⟩)
            | 7, h => (obtain ⟨a1, a2, h1, h2⟩ := h; exact ⟨a1, a2, h1, h2.ext he⟩)
            | 8, h => (obtain ⟨a1, a2, h1, h2⟩ := h; exact ⟨a1, a2, h1, h2.ext he⟩)
            | 10, h => (obtain ⟨a1, a2, h1, h2⟩ := h; exact ⟨a1, a2, h1, h2.ext he⟩)
            | (n + 11), h => exact h) (hJ.trans he) ⟨_, _, _, _, rfl, ⟨ho6.ints.1, ho10.ints.1⟩⟩
    · intro ls vs a w1 hi hJ hold hdep K hK
      have q12 : a.tmps[12]?.getD undef = .slice qa n12 qc := (hold 12 (by kernel_rfl)).trans o12
      rw [if_pos (by rfl)]
      clear hold hdep hend o3 o5 o12 o13
      go_simp
      exact hK _ _ (fun _ _ _ h => h) hJ rfl
    · intro ls vs a w1 hi hJ hold hdep K hK
      have q13 : a.tmps[13]?.getD undef = .slice ra n13 rc := (hold 13 (by kernel_rfl)).trans o13
      rw [if_pos (by rfl)]
      clear hold hdep hend o3 o5 o12 o13
      go_simp
      exact hK _ _ (fun _ _ _ h => h) hJ rfl
    · intro ls vs a w1 hi hJ hold hdep K hK
      have q5 : a.tmps[5]?.getD undef = .pointer (some ⟨w.heap.size + 1, 0, none⟩) := (hold 5 (by kernel_rfl)).trans o5
      rw [if_pos (by rfl)]
      clear hold hdep hend o3 o5 o12 o13
      go_simp
      exact hK _ _ (fun _ _ _ h => h) hJ rfl
    · intro ls vs a w1 hi hJ hold hdep K hK
      have q267 : a.tmps[267]?.getD undef = .pointer (some ⟨w.heap.size + 1, 1, none⟩) := (hdep 4 267 (by kernel_rfl) (by kernel_rfl)).2.1.trans (hdep 4 267 (by kernel_rfl) (by kernel_rfl)).2.2
      rw [if_pos (by rfl)]
      clear hold hdep hend o3 o5 o12 o13
      go_simp
      exact hK _ _ (fun _ _ _ h => h) hJ rfl
    · intro ls vs a w1 hi hJ hold hdep K hK
      obtain ⟨hl1, q264, p264⟩ := hdep 1 264 (by kernel_rfl) (by kernel_rfl)
      have q265 : a.tmps[265]?.getD undef = .slice qa n12 qc := (hdep 2 265 (by kernel_rfl) (by kernel_rfl)).2.1.trans (hdep 2 265 (by kernel_rfl) (by kernel_rfl)).2.2
      have q266 : a.tmps[266]?.getD undef = .slice ra n13 rc := (hdep 3 266 (by kernel_rfl) (by kernel_rfl)).2.1.trans (hdep 3 266 (by kernel_rfl) (by kernel_rfl)).2.2
      have q268 : a.tmps[268]?.getD undef = .int .i64 cu := (hdep 5 268 (by kernel_rfl) (by kernel_rfl)).2.1.trans (hdep 5 268 (by kernel_rfl) (by kernel_rfl)).2.2
      rw [if_pos (by rfl)]
      clear hold hdep hend o3 o5 o12 o13
      obtain ⟨h6, i6, h10, i10, h1, h2⟩ := p264
      rw [h1] at q264
      go_simp
      go_at_call 14
      (with_reducible refine (hvc.out _ (hxc.trans hJ) h6 i6 h10 i10 h2).mono ?_); rintro e w21 ⟨va3, vc3, rfl, he, hb⟩
      exact hK _ _ (fun j u _ h => by
            match j, h with
            | 0, h | 2, h | 3, h | 4, h | 5, h | 9, h => exact h
            | 1, h => (obtain ⟨a1, a2, a3, a4, h1, h2⟩ := h; exact ⟨a1, a2, a3, a4, h1, h2.ext he⟩)
            | 6, h => (obtain ⟨a1, a2, h1, h2⟩ := h; exact ⟨a1, a2, h1, h2.ext he⟩)
            | 7, h => (obtain ⟨a1, a2, h1, h2⟩ := h; exact ⟨a1, a2, h1, h2.ext he⟩)
            | 8, h => (obtain ⟨a1, a2, h1, h2⟩ := h; exact ⟨a1, a2, h1, h2.ext he⟩)
            | 10, h => (obtain ⟨a1, a2, h1, h2⟩ := h; exact ⟨a1, a2, h1, h2.ext he⟩)
            | (n + 11), h => exact h) (hJ.trans he) ⟨_, _, rfl, hb⟩
    · intro ls vs a w1 hi hJ hold hdep K hK
      obtain ⟨hl6, q269, p269⟩ := hdep 6 269 (by kernel_rfl) (by kernel_rfl)
      rw [if_pos (by rfl)]
      clear hold hdep hend o3 o5 o12 o13
      go_simp
      exact hK _ _ (fun _ _ _ h => h) hJ p269
    · intro ls vs a w1 hi hJ hold hdep K hK
      obtain ⟨hl7, q262, p262⟩ := hdep 7 262 (by kernel_rfl) (by kernel_rfl)
      rw [if_pos (by rfl)]
      clear hold hdep hend o3 o5 o12 o13
      obtain ⟨va2, vc2, h1, h2⟩ := p262
      rw [h1] at q262
      go_simp
      exact hK _ _ (fun _ _ _ h => h) hJ ⟨_, _, rfl, h2⟩
    · intro ls vs a w1 hi hJ hold hdep K hK
      obtain ⟨hl7, q262, p262⟩ := hdep 7 262 (by kernel_rfl) (by kernel_rfl)
      rw [if_pos (by rfl)]
      clear hold hdep hend o3 o5 o12 o13
      obtain ⟨va2, vc2, h1, h2⟩ := p262
      rw [h1] at q262
      go_simp
      exact hK _ _ (fun _ _ _ h => h) hJ rfl
    · intro ls vs a w1 hi hJ hold hdep K hK
      obtain ⟨hl8, q270, p270⟩ := hdep 8 270 (by kernel_rfl) (by kernel_rfl)
      rw [if_pos (by rfl)]
      clear hold hdep hend o3 o5 o12 o13
      go_simp
      exact hK _ _ (fun _ _ _ h => h) hJ p270
    · intro ls vs a w1 hi hJ hold hdep K hK
      have q271 : a.tmps[271]?.getD undef = .int .i64 0 := (hdep 9 271 (by kernel_rfl) (by kernel_rfl)).2.1.trans (hdep 9 271 (by kernel_rfl) (by kernel_rfl)).2.2
      rw [if_pos (by rfl)]
      clear hold hdep hend o3 o5 o12 o13
      go_simp
      exact hK _ _ (fun _ _ _ h => h) hJ rfl
  · intro vs w9 ls9 hl9 hJ9 hφ
    have e0 := hφ 0 (by kernel_rfl)
    have e1 := hφ 1 (by kernel_rfl)
    have e2 := hφ 2 (by kernel_rfl)
    have e3 := hφ 3 (by kernel_rfl)
    have e4 := hφ 4 (by kernel_rfl)
    have e5 := hφ 5 (by kernel_rfl)
    have e6 := hφ 6 (by kernel_rfl)
    have e7 := hφ 7 (by kernel_rfl)
    have e8 := hφ 8 (by kernel_rfl)
    have e9 := hφ 9 (by kernel_rfl)
    have e10 := hφ 10 (by kernel_rfl)
    have e11 := hφ 11 (by kernel_rfl)
    have hq := hend vs w9 ls9 hl9 hJ9 e0 e1 e2 e3 e4 e5 e6 e7 e8 e9 e10 e11
    simp only [Act.put] at hq
    simp only [putAll, Act.put]
    exact hq

end Go.Proofs.Ytjpgignbjkgjiaa
