/-
  Texts merged: S9, T9.
-/
import Derived.Test.YtjpgignbjkgjiaaR27
import Derived.Test.YtjpgignbjkgjiaaB10
import Derived.Test.YtjpgignbjkgjiaaL6
import Derived.Test.YtjpgignbjkgjiaaR20
import Derived.Test.YtjpgignbjkgjiaaP22
import Derived.Deep.RegionHeld3
import Derived.Deep.DrawnRows
import Derived.Test.YtjpgignbjkgjiaaR10
section
/-
  HallChanges' regions that draw their order, each a theorem of its own (printed by wip/tools/regthm.py from wip/tools/gen9.py).
-/
set_option linter.unusedVariables false
set_option linter.unusedSimpArgs false
namespace Go.Proofs.Ytjpgignbjkgjiaa
open Go.RowKit
attribute [local go_sem ↓] Go.wp_at_zero Go.wp_at_succ
set_option maxRecDepth 100000 in
set_option maxHeartbeats 4000000 in
theorem s3_law {ha : Hal} {l : List Camp} {p : List Int} {sa ea la pa : Option Addr} {sc ec lc pc : Nat} {now : Int} {w w1 wX : World} {np : Nat} {kv rv : Int} {pv : List Int} (he : Ext w w1) (hr : Ext w1 wX) (hn24 : ha.st.length ≤ 24) (hen200 : ha.en.length ≤ 200) (hn4 : l.length ≤ 4) (HPN : Hid (p.length = l.length)) (HOW : Hid (∀ W, Ext w W → ha.st.length ≤ 1000 → ha.en.length ≤ 1000 → Calls Try.prog 15 #[hval ha ⟨sa, sc, ea, ec⟩] W (RetOwn ha W))) (HCP : Hid (∀ W, Ext w W → l.length ≤ 1000000 → Calls Try.prog 16 #[.slice la l.length lc] W (RetC l W))) (b0 : ∀ W, Ext w1 W → W.cell? ⟨w.heap.size, 0, none⟩ = some (.int .i64 ha.ro)) (b1 : ∀ W, Ext w1 W → W.cell? ⟨w.heap.size, 1, none⟩ = some (.int .i64 ha.cl)) (b2 : ∀ W, Ext w1 W → W.cell? ⟨w.heap.size, 2, none⟩ = some (.slice sa ha.st.length sc)) (b3 : ∀ W, Ext w1 W → W.cell? ⟨w.heap.size, 3, none⟩ = some (.slice ea ha.en.length ec)) (l0 : ∀ W, Ext w1 W → W.cell? ⟨w.heap.size + 1, 0, none⟩ = some (.slice la l.length lc)) (HR1 : Hid (rpP ha l p now = pv)) (HR4 : Hid (pv.length = np)) (HR2 : Hid (rpK ha l p now = kv)) (HR3 : Hid (rpE ha l p now = rv)) (HIN : Hid (∀ W, Ext w W → p.length ≤ 1000000 → Calls Try.prog 17 #[.slice pa l.length pc] W (RetI p W))) (a0 : ∀ W, Ext w1 W → W.cell? ⟨w.heap.size + 2, 0, none⟩ = some (.slice pa l.length pc)) (a1 : ∀ W, Ext w1 W → W.cell? ⟨w.heap.size + 2, 1, none⟩ = some (.int .i64 now)) {Q : Exit → Act → World → Prop} (aZ : Act) (hsz : aZ.tmps.size = 317) (o3 : aZ.tmps[3]?.getD undef = .pointer (some ⟨w.heap.size, 0, none⟩)) (o4 : aZ.tmps[4]?.getD undef = .pointer (some ⟨w.heap.size + 1, 0, none⟩)) (o5 : aZ.tmps[5]?.getD undef = .pointer (some ⟨w.heap.size + 2, 0, none⟩))
    (hend : ∀ (vs : Nat → Value) (w9 : World) (ls9 : Nat → Bool), (∀ j : Nat, j < 17 → ls9 j = true) → (Ext wX w9) → (vs 0 = hval ha ⟨sa, sc, ea, ec⟩) → (∃ g6 c6 g10 c10 : Nat, vs 1 = hval ha ⟨some ⟨g6, 0, none⟩, c6, some ⟨g10, 0, none⟩, c10⟩ ∧ HallAt w9 ha ⟨some ⟨g6, 0, none⟩, c6, some ⟨g10, 0, none⟩, c10⟩) → (vs 2 = .slice la l.length lc) → (∃ ca cc, vs 3 = .slice ca l.length cc ∧ OwnC w9 0 (.slice ca l.length cc) l) → (vs 4 = .pointer (some ⟨w.heap.size + 2, 0, none⟩)) → (vs 5 = .slice pa l.length pc) → (∃ ia ic, vs 6 = .slice ia p.length ic ∧ Ints w9 ia p) → (vs 7 = .pointer (some ⟨w.heap.size + 2, 1, none⟩)) → (vs 8 = .int .i64 now) → (∃ ra rc, vs 9 = .tuple #[.slice ra np rc, .int .i64 kv, .int .i64 rv] ∧ Ints w9 ra pv) → (∃ ra rc, vs 10 = .tuple #[.slice ra np rc, .int .i64 kv, .int .i64 rv] ∧ Ints w9 ra pv) → (∃ ra rc, vs 11 = .slice ra np rc ∧ Ints w9 ra pv) → (vs 12 = .int .i64 kv) → (vs 13 = .int .i64 rv) → (∃ ra rc, vs 14 = .slice ra np rc ∧ Ints w9 ra pv) → (vs 15 = .int .i64 kv) → (vs 16 = .int .i64 rv) → Q .normal (((((((((((((((((aZ.put (some 87) (vs 0)).put (some 88) (vs 1)).put (some 89) (vs 2)).put (some 90) (vs 3)).put (some 91) (vs 4)).put (some 92) (vs 5)).put (some 93) (vs 6)).put (some 94) (vs 7)).put (some 95) (vs 8)).put (some 96) (vs 9)).put (some 86) (vs 10)).put (some 97) (vs 11)).put (some 98) (vs 12)).put (some 99) (vs 13)).put (some 7) (vs 14)).put (some 8) (vs 15)).put (some 9) (vs 16)) w9) : (regOf Try.f9 3).wp Try.prog Q aZ wX := by
  conv => arg 2; whnf
  refine wp_region_said3 (fun i v wz => match i with
    | 0 => v = hval ha ⟨sa, sc, ea, ec⟩
    | 1 => ∃ g6 c6 g10 c10 : Nat, v = hval ha ⟨some ⟨g6, 0, none⟩, c6, some ⟨g10, 0, none⟩, c10⟩ ∧ HallAt wz ha ⟨some ⟨g6, 0, none⟩, c6, some ⟨g10, 0, none⟩, c10⟩
    | 2 => v = .slice la l.length lc
    | 3 => ∃ ca cc, v = .slice ca l.length cc ∧ OwnC wz 0 (.slice ca l.length cc) l
    | 4 => v = .pointer (some ⟨w.heap.size + 2, 0, none⟩)
    | 5 => v = .slice pa l.length pc
    | 6 => ∃ ia ic, v = .slice ia p.length ic ∧ Ints wz ia p
    | 7 => v = .pointer (some ⟨w.heap.size + 2, 1, none⟩)
    | 8 => v = .int .i64 now
    | 9 => ∃ ra rc, v = .tuple #[.slice ra np rc, .int .i64 kv, .int .i64 rv] ∧ Ints wz ra pv
    | 10 => ∃ ra rc, v = .tuple #[.slice ra np rc, .int .i64 kv, .int .i64 rv] ∧ Ints wz ra pv
    | 11 => ∃ ra rc, v = .slice ra np rc ∧ Ints wz ra pv
    | 12 => v = .int .i64 kv
    | 13 => v = .int .i64 rv
    | 14 => ∃ ra rc, v = .slice ra np rc ∧ Ints wz ra pv
    | 15 => v = .int .i64 kv
    | _ => v = .int .i64 rv) (fun ls vs wz => Ext wX wz) (by kernel_rfl) (by kernel_rfl) (by rw [hsz]; kernel_rfl) ?_ ?_ ?_
  · exact (Ext.refl _).drew
  · refine ⟨?_, ?_, ?_, ?_, ?_, ?_, ?_, ?_, ?_, ?_, ?_, ?_, ?_, ?_, ?_, ?_, ?_, trivial⟩
    · intro ls vs a w1 hi hJ hold hdep K hK
      have q3 : a.tmps[3]?.getD undef = .pointer (some ⟨w.heap.size, 0, none⟩) := (hold 3 (by kernel_rfl)).trans o3
      rw [if_pos (by rfl)]
      clear hold hdep hend o3 o4 o5
      have hz1 := hr.trans hJ
      go_simp
      exact hK _ _ (fun _ _ _ h => h) hJ rfl
    · intro ls vs a w1 hi hJ hold hdep K hK
      have q87 : a.tmps[87]?.getD undef = hval ha ⟨sa, sc, ea, ec⟩ := (hdep 0 87 (by kernel_rfl) (by kernel_rfl)).2.1.trans (hdep 0 87 (by kernel_rfl) (by kernel_rfl)).2.2
      rw [if_pos (by rfl)]
      clear hold hdep hend o3 o4 o5
      go_simp
      go_at_call 15
      (with_reducible refine (HOW.out _ (he.trans (hr.trans hJ)) (by omega) (by omega)).mono ?_); rintro e w20 ⟨h6, i6, h10, i10, rfl, he2, -, -, -, ho6, ho10⟩
      exact hK _ _ (fun j u _ h => by
            match j, h with
            | 0, h | 2, h | 4, h | 5, h | 7, h | 8, h | 12, h | 13, h | 15, h => exact h
            | 1, h => (obtain ⟨a1, a2, a3, a4, h1, h2⟩ := h; exact ⟨a1, a2, a3, a4, h1, h2.ext he2⟩)
            | 3, h => (obtain ⟨a1, a2, h1, h2⟩ := h; exact ⟨a1, a2, h1, own_ext h2 he2⟩)
            | 6, h => (obtain ⟨a1, a2, h1, h2⟩ := h; exact ⟨a1, a2, h1, h2.ext he2⟩)
            | 9, h => (obtain ⟨a1, a2, h1, h2⟩ := h; exact ⟨a1, a2, h1, h2.ext he2⟩)
            | 10, h => (obtain ⟨a1, a2, h1, h2⟩ := h; exact ⟨a1, a2, h1, h2.ext he2⟩)
            | 11, h => (obtain ⟨a1, a2, h1, h2⟩ := h; exact ⟨a1, a2, h1, h2.ext he2⟩)
            | 14, h => (obtain ⟨a1, a2, h1, h2⟩ := h; exact ⟨a1, a2, h1, h2.ext he2⟩)
            | (n + 16), h => exact h) (hJ.trans he2) ⟨_, _, _, _, rfl, ⟨ho6.ints.1, ho10.ints.1⟩⟩
    · intro ls vs a w1 hi hJ hold hdep K hK
      have q4 : a.tmps[4]?.getD undef = .pointer (some ⟨w.heap.size + 1, 0, none⟩) := (hold 4 (by kernel_rfl)).trans o4
      rw [if_pos (by rfl)]
      clear hold hdep hend o3 o4 o5
      have hz1 := hr.trans hJ
      go_simp
      exact hK _ _ (fun _ _ _ h => h) hJ rfl
    · intro ls vs a w1 hi hJ hold hdep K hK
      have q89 : a.tmps[89]?.getD undef = .slice la l.length lc := (hdep 2 89 (by kernel_rfl) (by kernel_rfl)).2.1.trans (hdep 2 89 (by kernel_rfl) (by kernel_rfl)).2.2
      rw [if_pos (by rfl)]
      clear hold hdep hend o3 o4 o5
      go_simp
      go_at_call 16
      (with_reducible refine (HCP.out _ (he.trans (hr.trans hJ)) (by omega)).mono ?_); rintro e w20 ⟨ca, cc, rfl, he2, ho⟩
      exact hK _ _ (fun j u _ h => by
            match j, h with
            | 0, h | 2, h | 4, h | 5, h | 7, h | 8, h | 12, h | 13, h | 15, h => exact h
            | 1, h => (obtain ⟨a1, a2, a3, a4, h1, h2⟩ := h; exact ⟨a1, a2, a3, a4, h1, h2.ext he2⟩)
            | 3, h => (obtain ⟨a1, a2, h1, h2⟩ := h; exact ⟨a1, a2, h1, own_ext h2 he2⟩)
            | 6, h => (obtain ⟨a1, a2, h1, h2⟩ := h; exact ⟨a1, a2, h1, h2.ext he2⟩)
            | 9, h => (obtain ⟨a1, a2, h1, h2⟩ := h; exact ⟨a1, a2, h1, h2.ext he2⟩)
            | 10, h => (obtain ⟨a1, a2, h1, h2⟩ := h; exact ⟨a1, a2, h1, h2.ext he2⟩)
            | 11, h => (obtain ⟨a1, a2, h1, h2⟩ := h; exact ⟨a1, a2, h1, h2.ext he2⟩)
            | 14, h => (obtain ⟨a1, a2, h1, h2⟩ := h; exact ⟨a1, a2, h1, h2.ext he2⟩)
            | (n + 16), h => exact h) (hJ.trans he2) ⟨_, _, rfl, own_downC ho (Nat.zero_le _)⟩
    · intro ls vs a w1 hi hJ hold hdep K hK
      have q5 : a.tmps[5]?.getD undef = .pointer (some ⟨w.heap.size + 2, 0, none⟩) := (hold 5 (by kernel_rfl)).trans o5
      rw [if_pos (by rfl)]
      clear hold hdep hend o3 o4 o5
      go_simp
      exact hK _ _ (fun _ _ _ h => h) hJ rfl
    · intro ls vs a w1 hi hJ hold hdep K hK
      have q91 : a.tmps[91]?.getD undef = .pointer (some ⟨w.heap.size + 2, 0, none⟩) := (hdep 4 91 (by kernel_rfl) (by kernel_rfl)).2.1.trans (hdep 4 91 (by kernel_rfl) (by kernel_rfl)).2.2
      rw [if_pos (by rfl)]
      clear hold hdep hend o3 o4 o5
      have hz1 := hr.trans hJ
      go_simp
      exact hK _ _ (fun _ _ _ h => h) hJ rfl
    · intro ls vs a w1 hi hJ hold hdep K hK
      have q92 : a.tmps[92]?.getD undef = .slice pa l.length pc := (hdep 5 92 (by kernel_rfl) (by kernel_rfl)).2.1.trans (hdep 5 92 (by kernel_rfl) (by kernel_rfl)).2.2
      rw [if_pos (by rfl)]
      clear hold hdep hend o3 o4 o5
      go_simp
      go_at_call 17
      (with_reducible refine (HIN.out _ (he.trans (hr.trans hJ)) (by rw [HPN.out]; omega)).mono ?_); rintro e w20 ⟨ia, ic, rfl, he2, ho⟩
      exact hK _ _ (fun j u _ h => by
            match j, h with
            | 0, h | 2, h | 4, h | 5, h | 7, h | 8, h | 12, h | 13, h | 15, h => exact h
            | 1, h => (obtain ⟨a1, a2, a3, a4, h1, h2⟩ := h; exact ⟨a1, a2, a3, a4, h1, h2.ext he2⟩)
            | 3, h => (obtain ⟨a1, a2, h1, h2⟩ := h; exact ⟨a1, a2, h1, own_ext h2 he2⟩)
            | 6, h => (obtain ⟨a1, a2, h1, h2⟩ := h; exact ⟨a1, a2, h1, h2.ext he2⟩)
            | 9, h => (obtain ⟨a1, a2, h1, h2⟩ := h; exact ⟨a1, a2, h1, h2.ext he2⟩)
            | 10, h => (obtain ⟨a1, a2, h1, h2⟩ := h; exact ⟨a1, a2, h1, h2.ext he2⟩)
            | 11, h => (obtain ⟨a1, a2, h1, h2⟩ := h; exact ⟨a1, a2, h1, h2.ext he2⟩)
            | 14, h => (obtain ⟨a1, a2, h1, h2⟩ := h; exact ⟨a1, a2, h1, h2.ext he2⟩)
            | (n + 16), h => exact h) (hJ.trans he2) ⟨_, _, rfl, ho.ints.1⟩
    · intro ls vs a w1 hi hJ hold hdep K hK
      have q5 : a.tmps[5]?.getD undef = .pointer (some ⟨w.heap.size + 2, 0, none⟩) := (hold 5 (by kernel_rfl)).trans o5
      rw [if_pos (by rfl)]
      clear hold hdep hend o3 o4 o5
      go_simp
      exact hK _ _ (fun _ _ _ h => h) hJ rfl
    · intro ls vs a w1 hi hJ hold hdep K hK
      have q94 : a.tmps[94]?.getD undef = .pointer (some ⟨w.heap.size + 2, 1, none⟩) := (hdep 7 94 (by kernel_rfl) (by kernel_rfl)).2.1.trans (hdep 7 94 (by kernel_rfl) (by kernel_rfl)).2.2
      rw [if_pos (by rfl)]
      clear hold hdep hend o3 o4 o5
      have hz1 := hr.trans hJ
      go_simp
      exact hK _ _ (fun _ _ _ h => h) hJ rfl
    · intro ls vs a w1 hi hJ hold hdep K hK
      obtain ⟨hl1, q88, p88⟩ := hdep 1 88 (by kernel_rfl) (by kernel_rfl)
      obtain ⟨hl3, q90, p90⟩ := hdep 3 90 (by kernel_rfl) (by kernel_rfl)
      obtain ⟨hl6, q93, p93⟩ := hdep 6 93 (by kernel_rfl) (by kernel_rfl)
      have q95 : a.tmps[95]?.getD undef = .int .i64 now := (hdep 8 95 (by kernel_rfl) (by kernel_rfl)).2.1.trans (hdep 8 95 (by kernel_rfl) (by kernel_rfl)).2.2
      rw [if_pos (by rfl)]
      clear hold hdep hend o3 o4 o5
      obtain ⟨h6, i6, h10, i10, k1, k2⟩ := p88
      rw [k1] at q88
      obtain ⟨ca, cc, k3, k4⟩ := p90
      rw [k3] at q90
      obtain ⟨ia, ic, k5, k6⟩ := p93
      rw [k5] at q93
      go_simp
      go_at_call 25
      (with_reducible refine (Replan_any ha ⟨some ⟨h6, 0, none⟩, i6, some ⟨h10, 0, none⟩, i10⟩ l ca cc p ia p.length ic now _ k2 k4.camps.1 k6 rfl k4.camps.2.2 (ownC_cap k4)).mono ?_); rintro e w20 ⟨ra, rc, rfl, he2, hri⟩
      rw [HR1.out] at hri
      rw [HR1.out, HR2.out, HR3.out, HR4.out]
      exact hK _ _ (fun j u _ h => by
            match j, h with
            | 0, h | 2, h | 4, h | 5, h | 7, h | 8, h | 12, h | 13, h | 15, h => exact h
            | 1, h => (obtain ⟨a1, a2, a3, a4, h1, h2⟩ := h; exact ⟨a1, a2, a3, a4, h1, h2.ext he2⟩)
            | 3, h => (obtain ⟨a1, a2, h1, h2⟩ := h; exact ⟨a1, a2, h1, own_ext h2 he2⟩)
            | 6, h => (obtain ⟨a1, a2, h1, h2⟩ := h; exact ⟨a1, a2, h1, h2.ext he2⟩)
            | 9, h => (obtain ⟨a1, a2, h1, h2⟩ := h; exact ⟨a1, a2, h1, h2.ext he2⟩)
            | 10, h => (obtain ⟨a1, a2, h1, h2⟩ := h; exact ⟨a1, a2, h1, h2.ext he2⟩)
            | 11, h => (obtain ⟨a1, a2, h1, h2⟩ := h; exact ⟨a1, a2, h1, h2.ext he2⟩)
            | 14, h => (obtain ⟨a1, a2, h1, h2⟩ := h; exact ⟨a1, a2, h1, h2.ext he2⟩)
            | (n + 16), h => exact h) (hJ.trans he2) ⟨_, _, rfl, hri⟩
    · intro ls vs a w1 hi hJ hold hdep K hK
      obtain ⟨hl9, q96, p96⟩ := hdep 9 96 (by kernel_rfl) (by kernel_rfl)
      rw [if_pos (by rfl)]
      clear hold hdep hend o3 o4 o5
      go_simp
      exact hK _ _ (fun _ _ _ h => h) hJ p96
    · intro ls vs a w1 hi hJ hold hdep K hK
      obtain ⟨hl10, q86, p86⟩ := hdep 10 86 (by kernel_rfl) (by kernel_rfl)
      rw [if_pos (by rfl)]
      clear hold hdep hend o3 o4 o5
      obtain ⟨ra, rc, k1, k2⟩ := p86
      rw [k1] at q86
      go_simp
      exact hK _ _ (fun _ _ _ h => h) hJ ⟨_, _, rfl, k2⟩
    · intro ls vs a w1 hi hJ hold hdep K hK
      obtain ⟨hl10, q86, p86⟩ := hdep 10 86 (by kernel_rfl) (by kernel_rfl)
      rw [if_pos (by rfl)]
      clear hold hdep hend o3 o4 o5
      obtain ⟨ra, rc, k1, k2⟩ := p86
      rw [k1] at q86
      go_simp
      exact hK _ _ (fun _ _ _ h => h) hJ rfl
    · intro ls vs a w1 hi hJ hold hdep K hK
      obtain ⟨hl10, q86, p86⟩ := hdep 10 86 (by kernel_rfl) (by kernel_rfl)
      rw [if_pos (by rfl)]
      clear hold hdep hend o3 o4 o5
      obtain ⟨ra, rc, k1, k2⟩ := p86
      rw [k1] at q86
      go_simp
      exact hK _ _ (fun _ _ _ h => h) hJ rfl
    · intro ls vs a w1 hi hJ hold hdep K hK
      obtain ⟨hl11, q97, p97⟩ := hdep 11 97 (by kernel_rfl) (by kernel_rfl)
      rw [if_pos (by rfl)]
      clear hold hdep hend o3 o4 o5
      go_simp
      exact hK _ _ (fun _ _ _ h => h) hJ p97
    · intro ls vs a w1 hi hJ hold hdep K hK
      have q98 : a.tmps[98]?.getD undef = .int .i64 kv := (hdep 12 98 (by kernel_rfl) (by kernel_rfl)).2.1.trans (hdep 12 98 (by kernel_rfl) (by kernel_rfl)).2.2
      rw [if_pos (by rfl)]
      clear hold hdep hend o3 o4 o5
      go_simp
      exact hK _ _ (fun _ _ _ h => h) hJ rfl
    · intro ls vs a w1 hi hJ hold hdep K hK
      have q99 : a.tmps[99]?.getD undef = .int .i64 rv := (hdep 13 99 (by kernel_rfl) (by kernel_rfl)).2.1.trans (hdep 13 99 (by kernel_rfl) (by kernel_rfl)).2.2
      rw [if_pos (by rfl)]
      clear hold hdep hend o3 o4 o5
      go_simp
      exact hK _ _ (fun _ _ _ h => h) hJ rfl
  · intro vs w9 ls9 hl9 hJ9 hφ
    have e0 := hφ 0 (by kernel_rfl)
    have e1 := hφ 1 (by kernel_rfl)
    have e2 := hφ 2 (by kernel_rfl)
    have e3 := hφ 3 (by kernel_rfl)
    have e4 := hφ 4 (by kernel_rfl)
    have e5 := hφ 5 (by kernel_rfl)
    have e6 := hφ 6 (by kernel_rfl)
    have e7 := hφ 7 (by kernel_rfl)
    have e8 := hφ 8 (by kernel_rfl)
    have e9 := hφ 9 (by kernel_rfl)
    have e10 := hφ 10 (by kernel_rfl)
    have e11 := hφ 11 (by kernel_rfl)
    have e12 := hφ 12 (by kernel_rfl)
    have e13 := hφ 13 (by kernel_rfl)
    have e14 := hφ 14 (by kernel_rfl)
    have e15 := hφ 15 (by kernel_rfl)
    have e16 := hφ 16 (by kernel_rfl)
    have hq := hend vs w9 ls9 hl9 hJ9 e0 e1 e2 e3 e4 e5 e6 e7 e8 e9 e10 e11 e12 e13 e14 e15 e16
    simp only [Act.put] at hq
    simp only [putAll, Act.put]
    exact hq

set_option maxRecDepth 100000 in
set_option maxHeartbeats 4000000 in
theorem s8_law {ha : Hal} {l : List Camp} {p : List Int} {sa ea la : Option Addr} {sc ec lc : Nat} {w w1 wX : World} {ra : Option Addr} {np rc : Nat} {pv : List Int} (he : Ext w w1) (hr : Ext w1 wX) (hn24 : ha.st.length ≤ 24) (hen200 : ha.en.length ≤ 200) (hn4 : l.length ≤ 4) (HPN : Hid (p.length = l.length)) (HOW : Hid (∀ W, Ext w W → ha.st.length ≤ 1000 → ha.en.length ≤ 1000 → Calls Try.prog 15 #[hval ha ⟨sa, sc, ea, ec⟩] W (RetOwn ha W))) (HCP : Hid (∀ W, Ext w W → l.length ≤ 1000000 → Calls Try.prog 16 #[.slice la l.length lc] W (RetC l W))) (b0 : ∀ W, Ext w1 W → W.cell? ⟨w.heap.size, 0, none⟩ = some (.int .i64 ha.ro)) (b1 : ∀ W, Ext w1 W → W.cell? ⟨w.heap.size, 1, none⟩ = some (.int .i64 ha.cl)) (b2 : ∀ W, Ext w1 W → W.cell? ⟨w.heap.size, 2, none⟩ = some (.slice sa ha.st.length sc)) (b3 : ∀ W, Ext w1 W → W.cell? ⟨w.heap.size, 3, none⟩ = some (.slice ea ha.en.length ec)) (l0 : ∀ W, Ext w1 W → W.cell? ⟨w.heap.size + 1, 0, none⟩ = some (.slice la l.length lc)) (HI2 : Hid (∀ W, Ext wX W → Calls Try.prog 17 #[.slice ra np rc] W (RetI pv W))) {Q : Exit → Act → World → Prop} (aZ : Act) (hsz : aZ.tmps.size = 317) (o3 : aZ.tmps[3]?.getD undef = .pointer (some ⟨w.heap.size, 0, none⟩)) (o4 : aZ.tmps[4]?.getD undef = .pointer (some ⟨w.heap.size + 1, 0, none⟩)) (o7 : aZ.tmps[7]?.getD undef = .slice ra np rc)
    (hend : ∀ (vs : Nat → Value) (w9 : World) (ls9 : Nat → Bool), (∀ j : Nat, j < 12 → ls9 j = true) → (Ext wX w9) → (vs 0 = hval ha ⟨sa, sc, ea, ec⟩) → (∃ g6 c6 g10 c10 : Nat, vs 1 = hval ha ⟨some ⟨g6, 0, none⟩, c6, some ⟨g10, 0, none⟩, c10⟩ ∧ HallAt w9 ha ⟨some ⟨g6, 0, none⟩, c6, some ⟨g10, 0, none⟩, c10⟩) → (vs 2 = .slice la l.length lc) → (∃ ca cc, vs 3 = .slice ca l.length cc ∧ OwnC w9 0 (.slice ca l.length cc) l) → (vs 4 = .slice ra np rc) → (∃ ia ic, vs 5 = .slice ia pv.length ic ∧ Ints w9 ia pv) → (vs 6 = .tuple #[.int .i64 (costR ha l pv), .int .i64 (errS ha l pv)]) → (vs 7 = .tuple #[.int .i64 (costR ha l pv), .int .i64 (errS ha l pv)]) → (vs 8 = .int .i64 (costR ha l pv)) → (vs 9 = .int .i64 (errS ha l pv)) → (vs 10 = .int .i64 (costR ha l pv)) → (vs 11 = .int .i64 (errS ha l pv)) → Q .normal ((((((((((((aZ.put (some 121) (vs 0)).put (some 122) (vs 1)).put (some 123) (vs 2)).put (some 124) (vs 3)).put (some 125) (vs 4)).put (some 126) (vs 5)).put (some 127) (vs 6)).put (some 120) (vs 7)).put (some 128) (vs 8)).put (some 129) (vs 9)).put (some 11) (vs 10)).put (some 12) (vs 11)) w9) : (regOf Try.f9 8).wp Try.prog Q aZ wX := by
  conv => arg 2; whnf
  refine wp_region_said3 (fun i v wz => match i with
    | 0 => v = hval ha ⟨sa, sc, ea, ec⟩
    | 1 => ∃ g6 c6 g10 c10 : Nat, v = hval ha ⟨some ⟨g6, 0, none⟩, c6, some ⟨g10, 0, none⟩, c10⟩ ∧ HallAt wz ha ⟨some ⟨g6, 0, none⟩, c6, some ⟨g10, 0, none⟩, c10⟩
    | 2 => v = .slice la l.length lc
    | 3 => ∃ ca cc, v = .slice ca l.length cc ∧ OwnC wz 0 (.slice ca l.length cc) l
    | 4 => v = .slice ra np rc
    | 5 => ∃ ia ic, v = .slice ia pv.length ic ∧ Ints wz ia pv
    | 6 => v = .tuple #[.int .i64 (costR ha l pv), .int .i64 (errS ha l pv)]
    | 7 => v = .tuple #[.int .i64 (costR ha l pv), .int .i64 (errS ha l pv)]
    | 8 => v = .int .i64 (costR ha l pv)
    | 9 => v = .int .i64 (errS ha l pv)
    | 10 => v = .int .i64 (costR ha l pv)
    | _ => v = .int .i64 (errS ha l pv)) (fun ls vs wz => Ext wX wz) (by kernel_rfl) (by kernel_rfl) (by rw [hsz]; kernel_rfl) ?_ ?_ ?_
  · exact (Ext.refl _).drew
  · refine ⟨?_, ?_, ?_, ?_, ?_, ?_, ?_, ?_, ?_, ?_, ?_, ?_, trivial⟩
    · intro ls vs a w1 hi hJ hold hdep K hK
      have q3 : a.tmps[3]?.getD undef = .pointer (some ⟨w.heap.size, 0, none⟩) := (hold 3 (by kernel_rfl)).trans o3
      rw [if_pos (by rfl)]
      clear hold hdep hend o3 o4 o7
      have hz1 := hr.trans hJ
      go_simp
      exact hK _ _ (fun _ _ _ h => h) hJ rfl
    · intro ls vs a w1 hi hJ hold hdep K hK
      have q121 : a.tmps[121]?.getD undef = hval ha ⟨sa, sc, ea, ec⟩ := (hdep 0 121 (by kernel_rfl) (by kernel_rfl)).2.1.trans (hdep 0 121 (by kernel_rfl) (by kernel_rfl)).2.2
      rw [if_pos (by rfl)]
      clear hold hdep hend o3 o4 o7
      go_simp
      go_at_call 15
      (with_reducible refine (HOW.out _ (he.trans (hr.trans hJ)) (by omega) (by omega)).mono ?_); rintro e w20 ⟨h6, i6, h10, i10, rfl, he2, -, -, -, ho6, ho10⟩
      exact hK _ _ (fun j u _ h => by
            match j, h with
            | 0, h | 2, h | 4, h | 6, h | 7, h | 8, h | 9, h | 10, h => exact h
            | 1, h => (obtain ⟨a1, a2, a3, a4, h1, h2⟩ := h; exact ⟨a1, a2, a3, a4, h1, h2.ext he2⟩)
            | 3, h => (obtain ⟨a1, a2, h1, h2⟩ := h; exact ⟨a1, a2, h1, own_ext h2 he2⟩)
            | 5, h => (obtain ⟨a1, a2, h1, h2⟩ := h; exact ⟨a1, a2, h1, h2.ext he2⟩)
            | (n + 11), h => exact h) (hJ.trans he2) ⟨_, _, _, _, rfl, ⟨ho6.ints.1, ho10.ints.1⟩⟩
    · intro ls vs a w1 hi hJ hold hdep K hK
      have q4 : a.tmps[4]?.getD undef = .pointer (some ⟨w.heap.size + 1, 0, none⟩) := (hold 4 (by kernel_rfl)).trans o4
      rw [if_pos (by rfl)]
      clear hold hdep hend o3 o4 o7
      have hz1 := hr.trans hJ
      go_simp
      exact hK _ _ (fun _ _ _ h => h) hJ rfl
    · intro ls vs a w1 hi hJ hold hdep K hK
      have q123 : a.tmps[123]?.getD undef = .slice la l.length lc := (hdep 2 123 (by kernel_rfl) (by kernel_rfl)).2.1.trans (hdep 2 123 (by kernel_rfl) (by kernel_rfl)).2.2
      rw [if_pos (by rfl)]
      clear hold hdep hend o3 o4 o7
      go_simp
      go_at_call 16
      (with_reducible refine (HCP.out _ (he.trans (hr.trans hJ)) (by omega)).mono ?_); rintro e w20 ⟨ca, cc, rfl, he2, ho⟩
      exact hK _ _ (fun j u _ h => by
            match j, h with
            | 0, h | 2, h | 4, h | 6, h | 7, h | 8, h | 9, h | 10, h => exact h
            | 1, h => (obtain ⟨a1, a2, a3, a4, h1, h2⟩ := h; exact ⟨a1, a2, a3, a4, h1, h2.ext he2⟩)
            | 3, h => (obtain ⟨a1, a2, h1, h2⟩ := h; exact ⟨a1, a2, h1, own_ext h2 he2⟩)
            | 5, h => (obtain ⟨a1, a2, h1, h2⟩ := h; exact ⟨a1, a2, h1, h2.ext he2⟩)
            | (n + 11), h => exact h) (hJ.trans he2) ⟨_, _, rfl, own_downC ho (Nat.zero_le _)⟩
    · intro ls vs a w1 hi hJ hold hdep K hK
      have q7 : a.tmps[7]?.getD undef = .slice ra np rc := (hold 7 (by kernel_rfl)).trans o7
      rw [if_pos (by rfl)]
      clear hold hdep hend o3 o4 o7
      go_simp
      exact hK _ _ (fun _ _ _ h => h) hJ rfl
    · intro ls vs a w1 hi hJ hold hdep K hK
      have q125 : a.tmps[125]?.getD undef = .slice ra np rc := (hdep 4 125 (by kernel_rfl) (by kernel_rfl)).2.1.trans (hdep 4 125 (by kernel_rfl) (by kernel_rfl)).2.2
      rw [if_pos (by rfl)]
      clear hold hdep hend o3 o4 o7
      go_simp
      go_at_call 17
      (with_reducible refine (HI2.out _ hJ).mono ?_); rintro e w20 ⟨ia, ic, rfl, he2, ho⟩
      exact hK _ _ (fun j u _ h => by
            match j, h with
            | 0, h | 2, h | 4, h | 6, h | 7, h | 8, h | 9, h | 10, h => exact h
            | 1, h => (obtain ⟨a1, a2, a3, a4, h1, h2⟩ := h; exact ⟨a1, a2, a3, a4, h1, h2.ext he2⟩)
            | 3, h => (obtain ⟨a1, a2, h1, h2⟩ := h; exact ⟨a1, a2, h1, own_ext h2 he2⟩)
            | 5, h => (obtain ⟨a1, a2, h1, h2⟩ := h; exact ⟨a1, a2, h1, h2.ext he2⟩)
            | (n + 11), h => exact h) (hJ.trans he2) ⟨_, _, rfl, ho.ints.1⟩
    · intro ls vs a w1 hi hJ hold hdep K hK
      obtain ⟨hl1, q122, p122⟩ := hdep 1 122 (by kernel_rfl) (by kernel_rfl)
      obtain ⟨hl3, q124, p124⟩ := hdep 3 124 (by kernel_rfl) (by kernel_rfl)
      obtain ⟨hl5, q126, p126⟩ := hdep 5 126 (by kernel_rfl) (by kernel_rfl)
      rw [if_pos (by rfl)]
      clear hold hdep hend o3 o4 o7
      obtain ⟨h6, i6, h10, i10, k1, k2⟩ := p122
      rw [k1] at q122
      obtain ⟨ca, cc, k3, k4⟩ := p124
      rw [k3] at q124
      obtain ⟨ia, ic, k5, k6⟩ := p126
      rw [k5] at q126
      go_simp
      go_at_call 36
      (with_reducible refine (Cost_any ha ⟨some ⟨h6, 0, none⟩, i6, some ⟨h10, 0, none⟩, i10⟩ l ca cc pv ia _ ic _ k2 k4.camps.1 k6 rfl).mono ?_); rintro e w20 ⟨rfl, he2⟩
      exact hK _ _ (fun j u _ h => by
            match j, h with
            | 0, h | 2, h | 4, h | 6, h | 7, h | 8, h | 9, h | 10, h => exact h
            | 1, h => (obtain ⟨a1, a2, a3, a4, h1, h2⟩ := h; exact ⟨a1, a2, a3, a4, h1, h2.ext he2⟩)
            | 3, h => (obtain ⟨a1, a2, h1, h2⟩ := h; exact ⟨a1, a2, h1, own_ext h2 he2⟩)
            | 5, h => (obtain ⟨a1, a2, h1, h2⟩ := h; exact ⟨a1, a2, h1, h2.ext he2⟩)
            | (n + 11), h => exact h) (hJ.trans he2) rfl
    · intro ls vs a w1 hi hJ hold hdep K hK
      have q127 : a.tmps[127]?.getD undef = .tuple #[.int .i64 (costR ha l pv), .int .i64 (errS ha l pv)] := (hdep 6 127 (by kernel_rfl) (by kernel_rfl)).2.1.trans (hdep 6 127 (by kernel_rfl) (by kernel_rfl)).2.2
      rw [if_pos (by rfl)]
      clear hold hdep hend o3 o4 o7
      go_simp
      exact hK _ _ (fun _ _ _ h => h) hJ rfl
    · intro ls vs a w1 hi hJ hold hdep K hK
      have q120 : a.tmps[120]?.getD undef = .tuple #[.int .i64 (costR ha l pv), .int .i64 (errS ha l pv)] := (hdep 7 120 (by kernel_rfl) (by kernel_rfl)).2.1.trans (hdep 7 120 (by kernel_rfl) (by kernel_rfl)).2.2
      rw [if_pos (by rfl)]
      clear hold hdep hend o3 o4 o7
      go_simp
      exact hK _ _ (fun _ _ _ h => h) hJ rfl
    · intro ls vs a w1 hi hJ hold hdep K hK
      have q120 : a.tmps[120]?.getD undef = .tuple #[.int .i64 (costR ha l pv), .int .i64 (errS ha l pv)] := (hdep 7 120 (by kernel_rfl) (by kernel_rfl)).2.1.trans (hdep 7 120 (by kernel_rfl) (by kernel_rfl)).2.2
      rw [if_pos (by rfl)]
      clear hold hdep hend o3 o4 o7
      go_simp
      exact hK _ _ (fun _ _ _ h => h) hJ rfl
    · intro ls vs a w1 hi hJ hold hdep K hK
      have q128 : a.tmps[128]?.getD undef = .int .i64 (costR ha l pv) := (hdep 8 128 (by kernel_rfl) (by kernel_rfl)).2.1.trans (hdep 8 128 (by kernel_rfl) (by kernel_rfl)).2.2
      rw [if_pos (by rfl)]
      clear hold hdep hend o3 o4 o7
      go_simp
      exact hK _ _ (fun _ _ _ h => h) hJ rfl
    · intro ls vs a w1 hi hJ hold hdep K hK
      have q129 : a.tmps[129]?.getD undef = .int .i64 (errS ha l pv) := (hdep 9 129 (by kernel_rfl) (by kernel_rfl)).2.1.trans (hdep 9 129 (by kernel_rfl) (by kernel_rfl)).2.2
      rw [if_pos (by rfl)]
      clear hold hdep hend o3 o4 o7
      go_simp
      exact hK _ _ (fun _ _ _ h => h) hJ rfl
  · intro vs w9 ls9 hl9 hJ9 hφ
    have e0 := hφ 0 (by kernel_rfl)
    have e1 := hφ 1 (by kernel_rfl)
    have e2 := hφ 2 (by kernel_rfl)
    have e3 := hφ 3 (by kernel_rfl)
    have e4 := hφ 4 (by kernel_rfl)
    have e5 := hφ 5 (by kernel_rfl)
    have e6 := hφ 6 (by kernel_rfl)
    have e7 := hφ 7 (by kernel_rfl)
    have e8 := hφ 8 (by kernel_rfl)
    have e9 := hφ 9 (by kernel_rfl)
    have e10 := hφ 10 (by kernel_rfl)
    have e11 := hφ 11 (by kernel_rfl)
    have hq := hend vs w9 ls9 hl9 hJ9 e0 e1 e2 e3 e4 e5 e6 e7 e8 e9 e10 e11
    simp only [Act.put] at hq
    simp only [putAll, Act.put]
    exact hq

set_option maxRecDepth 100000 in
set_option maxHeartbeats 4000000 in
theorem s14_law {ha : Hal} {l : List Camp} {p : List Int} {sa ea la : Option Addr} {sc ec lc qc : Nat} {P : List (List Int)} {k qb qo ppc : Nat} {ppa : Option Addr} {w w1 wX : World} (he : Ext w w1) (hr : Ext w1 wX) (hn24 : ha.st.length ≤ 24) (hen200 : ha.en.length ≤ 200) (hn4 : l.length ≤ 4) (HPN : Hid (p.length = l.length)) (HOW : Hid (∀ W, Ext w W → ha.st.length ≤ 1000 → ha.en.length ≤ 1000 → Calls Try.prog 15 #[hval ha ⟨sa, sc, ea, ec⟩] W (RetOwn ha W))) (HCP : Hid (∀ W, Ext w W → l.length ≤ 1000000 → Calls Try.prog 16 #[.slice la l.length lc] W (RetC l W))) (b0 : ∀ W, Ext w1 W → W.cell? ⟨w.heap.size, 0, none⟩ = some (.int .i64 ha.ro)) (b1 : ∀ W, Ext w1 W → W.cell? ⟨w.heap.size, 1, none⟩ = some (.int .i64 ha.cl)) (b2 : ∀ W, Ext w1 W → W.cell? ⟨w.heap.size, 2, none⟩ = some (.slice sa ha.st.length sc)) (b3 : ∀ W, Ext w1 W → W.cell? ⟨w.heap.size, 3, none⟩ = some (.slice ea ha.en.length ec)) (l0 : ∀ W, Ext w1 W → W.cell? ⟨w.heap.size + 1, 0, none⟩ = some (.slice la l.length lc)) (hlt : k < P.length) (hP20 : P.length ≤ 20) (a2 : ∀ W, Ext w1 W → W.cell? ⟨w.heap.size + 2, 2, none⟩ = some (.slice (some ⟨qb, qo, none⟩) P.length qc)) (e0 : ∀ W, Ext w W → W.cell? ⟨qb, qo + k, none⟩ = some (.slice ppa (lth P k).length ppc)) (HI2 : Hid (∀ W, Ext wX W → Calls Try.prog 17 #[.slice ppa (lth P k).length ppc] W (RetI (lth P k) W))) {Q : Exit → Act → World → Prop} (aZ : Act) (hsz : aZ.tmps.size = 317) (o3 : aZ.tmps[3]?.getD undef = .pointer (some ⟨w.heap.size, 0, none⟩)) (o4 : aZ.tmps[4]?.getD undef = .pointer (some ⟨w.heap.size + 1, 0, none⟩)) (o5 : aZ.tmps[5]?.getD undef = .pointer (some ⟨w.heap.size + 2, 0, none⟩)) (o13 : aZ.tmps[13]?.getD undef = .int .i64 k)
    (hend : ∀ (vs : Nat → Value) (w9 : World) (ls9 : Nat → Bool), (∀ j : Nat, j < 16 → ls9 j = true) → (Ext wX w9) → (vs 0 = hval ha ⟨sa, sc, ea, ec⟩) → (∃ g6 c6 g10 c10 : Nat, vs 1 = hval ha ⟨some ⟨g6, 0, none⟩, c6, some ⟨g10, 0, none⟩, c10⟩ ∧ HallAt w9 ha ⟨some ⟨g6, 0, none⟩, c6, some ⟨g10, 0, none⟩, c10⟩) → (vs 2 = .slice la l.length lc) → (∃ ca cc, vs 3 = .slice ca l.length cc ∧ OwnC w9 0 (.slice ca l.length cc) l) → (vs 4 = .pointer (some ⟨w.heap.size + 2, 2, none⟩)) → (vs 5 = .slice (some ⟨qb, qo, none⟩) P.length qc) → (vs 6 = .int .i64 k) → (vs 7 = .pointer (some ⟨qb, qo + k, none⟩)) → (vs 8 = .slice ppa (lth P k).length ppc) → (∃ ia ic, vs 9 = .slice ia (lth P k).length ic ∧ Ints w9 ia (lth P k)) → (vs 10 = .tuple #[.int .i64 (costR ha l (lth P k)), .int .i64 (errS ha l (lth P k))]) → (vs 11 = .tuple #[.int .i64 (costR ha l (lth P k)), .int .i64 (errS ha l (lth P k))]) → (vs 12 = .int .i64 (costR ha l (lth P k))) → (vs 13 = .int .i64 (errS ha l (lth P k))) → (vs 14 = .int .i64 (costR ha l (lth P k))) → (vs 15 = .int .i64 (errS ha l (lth P k))) → Q .normal ((((((((((((((((aZ.put (some 151) (vs 0)).put (some 152) (vs 1)).put (some 153) (vs 2)).put (some 154) (vs 3)).put (some 155) (vs 4)).put (some 156) (vs 5)).put (some 157) (vs 6)).put (some 158) (vs 7)).put (some 159) (vs 8)).put (some 160) (vs 9)).put (some 161) (vs 10)).put (some 150) (vs 11)).put (some 162) (vs 12)).put (some 163) (vs 13)).put (some 14) (vs 14)).put (some 15) (vs 15)) w9) : (regOf Try.f9 14).wp Try.prog Q aZ wX := by
  conv => arg 2; whnf
  refine wp_region_said3 (fun i v wz => match i with
    | 0 => v = hval ha ⟨sa, sc, ea, ec⟩
    | 1 => ∃ g6 c6 g10 c10 : Nat, v = hval ha ⟨some ⟨g6, 0, none⟩, c6, some ⟨g10, 0, none⟩, c10⟩ ∧ HallAt wz ha ⟨some ⟨g6, 0, none⟩, c6, some ⟨g10, 0, none⟩, c10⟩
    | 2 => v = .slice la l.length lc
    | 3 => ∃ ca cc, v = .slice ca l.length cc ∧ OwnC wz 0 (.slice ca l.length cc) l
    | 4 => v = .pointer (some ⟨w.heap.size + 2, 2, none⟩)
    | 5 => v = .slice (some ⟨qb, qo, none⟩) P.length qc
    | 6 => v = .int .i64 k
    | 7 => v = .pointer (some ⟨qb, qo + k, none⟩)
    | 8 => v = .slice ppa (lth P k).length ppc
    | 9 => ∃ ia ic, v = .slice ia (lth P k).length ic ∧ Ints wz ia (lth P k)
    | 10 => v = .tuple #[.int .i64 (costR ha l (lth P k)), .int .i64 (errS ha l (lth P k))]
    | 11 => v = .tuple #[.int .i64 (costR ha l (lth P k)), .int .i64 (errS ha l (lth P k))]
    | 12 => v = .int .i64 (costR ha l (lth P k))
    | 13 => v = .int .i64 (errS ha l (lth P k))
    | 14 => v = .int .i64 (costR ha l (lth P k))
    | _ => v = .int .i64 (errS ha l (lth P k))) (fun ls vs wz => Ext wX wz) (by kernel_rfl) (by kernel_rfl) (by rw [hsz]; kernel_rfl) ?_ ?_ ?_
  · exact (Ext.refl _).drew
  · refine ⟨?_, ?_, ?_, ?_, ?_, ?_, ?_, ?_, ?_, ?_, ?_, ?_, ?_, ?_, ?_, ?_, trivial⟩
    · intro ls vs a w1 hi hJ hold hdep K hK
      have q3 : a.tmps[3]?.getD undef = .pointer (some ⟨w.heap.size, 0, none⟩) := (hold 3 (by kernel_rfl)).trans o3
      rw [if_pos (by rfl)]
      clear hold hdep hend o3 o4 o5 o13
      have hz1 := hr.trans hJ
      go_simp
      exact hK _ _ (fun _ _ _ h => h) hJ rfl
    · intro ls vs a w1 hi hJ hold hdep K hK
      have q151 : a.tmps[151]?.getD undef = hval ha ⟨sa, sc, ea, ec⟩ := (hdep 0 151 (by kernel_rfl) (by kernel_rfl)).2.1.trans (hdep 0 151 (by kernel_rfl) (by kernel_rfl)).2.2
      rw [if_pos (by rfl)]
      clear hold hdep hend o3 o4 o5 o13
      go_simp
      go_at_call 15
      (with_reducible refine (HOW.out _ (he.trans (hr.trans hJ)) (by omega) (by omega)).mono ?_); rintro e w20 ⟨h6, i6, h10, i10, rfl, he2, -, -, -, ho6, ho10⟩
      exact hK _ _ (fun j u _ h => by
            match j, h with
            | 0, h | 2, h | 4, h | 5, h | 6, h | 7, h | 8, h | 10, h | 11, h | 12, h | 13, h | 14, h => exact h
            | 1, h => (obtain ⟨a1, a2, a3, a4, h1, h2⟩ := h; exact ⟨a1, a2, a3, a4, h1, h2.ext he2⟩)
            | 3, h => (obtain ⟨a1, a2, h1, h2⟩ := h; exact ⟨a1, a2, h1, own_ext h2 he2⟩)
            | 9, h => (obtain ⟨a1, a2, h1, h2⟩ := h; exact ⟨a1, a2, h1, h2.ext he2⟩)
            | (n + 15), h => exact h) (hJ.trans he2) ⟨_, _, _, _, rfl, ⟨ho6.ints.1, ho10.ints.1⟩⟩
    · intro ls vs a w1 hi hJ hold hdep K hK
      have q4 : a.tmps[4]?.getD undef = .pointer (some ⟨w.heap.size + 1, 0, none⟩) := (hold 4 (by kernel_rfl)).trans o4
      rw [if_pos (by rfl)]
      clear hold hdep hend o3 o4 o5 o13
      have hz1 := hr.trans hJ
      go_simp
      exact hK _ _ (fun _ _ _ h => h) hJ rfl
    · intro ls vs a w1 hi hJ hold hdep K hK
      have q153 : a.tmps[153]?.getD undef = .slice la l.length lc := (hdep 2 153 (by kernel_rfl) (by kernel_rfl)).2.1.trans (hdep 2 153 (by kernel_rfl) (by kernel_rfl)).2.2
      rw [if_pos (by rfl)]
      clear hold hdep hend o3 o4 o5 o13
      go_simp
      go_at_call 16
      (with_reducible refine (HCP.out _ (he.trans (hr.trans hJ)) (by omega)).mono ?_); rintro e w20 ⟨ca, cc, rfl, he2, ho⟩
      exact hK _ _ (fun j u _ h => by
            match j, h with
            | 0, h | 2, h | 4, h | 5, h | 6, h | 7, h | 8, h | 10, h | 11, h | 12, h | 13, h | 14, h => exact h
            | 1, h => (obtain ⟨a1, a2, a3, a4, h1, h2⟩ := h; exact ⟨a1, a2, a3, a4, h1, h2.ext he2⟩)
            | 3, h => (obtain ⟨a1, a2, h1, h2⟩ := h; exact ⟨a1, a2, h1, own_ext h2 he2⟩)
            | 9, h => (obtain ⟨a1, a2, h1, h2⟩ := h; exact ⟨a1, a2, h1, h2.ext he2⟩)
            | (n + 15), h => exact h) (hJ.trans he2) ⟨_, _, rfl, own_downC ho (Nat.zero_le _)⟩
    · intro ls vs a w1 hi hJ hold hdep K hK
      have q5 : a.tmps[5]?.getD undef = .pointer (some ⟨w.heap.size + 2, 0, none⟩) := (hold 5 (by kernel_rfl)).trans o5
      rw [if_pos (by rfl)]
      clear hold hdep hend o3 o4 o5 o13
      go_simp
      exact hK _ _ (fun _ _ _ h => h) hJ rfl
    · intro ls vs a w1 hi hJ hold hdep K hK
      have q155 : a.tmps[155]?.getD undef = .pointer (some ⟨w.heap.size + 2, 2, none⟩) := (hdep 4 155 (by kernel_rfl) (by kernel_rfl)).2.1.trans (hdep 4 155 (by kernel_rfl) (by kernel_rfl)).2.2
      rw [if_pos (by rfl)]
      clear hold hdep hend o3 o4 o5 o13
      have hz1 := hr.trans hJ
      go_simp
      exact hK _ _ (fun _ _ _ h => h) hJ rfl
    · intro ls vs a w1 hi hJ hold hdep K hK
      have q13 : a.tmps[13]?.getD undef = .int .i64 k := (hold 13 (by kernel_rfl)).trans o13
      rw [if_pos (by rfl)]
      clear hold hdep hend o3 o4 o5 o13
      go_simp
      exact hK _ _ (fun _ _ _ h => h) hJ rfl
    · intro ls vs a w1 hi hJ hold hdep K hK
      have q156 : a.tmps[156]?.getD undef = .slice (some ⟨qb, qo, none⟩) P.length qc := (hdep 5 156 (by kernel_rfl) (by kernel_rfl)).2.1.trans (hdep 5 156 (by kernel_rfl) (by kernel_rfl)).2.2
      have q157 : a.tmps[157]?.getD undef = .int .i64 k := (hdep 6 157 (by kernel_rfl) (by kernel_rfl)).2.1.trans (hdep 6 157 (by kernel_rfl) (by kernel_rfl)).2.2
      rw [if_pos (by rfl)]
      clear hold hdep hend o3 o4 o5 o13
      go_simp
      exact hK _ _ (fun _ _ _ h => h) hJ rfl
    · intro ls vs a w1 hi hJ hold hdep K hK
      have q158 : a.tmps[158]?.getD undef = .pointer (some ⟨qb, qo + k, none⟩) := (hdep 7 158 (by kernel_rfl) (by kernel_rfl)).2.1.trans (hdep 7 158 (by kernel_rfl) (by kernel_rfl)).2.2
      rw [if_pos (by rfl)]
      clear hold hdep hend o3 o4 o5 o13
      have hz1 := he.trans (hr.trans hJ)
      go_simp
      exact hK _ _ (fun _ _ _ h => h) hJ rfl
    · intro ls vs a w1 hi hJ hold hdep K hK
      have q159 : a.tmps[159]?.getD undef = .slice ppa (lth P k).length ppc := (hdep 8 159 (by kernel_rfl) (by kernel_rfl)).2.1.trans (hdep 8 159 (by kernel_rfl) (by kernel_rfl)).2.2
      rw [if_pos (by rfl)]
      clear hold hdep hend o3 o4 o5 o13
      go_simp
      go_at_call 17
      (with_reducible refine (HI2.out _ hJ).mono ?_); rintro e w20 ⟨ia, ic, rfl, he2, ho⟩
      exact hK _ _ (fun j u _ h => by
            match j, h with
            | 0, h | 2, h | 4, h | 5, h | 6, h | 7, h | 8, h | 10, h | 11, h | 12, h | 13, h | 14, h => exact h
            | 1, h => (obtain ⟨a1, a2, a3, a4, h1, h2⟩ := h; exact ⟨a1, a2, a3, a4, h1, h2.ext he2⟩)
            | 3, h => (obtain ⟨a1, a2, h1, h2⟩ := h; exact ⟨a1, a2, h1, own_ext h2 he2⟩)
            | 9, h => (obtain ⟨a1, a2, h1, h2⟩ := h; exact ⟨a1, a2, h1, h2.ext he2⟩)
            | (n + 15), h => exact h) (hJ.trans he2) ⟨_, _, rfl, ho.ints.1⟩
    · intro ls vs a w1 hi hJ hold hdep K hK
      obtain ⟨hl1, q152, p152⟩ := hdep 1 152 (by kernel_rfl) (by kernel_rfl)
      obtain ⟨hl3, q154, p154⟩ := hdep 3 154 (by kernel_rfl) (by kernel_rfl)
      obtain ⟨hl9, q160, p160⟩ := hdep 9 160 (by kernel_rfl) (by kernel_rfl)
      rw [if_pos (by rfl)]
      clear hold hdep hend o3 o4 o5 o13
      obtain ⟨h6, i6, h10, i10, k1, k2⟩ := p152
      rw [k1] at q152
      obtain ⟨ca, cc, k3, k4⟩ := p154
      rw [k3] at q154
      obtain ⟨ia, ic, k5, k6⟩ := p160
      rw [k5] at q160
      go_simp
      go_at_call 36
      (with_reducible refine (Cost_any ha ⟨some ⟨h6, 0, none⟩, i6, some ⟨h10, 0, none⟩, i10⟩ l ca cc (lth P k) ia _ ic _ k2 k4.camps.1 k6 rfl).mono ?_); rintro e w20 ⟨rfl, he2⟩
      exact hK _ _ (fun j u _ h => by
            match j, h with
            | 0, h | 2, h | 4, h | 5, h | 6, h | 7, h | 8, h | 10, h | 11, h | 12, h | 13, h | 14, h => exact h
            | 1, h => (obtain ⟨a1, a2, a3, a4, h1, h2⟩ := h; exact ⟨a1, a2, a3, a4, h1, h2.ext he2⟩)
            | 3, h => (obtain ⟨a1, a2, h1, h2⟩ := h; exact ⟨a1, a2, h1, own_ext h2 he2⟩)
            | 9, h => (obtain ⟨a1, a2, h1, h2⟩ := h; exact ⟨a1, a2, h1, h2.ext he2⟩)
            | (n + 15), h => exact h) (hJ.trans he2) rfl
    · intro ls vs a w1 hi hJ hold hdep K hK
      have q161 : a.tmps[161]?.getD undef = .tuple #[.int .i64 (costR ha l (lth P k)), .int .i64 (errS ha l (lth P k))] := (hdep 10 161 (by kernel_rfl) (by kernel_rfl)).2.1.trans (hdep 10 161 (by kernel_rfl) (by kernel_rfl)).2.2
      rw [if_pos (by rfl)]
      clear hold hdep hend o3 o4 o5 o13
      go_simp
      exact hK _ _ (fun _ _ _ h => h) hJ rfl
    · intro ls vs a w1 hi hJ hold hdep K hK
      have q150 : a.tmps[150]?.getD undef = .tuple #[.int .i64 (costR ha l (lth P k)), .int .i64 (errS ha l (lth P k))] := (hdep 11 150 (by kernel_rfl) (by kernel_rfl)).2.1.trans (hdep 11 150 (by kernel_rfl) (by kernel_rfl)).2.2
      rw [if_pos (by rfl)]
      clear hold hdep hend o3 o4 o5 o13
      go_simp
      exact hK _ _ (fun _ _ _ h => h) hJ rfl
    · intro ls vs a w1 hi hJ hold hdep K hK
      have q150 : a.tmps[150]?.getD undef = .tuple #[.int .i64 (costR ha l (lth P k)), .int .i64 (errS ha l (lth P k))] := (hdep 11 150 (by kernel_rfl) (by kernel_rfl)).2.1.trans (hdep 11 150 (by kernel_rfl) (by kernel_rfl)).2.2
      rw [if_pos (by rfl)]
      clear hold hdep hend o3 o4 o5 o13
      go_simp
      exact hK _ _ (fun _ _ _ h => h) hJ rfl
    · intro ls vs a w1 hi hJ hold hdep K hK
      have q162 : a.tmps[162]?.getD undef = .int .i64 (costR ha l (lth P k)) := (hdep 12 162 (by kernel_rfl) (by kernel_rfl)).2.1.trans (hdep 12 162 (by kernel_rfl) (by kernel_rfl)).2.2
      rw [if_pos (by rfl)]
      clear hold hdep hend o3 o4 o5 o13
      go_simp
      exact hK _ _ (fun _ _ _ h => h) hJ rfl
    · intro ls vs a w1 hi hJ hold hdep K hK
      have q163 : a.tmps[163]?.getD undef = .int .i64 (errS ha l (lth P k)) := (hdep 13 163 (by kernel_rfl) (by kernel_rfl)).2.1.trans (hdep 13 163 (by kernel_rfl) (by kernel_rfl)).2.2
      rw [if_pos (by rfl)]
      clear hold hdep hend o3 o4 o5 o13
      go_simp
      exact hK _ _ (fun _ _ _ h => h) hJ rfl
  · intro vs w9 ls9 hl9 hJ9 hφ
    have e0 := hφ 0 (by kernel_rfl)
    have e1 := hφ 1 (by kernel_rfl)
    have e2 := hφ 2 (by kernel_rfl)
    have e3 := hφ 3 (by kernel_rfl)
    have e4 := hφ 4 (by kernel_rfl)
    have e5 := hφ 5 (by kernel_rfl)
    have e6 := hφ 6 (by kernel_rfl)
    have e7 := hφ 7 (by kernel_rfl)
    have e8 := hφ 8 (by kernel_rfl)
    have e9 := hφ 9 (by kernel_rfl)
    have e10 := hφ 10 (by kernel_rfl)
    have e11 := hφ 11 (by kernel_rfl)
    have e12 := hφ 12 (by kernel_rfl)
    have e13 := hφ 13 (by kernel_rfl)
    have e14 := hφ 14 (by kernel_rfl)
    have e15 := hφ 15 (by kernel_rfl)
    have hq := hend vs w9 ls9 hl9 hJ9 e0 e1 e2 e3 e4 e5 e6 e7 e8 e9 e10 e11 e12 e13 e14 e15
    simp only [Act.put] at hq
    simp only [putAll, Act.put]
    exact hq

set_option maxRecDepth 100000 in
set_option maxHeartbeats 4000000 in
theorem s20_law {ha : Hal} {l : List Camp} {p : List Int} {sa ea la pa : Option Addr} {sc ec lc pc : Nat} {w w1 wX : World} {np : Nat} {kv rv : Int} {pv : List Int} (he : Ext w w1) (hr : Ext w1 wX) (hn24 : ha.st.length ≤ 24) (hen200 : ha.en.length ≤ 200) (hn4 : l.length ≤ 4) (HPN : Hid (p.length = l.length)) (HOW : Hid (∀ W, Ext w W → ha.st.length ≤ 1000 → ha.en.length ≤ 1000 → Calls Try.prog 15 #[hval ha ⟨sa, sc, ea, ec⟩] W (RetOwn ha W))) (HCP : Hid (∀ W, Ext w W → l.length ≤ 1000000 → Calls Try.prog 16 #[.slice la l.length lc] W (RetC l W))) (b0 : ∀ W, Ext w1 W → W.cell? ⟨w.heap.size, 0, none⟩ = some (.int .i64 ha.ro)) (b1 : ∀ W, Ext w1 W → W.cell? ⟨w.heap.size, 1, none⟩ = some (.int .i64 ha.cl)) (b2 : ∀ W, Ext w1 W → W.cell? ⟨w.heap.size, 2, none⟩ = some (.slice sa ha.st.length sc)) (b3 : ∀ W, Ext w1 W → W.cell? ⟨w.heap.size, 3, none⟩ = some (.slice ea ha.en.length ec)) (l0 : ∀ W, Ext w1 W → W.cell? ⟨w.heap.size + 1, 0, none⟩ = some (.slice la l.length lc)) (HR1 : Hid (rpP ha l p 0 = pv)) (HR4 : Hid (pv.length = np)) (HR2 : Hid (rpK ha l p 0 = kv)) (HR3 : Hid (rpE ha l p 0 = rv)) (HIN : Hid (∀ W, Ext w W → p.length ≤ 1000000 → Calls Try.prog 17 #[.slice pa l.length pc] W (RetI p W))) (a0 : ∀ W, Ext w1 W → W.cell? ⟨w.heap.size + 2, 0, none⟩ = some (.slice pa l.length pc)) {Q : Exit → Act → World → Prop} (aZ : Act) (hsz : aZ.tmps.size = 317) (o3 : aZ.tmps[3]?.getD undef = .pointer (some ⟨w.heap.size, 0, none⟩)) (o4 : aZ.tmps[4]?.getD undef = .pointer (some ⟨w.heap.size + 1, 0, none⟩)) (o5 : aZ.tmps[5]?.getD undef = .pointer (some ⟨w.heap.size + 2, 0, none⟩))
    (hend : ∀ (vs : Nat → Value) (w9 : World) (ls9 : Nat → Bool), (∀ j : Nat, j < 15 → ls9 j = true) → (Ext wX w9) → (vs 0 = hval ha ⟨sa, sc, ea, ec⟩) → (∃ g6 c6 g10 c10 : Nat, vs 1 = hval ha ⟨some ⟨g6, 0, none⟩, c6, some ⟨g10, 0, none⟩, c10⟩ ∧ HallAt w9 ha ⟨some ⟨g6, 0, none⟩, c6, some ⟨g10, 0, none⟩, c10⟩) → (vs 2 = .slice la l.length lc) → (∃ ca cc, vs 3 = .slice ca l.length cc ∧ OwnC w9 0 (.slice ca l.length cc) l) → (vs 4 = .pointer (some ⟨w.heap.size + 2, 0, none⟩)) → (vs 5 = .slice pa l.length pc) → (∃ ia ic, vs 6 = .slice ia p.length ic ∧ Ints w9 ia p) → (∃ ra rc, vs 7 = .tuple #[.slice ra np rc, .int .i64 kv, .int .i64 rv] ∧ Ints w9 ra pv) → (∃ ra rc, vs 8 = .tuple #[.slice ra np rc, .int .i64 kv, .int .i64 rv] ∧ Ints w9 ra pv) → (∃ ra rc, vs 9 = .slice ra np rc ∧ Ints w9 ra pv) → (vs 10 = .int .i64 kv) → (vs 11 = .int .i64 rv) → (∃ ra rc, vs 12 = .slice ra np rc ∧ Ints w9 ra pv) → (vs 13 = .int .i64 kv) → (vs 14 = .int .i64 rv) → Q .normal (((((((((((((((aZ.put (some 214) (vs 0)).put (some 215) (vs 1)).put (some 216) (vs 2)).put (some 217) (vs 3)).put (some 218) (vs 4)).put (some 219) (vs 5)).put (some 220) (vs 6)).put (some 221) (vs 7)).put (some 213) (vs 8)).put (some 222) (vs 9)).put (some 223) (vs 10)).put (some 224) (vs 11)).put (some 18) (vs 12)).put (some 19) (vs 13)).put (some 20) (vs 14)) w9) : (regOf Try.f9 20).wp Try.prog Q aZ wX := by
  conv => arg 2; whnf
  refine wp_region_said3 (fun i v wz => match i with
    | 0 => v = hval ha ⟨sa, sc, ea, ec⟩
    | 1 => ∃ g6 c6 g10 c10 : Nat, v = hval ha ⟨some ⟨g6, 0, none⟩, c6, some ⟨g10, 0, none⟩, c10⟩ ∧ HallAt wz ha ⟨some ⟨g6, 0, none⟩, c6, some ⟨g10, 0, none⟩, c10⟩
    | 2 => v = .slice la l.length lc
    | 3 => ∃ ca cc, v = .slice ca l.length cc ∧ OwnC wz 0 (.slice ca l.length cc) l
    | 4 => v = .pointer (some ⟨w.heap.size + 2, 0, none⟩)
    | 5 => v = .slice pa l.length pc
    | 6 => ∃ ia ic, v = .slice ia p.length ic ∧ Ints wz ia p
    | 7 => ∃ ra rc, v = .tuple #[.slice ra np rc, .int .i64 kv, .int .i64 rv] ∧ Ints wz ra pv
    | 8 => ∃ ra rc, v = .tuple #[.slice ra np rc, .int .i64 kv, .int .i64 rv] ∧ Ints wz ra pv
    | 9 => ∃ ra rc, v = .slice ra np rc ∧ Ints wz ra pv
    | 10 => v = .int .i64 kv
    | 11 => v = .int .i64 rv
    | 12 => ∃ ra rc, v = .slice ra np rc ∧ Ints wz ra pv
    | 13 => v = .int .i64 kv
    | _ => v = .int .i64 rv) (fun ls vs wz => Ext wX wz) (by kernel_rfl) (by kernel_rfl) (by rw [hsz]; kernel_rfl) ?_ ?_ ?_
  · exact (Ext.refl _).drew
  · refine ⟨?_, ?_, ?_, ?_, ?_, ?_, ?_, ?_, ?_, ?_, ?_, ?_, ?_, ?_, ?_, trivial⟩
    · intro ls vs a w1 hi hJ hold hdep K hK
      have q3 : a.tmps[3]?.getD undef = .pointer (some ⟨w.heap.size, 0, none⟩) := (hold 3 (by kernel_rfl)).trans o3
      rw [if_pos (by rfl)]
      clear hold hdep hend o3 o4 o5
      have hz1 := hr.trans hJ
      go_simp
      exact hK _ _ (fun _ _ _ h => h) hJ rfl
    · intro ls vs a w1 hi hJ hold hdep K hK
      have q214 : a.tmps[214]?.getD undef = hval ha ⟨sa, sc, ea, ec⟩ := (hdep 0 214 (by kernel_rfl) (by kernel_rfl)).2.1.trans (hdep 0 214 (by kernel_rfl) (by kernel_rfl)).2.2
      rw [if_pos (by rfl)]
      clear hold hdep hend o3 o4 o5
      go_simp
      go_at_call 15
      (with_reducible refine (HOW.out _ (he.trans (hr.trans hJ)) (by omega) (by omega)).mono ?_); rintro e w20 ⟨h6, i6, h10, i10, rfl, he2, -, -, -, ho6, ho10⟩
      exact hK _ _ (fun j u _ h => by
            match j, h with
            | 0, h | 2, h | 4, h | 5, h | 10, h | 11, h | 13, h => exact h
            | 1, h => (obtain ⟨a1, a2, a3, a4, h1, h2⟩ := h; exact ⟨a1, a2, a3, a4, h1, h2.ext he2⟩)
            | 3, h => (obtain ⟨a1, a2, h1, h2⟩ := h; exact ⟨a1, a2, h1, own_ext h2 he2⟩)
            | 6, h => (obtain ⟨a1, a2, h1, h2⟩ := h; exact ⟨a1, a2, h1, h2.ext he2⟩)
            | 7, h => (obtain ⟨a1, a2, h1, h2⟩ := h; exact ⟨a1, a2, h1, h2.ext he2⟩)
            | 8, h => (obtain ⟨a1, a2, h1, h2⟩ := h; exact ⟨a1, a2, h1, h2.ext he2⟩)
            | 9, h => (obtain ⟨a1, a2, h1, h2⟩ := h; exact ⟨a1, a2, h1, h2.ext he2⟩)
            | 12, h => (obtain ⟨a1, a2, h1, h2⟩ := h; exact ⟨a1, a2, h1, h2.ext he2⟩)
            | (n + 14), h => exact h) (hJ.trans he2) ⟨_, _, _, _, rfl, ⟨ho6.ints.1, ho10.ints.1⟩⟩
    · intro ls vs a w1 hi hJ hold hdep K hK
      have q4 : a.tmps[4]?.getD undef = .pointer (some ⟨w.heap.size + 1, 0, none⟩) := (hold 4 (by kernel_rfl)).trans o4
      rw [if_pos (by rfl)]
      clear hold hdep hend o3 o4 o5
      have hz1 := hr.trans hJ
      go_simp
      exact hK _ _ (fun _ _ _ h => h) hJ rfl
    · intro ls vs a w1 hi hJ hold hdep K hK
      have q216 : a.tmps[216]?.getD undef = .slice la l.length lc := (hdep 2 216 (by kernel_rfl) (by kernel_rfl)).2.1.trans (hdep 2 216 (by kernel_rfl) (by kernel_rfl)).2.2
      rw [if_pos (by rfl)]
      clear hold hdep hend o3 o4 o5
      go_simp
      go_at_call 16
      (with_reducible refine (HCP.out _ (he.trans (hr.trans hJ)) (by omega)).mono ?_); rintro e w20 ⟨ca, cc, rfl, he2, ho⟩
      exact hK _ _ (fun j u _ h => by
            match j, h with
            | 0, h | 2, h | 4, h | 5, h | 10, h | 11, h | 13, h => exact h
            | 1, h => (obtain ⟨a1, a2, a3, a4, h1, h2⟩ := h; exact ⟨a1, a2, a3, a4, h1, h2.ext he2⟩)
            | 3, h => (obtain ⟨a1, a2, h1, h2⟩ := h; exact ⟨a1, a2, h1, own_ext h2 he2⟩)
            | 6, h => (obtain ⟨a1, a2, h1, h2⟩ := h; exact ⟨a1, a2, h1, h2.ext he2⟩)
            | 7, h => (obtain ⟨a1, a2, h1, h2⟩ := h; exact ⟨a1, a2, h1, h2.ext he2⟩)
            | 8, h => (obtain ⟨a1, a2, h1, h2⟩ := h; exact ⟨a1, a2, h1, h2.ext he2⟩)
            | 9, h => (obtain ⟨a1, a2, h1, h2⟩ := h; exact ⟨a1, a2, h1, h2.ext he2⟩)
            | 12, h => (obtain ⟨a1, a2, h1, h2⟩ := h; exact ⟨a1, a2, h1, h2.ext he2⟩)
            | (n + 14), h => exact h) (hJ.trans he2) ⟨_, _, rfl, own_downC ho (Nat.zero_le _)⟩
    · intro ls vs a w1 hi hJ hold hdep K hK
      have q5 : a.tmps[5]?.getD undef = .pointer (some ⟨w.heap.size + 2, 0, none⟩) := (hold 5 (by kernel_rfl)).trans o5
      rw [if_pos (by rfl)]
      clear hold hdep hend o3 o4 o5
      go_simp
      exact hK _ _ (fun _ _ _ h => h) hJ rfl
    · intro ls vs a w1 hi hJ hold hdep K hK
      have q218 : a.tmps[218]?.getD undef = .pointer (some ⟨w.heap.size + 2, 0, none⟩) := (hdep 4 218 (by kernel_rfl) (by kernel_rfl)).2.1.trans (hdep 4 218 (by kernel_rfl) (by kernel_rfl)).2.2
      rw [if_pos (by rfl)]
      clear hold hdep hend o3 o4 o5
      have hz1 := hr.trans hJ
      go_simp
      exact hK _ _ (fun _ _ _ h => h) hJ rfl
    · intro ls vs a w1 hi hJ hold hdep K hK
      have q219 : a.tmps[219]?.getD undef = .slice pa l.length pc := (hdep 5 219 (by kernel_rfl) (by kernel_rfl)).2.1.trans (hdep 5 219 (by kernel_rfl) (by kernel_rfl)).2.2
      rw [if_pos (by rfl)]
      clear hold hdep hend o3 o4 o5
      go_simp
      go_at_call 17
      (with_reducible refine (HIN.out _ (he.trans (hr.trans hJ)) (by rw [HPN.out]; omega)).mono ?_); rintro e w20 ⟨ia, ic, rfl, he2, ho⟩
      exact hK _ _ (fun j u _ h => by
            match j, h with
            | 0, h | 2, h | 4, h | 5, h | 10, h | 11, h | 13, h => exact h
            | 1, h => (obtain ⟨a1, a2, a3, a4, h1, h2⟩ := h; exact ⟨a1, a2, a3, a4, h1, h2.ext he2⟩)
            | 3, h => (obtain ⟨a1, a2, h1, h2⟩ := h; exact ⟨a1, a2, h1, own_ext h2 he2⟩)
            | 6, h => (obtain ⟨a1, a2, h1, h2⟩ := h; exact ⟨a1, a2, h1, h2.ext he2⟩)
            | 7, h => (obtain ⟨a1, a2, h1, h2⟩ := h; exact ⟨a1, a2, h1, h2.ext he2⟩)
            | 8, h => (obtain ⟨a1, a2, h1, h2⟩ := h; exact ⟨a1, a2, h1, h2.ext he2⟩)
            | 9, h => (obtain ⟨a1, a2, h1, h2⟩ := h; exact ⟨a1, a2, h1, h2.ext he2⟩)
            | 12, h => (obtain ⟨a1, a2, h1, h2⟩ := h; exact ⟨a1, a2, h1, h2.ext he2⟩)
            | (n + 14), h => exact h) (hJ.trans he2) ⟨_, _, rfl, ho.ints.1⟩
    · intro ls vs a w1 hi hJ hold hdep K hK
      obtain ⟨hl1, q215, p215⟩ := hdep 1 215 (by kernel_rfl) (by kernel_rfl)
      obtain ⟨hl3, q217, p217⟩ := hdep 3 217 (by kernel_rfl) (by kernel_rfl)
      obtain ⟨hl6, q220, p220⟩ := hdep 6 220 (by kernel_rfl) (by kernel_rfl)
      rw [if_pos (by rfl)]
      clear hold hdep hend o3 o4 o5
      obtain ⟨h6, i6, h10, i10, k1, k2⟩ := p215
      rw [k1] at q215
      obtain ⟨ca, cc, k3, k4⟩ := p217
      rw [k3] at q217
      obtain ⟨ia, ic, k5, k6⟩ := p220
      rw [k5] at q220
      go_simp
      go_at_call 25
      (with_reducible refine (Replan_any ha ⟨some ⟨h6, 0, none⟩, i6, some ⟨h10, 0, none⟩, i10⟩ l ca cc p ia p.length ic 0 _ k2 k4.camps.1 k6 rfl k4.camps.2.2 (ownC_cap k4)).mono ?_); rintro e w20 ⟨ra, rc, rfl, he2, hri⟩
      rw [HR1.out] at hri
      rw [HR1.out, HR2.out, HR3.out, HR4.out]
      exact hK _ _ (fun j u _ h => by
            match j, h with
            | 0, h | 2, h | 4, h | 5, h | 10, h | 11, h | 13, h => exact h
            | 1, h => (obtain ⟨a1, a2, a3, a4, h1, h2⟩ := h; exact ⟨a1, a2, a3, a4, h1, h2.ext he2⟩)
            | 3, h => (obtain ⟨a1, a2, h1, h2⟩ := h; exact ⟨a1, a2, h1, own_ext h2 he2⟩)
            | 6, h => (obtain ⟨a1, a2, h1, h2⟩ := h; exact ⟨a1, a2, h1, h2.ext he2⟩)
            | 7, h => (obtain ⟨a1, a2, h1, h2⟩ := h; exact ⟨a1, a2, h1, h2.ext he2⟩)
            | 8, h => (obtain ⟨a1, a2, h1, h2⟩ := h; exact ⟨a1, a2, h1, h2.ext he2⟩)
            | 9, h => (obtain ⟨a1, a2, h1, h2⟩ := h; exact ⟨a1, a2, h1, h2.ext he2⟩)
            | 12, h => (obtain ⟨a1, a2, h1, h2⟩ := h; exact ⟨a1, a2, h1, h2.ext he2⟩)
            | (n + 14), h => exact h) (hJ.trans he2) ⟨_, _, rfl, hri⟩
    · intro ls vs a w1 hi hJ hold hdep K hK
      obtain ⟨hl7, q221, p221⟩ := hdep 7 221 (by kernel_rfl) (by kernel_rfl)
      rw [if_pos (by rfl)]
      clear hold hdep hend o3 o4 o5
      go_simp
      exact hK _ _ (fun _ _ _ h => h) hJ p221
    · intro ls vs a w1 hi hJ hold hdep K hK
      obtain ⟨hl8, q213, p213⟩ := hdep 8 213 (by kernel_rfl) (by kernel_rfl)
      rw [if_pos (by rfl)]
      clear hold hdep hend o3 o4 o5
      obtain ⟨ra, rc, k1, k2⟩ := p213
      rw [k1] at q213
      go_simp
      exact hK _ _ (fun _ _ _ h => h) hJ ⟨_, _, rfl, k2⟩
    · intro ls vs a w1 hi hJ hold hdep K hK
      obtain ⟨hl8, q213, p213⟩ := hdep 8 213 (by kernel_rfl) (by kernel_rfl)
      rw [if_pos (by rfl)]
      clear hold hdep hend o3 o4 o5
      obtain ⟨ra, rc, k1, k2⟩ := p213
      rw [k1] at q213
      go_simp
      exact hK _ _ (fun _ _ _ h => h) hJ rfl
    · intro ls vs a w1 hi hJ hold hdep K hK
      obtain ⟨hl8, q213, p213⟩ := hdep 8 213 (by kernel_rfl) (by kernel_rfl)
      rw [if_pos (by rfl)]
      clear hold hdep hend o3 o4 o5
      obtain ⟨ra, rc, k1, k2⟩ := p213
      rw [k1] at q213
      go_simp
      exact hK _ _ (fun _ _ _ h => h) hJ rfl
    · intro ls vs a w1 hi hJ hold hdep K hK
      obtain ⟨hl9, q222, p222⟩ := hdep 9 222 (by kernel_rfl) (by kernel_rfl)
      rw [if_pos (by rfl)]
      clear hold hdep hend o3 o4 o5
      go_simp
      exact hK _ _ (fun _ _ _ h => h) hJ p222
    · intro ls vs a w1 hi hJ hold hdep K hK
      have q223 : a.tmps[223]?.getD undef = .int .i64 kv := (hdep 10 223 (by kernel_rfl) (by kernel_rfl)).2.1.trans (hdep 10 223 (by kernel_rfl) (by kernel_rfl)).2.2
      rw [if_pos (by rfl)]
      clear hold hdep hend o3 o4 o5
      go_simp
      exact hK _ _ (fun _ _ _ h => h) hJ rfl
    · intro ls vs a w1 hi hJ hold hdep K hK
      have q224 : a.tmps[224]?.getD undef = .int .i64 rv := (hdep 11 224 (by kernel_rfl) (by kernel_rfl)).2.1.trans (hdep 11 224 (by kernel_rfl) (by kernel_rfl)).2.2
      rw [if_pos (by rfl)]
      clear hold hdep hend o3 o4 o5
      go_simp
      exact hK _ _ (fun _ _ _ h => h) hJ rfl
  · intro vs w9 ls9 hl9 hJ9 hφ
    have e0 := hφ 0 (by kernel_rfl)
    have e1 := hφ 1 (by kernel_rfl)
    have e2 := hφ 2 (by kernel_rfl)
    have e3 := hφ 3 (by kernel_rfl)
    have e4 := hφ 4 (by kernel_rfl)
    have e5 := hφ 5 (by kernel_rfl)
    have e6 := hφ 6 (by kernel_rfl)
    have e7 := hφ 7 (by kernel_rfl)
    have e8 := hφ 8 (by kernel_rfl)
    have e9 := hφ 9 (by kernel_rfl)
    have e10 := hφ 10 (by kernel_rfl)
    have e11 := hφ 11 (by kernel_rfl)
    have e12 := hφ 12 (by kernel_rfl)
    have e13 := hφ 13 (by kernel_rfl)
    have e14 := hφ 14 (by kernel_rfl)
    have hq := hend vs w9 ls9 hl9 hJ9 e0 e1 e2 e3 e4 e5 e6 e7 e8 e9 e10 e11 e12 e13 e14
    simp only [Act.put] at hq
    simp only [putAll, Act.put]
    exact hq

set_option maxRecDepth 100000 in
set_option maxHeartbeats 4000000 in
theorem s21_law {ha : Hal} {l : List Camp} {p : List Int} {sa ea la : Option Addr} {sc ec lc : Nat} {w w1 wX : World} {np : Nat} {kv rv : Int} {pv : List Int} (he : Ext w w1) (hr : Ext w1 wX) (hn24 : ha.st.length ≤ 24) (hen200 : ha.en.length ≤ 200) (hn4 : l.length ≤ 4) (HPN : Hid (p.length = l.length)) (HOW : Hid (∀ W, Ext w W → ha.st.length ≤ 1000 → ha.en.length ≤ 1000 → Calls Try.prog 15 #[hval ha ⟨sa, sc, ea, ec⟩] W (RetOwn ha W))) (HCP : Hid (∀ W, Ext w W → l.length ≤ 1000000 → Calls Try.prog 16 #[.slice la l.length lc] W (RetC l W))) (b0 : ∀ W, Ext w1 W → W.cell? ⟨w.heap.size, 0, none⟩ = some (.int .i64 ha.ro)) (b1 : ∀ W, Ext w1 W → W.cell? ⟨w.heap.size, 1, none⟩ = some (.int .i64 ha.cl)) (b2 : ∀ W, Ext w1 W → W.cell? ⟨w.heap.size, 2, none⟩ = some (.slice sa ha.st.length sc)) (b3 : ∀ W, Ext w1 W → W.cell? ⟨w.heap.size, 3, none⟩ = some (.slice ea ha.en.length ec)) (l0 : ∀ W, Ext w1 W → W.cell? ⟨w.heap.size + 1, 0, none⟩ = some (.slice la l.length lc)) (HR1 : Hid (bestP ha l = pv)) (HR4 : Hid (pv.length = np)) (HR2 : Hid (bestK ha l = kv)) (HR3 : Hid (bestE ha l = rv)) {Q : Exit → Act → World → Prop} (aZ : Act) (hsz : aZ.tmps.size = 317) (o3 : aZ.tmps[3]?.getD undef = .pointer (some ⟨w.heap.size, 0, none⟩)) (o4 : aZ.tmps[4]?.getD undef = .pointer (some ⟨w.heap.size + 1, 0, none⟩))
    (hend : ∀ (vs : Nat → Value) (w9 : World) (ls9 : Nat → Bool), (∀ j : Nat, j < 12 → ls9 j = true) → (Ext wX w9) → (vs 0 = hval ha ⟨sa, sc, ea, ec⟩) → (∃ g6 c6 g10 c10 : Nat, vs 1 = hval ha ⟨some ⟨g6, 0, none⟩, c6, some ⟨g10, 0, none⟩, c10⟩ ∧ HallAt w9 ha ⟨some ⟨g6, 0, none⟩, c6, some ⟨g10, 0, none⟩, c10⟩) → (vs 2 = .slice la l.length lc) → (∃ ca cc, vs 3 = .slice ca l.length cc ∧ OwnC w9 0 (.slice ca l.length cc) l) → (∃ ra rc, vs 4 = .tuple #[.slice ra np rc, .int .i64 kv, .int .i64 rv] ∧ Ints w9 ra pv) → (∃ ra rc, vs 5 = .tuple #[.slice ra np rc, .int .i64 kv, .int .i64 rv] ∧ Ints w9 ra pv) → (∃ ra rc, vs 6 = .slice ra np rc ∧ Ints w9 ra pv) → (vs 7 = .int .i64 kv) → (vs 8 = .int .i64 rv) → (∃ ra rc, vs 9 = .slice ra np rc ∧ Ints w9 ra pv) → (vs 10 = .int .i64 kv) → (vs 11 = .int .i64 rv) → Q .normal ((((((((((((aZ.put (some 226) (vs 0)).put (some 227) (vs 1)).put (some 228) (vs 2)).put (some 229) (vs 3)).put (some 230) (vs 4)).put (some 225) (vs 5)).put (some 231) (vs 6)).put (some 232) (vs 7)).put (some 233) (vs 8)).put (some 21) (vs 9)).put (some 22) (vs 10)).put (some 23) (vs 11)) w9) : (regOf Try.f9 21).wp Try.prog Q aZ wX := by
  conv => arg 2; whnf
  refine wp_region_said3 (fun i v wz => match i with
    | 0 => v = hval ha ⟨sa, sc, ea, ec⟩
    | 1 => ∃ g6 c6 g10 c10 : Nat, v = hval ha ⟨some ⟨g6, 0, none⟩, c6, some ⟨g10, 0, none⟩, c10⟩ ∧ HallAt wz ha ⟨some ⟨g6, 0, none⟩, c6, some ⟨g10, 0, none⟩, c10⟩
    | 2 => v = .slice la l.length lc
    | 3 => ∃ ca cc, v = .slice ca l.length cc ∧ OwnC wz 0 (.slice ca l.length cc) l
    | 4 => ∃ ra rc, v = .tuple #[.slice ra np rc, .int .i64 kv, .int .i64 rv] ∧ Ints wz ra pv
    | 5 => ∃ ra rc, v = .tuple #[.slice ra np rc, .int .i64 kv, .int .i64 rv] ∧ Ints wz ra pv
    | 6 => ∃ ra rc, v = .slice ra np rc ∧ Ints wz ra pv
    | 7 => v = .int .i64 kv
    | 8 => v = .int .i64 rv
    | 9 => ∃ ra rc, v = .slice ra np rc ∧ Ints wz ra pv
    | 10 => v = .int .i64 kv
    | _ => v = .int .i64 rv) (fun ls vs wz => Ext wX wz) (by kernel_rfl) (by kernel_rfl) (by rw [hsz]; kernel_rfl) ?_ ?_ ?_
  · exact (Ext.refl _).drew
  · refine ⟨?_, ?_, ?_, ?_, ?_, ?_, ?_, ?_, ?_, ?_, ?_, ?_, trivial⟩
    · intro ls vs a w1 hi hJ hold hdep K hK
      have q3 : a.tmps[3]?.getD undef = .pointer (some ⟨w.heap.size, 0, none⟩) := (hold 3 (by kernel_rfl)).trans o3
      rw [if_pos (by rfl)]
      clear hold hdep hend o3 o4
      have hz1 := hr.trans hJ
      go_simp
      exact hK _ _ (fun _ _ _ h => h) hJ rfl
    · intro ls vs a w1 hi hJ hold hdep K hK
      have q226 : a.tmps[226]?.getD undef = hval ha ⟨sa, sc, ea, ec⟩ := (hdep 0 226 (by kernel_rfl) (by kernel_rfl)).2.1.trans (hdep 0 226 (by kernel_rfl) (by kernel_rfl)).2.2
      rw [if_pos (by rfl)]
      clear hold hdep hend o3 o4
      go_simp
      go_at_call 15
      (with_reducible refine (HOW.out _ (he.trans (hr.trans hJ)) (by omega) (by omega)).mono ?_); rintro e w20 ⟨h6, i6, h10, i10, rfl, he2, -, -, -, ho6, ho10⟩
      exact hK _ _ (fun j u _ h => by
            match j, h with
            | 0, h | 2, h | 7, h | 8, h | 10, h => exact h
            | 1, h => (obtain ⟨a1, a2, a3, a4, h1, h2⟩ := h; exact ⟨a1, a2, a3, a4, h1, h2.ext he2⟩)
            | 3, h => (obtain ⟨a1, a2, h1, h2⟩ := h; exact ⟨a1, a2, h1, own_ext h2 he2⟩)
            | 4, h => (obtain ⟨a1, a2, h1, h2⟩ := h; exact ⟨a1, a2, h1, h2.ext he2⟩)
            | 5, h => (obtain ⟨a1, a2, h1, h2⟩ := h; exact ⟨a1, a2, h1, h2.ext he2⟩)
            | 6, h => (obtain ⟨a1, a2, h1, h2⟩ := h; exact ⟨a1, a2, h1, h2.ext he2⟩)
            | 9, h => (obtain ⟨a1, a2, h1, h2⟩ := h; exact ⟨a1, a2, h1, h2.ext he2⟩)
            | (n + 11), h => exact h) (hJ.trans he2) ⟨_, _, _, _, rfl, ⟨ho6.ints.1, ho10.ints.1⟩⟩
    · intro ls vs a w1 hi hJ hold hdep K hK
      have q4 : a.tmps[4]?.getD undef = .pointer (some ⟨w.heap.size + 1, 0, none⟩) := (hold 4 (by kernel_rfl)).trans o4
      rw [if_pos (by rfl)]
      clear hold hdep hend o3 o4
      have hz1 := hr.trans hJ
      go_simp
      exact hK _ _ (fun _ _ _ h => h) hJ rfl
    · intro ls vs a w1 hi hJ hold hdep K hK
      have q228 : a.tmps[228]?.getD undef = .slice la l.length lc := (hdep 2 228 (by kernel_rfl) (by kernel_rfl)).2.1.trans (hdep 2 228 (by kernel_rfl) (by kernel_rfl)).2.2
      rw [if_pos (by rfl)]
      clear hold hdep hend o3 o4
      go_simp
      go_at_call 16
      (with_reducible refine (HCP.out _ (he.trans (hr.trans hJ)) (by omega)).mono ?_); rintro e w20 ⟨ca, cc, rfl, he2, ho⟩
      exact hK _ _ (fun j u _ h => by
            match j, h with
            | 0, h | 2, h | 7, h | 8, h | 10, h => exact h
            | 1, h => (obtain ⟨a1, a2, a3, a4, h1, h2⟩ := h; exact ⟨a1, a2, a3, a4, h1, h2.ext he2⟩)
            | 3, h => (obtain ⟨a1, a2, h1, h2⟩ := h; exact ⟨a1, a2, h1, own_ext h2 he2⟩)
            | 4, h => (obtain ⟨a1, a2, h1, h2⟩ := h; exact ⟨a1, a2, h1, h2.ext he2⟩)
            | 5, h => (obtain ⟨a1, a2, h1, h2⟩ := h; exact ⟨a1, a2, h1, h2.ext he2⟩)
            | 6, h => (obtain ⟨a1, a2, h1, h2⟩ := h; exact ⟨a1, a2, h1, h2.ext he2⟩)
            | 9, h => (obtain ⟨a1, a2, h1, h2⟩ := h; exact ⟨a1, a2, h1, h2.ext he2⟩)
            | (n + 11), h => exact h) (hJ.trans he2) ⟨_, _, rfl, own_downC ho (Nat.zero_le _)⟩
    · intro ls vs a w1 hi hJ hold hdep K hK
      obtain ⟨hl1, q227, p227⟩ := hdep 1 227 (by kernel_rfl) (by kernel_rfl)
      obtain ⟨hl3, q229, p229⟩ := hdep 3 229 (by kernel_rfl) (by kernel_rfl)
      rw [if_pos (by rfl)]
      clear hold hdep hend o3 o4
      obtain ⟨h6, i6, h10, i10, k1, k2⟩ := p227
      rw [k1] at q227
      obtain ⟨ca, cc, k3, k4⟩ := p229
      rw [k3] at q229
      go_simp
      go_at_call 31
      (with_reducible refine (Best_any2 ha ⟨some ⟨h6, 0, none⟩, i6, some ⟨h10, 0, none⟩, i10⟩ l ca cc _ k2 k4.camps.1).mono ?_); rintro e w20 ⟨ra, rc, rfl, he2, hri⟩
      rw [HR1.out] at hri
      rw [HR1.out, HR2.out, HR3.out, HR4.out]
      exact hK _ _ (fun j u _ h => by
            match j, h with
            | 0, h | 2, h | 7, h | 8, h | 10, h => exact h
            | 1, h => (obtain ⟨a1, a2, a3, a4, h1, h2⟩ := h; exact ⟨a1, a2, a3, a4, h1, h2.ext he2⟩)
            | 3, h => (obtain ⟨a1, a2, h1, h2⟩ := h; exact ⟨a1, a2, h1, own_ext h2 he2⟩)
            | 4, h => (obtain ⟨a1, a2, h1, h2⟩ := h; exact ⟨a1, a2, h1, h2.ext he2⟩)
            | 5, h => (obtain ⟨a1, a2, h1, h2⟩ := h; exact ⟨a1, a2, h1, h2.ext he2⟩)
            | 6, h => (obtain ⟨a1, a2, h1, h2⟩ := h; exact ⟨a1, a2, h1, h2.ext he2⟩)
            | 9, h => (obtain ⟨a1, a2, h1, h2⟩ := h; exact ⟨a1, a2, h1, h2.ext he2⟩)
            | (n + 11), h => exact h) (hJ.trans he2) ⟨_, _, rfl, hri⟩
    · intro ls vs a w1 hi hJ hold hdep K hK
      obtain ⟨hl4, q230, p230⟩ := hdep 4 230 (by kernel_rfl) (by kernel_rfl)
      rw [if_pos (by rfl)]
      clear hold hdep hend o3 o4
      go_simp
      exact hK _ _ (fun _ _ _ h => h) hJ p230
    · intro ls vs a w1 hi hJ hold hdep K hK
      obtain ⟨hl5, q225, p225⟩ := hdep 5 225 (by kernel_rfl) (by kernel_rfl)
      rw [if_pos (by rfl)]
      clear hold hdep hend o3 o4
      obtain ⟨ra, rc, k1, k2⟩ := p225
      rw [k1] at q225
      go_simp
      exact hK _ _ (fun _ _ _ h => h) hJ ⟨_, _, rfl, k2⟩
    · intro ls vs a w1 hi hJ hold hdep K hK
      obtain ⟨hl5, q225, p225⟩ := hdep 5 225 (by kernel_rfl) (by kernel_rfl)
      rw [if_pos (by rfl)]
      clear hold hdep hend o3 o4
      obtain ⟨ra, rc, k1, k2⟩ := p225
      rw [k1] at q225
      go_simp
      exact hK _ _ (fun _ _ _ h => h) hJ rfl
    · intro ls vs a w1 hi hJ hold hdep K hK
      obtain ⟨hl5, q225, p225⟩ := hdep 5 225 (by kernel_rfl) (by kernel_rfl)
      rw [if_pos (by rfl)]
      clear hold hdep hend o3 o4
      obtain ⟨ra, rc, k1, k2⟩ := p225
      rw [k1] at q225
      go_simp
      exact hK _ _ (fun _ _ _ h => h) hJ rfl
    · intro ls vs a w1 hi hJ hold hdep K hK
      obtain ⟨hl6, q231, p231⟩ := hdep 6 231 (by kernel_rfl) (by kernel_rfl)
      rw [if_pos (by rfl)]
      clear hold hdep hend o3 o4
      go_simp
      exact hK _ _ (fun _ _ _ h => h) hJ p231
    · intro ls vs a w1 hi hJ hold hdep K hK
      have q232 : a.tmps[232]?.getD undef = .int .i64 kv := (hdep 7 232 (by kernel_rfl) (by kernel_rfl)).2.1.trans (hdep 7 232 (by kernel_rfl) (by kernel_rfl)).2.2
      rw [if_pos (by rfl)]
      clear hold hdep hend o3 o4
      go_simp
      exact hK _ _ (fun _ _ _ h => h) hJ rfl
    · intro ls vs a w1 hi hJ hold hdep K hK
      have q233 : a.tmps[233]?.getD undef = .int .i64 rv := (hdep 8 233 (by kernel_rfl) (by kernel_rfl)).2.1.trans (hdep 8 233 (by kernel_rfl) (by kernel_rfl)).2.2
      rw [if_pos (by rfl)]
      clear hold hdep hend o3 o4
      go_simp
      exact hK _ _ (fun _ _ _ h => h) hJ rfl
  · intro vs w9 ls9 hl9 hJ9 hφ
    have e0 := hφ 0 (by kernel_rfl)
    have e1 := hφ 1 (by kernel_rfl)
    have e2 := hφ 2 (by kernel_rfl)
    have e3 := hφ 3 (by kernel_rfl)
    have e4 := hφ 4 (by kernel_rfl)
    have e5 := hφ 5 (by kernel_rfl)
    have e6 := hφ 6 (by kernel_rfl)
    have e7 := hφ 7 (by kernel_rfl)
    have e8 := hφ 8 (by kernel_rfl)
    have e9 := hφ 9 (by kernel_rfl)
    have e10 := hφ 10 (by kernel_rfl)
    have e11 := hφ 11 (by kernel_rfl)
    have hq := hend vs w9 ls9 hl9 hJ9 e0 e1 e2 e3 e4 e5 e6 e7 e8 e9 e10 e11
    simp only [Act.put] at hq
    simp only [putAll, Act.put]
    exact hq

set_option maxRecDepth 100000 in
set_option maxHeartbeats 4000000 in
theorem s24_law {ha : Hal} {l : List Camp} {p : List Int} {sa ea la pa : Option Addr} {sc ec lc pc : Nat} {c : Camp} {w w1 wX : World} {fT fE : Int} (he : Ext w w1) (hr : Ext w1 wX) (hn24 : ha.st.length ≤ 24) (hen200 : ha.en.length ≤ 200) (hn4 : l.length ≤ 4) (HPN : Hid (p.length = l.length)) (HOW : Hid (∀ W, Ext w W → ha.st.length ≤ 1000 → ha.en.length ≤ 1000 → Calls Try.prog 15 #[hval ha ⟨sa, sc, ea, ec⟩] W (RetOwn ha W))) (HCP : Hid (∀ W, Ext w W → l.length ≤ 1000000 → Calls Try.prog 16 #[.slice la l.length lc] W (RetC l W))) (b0 : ∀ W, Ext w1 W → W.cell? ⟨w.heap.size, 0, none⟩ = some (.int .i64 ha.ro)) (b1 : ∀ W, Ext w1 W → W.cell? ⟨w.heap.size, 1, none⟩ = some (.int .i64 ha.cl)) (b2 : ∀ W, Ext w1 W → W.cell? ⟨w.heap.size, 2, none⟩ = some (.slice sa ha.st.length sc)) (b3 : ∀ W, Ext w1 W → W.cell? ⟨w.heap.size, 3, none⟩ = some (.slice ea ha.en.length ec)) (l0 : ∀ W, Ext w1 W → W.cell? ⟨w.heap.size + 1, 0, none⟩ = some (.slice la l.length lc)) (HR1 : Hid (fitT ha l p c = fT)) (HR2 : Hid (fitE ha l p c = fE)) (HIN : Hid (∀ W, Ext w W → p.length ≤ 1000000 → Calls Try.prog 17 #[.slice pa l.length pc] W (RetI p W))) (a0 : ∀ W, Ext w1 W → W.cell? ⟨w.heap.size + 2, 0, none⟩ = some (.slice pa l.length pc)) (a3 : ∀ W, Ext w1 W → W.cell? ⟨w.heap.size + 2, 3, none⟩ = some (.int .i64 c.cu)) (a4 : ∀ W, Ext w1 W → W.cell? ⟨w.heap.size + 2, 4, none⟩ = some (.int .i64 c.pr)) (a5 : ∀ W, Ext w1 W → W.cell? ⟨w.heap.size + 2, 5, none⟩ = some (.int .i64 c.ho)) (a6 : ∀ W, Ext w1 W → W.cell? ⟨w.heap.size + 2, 6, none⟩ = some (.int .i64 c.en)) (a7 : ∀ W, Ext w1 W → W.cell? ⟨w.heap.size + 2, 7, none⟩ = some (.int .i64 c.ea)) (a8 : ∀ W, Ext w1 W → W.cell? ⟨w.heap.size + 2, 8, none⟩ = some (.int .i64 c.la)) (a9 : ∀ W, Ext w1 W → W.cell? ⟨w.heap.size + 2, 9, none⟩ = some (.int .i64 c.we)) {Q : Exit → Act → World → Prop} (aZ : Act) (hsz : aZ.tmps.size = 317) (o3 : aZ.tmps[3]?.getD undef = .pointer (some ⟨w.heap.size, 0, none⟩)) (o4 : aZ.tmps[4]?.getD undef = .pointer (some ⟨w.heap.size + 1, 0, none⟩)) (o5 : aZ.tmps[5]?.getD undef = .pointer (some ⟨w.heap.size + 2, 0, none⟩))
    (hend : ∀ (vs : Nat → Value) (w9 : World) (ls9 : Nat → Bool), (∀ j : Nat, j < 15 → ls9 j = true) → (Ext wX w9) → (vs 0 = hval ha ⟨sa, sc, ea, ec⟩) → (∃ g6 c6 g10 c10 : Nat, vs 1 = hval ha ⟨some ⟨g6, 0, none⟩, c6, some ⟨g10, 0, none⟩, c10⟩ ∧ HallAt w9 ha ⟨some ⟨g6, 0, none⟩, c6, some ⟨g10, 0, none⟩, c10⟩) → (vs 2 = .slice la l.length lc) → (∃ ca cc, vs 3 = .slice ca l.length cc ∧ OwnC w9 0 (.slice ca l.length cc) l) → (vs 4 = .pointer (some ⟨w.heap.size + 2, 0, none⟩)) → (vs 5 = .slice pa l.length pc) → (∃ ia ic, vs 6 = .slice ia p.length ic ∧ Ints w9 ia p) → (vs 7 = .pointer (some ⟨w.heap.size + 2, 3, none⟩)) → (vs 8 = cval c) → (vs 9 = .tuple #[.int .i64 fT, .int .i64 fE]) → (vs 10 = .tuple #[.int .i64 fT, .int .i64 fE]) → (vs 11 = .int .i64 fT) → (vs 12 = .int .i64 fE) → (vs 13 = .int .i64 fT) → (vs 14 = .int .i64 fE) → Q .normal (((((((((((((((aZ.put (some 252) (vs 0)).put (some 253) (vs 1)).put (some 254) (vs 2)).put (some 255) (vs 3)).put (some 256) (vs 4)).put (some 257) (vs 5)).put (some 258) (vs 6)).put (some 259) (vs 7)).put (some 260) (vs 8)).put (some 261) (vs 9)).put (some 251) (vs 10)).put (some 262) (vs 11)).put (some 263) (vs 12)).put (some 24) (vs 13)).put (some 20) (vs 14)) w9) : (regOf Try.f9 24).wp Try.prog Q aZ wX := by
  conv => arg 2; whnf
  refine wp_region_said3 (fun i v wz => match i with
    | 0 => v = hval ha ⟨sa, sc, ea, ec⟩
    | 1 => ∃ g6 c6 g10 c10 : Nat, v = hval ha ⟨some ⟨g6, 0, none⟩, c6, some ⟨g10, 0, none⟩, c10⟩ ∧ HallAt wz ha ⟨some ⟨g6, 0, none⟩, c6, some ⟨g10, 0, none⟩, c10⟩
    | 2 => v = .slice la l.length lc
    | 3 => ∃ ca cc, v = .slice ca l.length cc ∧ OwnC wz 0 (.slice ca l.length cc) l
    | 4 => v = .pointer (some ⟨w.heap.size + 2, 0, none⟩)
    | 5 => v = .slice pa l.length pc
    | 6 => ∃ ia ic, v = .slice ia p.length ic ∧ Ints wz ia p
    | 7 => v = .pointer (some ⟨w.heap.size + 2, 3, none⟩)
    | 8 => v = cval c
    | 9 => v = .tuple #[.int .i64 fT, .int .i64 fE]
    | 10 => v = .tuple #[.int .i64 fT, .int .i64 fE]
    | 11 => v = .int .i64 fT
    | 12 => v = .int .i64 fE
    | 13 => v = .int .i64 fT
    | _ => v = .int .i64 fE) (fun ls vs wz => Ext wX wz) (by kernel_rfl) (by kernel_rfl) (by rw [hsz]; kernel_rfl) ?_ ?_ ?_
  · exact (Ext.refl _).drew
  · refine ⟨?_, ?_, ?_, ?_, ?_, ?_, ?_, ?_, ?_, ?_, ?_, ?_, ?_, ?_, ?_, trivial⟩
    · intro ls vs a w1 hi hJ hold hdep K hK
      have q3 : a.tmps[3]?.getD undef = .pointer (some ⟨w.heap.size, 0, none⟩) := (hold 3 (by kernel_rfl)).trans o3
      rw [if_pos (by rfl)]
      clear hold hdep hend o3 o4 o5
      have hz1 := hr.trans hJ
      go_simp
      exact hK _ _ (fun _ _ _ h => h) hJ rfl
    · intro ls vs a w1 hi hJ hold hdep K hK
      have q252 : a.tmps[252]?.getD undef = hval ha ⟨sa, sc, ea, ec⟩ := (hdep 0 252 (by kernel_rfl) (by kernel_rfl)).2.1.trans (hdep 0 252 (by kernel_rfl) (by kernel_rfl)).2.2
      rw [if_pos (by rfl)]
      clear hold hdep hend o3 o4 o5
      go_simp
      go_at_call 15
      (with_reducible refine (HOW.out _ (he.trans (hr.trans hJ)) (by omega) (by omega)).mono ?_); rintro e w20 ⟨h6, i6, h10, i10, rfl, he2, -, -, -, ho6, ho10⟩
      exact hK _ _ (fun j u _ h => by
            match j, h with
            | 0, h | 2, h | 4, h | 5, h | 7, h | 8, h | 9, h | 10, h | 11, h | 12, h | 13, h => exact h
            | 1, h => (obtain ⟨a1, a2, a3, a4, h1, h2⟩ := h; exact ⟨a1, a2, a3, a4, h1, h2.ext he2⟩)
            | 3, h => (obtain ⟨a1, a2, h1, h2⟩ := h; exact ⟨a1, a2, h1, own_ext h2 he2⟩)
            | 6, h => (obtain ⟨a1, a2, h1, h2⟩ := h; exact ⟨a1, a2, h1, h2.ext he2⟩)
            | (n + 14), h => exact h) (hJ.trans he2) ⟨_, _, _, _, rfl, ⟨ho6.ints.1, ho10.ints.1⟩⟩
    · intro ls vs a w1 hi hJ hold hdep K hK
      have q4 : a.tmps[4]?.getD undef = .pointer (some ⟨w.heap.size + 1, 0, none⟩) := (hold 4 (by kernel_rfl)).trans o4
      rw [if_pos (by rfl)]
      clear hold hdep hend o3 o4 o5
      have hz1 := hr.trans hJ
      go_simp
      exact hK _ _ (fun _ _ _ h => h) hJ rfl
    · intro ls vs a w1 hi hJ hold hdep K hK
      have q254 : a.tmps[254]?.getD undef = .slice la l.length lc := (hdep 2 254 (by kernel_rfl) (by kernel_rfl)).2.1.trans (hdep 2 254 (by kernel_rfl) (by kernel_rfl)).2.2
      rw [if_pos (by rfl)]
      clear hold hdep hend o3 o4 o5
      go_simp
      go_at_call 16
      (with_reducible refine (HCP.out _ (he.trans (hr.trans hJ)) (by omega)).mono ?_); rintro e w20 ⟨ca, cc, rfl, he2, ho⟩
      exact hK _ _ (fun j u _ h => by
            match j, h with
            | 0, h | 2, h | 4, h | 5, h | 7, h | 8, h | 9, h | 10, h | 11, h | 12, h | 13, h => exact h
            | 1, h => (obtain ⟨a1, a2, a3, a4, h1, h2⟩ := h; exact ⟨a1, a2, a3, a4, h1, h2.ext he2⟩)
            | 3, h => (obtain ⟨a1, a2, h1, h2⟩ := h; exact ⟨a1, a2, h1, own_ext h2 he2⟩)
            | 6, h => (obtain ⟨a1, a2, h1, h2⟩ := h; exact ⟨a1, a2, h1, h2.ext he2⟩)
            | (n + 14), h => exact h) (hJ.trans he2) ⟨_, _, rfl, own_downC ho (Nat.zero_le _)⟩
    · intro ls vs a w1 hi hJ hold hdep K hK
      have q5 : a.tmps[5]?.getD undef = .pointer (some ⟨w.heap.size + 2, 0, none⟩) := (hold 5 (by kernel_rfl)).trans o5
      rw [if_pos (by rfl)]
      clear hold hdep hend o3 o4 o5
      go_simp
      exact hK _ _ (fun _ _ _ h => h) hJ rfl
    · intro ls vs a w1 hi hJ hold hdep K hK
      have q256 : a.tmps[256]?.getD undef = .pointer (some ⟨w.heap.size + 2, 0, none⟩) := (hdep 4 256 (by kernel_rfl) (by kernel_rfl)).2.1.trans (hdep 4 256 (by kernel_rfl) (by kernel_rfl)).2.2
      rw [if_pos (by rfl)]
      clear hold hdep hend o3 o4 o5
      have hz1 := hr.trans hJ
      go_simp
      exact hK _ _ (fun _ _ _ h => h) hJ rfl
    · intro ls vs a w1 hi hJ hold hdep K hK
      have q257 : a.tmps[257]?.getD undef = .slice pa l.length pc := (hdep 5 257 (by kernel_rfl) (by kernel_rfl)).2.1.trans (hdep 5 257 (by kernel_rfl) (by kernel_rfl)).2.2
      rw [if_pos (by rfl)]
      clear hold hdep hend o3 o4 o5
      go_simp
      go_at_call 17
      (with_reducible refine (HIN.out _ (he.trans (hr.trans hJ)) (by rw [HPN.out]; omega)).mono ?_); rintro e w20 ⟨ia, ic, rfl, he2, ho⟩
      exact hK _ _ (fun j u _ h => by
            match j, h with
            | 0, h | 2, h | 4, h | 5, h | 7, h | 8, h | 9, h | 10, h | 11, h | 12, h | 13, h => exact h
            | 1, h => (obtain ⟨a1, a2, a3, a4, h1, h2⟩ := h; exact ⟨a1, a2, a3, a4, h1, h2.ext he2⟩)
            | 3, h => (obtain ⟨a1, a2, h1, h2⟩ := h; exact ⟨a1, a2, h1, own_ext h2 he2⟩)
            | 6, h => (obtain ⟨a1, a2, h1, h2⟩ := h; exact ⟨a1, a2, h1, h2.ext he2⟩)
            | (n + 14), h => exact h) (hJ.trans he2) ⟨_, _, rfl, ho.ints.1⟩
    · intro ls vs a w1 hi hJ hold hdep K hK
      have q5 : a.tmps[5]?.getD undef = .pointer (some ⟨w.heap.size + 2, 0, none⟩) := (hold 5 (by kernel_rfl)).trans o5
      rw [if_pos (by rfl)]
      clear hold hdep hend o3 o4 o5
      go_simp
      exact hK _ _ (fun _ _ _ h => h) hJ rfl
    · intro ls vs a w1 hi hJ hold hdep K hK
      have q259 : a.tmps[259]?.getD undef = .pointer (some ⟨w.heap.size + 2, 3, none⟩) := (hdep 7 259 (by kernel_rfl) (by kernel_rfl)).2.1.trans (hdep 7 259 (by kernel_rfl) (by kernel_rfl)).2.2
      rw [if_pos (by rfl)]
      clear hold hdep hend o3 o4 o5
      have hz1 := hr.trans hJ
      go_simp
      exact hK _ _ (fun _ _ _ h => h) hJ rfl
    · intro ls vs a w1 hi hJ hold hdep K hK
      obtain ⟨hl1, q253, p253⟩ := hdep 1 253 (by kernel_rfl) (by kernel_rfl)
      obtain ⟨hl3, q255, p255⟩ := hdep 3 255 (by kernel_rfl) (by kernel_rfl)
      obtain ⟨hl6, q258, p258⟩ := hdep 6 258 (by kernel_rfl) (by kernel_rfl)
      have q260 : a.tmps[260]?.getD undef = cval c := (hdep 8 260 (by kernel_rfl) (by kernel_rfl)).2.1.trans (hdep 8 260 (by kernel_rfl) (by kernel_rfl)).2.2
      rw [if_pos (by rfl)]
      clear hold hdep hend o3 o4 o5
      obtain ⟨h6, i6, h10, i10, k1, k2⟩ := p253
      rw [k1] at q253
      obtain ⟨ca, cc, k3, k4⟩ := p255
      rw [k3] at q255
      obtain ⟨ia, ic, k5, k6⟩ := p258
      rw [k5] at q258
      go_simp
      go_at_call 22
      (with_reducible refine (Fit_any ha ⟨some ⟨h6, 0, none⟩, i6, some ⟨h10, 0, none⟩, i10⟩ l ca cc p ia _ ic c _ k2 k4.camps.1 k6 rfl).mono ?_); rintro e w20 ⟨rfl, he2⟩
      rw [HR1.out, HR2.out]
      exact hK _ _ (fun j u _ h => by
            match j, h with
            | 0, h | 2, h | 4, h | 5, h | 7, h | 8, h | 9, h | 10, h | 11, h | 12, h | 13, h => exact h
            | 1, h => (obtain ⟨a1, a2, a3, a4, h1, h2⟩ := h; exact ⟨a1, a2, a3, a4, h1, h2.ext he2⟩)
            | 3, h => (obtain ⟨a1, a2, h1, h2⟩ := h; exact ⟨a1, a2, h1, own_ext h2 he2⟩)
            | 6, h => (obtain ⟨a1, a2, h1, h2⟩ := h; exact ⟨a1, a2, h1, h2.ext he2⟩)
            | (n + 14), h => exact h) (hJ.trans he2) rfl
    · intro ls vs a w1 hi hJ hold hdep K hK
      have q261 : a.tmps[261]?.getD undef = .tuple #[.int .i64 fT, .int .i64 fE] := (hdep 9 261 (by kernel_rfl) (by kernel_rfl)).2.1.trans (hdep 9 261 (by kernel_rfl) (by kernel_rfl)).2.2
      rw [if_pos (by rfl)]
      clear hold hdep hend o3 o4 o5
      go_simp
      exact hK _ _ (fun _ _ _ h => h) hJ rfl
    · intro ls vs a w1 hi hJ hold hdep K hK
      have q251 : a.tmps[251]?.getD undef = .tuple #[.int .i64 fT, .int .i64 fE] := (hdep 10 251 (by kernel_rfl) (by kernel_rfl)).2.1.trans (hdep 10 251 (by kernel_rfl) (by kernel_rfl)).2.2
      rw [if_pos (by rfl)]
      clear hold hdep hend o3 o4 o5
      go_simp
      exact hK _ _ (fun _ _ _ h => h) hJ rfl
    · intro ls vs a w1 hi hJ hold hdep K hK
      have q251 : a.tmps[251]?.getD undef = .tuple #[.int .i64 fT, .int .i64 fE] := (hdep 10 251 (by kernel_rfl) (by kernel_rfl)).2.1.trans (hdep 10 251 (by kernel_rfl) (by kernel_rfl)).2.2
      rw [if_pos (by rfl)]
      clear hold hdep hend o3 o4 o5
      go_simp
      exact hK _ _ (fun _ _ _ h => h) hJ rfl
    · intro ls vs a w1 hi hJ hold hdep K hK
      have q262 : a.tmps[262]?.getD undef = .int .i64 fT := (hdep 11 262 (by kernel_rfl) (by kernel_rfl)).2.1.trans (hdep 11 262 (by kernel_rfl) (by kernel_rfl)).2.2
      rw [if_pos (by rfl)]
      clear hold hdep hend o3 o4 o5
      go_simp
      exact hK _ _ (fun _ _ _ h => h) hJ rfl
    · intro ls vs a w1 hi hJ hold hdep K hK
      have q263 : a.tmps[263]?.getD undef = .int .i64 fE := (hdep 12 263 (by kernel_rfl) (by kernel_rfl)).2.1.trans (hdep 12 263 (by kernel_rfl) (by kernel_rfl)).2.2
      rw [if_pos (by rfl)]
      clear hold hdep hend o3 o4 o5
      go_simp
      exact hK _ _ (fun _ _ _ h => h) hJ rfl
  · intro vs w9 ls9 hl9 hJ9 hφ
    have e0 := hφ 0 (by kernel_rfl)
    have e1 := hφ 1 (by kernel_rfl)
    have e2 := hφ 2 (by kernel_rfl)
    have e3 := hφ 3 (by kernel_rfl)
    have e4 := hφ 4 (by kernel_rfl)
    have e5 := hφ 5 (by kernel_rfl)
    have e6 := hφ 6 (by kernel_rfl)
    have e7 := hφ 7 (by kernel_rfl)
    have e8 := hφ 8 (by kernel_rfl)
    have e9 := hφ 9 (by kernel_rfl)
    have e10 := hφ 10 (by kernel_rfl)
    have e11 := hφ 11 (by kernel_rfl)
    have e12 := hφ 12 (by kernel_rfl)
    have e13 := hφ 13 (by kernel_rfl)
    have e14 := hφ 14 (by kernel_rfl)
    have hq := hend vs w9 ls9 hl9 hJ9 e0 e1 e2 e3 e4 e5 e6 e7 e8 e9 e10 e11 e12 e13 e14
    simp only [Act.put] at hq
    simp only [putAll, Act.put]
    exact hq

end Go.Proofs.Ytjpgignbjkgjiaa
end
section
/-
  HallChanges' further regions that draw their order, each a theorem of its own (printed by wip/tools/regthm.py from wip/tools/gen9.py).
-/
set_option linter.unusedVariables false
set_option linter.unusedSimpArgs false
namespace Go.Proofs.Ytjpgignbjkgjiaa
open Go.RowKit
attribute [local go_sem ↓] Go.wp_at_zero Go.wp_at_succ
set_option maxRecDepth 100000 in
set_option maxHeartbeats 4000000 in
theorem s1_law {ha : Hal} {l : List Camp} {sa ea la pa qa : Option Addr} {sc ec lc pc pn qc : Nat} {P : List (List Int)} {now ev : Int} {C1 C2 C3 C4 C5 C6 C7 C8 C9 G1 G2 G3 G4 G5 G6 G7 G8 : Bool} {w w1 wX : World} (he : Ext w w1) (hr : Ext w1 wX) (HOW : Hid (∀ W, Ext w W → ha.st.length ≤ 1000 → ha.en.length ≤ 1000 → Calls Try.prog 15 #[hval ha ⟨sa, sc, ea, ec⟩] W (RetOwn ha W))) (HCP : Hid (∀ W, Ext w W → l.length ≤ 1000000 → Calls Try.prog 16 #[.slice la l.length lc] W (RetC l W))) (b0 : ∀ W, Ext w1 W → W.cell? ⟨w.heap.size, 0, none⟩ = some (.int .i64 ha.ro)) (b1 : ∀ W, Ext w1 W → W.cell? ⟨w.heap.size, 1, none⟩ = some (.int .i64 ha.cl)) (b2 : ∀ W, Ext w1 W → W.cell? ⟨w.heap.size, 2, none⟩ = some (.slice sa ha.st.length sc)) (b3 : ∀ W, Ext w1 W → W.cell? ⟨w.heap.size, 3, none⟩ = some (.slice ea ha.en.length ec)) (l0 : ∀ W, Ext w1 W → W.cell? ⟨w.heap.size + 1, 0, none⟩ = some (.slice la l.length lc)) (a0 : ∀ W, Ext w1 W → W.cell? ⟨w.heap.size + 2, 0, none⟩ = some (.slice pa pn pc)) (a1 : ∀ W, Ext w1 W → W.cell? ⟨w.heap.size + 2, 1, none⟩ = some (.int .i64 now)) (a2 : ∀ W, Ext w1 W → W.cell? ⟨w.heap.size + 2, 2, none⟩ = some (.slice qa P.length qc)) (HEV : Hid (errIf (campsB ha l) 2 = ev)) (HC1 : Hid (decide ((24 : Int) < (ha.st.length : Int)) = C1)) (HC2 : Hid (decide ((4 : Int) < (l.length : Int)) = C2)) (HC3 : Hid (decide ((10 : Int) < (pn : Int)) = C3)) (HC4 : Hid (decide ((20 : Int) < (P.length : Int)) = C4)) (HC5 : Hid (decide ((200 : Int) < (ha.en.length : Int)) = C5)) (HC6 : Hid ((ev != 0) = C6)) (HC7 : Hid (((pn : Int) != (l.length : Int)) = C7)) (HC8 : Hid (decide (now < 0) = C8)) (HC9 : Hid (decide ((ha.st.length : Int) < now) = C9)) (HG1 : Hid ((C1 || C2) = G1)) (HG2 : Hid ((G1 || C3) = G2)) (HG3 : Hid ((G2 || C4) = G3)) (HG4 : Hid ((G3 || C5) = G4)) (HG5 : Hid ((G4 || C6) = G5)) (HG6 : Hid ((G5 || C7) = G6)) (HG7 : Hid ((G6 || C8) = G7)) (HG8 : Hid ((G7 || C9) = G8)) (HGB : Hid (G4 = false → ha.st.length ≤ 24 ∧ ha.en.length ≤ 200 ∧ l.length ≤ 4)) {Q : Exit → Act → World → Prop} (aZ : Act) (hsz : aZ.tmps.size = 317) (o3 : aZ.tmps[3]?.getD undef = .pointer (some ⟨w.heap.size, 0, none⟩)) (o4 : aZ.tmps[4]?.getD undef = .pointer (some ⟨w.heap.size + 1, 0, none⟩)) (o5 : aZ.tmps[5]?.getD undef = .pointer (some ⟨w.heap.size + 2, 0, none⟩))
    (hend : ∀ (vs : Nat → Value) (w9 : World) (ls9 : Nat → Bool), (∀ j : Nat, j < 56 → ls9 j = true) → (Ext wX w9) → (vs 0 = .pointer (some ⟨w.heap.size, 2, none⟩)) → (vs 1 = .slice sa ha.st.length sc) → (vs 2 = .int .i64 ha.st.length) → (vs 3 = .bool C1) → (vs 4 = .bool C1) → (vs 5 = gv (!C1) (.slice la l.length lc)) → (vs 6 = gv (!C1) (.int .i64 l.length)) → (vs 7 = gv (!C1) (.bool C2)) → (vs 8 = .bool G1) → (vs 9 = .bool G1) → (vs 10 = gv (!G1) (.pointer (some ⟨w.heap.size + 2, 0, none⟩))) → (vs 11 = gv (!G1) (.slice pa pn pc)) → (vs 12 = gv (!G1) (.int .i64 pn)) → (vs 13 = gv (!G1) (.bool C3)) → (vs 14 = .bool G2) → (vs 15 = .bool G2) → (vs 16 = gv (!G2) (.pointer (some ⟨w.heap.size + 2, 2, none⟩))) → (vs 17 = gv (!G2) (.slice qa P.length qc)) → (vs 18 = gv (!G2) (.int .i64 P.length)) → (vs 19 = gv (!G2) (.bool C4)) → (vs 20 = .bool G3) → (vs 21 = .bool G3) → (vs 22 = gv (!G3) (.pointer (some ⟨w.heap.size, 3, none⟩))) → (vs 23 = gv (!G3) (.slice ea ha.en.length ec)) → (vs 24 = gv (!G3) (.int .i64 ha.en.length)) → (vs 25 = gv (!G3) (.bool C5)) → (vs 26 = .bool G4) → (vs 27 = .bool G4) → (vs 28 = gv (!G4) (hval ha ⟨sa, sc, ea, ec⟩)) → (G4 = false → ∃ g6 c6 g10 c10 : Nat, vs 29 = hval ha ⟨some ⟨g6, 0, none⟩, c6, some ⟨g10, 0, none⟩, c10⟩ ∧ HallAt w9 ha ⟨some ⟨g6, 0, none⟩, c6, some ⟨g10, 0, none⟩, c10⟩) → (vs 30 = gv (!G4) (.slice la l.length lc)) → (G4 = false → ∃ ca cc, vs 31 = .slice ca l.length cc ∧ OwnC w9 0 (.slice ca l.length cc) l) → (vs 32 = gv (!G4) (.int .i64 ev)) → (vs 33 = gv (!G4) (.bool C6)) → (vs 34 = .bool G5) → (vs 35 = .bool G5) → (vs 36 = gv (!G5) (.pointer (some ⟨w.heap.size + 2, 0, none⟩))) → (vs 37 = gv (!G5) (.slice pa pn pc)) → (vs 38 = gv (!G5) (.int .i64 pn)) → (vs 39 = gv (!G5) (.slice la l.length lc)) → (vs 40 = gv (!G5) (.int .i64 l.length)) → (vs 41 = gv (!G5) (.bool C7)) → (vs 42 = .bool G6) → (vs 43 = .bool G6) → (vs 44 = gv (!G6) (.pointer (some ⟨w.heap.size + 2, 1, none⟩))) → (vs 45 = gv (!G6) (.int .i64 now)) → (vs 46 = gv (!G6) (.bool C8)) → (vs 47 = .bool G7) → (vs 48 = .bool G7) → (vs 49 = gv (!G7) (.pointer (some ⟨w.heap.size + 2, 1, none⟩))) → (vs 50 = gv (!G7) (.int .i64 now)) → (vs 51 = gv (!G7) (.pointer (some ⟨w.heap.size, 2, none⟩))) → (vs 52 = gv (!G7) (.slice sa ha.st.length sc)) → (vs 53 = gv (!G7) (.int .i64 ha.st.length)) → (vs 54 = gv (!G7) (.bool C9)) → (vs 55 = .bool G8) → Q .normal ((((((((((((((((((((((((((((((((((((((((((((((((((((((((aZ.put (some 29) (vs 0)).put (some 30) (vs 1)).put (some 31) (vs 2)).put (some 32) (vs 3)).put (some 33) (vs 4)).put (some 34) (vs 5)).put (some 35) (vs 6)).put (some 36) (vs 7)).put (some 37) (vs 8)).put (some 38) (vs 9)).put (some 39) (vs 10)).put (some 40) (vs 11)).put (some 41) (vs 12)).put (some 42) (vs 13)).put (some 43) (vs 14)).put (some 44) (vs 15)).put (some 45) (vs 16)).put (some 46) (vs 17)).put (some 47) (vs 18)).put (some 48) (vs 19)).put (some 49) (vs 20)).put (some 50) (vs 21)).put (some 51) (vs 22)).put (some 52) (vs 23)).put (some 53) (vs 24)).put (some 54) (vs 25)).put (some 55) (vs 26)).put (some 56) (vs 27)).put (some 57) (vs 28)).put (some 58) (vs 29)).put (some 59) (vs 30)).put (some 60) (vs 31)).put (some 61) (vs 32)).put (some 62) (vs 33)).put (some 63) (vs 34)).put (some 64) (vs 35)).put (some 65) (vs 36)).put (some 66) (vs 37)).put (some 67) (vs 38)).put (some 68) (vs 39)).put (some 69) (vs 40)).put (some 70) (vs 41)).put (some 71) (vs 42)).put (some 72) (vs 43)).put (some 73) (vs 44)).put (some 74) (vs 45)).put (some 75) (vs 46)).put (some 76) (vs 47)).put (some 77) (vs 48)).put (some 78) (vs 49)).put (some 79) (vs 50)).put (some 80) (vs 51)).put (some 81) (vs 52)).put (some 82) (vs 53)).put (some 83) (vs 54)).put (some 84) (vs 55)) w9) : (regOf Try.f9 1).wp Try.prog Q aZ wX := by
  conv => arg 2; whnf
  refine wp_region_said3 (fun i v wz => match i with
    | 0 => v = .pointer (some ⟨w.heap.size, 2, none⟩)
    | 1 => v = .slice sa ha.st.length sc
    | 2 => v = .int .i64 ha.st.length
    | 3 => v = .bool C1
    | 4 => v = .bool C1
    | 5 => v = gv (!C1) (.slice la l.length lc)
    | 6 => v = gv (!C1) (.int .i64 l.length)
    | 7 => v = gv (!C1) (.bool C2)
    | 8 => v = .bool G1
    | 9 => v = .bool G1
    | 10 => v = gv (!G1) (.pointer (some ⟨w.heap.size + 2, 0, none⟩))
    | 11 => v = gv (!G1) (.slice pa pn pc)
    | 12 => v = gv (!G1) (.int .i64 pn)
    | 13 => v = gv (!G1) (.bool C3)
    | 14 => v = .bool G2
    | 15 => v = .bool G2
    | 16 => v = gv (!G2) (.pointer (some ⟨w.heap.size + 2, 2, none⟩))
    | 17 => v = gv (!G2) (.slice qa P.length qc)
    | 18 => v = gv (!G2) (.int .i64 P.length)
    | 19 => v = gv (!G2) (.bool C4)
    | 20 => v = .bool G3
    | 21 => v = .bool G3
    | 22 => v = gv (!G3) (.pointer (some ⟨w.heap.size, 3, none⟩))
    | 23 => v = gv (!G3) (.slice ea ha.en.length ec)
    | 24 => v = gv (!G3) (.int .i64 ha.en.length)
    | 25 => v = gv (!G3) (.bool C5)
    | 26 => v = .bool G4
    | 27 => v = .bool G4
    | 28 => v = gv (!G4) (hval ha ⟨sa, sc, ea, ec⟩)
    | 29 => G4 = false → ∃ g6 c6 g10 c10 : Nat, v = hval ha ⟨some ⟨g6, 0, none⟩, c6, some ⟨g10, 0, none⟩, c10⟩ ∧ HallAt wz ha ⟨some ⟨g6, 0, none⟩, c6, some ⟨g10, 0, none⟩, c10⟩
    | 30 => v = gv (!G4) (.slice la l.length lc)
    | 31 => G4 = false → ∃ ca cc, v = .slice ca l.length cc ∧ OwnC wz 0 (.slice ca l.length cc) l
    | 32 => v = gv (!G4) (.int .i64 ev)
    | 33 => v = gv (!G4) (.bool C6)
    | 34 => v = .bool G5
    | 35 => v = .bool G5
    | 36 => v = gv (!G5) (.pointer (some ⟨w.heap.size + 2, 0, none⟩))
    | 37 => v = gv (!G5) (.slice pa pn pc)
    | 38 => v = gv (!G5) (.int .i64 pn)
    | 39 => v = gv (!G5) (.slice la l.length lc)
    | 40 => v = gv (!G5) (.int .i64 l.length)
    | 41 => v = gv (!G5) (.bool C7)
    | 42 => v = .bool G6
    | 43 => v = .bool G6
    | 44 => v = gv (!G6) (.pointer (some ⟨w.heap.size + 2, 1, none⟩))
    | 45 => v = gv (!G6) (.int .i64 now)
    | 46 => v = gv (!G6) (.bool C8)
    | 47 => v = .bool G7
    | 48 => v = .bool G7
    | 49 => v = gv (!G7) (.pointer (some ⟨w.heap.size + 2, 1, none⟩))
    | 50 => v = gv (!G7) (.int .i64 now)
    | 51 => v = gv (!G7) (.pointer (some ⟨w.heap.size, 2, none⟩))
    | 52 => v = gv (!G7) (.slice sa ha.st.length sc)
    | 53 => v = gv (!G7) (.int .i64 ha.st.length)
    | 54 => v = gv (!G7) (.bool C9)
    | _ => v = .bool G8) (fun ls vs wz => Ext wX wz) (by kernel_rfl) (by kernel_rfl) (by rw [hsz]; kernel_rfl) ?_ ?_ ?_
  · exact (Ext.refl _).drew
  · refine ⟨?_, ?_, ?_, ?_, ?_, ?_, ?_, ?_, ?_, ?_, ?_, ?_, ?_, ?_, ?_, ?_, ?_, ?_, ?_, ?_, ?_, ?_, ?_, ?_, ?_, ?_, ?_, ?_, ?_, ?_, ?_, ?_, ?_, ?_, ?_, ?_, ?_, ?_, ?_, ?_, ?_, ?_, ?_, ?_, ?_, ?_, ?_, ?_, ?_, ?_, ?_, ?_, ?_, ?_, ?_, ?_, trivial⟩
    · intro ls vs a w1 hi hJ hold hdep K hK
      have q3 : a.tmps[3]?.getD undef = .pointer (some ⟨w.heap.size, 0, none⟩) := (hold 3 (by kernel_rfl)).trans o3
      rw [if_pos (by rfl)]
      clear hold hdep hend o3 o4 o5
      go_simp
      exact hK _ _ (fun _ _ _ h => h) hJ rfl
    · intro ls vs a w1 hi hJ hold hdep K hK
      have q29 : a.tmps[29]?.getD undef = .pointer (some ⟨w.heap.size, 2, none⟩) := (hdep 0 29 (by kernel_rfl) (by kernel_rfl)).2.1.trans (hdep 0 29 (by kernel_rfl) (by kernel_rfl)).2.2
      rw [if_pos (by rfl)]
      clear hold hdep hend o3 o4 o5
      have hz1 := hr.trans hJ
      go_simp
      exact hK _ _ (fun _ _ _ h => h) hJ rfl
    · intro ls vs a w1 hi hJ hold hdep K hK
      have q30 : a.tmps[30]?.getD undef = .slice sa ha.st.length sc := (hdep 1 30 (by kernel_rfl) (by kernel_rfl)).2.1.trans (hdep 1 30 (by kernel_rfl) (by kernel_rfl)).2.2
      rw [if_pos (by rfl)]
      clear hold hdep hend o3 o4 o5
      go_simp
      exact hK _ _ (fun _ _ _ h => h) hJ rfl
    · intro ls vs a w1 hi hJ hold hdep K hK
      have q31 : a.tmps[31]?.getD undef = .int .i64 ha.st.length := (hdep 2 31 (by kernel_rfl) (by kernel_rfl)).2.1.trans (hdep 2 31 (by kernel_rfl) (by kernel_rfl)).2.2
      rw [if_pos (by rfl)]
      clear hold hdep hend o3 o4 o5
      go_simp
      exact hK _ _ (fun _ _ _ h => h) hJ (congrArg Value.bool HC1.out)
    · intro ls vs a w1 hi hJ hold hdep K hK
      have q32 : a.tmps[32]?.getD undef = .bool C1 := (hdep 3 32 (by kernel_rfl) (by kernel_rfl)).2.1.trans (hdep 3 32 (by kernel_rfl) (by kernel_rfl)).2.2
      rw [if_pos (by rfl)]
      clear hold hdep hend o3 o4 o5
      go_simp
      exact hK _ _ (fun _ _ _ h => h) hJ rfl
    · intro ls vs a w1 hi hJ hold hdep K hK
      have q4 : a.tmps[4]?.getD undef = .pointer (some ⟨w.heap.size + 1, 0, none⟩) := (hold 4 (by kernel_rfl)).trans o4
      have q33 : a.tmps[33]?.getD undef = .bool C1 := (hdep 4 33 (by kernel_rfl) (by kernel_rfl)).2.1.trans (hdep 4 33 (by kernel_rfl) (by kernel_rfl)).2.2
      clear hold hdep hend o3 o4 o5
      rw [wanted_of rfl (by kernel_rfl) q33]
      cases C1
      case true =>
        rw [if_neg (by decide)]
        exact hK _ _ (fun _ _ _ h => h) hJ rfl
      rw [if_pos (by rfl)]
      have hz1 := hr.trans hJ
      go_simp
      exact hK _ _ (fun _ _ _ h => h) hJ rfl
    · intro ls vs a w1 hi hJ hold hdep K hK
      have q34 : a.tmps[34]?.getD undef = gv (!C1) (.slice la l.length lc) := (hdep 5 34 (by kernel_rfl) (by kernel_rfl)).2.1.trans (hdep 5 34 (by kernel_rfl) (by kernel_rfl)).2.2
      have q33 : a.tmps[33]?.getD undef = .bool C1 := (hdep 4 33 (by kernel_rfl) (by kernel_rfl)).2.1.trans (hdep 4 33 (by kernel_rfl) (by kernel_rfl)).2.2
      clear hold hdep hend o3 o4 o5
      rw [wanted_of rfl (by kernel_rfl) q33]
      cases C1
      case true =>
        rw [if_neg (by decide)]
        exact hK _ _ (fun _ _ _ h => h) hJ rfl
      rw [if_pos (by rfl)]
      simp only [Bool.not_false, Bool.not_true, gv_true, gv_false] at q34
      go_simp
      exact hK _ _ (fun _ _ _ h => h) hJ rfl
    · intro ls vs a w1 hi hJ hold hdep K hK
      have q35 : a.tmps[35]?.getD undef = gv (!C1) (.int .i64 l.length) := (hdep 6 35 (by kernel_rfl) (by kernel_rfl)).2.1.trans (hdep 6 35 (by kernel_rfl) (by kernel_rfl)).2.2
      have q33 : a.tmps[33]?.getD undef = .bool C1 := (hdep 4 33 (by kernel_rfl) (by kernel_rfl)).2.1.trans (hdep 4 33 (by kernel_rfl) (by kernel_rfl)).2.2
      clear hold hdep hend o3 o4 o5
      rw [wanted_of rfl (by kernel_rfl) q33]
      cases C1
      case true =>
        rw [if_neg (by decide)]
        exact hK _ _ (fun _ _ _ h => h) hJ rfl
      rw [if_pos (by rfl)]
      simp only [Bool.not_false, Bool.not_true, gv_true, gv_false] at q35
      go_simp
      exact hK _ _ (fun _ _ _ h => h) hJ (congrArg Value.bool HC2.out)
    · intro ls vs a w1 hi hJ hold hdep K hK
      have q33 : a.tmps[33]?.getD undef = .bool C1 := (hdep 4 33 (by kernel_rfl) (by kernel_rfl)).2.1.trans (hdep 4 33 (by kernel_rfl) (by kernel_rfl)).2.2
      have q36 : a.tmps[36]?.getD undef = gv (!C1) (.bool C2) := (hdep 7 36 (by kernel_rfl) (by kernel_rfl)).2.1.trans (hdep 7 36 (by kernel_rfl) (by kernel_rfl)).2.2
      rw [if_pos (by rfl)]
      clear hold hdep hend o3 o4 o5
      cases C1
      · simp only [Bool.not_false, gv_true] at q36
        go_simp
        exact hK _ _ (fun _ _ _ h => h) hJ (congrArg Value.bool HG1.out)
      · go_simp
        exact hK _ _ (fun _ _ _ h => h) hJ (congrArg Value.bool HG1.out)
    · intro ls vs a w1 hi hJ hold hdep K hK
      have q37 : a.tmps[37]?.getD undef = .bool G1 := (hdep 8 37 (by kernel_rfl) (by kernel_rfl)).2.1.trans (hdep 8 37 (by kernel_rfl) (by kernel_rfl)).2.2
      rw [if_pos (by rfl)]
      clear hold hdep hend o3 o4 o5
      go_simp
      exact hK _ _ (fun _ _ _ h => h) hJ rfl
    · intro ls vs a w1 hi hJ hold hdep K hK
      have q5 : a.tmps[5]?.getD undef = .pointer (some ⟨w.heap.size + 2, 0, none⟩) := (hold 5 (by kernel_rfl)).trans o5
      have q38 : a.tmps[38]?.getD undef = .bool G1 := (hdep 9 38 (by kernel_rfl) (by kernel_rfl)).2.1.trans (hdep 9 38 (by kernel_rfl) (by kernel_rfl)).2.2
      clear hold hdep hend o3 o4 o5
      rw [wanted_of rfl (by kernel_rfl) q38]
      cases G1
      case true =>
        rw [if_neg (by decide)]
        exact hK _ _ (fun _ _ _ h => h) hJ rfl
      rw [if_pos (by rfl)]
      go_simp
      exact hK _ _ (fun _ _ _ h => h) hJ rfl
    · intro ls vs a w1 hi hJ hold hdep K hK
      have q39 : a.tmps[39]?.getD undef = gv (!G1) (.pointer (some ⟨w.heap.size + 2, 0, none⟩)) := (hdep 10 39 (by kernel_rfl) (by kernel_rfl)).2.1.trans (hdep 10 39 (by kernel_rfl) (by kernel_rfl)).2.2
      have q38 : a.tmps[38]?.getD undef = .bool G1 := (hdep 9 38 (by kernel_rfl) (by kernel_rfl)).2.1.trans (hdep 9 38 (by kernel_rfl) (by kernel_rfl)).2.2
      clear hold hdep hend o3 o4 o5
      rw [wanted_of rfl (by kernel_rfl) q38]
      cases G1
      case true =>
        rw [if_neg (by decide)]
        exact hK _ _ (fun _ _ _ h => h) hJ rfl
      rw [if_pos (by rfl)]
      simp only [Bool.not_false, Bool.not_true, gv_true, gv_false] at q39
      have hz1 := hr.trans hJ
      go_simp
      exact hK _ _ (fun _ _ _ h => h) hJ rfl
    · intro ls vs a w1 hi hJ hold hdep K hK
      have q40 : a.tmps[40]?.getD undef = gv (!G1) (.slice pa pn pc) := (hdep 11 40 (by kernel_rfl) (by kernel_rfl)).2.1.trans (hdep 11 40 (by kernel_rfl) (by kernel_rfl)).2.2
      have q38 : a.tmps[38]?.getD undef = .bool G1 := (hdep 9 38 (by kernel_rfl) (by kernel_rfl)).2.1.trans (hdep 9 38 (by kernel_rfl) (by kernel_rfl)).2.2
      clear hold hdep hend o3 o4 o5
      rw [wanted_of rfl (by kernel_rfl) q38]
      cases G1
      case true =>
        rw [if_neg (by decide)]
        exact hK _ _ (fun _ _ _ h => h) hJ rfl
      rw [if_pos (by rfl)]
      simp only [Bool.not_false, Bool.not_true, gv_true, gv_false] at q40
      go_simp
      exact hK _ _ (fun _ _ _ h => h) hJ rfl
    · intro ls vs a w1 hi hJ hold hdep K hK
      have q41 : a.tmps[41]?.getD undef = gv (!G1) (.int .i64 pn) := (hdep 12 41 (by kernel_rfl) (by kernel_rfl)).2.1.trans (hdep 12 41 (by kernel_rfl) (by kernel_rfl)).2.2
      have q38 : a.tmps[38]?.getD undef = .bool G1 := (hdep 9 38 (by kernel_rfl) (by kernel_rfl)).2.1.trans (hdep 9 38 (by kernel_rfl) (by kernel_rfl)).2.2
      clear hold hdep hend o3 o4 o5
      rw [wanted_of rfl (by kernel_rfl) q38]
      cases G1
      case true =>
        rw [if_neg (by decide)]
        exact hK _ _ (fun _ _ _ h => h) hJ rfl
      rw [if_pos (by rfl)]
      simp only [Bool.not_false, Bool.not_true, gv_true, gv_false] at q41
      go_simp
      exact hK _ _ (fun _ _ _ h => h) hJ (congrArg Value.bool HC3.out)
    · intro ls vs a w1 hi hJ hold hdep K hK
      have q38 : a.tmps[38]?.getD undef = .bool G1 := (hdep 9 38 (by kernel_rfl) (by kernel_rfl)).2.1.trans (hdep 9 38 (by kernel_rfl) (by kernel_rfl)).2.2
      have q42 : a.tmps[42]?.getD undef = gv (!G1) (.bool C3) := (hdep 13 42 (by kernel_rfl) (by kernel_rfl)).2.1.trans (hdep 13 42 (by kernel_rfl) (by kernel_rfl)).2.2
      rw [if_pos (by rfl)]
      clear hold hdep hend o3 o4 o5
      cases G1
      · simp only [Bool.not_false, gv_true] at q42
        go_simp
        exact hK _ _ (fun _ _ _ h => h) hJ (congrArg Value.bool HG2.out)
      · go_simp
        exact hK _ _ (fun _ _ _ h => h) hJ (congrArg Value.bool HG2.out)
    · intro ls vs a w1 hi hJ hold hdep K hK
      have q43 : a.tmps[43]?.getD undef = .bool G2 := (hdep 14 43 (by kernel_rfl) (by kernel_rfl)).2.1.trans (hdep 14 43 (by kernel_rfl) (by kernel_rfl)).2.2
      rw [if_pos (by rfl)]
      clear hold hdep hend o3 o4 o5
      go_simp
      exact hK _ _ (fun _ _ _ h => h) hJ rfl
    · intro ls vs a w1 hi hJ hold hdep K hK
      have q5 : a.tmps[5]?.getD undef = .pointer (some ⟨w.heap.size + 2, 0, none⟩) := (hold 5 (by kernel_rfl)).trans o5
      have q44 : a.tmps[44]?.getD undef = .bool G2 := (hdep 15 44 (by kernel_rfl) (by kernel_rfl)).2.1.trans (hdep 15 44 (by kernel_rfl) (by kernel_rfl)).2.2
      clear hold hdep hend o3 o4 o5
      rw [wanted_of rfl (by kernel_rfl) q44]
      cases G2
      case true =>
        rw [if_neg (by decide)]
        exact hK _ _ (fun _ _ _ h => h) hJ rfl
      rw [if_pos (by rfl)]
      go_simp
      exact hK _ _ (fun _ _ _ h => h) hJ rfl
    · intro ls vs a w1 hi hJ hold hdep K hK
      have q45 : a.tmps[45]?.getD undef = gv (!G2) (.pointer (some ⟨w.heap.size + 2, 2, none⟩)) := (hdep 16 45 (by kernel_rfl) (by kernel_rfl)).2.1.trans (hdep 16 45 (by kernel_rfl) (by kernel_rfl)).2.2
      have q44 : a.tmps[44]?.getD undef = .bool G2 := (hdep 15 44 (by kernel_rfl) (by kernel_rfl)).2.1.trans (hdep 15 44 (by kernel_rfl) (by kernel_rfl)).2.2
      clear hold hdep hend o3 o4 o5
      rw [wanted_of rfl (by kernel_rfl) q44]
      cases G2
      case true =>
        rw [if_neg (by decide)]
        exact hK _ _ (fun _ _ _ h => h) hJ rfl
      rw [if_pos (by rfl)]
      simp only [Bool.not_false, Bool.not_true, gv_true, gv_false] at q45
      have hz1 := hr.trans hJ
      go_simp
      exact hK _ _ (fun _ _ _ h => h) hJ rfl
    · intro ls vs a w1 hi hJ hold hdep K hK
      have q46 : a.tmps[46]?.getD undef = gv (!G2) (.slice qa P.length qc) := (hdep 17 46 (by kernel_rfl) (by kernel_rfl)).2.1.trans (hdep 17 46 (by kernel_rfl) (by kernel_rfl)).2.2
      have q44 : a.tmps[44]?.getD undef = .bool G2 := (hdep 15 44 (by kernel_rfl) (by kernel_rfl)).2.1.trans (hdep 15 44 (by kernel_rfl) (by kernel_rfl)).2.2
      clear hold hdep hend o3 o4 o5
      rw [wanted_of rfl (by kernel_rfl) q44]
      cases G2
      case true =>
        rw [if_neg (by decide)]
        exact hK _ _ (fun _ _ _ h => h) hJ rfl
      rw [if_pos (by rfl)]
      simp only [Bool.not_false, Bool.not_true, gv_true, gv_false] at q46
      go_simp
      exact hK _ _ (fun _ _ _ h => h) hJ rfl
    · intro ls vs a w1 hi hJ hold hdep K hK
      have q47 : a.tmps[47]?.getD undef = gv (!G2) (.int .i64 P.length) := (hdep 18 47 (by kernel_rfl) (by kernel_rfl)).2.1.trans (hdep 18 47 (by kernel_rfl) (by kernel_rfl)).2.2
      have q44 : a.tmps[44]?.getD undef = .bool G2 := (hdep 15 44 (by kernel_rfl) (by kernel_rfl)).2.1.trans (hdep 15 44 (by kernel_rfl) (by kernel_rfl)).2.2
      clear hold hdep hend o3 o4 o5
      rw [wanted_of rfl (by kernel_rfl) q44]
      cases G2
      case true =>
        rw [if_neg (by decide)]
        exact hK _ _ (fun _ _ _ h => h) hJ rfl
      rw [if_pos (by rfl)]
      simp only [Bool.not_false, Bool.not_true, gv_true, gv_false] at q47
      go_simp
      exact hK _ _ (fun _ _ _ h => h) hJ (congrArg Value.bool HC4.out)
    · intro ls vs a w1 hi hJ hold hdep K hK
      have q44 : a.tmps[44]?.getD undef = .bool G2 := (hdep 15 44 (by kernel_rfl) (by kernel_rfl)).2.1.trans (hdep 15 44 (by kernel_rfl) (by kernel_rfl)).2.2
      have q48 : a.tmps[48]?.getD undef = gv (!G2) (.bool C4) := (hdep 19 48 (by kernel_rfl) (by kernel_rfl)).2.1.trans (hdep 19 48 (by kernel_rfl) (by kernel_rfl)).2.2
      rw [if_pos (by rfl)]
      clear hold hdep hend o3 o4 o5
      cases G2
      · simp only [Bool.not_false, gv_true] at q48
        go_simp
        exact hK _ _ (fun _ _ _ h => h) hJ (congrArg Value.bool HG3.out)
      · go_simp
        exact hK _ _ (fun _ _ _ h => h) hJ (congrArg Value.bool HG3.out)
    · intro ls vs a w1 hi hJ hold hdep K hK
      have q49 : a.tmps[49]?.getD undef = .bool G3 := (hdep 20 49 (by kernel_rfl) (by kernel_rfl)).2.1.trans (hdep 20 49 (by kernel_rfl) (by kernel_rfl)).2.2
      rw [if_pos (by rfl)]
      clear hold hdep hend o3 o4 o5
      go_simp
      exact hK _ _ (fun _ _ _ h => h) hJ rfl
    · intro ls vs a w1 hi hJ hold hdep K hK
      have q3 : a.tmps[3]?.getD undef = .pointer (some ⟨w.heap.size, 0, none⟩) := (hold 3 (by kernel_rfl)).trans o3
      have q50 : a.tmps[50]?.getD undef = .bool G3 := (hdep 21 50 (by kernel_rfl) (by kernel_rfl)).2.1.trans (hdep 21 50 (by kernel_rfl) (by kernel_rfl)).2.2
      clear hold hdep hend o3 o4 o5
      rw [wanted_of rfl (by kernel_rfl) q50]
      cases G3
      case true =>
        rw [if_neg (by decide)]
        exact hK _ _ (fun _ _ _ h => h) hJ rfl
      rw [if_pos (by rfl)]
      go_simp
      exact hK _ _ (fun _ _ _ h => h) hJ rfl
    · intro ls vs a w1 hi hJ hold hdep K hK
      have q51 : a.tmps[51]?.getD undef = gv (!G3) (.pointer (some ⟨w.heap.size, 3, none⟩)) := (hdep 22 51 (by kernel_rfl) (by kernel_rfl)).2.1.trans (hdep 22 51 (by kernel_rfl) (by kernel_rfl)).2.2
      have q50 : a.tmps[50]?.getD undef = .bool G3 := (hdep 21 50 (by kernel_rfl) (by kernel_rfl)).2.1.trans (hdep 21 50 (by kernel_rfl) (by kernel_rfl)).2.2
      clear hold hdep hend o3 o4 o5
      rw [wanted_of rfl (by kernel_rfl) q50]
      cases G3
      case true =>
        rw [if_neg (by decide)]
        exact hK _ _ (fun _ _ _ h => h) hJ rfl
      rw [if_pos (by rfl)]
      simp only [Bool.not_false, Bool.not_true, gv_true, gv_false] at q51
      have hz1 := hr.trans hJ
      go_simp
      exact hK _ _ (fun _ _ _ h => h) hJ rfl
    · intro ls vs a w1 hi hJ hold hdep K hK
      have q52 : a.tmps[52]?.getD undef = gv (!G3) (.slice ea ha.en.length ec) := (hdep 23 52 (by kernel_rfl) (by kernel_rfl)).2.1.trans (hdep 23 52 (by kernel_rfl) (by kernel_rfl)).2.2
      have q50 : a.tmps[50]?.getD undef = .bool G3 := (hdep 21 50 (by kernel_rfl) (by kernel_rfl)).2.1.trans (hdep 21 50 (by kernel_rfl) (by kernel_rfl)).2.2
      clear hold hdep hend o3 o4 o5
      rw [wanted_of rfl (by kernel_rfl) q50]
      cases G3
      case true =>
        rw [if_neg (by decide)]
        exact hK _ _ (fun _ _ _ h => h) hJ rfl
      rw [if_pos (by rfl)]
      simp only [Bool.not_false, Bool.not_true, gv_true, gv_false] at q52
      go_simp
      exact hK _ _ (fun _ _ _ h => h) hJ rfl
    · intro ls vs a w1 hi hJ hold hdep K hK
      have q53 : a.tmps[53]?.getD undef = gv (!G3) (.int .i64 ha.en.length) := (hdep 24 53 (by kernel_rfl) (by kernel_rfl)).2.1.trans (hdep 24 53 (by kernel_rfl) (by kernel_rfl)).2.2
      have q50 : a.tmps[50]?.getD undef = .bool G3 := (hdep 21 50 (by kernel_rfl) (by kernel_rfl)).2.1.trans (hdep 21 50 (by kernel_rfl) (by kernel_rfl)).2.2
      clear hold hdep hend o3 o4 o5
      rw [wanted_of rfl (by kernel_rfl) q50]
      cases G3
      case true =>
        rw [if_neg (by decide)]
        exact hK _ _ (fun _ _ _ h => h) hJ rfl
      rw [if_pos (by rfl)]
      simp only [Bool.not_false, Bool.not_true, gv_true, gv_false] at q53
      go_simp
      exact hK _ _ (fun _ _ _ h => h) hJ (congrArg Value.bool HC5.out)
    · intro ls vs a w1 hi hJ hold hdep K hK
      have q50 : a.tmps[50]?.getD undef = .bool G3 := (hdep 21 50 (by kernel_rfl) (by kernel_rfl)).2.1.trans (hdep 21 50 (by kernel_rfl) (by kernel_rfl)).2.2
      have q54 : a.tmps[54]?.getD undef = gv (!G3) (.bool C5) := (hdep 25 54 (by kernel_rfl) (by kernel_rfl)).2.1.trans (hdep 25 54 (by kernel_rfl) (by kernel_rfl)).2.2
      rw [if_pos (by rfl)]
      clear hold hdep hend o3 o4 o5
      cases G3
      · simp only [Bool.not_false, gv_true] at q54
        go_simp
        exact hK _ _ (fun _ _ _ h => h) hJ (congrArg Value.bool HG4.out)
      · go_simp
        exact hK _ _ (fun _ _ _ h => h) hJ (congrArg Value.bool HG4.out)
    · intro ls vs a w1 hi hJ hold hdep K hK
      have q55 : a.tmps[55]?.getD undef = .bool G4 := (hdep 26 55 (by kernel_rfl) (by kernel_rfl)).2.1.trans (hdep 26 55 (by kernel_rfl) (by kernel_rfl)).2.2
      rw [if_pos (by rfl)]
      clear hold hdep hend o3 o4 o5
      go_simp
      exact hK _ _ (fun _ _ _ h => h) hJ rfl
    · intro ls vs a w1 hi hJ hold hdep K hK
      have q3 : a.tmps[3]?.getD undef = .pointer (some ⟨w.heap.size, 0, none⟩) := (hold 3 (by kernel_rfl)).trans o3
      have q56 : a.tmps[56]?.getD undef = .bool G4 := (hdep 27 56 (by kernel_rfl) (by kernel_rfl)).2.1.trans (hdep 27 56 (by kernel_rfl) (by kernel_rfl)).2.2
      clear hold hdep hend o3 o4 o5
      rw [wanted_of rfl (by kernel_rfl) q56]
      cases G4
      case true =>
        rw [if_neg (by decide)]
        exact hK _ _ (fun _ _ _ h => h) hJ rfl
      rw [if_pos (by rfl)]
      have hz1 := hr.trans hJ
      go_simp
      exact hK _ _ (fun _ _ _ h => h) hJ rfl
    · intro ls vs a w1 hi hJ hold hdep K hK
      have q57 : a.tmps[57]?.getD undef = gv (!G4) (hval ha ⟨sa, sc, ea, ec⟩) := (hdep 28 57 (by kernel_rfl) (by kernel_rfl)).2.1.trans (hdep 28 57 (by kernel_rfl) (by kernel_rfl)).2.2
      have q56 : a.tmps[56]?.getD undef = .bool G4 := (hdep 27 56 (by kernel_rfl) (by kernel_rfl)).2.1.trans (hdep 27 56 (by kernel_rfl) (by kernel_rfl)).2.2
      clear hold hdep hend o3 o4 o5
      rw [wanted_of rfl (by kernel_rfl) q56]
      cases G4
      case true =>
        rw [if_neg (by decide)]
        exact hK _ _ (fun _ _ _ h => h) hJ (by intro e; cases e)
      rw [if_pos (by rfl)]
      simp only [Bool.not_false, Bool.not_true, gv_true, gv_false] at q57
      obtain ⟨hb1, hb2, hb3⟩ := HGB.out rfl
      go_simp
      go_at_call 15
      (with_reducible refine (HOW.out _ (he.trans (hr.trans hJ)) (by omega) (by omega)).mono ?_); rintro e w20 ⟨h6, i6, h10, i10, rfl, he2, -, -, -, ho6, ho10⟩
      exact hK _ _ (fun j u _ h => by
            match j, h with
            | 0, h | 1, h | 2, h | 3, h | 4, h | 5, h | 6, h | 7, h | 8, h | 9, h | 10, h | 11, h | 12, h | 13, h | 14, h | 15, h | 16, h | 17, h | 18, h | 19, h | 20, h | 21, h | 22, h | 23, h | 24, h | 25, h | 26, h | 27, h | 28, h | 30, h | 32, h | 33, h | 34, h | 35, h | 36, h | 37, h | 38, h | 39, h | 40, h | 41, h | 42, h | 43, h | 44, h | 45, h | 46, h | 47, h | 48, h | 49, h | 50, h | 51, h | 52, h | 53, h | 54, h => exact h
            | 29, h => (intro e; obtain ⟨a1, a2, a3, a4, h1, h2⟩ := h e; exact ⟨a1, a2, a3, a4, h1, h2.ext he2⟩)
            | 31, h => (intro e; obtain ⟨a1, a2, h1, h2⟩ := h e; exact ⟨a1, a2, h1, own_ext h2 he2⟩)
            | (n + 55), h => exact h) (hJ.trans he2) (fun _ => ⟨_, _, _, _, rfl, ⟨ho6.ints.1, ho10.ints.1⟩⟩)
    · intro ls vs a w1 hi hJ hold hdep K hK
      have q4 : a.tmps[4]?.getD undef = .pointer (some ⟨w.heap.size + 1, 0, none⟩) := (hold 4 (by kernel_rfl)).trans o4
      have q56 : a.tmps[56]?.getD undef = .bool G4 := (hdep 27 56 (by kernel_rfl) (by kernel_rfl)).2.1.trans (hdep 27 56 (by kernel_rfl) (by kernel_rfl)).2.2
      clear hold hdep hend o3 o4 o5
      rw [wanted_of rfl (by kernel_rfl) q56]
      cases G4
      case true =>
        rw [if_neg (by decide)]
        exact hK _ _ (fun _ _ _ h => h) hJ rfl
      rw [if_pos (by rfl)]
      have hz1 := hr.trans hJ
      go_simp
      exact hK _ _ (fun _ _ _ h => h) hJ rfl
    · intro ls vs a w1 hi hJ hold hdep K hK
      have q59 : a.tmps[59]?.getD undef = gv (!G4) (.slice la l.length lc) := (hdep 30 59 (by kernel_rfl) (by kernel_rfl)).2.1.trans (hdep 30 59 (by kernel_rfl) (by kernel_rfl)).2.2
      have q56 : a.tmps[56]?.getD undef = .bool G4 := (hdep 27 56 (by kernel_rfl) (by kernel_rfl)).2.1.trans (hdep 27 56 (by kernel_rfl) (by kernel_rfl)).2.2
      clear hold hdep hend o3 o4 o5
      rw [wanted_of rfl (by kernel_rfl) q56]
      cases G4
      case true =>
        rw [if_neg (by decide)]
        exact hK _ _ (fun _ _ _ h => h) hJ (by intro e; cases e)
      rw [if_pos (by rfl)]
      simp only [Bool.not_false, Bool.not_true, gv_true, gv_false] at q59
      obtain ⟨hb1, hb2, hb3⟩ := HGB.out rfl
      go_simp
      go_at_call 16
      (with_reducible refine (HCP.out _ (he.trans (hr.trans hJ)) (by omega)).mono ?_); rintro e w20 ⟨ca, cc, rfl, he2, ho⟩
      exact hK _ _ (fun j u _ h => by
            match j, h with
            | 0, h | 1, h | 2, h | 3, h | 4, h | 5, h | 6, h | 7, h | 8, h | 9, h | 10, h | 11, h | 12, h | 13, h | 14, h | 15, h | 16, h | 17, h | 18, h | 19, h | 20, h | 21, h | 22, h | 23, h | 24, h | 25, h | 26, h | 27, h | 28, h | 30, h | 32, h | 33, h | 34, h | 35, h | 36, h | 37, h | 38, h | 39, h | 40, h | 41, h | 42, h | 43, h | 44, h | 45, h | 46, h | 47, h | 48, h | 49, h | 50, h | 51, h | 52, h | 53, h | 54, h => exact h
            | 29, h => (intro e; obtain ⟨a1, a2, a3, a4, h1, h2⟩ := h e; exact ⟨a1, a2, a3, a4, h1, h2.ext he2⟩)
            | 31, h => (intro e; obtain ⟨a1, a2, h1, h2⟩ := h e; exact ⟨a1, a2, h1, own_ext h2 he2⟩)
            | (n + 55), h => exact h) (hJ.trans he2) (fun _ => ⟨_, _, rfl, own_downC ho (Nat.zero_le _)⟩)
    · intro ls vs a w1 hi hJ hold hdep K hK
      obtain ⟨hl29, q58, p58⟩ := hdep 29 58 (by kernel_rfl) (by kernel_rfl)
      obtain ⟨hl31, q60, p60⟩ := hdep 31 60 (by kernel_rfl) (by kernel_rfl)
      have q56 : a.tmps[56]?.getD undef = .bool G4 := (hdep 27 56 (by kernel_rfl) (by kernel_rfl)).2.1.trans (hdep 27 56 (by kernel_rfl) (by kernel_rfl)).2.2
      clear hold hdep hend o3 o4 o5
      rw [wanted_of rfl (by kernel_rfl) q56]
      cases G4
      case true =>
        rw [if_neg (by decide)]
        exact hK _ _ (fun _ _ _ h => h) hJ rfl
      rw [if_pos (by rfl)]
      obtain ⟨h6, i6, h10, i10, k1, k2⟩ := p58 rfl
      rw [k1] at q58
      obtain ⟨ca, cc, k3, k4⟩ := p60 rfl
      rw [k3] at q60
      have hcc := checkCampaigns ha ⟨some ⟨h6, 0, none⟩, i6, some ⟨h10, 0, none⟩, i10⟩ l ca cc w1 k2 k4.camps.1
      rw [HEV.out] at hcc
      go_simp
      go_at_call 37
      (with_reducible refine hcc.mono ?_); rintro e w20 ⟨rfl, he2⟩
      exact hK _ _ (fun j u _ h => by
            match j, h with
            | 0, h | 1, h | 2, h | 3, h | 4, h | 5, h | 6, h | 7, h | 8, h | 9, h | 10, h | 11, h | 12, h | 13, h | 14, h | 15, h | 16, h | 17, h | 18, h | 19, h | 20, h | 21, h | 22, h | 23, h | 24, h | 25, h | 26, h | 27, h | 28, h | 30, h | 32, h | 33, h | 34, h | 35, h | 36, h | 37, h | 38, h | 39, h | 40, h | 41, h | 42, h | 43, h | 44, h | 45, h | 46, h | 47, h | 48, h | 49, h | 50, h | 51, h | 52, h | 53, h | 54, h => exact h
            | 29, h => (intro e; obtain ⟨a1, a2, a3, a4, h1, h2⟩ := h e; exact ⟨a1, a2, a3, a4, h1, h2.ext he2⟩)
            | 31, h => (intro e; obtain ⟨a1, a2, h1, h2⟩ := h e; exact ⟨a1, a2, h1, own_ext h2 he2⟩)
            | (n + 55), h => exact h) (hJ.trans he2) rfl
    · intro ls vs a w1 hi hJ hold hdep K hK
      have q61 : a.tmps[61]?.getD undef = gv (!G4) (.int .i64 ev) := (hdep 32 61 (by kernel_rfl) (by kernel_rfl)).2.1.trans (hdep 32 61 (by kernel_rfl) (by kernel_rfl)).2.2
      have q56 : a.tmps[56]?.getD undef = .bool G4 := (hdep 27 56 (by kernel_rfl) (by kernel_rfl)).2.1.trans (hdep 27 56 (by kernel_rfl) (by kernel_rfl)).2.2
      clear hold hdep hend o3 o4 o5
      rw [wanted_of rfl (by kernel_rfl) q56]
      cases G4
      case true =>
        rw [if_neg (by decide)]
        exact hK _ _ (fun _ _ _ h => h) hJ rfl
      rw [if_pos (by rfl)]
      simp only [Bool.not_false, Bool.not_true, gv_true, gv_false] at q61
      go_simp
      exact hK _ _ (fun _ _ _ h => h) hJ (congrArg Value.bool HC6.out)
    · intro ls vs a w1 hi hJ hold hdep K hK
      have q56 : a.tmps[56]?.getD undef = .bool G4 := (hdep 27 56 (by kernel_rfl) (by kernel_rfl)).2.1.trans (hdep 27 56 (by kernel_rfl) (by kernel_rfl)).2.2
      have q62 : a.tmps[62]?.getD undef = gv (!G4) (.bool C6) := (hdep 33 62 (by kernel_rfl) (by kernel_rfl)).2.1.trans (hdep 33 62 (by kernel_rfl) (by kernel_rfl)).2.2
      rw [if_pos (by rfl)]
      clear hold hdep hend o3 o4 o5
      cases G4
      · simp only [Bool.not_false, gv_true] at q62
        go_simp
        exact hK _ _ (fun _ _ _ h => h) hJ (congrArg Value.bool HG5.out)
      · go_simp
        exact hK _ _ (fun _ _ _ h => h) hJ (congrArg Value.bool HG5.out)
    · intro ls vs a w1 hi hJ hold hdep K hK
      have q63 : a.tmps[63]?.getD undef = .bool G5 := (hdep 34 63 (by kernel_rfl) (by kernel_rfl)).2.1.trans (hdep 34 63 (by kernel_rfl) (by kernel_rfl)).2.2
      rw [if_pos (by rfl)]
      clear hold hdep hend o3 o4 o5
      go_simp
      exact hK _ _ (fun _ _ _ h => h) hJ rfl
    · intro ls vs a w1 hi hJ hold hdep K hK
      have q5 : a.tmps[5]?.getD undef = .pointer (some ⟨w.heap.size + 2, 0, none⟩) := (hold 5 (by kernel_rfl)).trans o5
      have q64 : a.tmps[64]?.getD undef = .bool G5 := (hdep 35 64 (by kernel_rfl) (by kernel_rfl)).2.1.trans (hdep 35 64 (by kernel_rfl) (by kernel_rfl)).2.2
      clear hold hdep hend o3 o4 o5
      rw [wanted_of rfl (by kernel_rfl) q64]
      cases G5
      case true =>
        rw [if_neg (by decide)]
        exact hK _ _ (fun _ _ _ h => h) hJ rfl
      rw [if_pos (by rfl)]
      go_simp
      exact hK _ _ (fun _ _ _ h => h) hJ rfl
    · intro ls vs a w1 hi hJ hold hdep K hK
      have q65 : a.tmps[65]?.getD undef = gv (!G5) (.pointer (some ⟨w.heap.size + 2, 0, none⟩)) := (hdep 36 65 (by kernel_rfl) (by kernel_rfl)).2.1.trans (hdep 36 65 (by kernel_rfl) (by kernel_rfl)).2.2
      have q64 : a.tmps[64]?.getD undef = .bool G5 := (hdep 35 64 (by kernel_rfl) (by kernel_rfl)).2.1.trans (hdep 35 64 (by kernel_rfl) (by kernel_rfl)).2.2
      clear hold hdep hend o3 o4 o5
      rw [wanted_of rfl (by kernel_rfl) q64]
      cases G5
      case true =>
        rw [if_neg (by decide)]
        exact hK _ _ (fun _ _ _ h => h) hJ rfl
      rw [if_pos (by rfl)]
      simp only [Bool.not_false, Bool.not_true, gv_true, gv_false] at q65
      have hz1 := hr.trans hJ
      go_simp
      exact hK _ _ (fun _ _ _ h => h) hJ rfl
    · intro ls vs a w1 hi hJ hold hdep K hK
      have q66 : a.tmps[66]?.getD undef = gv (!G5) (.slice pa pn pc) := (hdep 37 66 (by kernel_rfl) (by kernel_rfl)).2.1.trans (hdep 37 66 (by kernel_rfl) (by kernel_rfl)).2.2
      have q64 : a.tmps[64]?.getD undef = .bool G5 := (hdep 35 64 (by kernel_rfl) (by kernel_rfl)).2.1.trans (hdep 35 64 (by kernel_rfl) (by kernel_rfl)).2.2
      clear hold hdep hend o3 o4 o5
      rw [wanted_of rfl (by kernel_rfl) q64]
      cases G5
      case true =>
        rw [if_neg (by decide)]
        exact hK _ _ (fun _ _ _ h => h) hJ rfl
      rw [if_pos (by rfl)]
      simp only [Bool.not_false, Bool.not_true, gv_true, gv_false] at q66
      go_simp
      exact hK _ _ (fun _ _ _ h => h) hJ rfl
    · intro ls vs a w1 hi hJ hold hdep K hK
      have q4 : a.tmps[4]?.getD undef = .pointer (some ⟨w.heap.size + 1, 0, none⟩) := (hold 4 (by kernel_rfl)).trans o4
      have q64 : a.tmps[64]?.getD undef = .bool G5 := (hdep 35 64 (by kernel_rfl) (by kernel_rfl)).2.1.trans (hdep 35 64 (by kernel_rfl) (by kernel_rfl)).2.2
      clear hold hdep hend o3 o4 o5
      rw [wanted_of rfl (by kernel_rfl) q64]
      cases G5
      case true =>
        rw [if_neg (by decide)]
        exact hK _ _ (fun _ _ _ h => h) hJ rfl
      rw [if_pos (by rfl)]
      have hz1 := hr.trans hJ
      go_simp
      exact hK _ _ (fun _ _ _ h => h) hJ rfl
    · intro ls vs a w1 hi hJ hold hdep K hK
      have q68 : a.tmps[68]?.getD undef = gv (!G5) (.slice la l.length lc) := (hdep 39 68 (by kernel_rfl) (by kernel_rfl)).2.1.trans (hdep 39 68 (by kernel_rfl) (by kernel_rfl)).2.2
      have q64 : a.tmps[64]?.getD undef = .bool G5 := (hdep 35 64 (by kernel_rfl) (by kernel_rfl)).2.1.trans (hdep 35 64 (by kernel_rfl) (by kernel_rfl)).2.2
      clear hold hdep hend o3 o4 o5
      rw [wanted_of rfl (by kernel_rfl) q64]
      cases G5
      case true =>
        rw [if_neg (by decide)]
        exact hK _ _ (fun _ _ _ h => h) hJ rfl
      rw [if_pos (by rfl)]
      simp only [Bool.not_false, Bool.not_true, gv_true, gv_false] at q68
      go_simp
      exact hK _ _ (fun _ _ _ h => h) hJ rfl
    · intro ls vs a w1 hi hJ hold hdep K hK
      have q67 : a.tmps[67]?.getD undef = gv (!G5) (.int .i64 pn) := (hdep 38 67 (by kernel_rfl) (by kernel_rfl)).2.1.trans (hdep 38 67 (by kernel_rfl) (by kernel_rfl)).2.2
      have q69 : a.tmps[69]?.getD undef = gv (!G5) (.int .i64 l.length) := (hdep 40 69 (by kernel_rfl) (by kernel_rfl)).2.1.trans (hdep 40 69 (by kernel_rfl) (by kernel_rfl)).2.2
      have q64 : a.tmps[64]?.getD undef = .bool G5 := (hdep 35 64 (by kernel_rfl) (by kernel_rfl)).2.1.trans (hdep 35 64 (by kernel_rfl) (by kernel_rfl)).2.2
      clear hold hdep hend o3 o4 o5
      rw [wanted_of rfl (by kernel_rfl) q64]
      cases G5
      case true =>
        rw [if_neg (by decide)]
        exact hK _ _ (fun _ _ _ h => h) hJ rfl
      rw [if_pos (by rfl)]
      simp only [Bool.not_false, Bool.not_true, gv_true, gv_false] at q67
      simp only [Bool.not_false, Bool.not_true, gv_true, gv_false] at q69
      go_simp
      exact hK _ _ (fun _ _ _ h => h) hJ (congrArg Value.bool HC7.out)
    · intro ls vs a w1 hi hJ hold hdep K hK
      have q64 : a.tmps[64]?.getD undef = .bool G5 := (hdep 35 64 (by kernel_rfl) (by kernel_rfl)).2.1.trans (hdep 35 64 (by kernel_rfl) (by kernel_rfl)).2.2
      have q70 : a.tmps[70]?.getD undef = gv (!G5) (.bool C7) := (hdep 41 70 (by kernel_rfl) (by kernel_rfl)).2.1.trans (hdep 41 70 (by kernel_rfl) (by kernel_rfl)).2.2
      rw [if_pos (by rfl)]
      clear hold hdep hend o3 o4 o5
      cases G5
      · simp only [Bool.not_false, gv_true] at q70
        go_simp
        exact hK _ _ (fun _ _ _ h => h) hJ (congrArg Value.bool HG6.out)
      · go_simp
        exact hK _ _ (fun _ _ _ h => h) hJ (congrArg Value.bool HG6.out)
    · intro ls vs a w1 hi hJ hold hdep K hK
      have q71 : a.tmps[71]?.getD undef = .bool G6 := (hdep 42 71 (by kernel_rfl) (by kernel_rfl)).2.1.trans (hdep 42 71 (by kernel_rfl) (by kernel_rfl)).2.2
      rw [if_pos (by rfl)]
      clear hold hdep hend o3 o4 o5
      go_simp
      exact hK _ _ (fun _ _ _ h => h) hJ rfl
    · intro ls vs a w1 hi hJ hold hdep K hK
      have q5 : a.tmps[5]?.getD undef = .pointer (some ⟨w.heap.size + 2, 0, none⟩) := (hold 5 (by kernel_rfl)).trans o5
      have q72 : a.tmps[72]?.getD undef = .bool G6 := (hdep 43 72 (by kernel_rfl) (by kernel_rfl)).2.1.trans (hdep 43 72 (by kernel_rfl) (by kernel_rfl)).2.2
      clear hold hdep hend o3 o4 o5
      rw [wanted_of rfl (by kernel_rfl) q72]
      cases G6
      case true =>
        rw [if_neg (by decide)]
        exact hK _ _ (fun _ _ _ h => h) hJ rfl
      rw [if_pos (by rfl)]
      go_simp
      exact hK _ _ (fun _ _ _ h => h) hJ rfl
    · intro ls vs a w1 hi hJ hold hdep K hK
      have q73 : a.tmps[73]?.getD undef = gv (!G6) (.pointer (some ⟨w.heap.size + 2, 1, none⟩)) := (hdep 44 73 (by kernel_rfl) (by kernel_rfl)).2.1.trans (hdep 44 73 (by kernel_rfl) (by kernel_rfl)).2.2
      have q72 : a.tmps[72]?.getD undef = .bool G6 := (hdep 43 72 (by kernel_rfl) (by kernel_rfl)).2.1.trans (hdep 43 72 (by kernel_rfl) (by kernel_rfl)).2.2
      clear hold hdep hend o3 o4 o5
      rw [wanted_of rfl (by kernel_rfl) q72]
      cases G6
      case true =>
        rw [if_neg (by decide)]
        exact hK _ _ (fun _ _ _ h => h) hJ rfl
      rw [if_pos (by rfl)]
      simp only [Bool.not_false, Bool.not_true, gv_true, gv_false] at q73
      have hz1 := hr.trans hJ
      go_simp
      exact hK _ _ (fun _ _ _ h => h) hJ rfl
    · intro ls vs a w1 hi hJ hold hdep K hK
      have q74 : a.tmps[74]?.getD undef = gv (!G6) (.int .i64 now) := (hdep 45 74 (by kernel_rfl) (by kernel_rfl)).2.1.trans (hdep 45 74 (by kernel_rfl) (by kernel_rfl)).2.2
      have q72 : a.tmps[72]?.getD undef = .bool G6 := (hdep 43 72 (by kernel_rfl) (by kernel_rfl)).2.1.trans (hdep 43 72 (by kernel_rfl) (by kernel_rfl)).2.2
      clear hold hdep hend o3 o4 o5
      rw [wanted_of rfl (by kernel_rfl) q72]
      cases G6
      case true =>
        rw [if_neg (by decide)]
        exact hK _ _ (fun _ _ _ h => h) hJ rfl
      rw [if_pos (by rfl)]
      simp only [Bool.not_false, Bool.not_true, gv_true, gv_false] at q74
      go_simp
      exact hK _ _ (fun _ _ _ h => h) hJ (congrArg Value.bool HC8.out)
    · intro ls vs a w1 hi hJ hold hdep K hK
      have q72 : a.tmps[72]?.getD undef = .bool G6 := (hdep 43 72 (by kernel_rfl) (by kernel_rfl)).2.1.trans (hdep 43 72 (by kernel_rfl) (by kernel_rfl)).2.2
      have q75 : a.tmps[75]?.getD undef = gv (!G6) (.bool C8) := (hdep 46 75 (by kernel_rfl) (by kernel_rfl)).2.1.trans (hdep 46 75 (by kernel_rfl) (by kernel_rfl)).2.2
      rw [if_pos (by rfl)]
      clear hold hdep hend o3 o4 o5
      cases G6
      · simp only [Bool.not_false, gv_true] at q75
        go_simp
        exact hK _ _ (fun _ _ _ h => h) hJ (congrArg Value.bool HG7.out)
      · go_simp
        exact hK _ _ (fun _ _ _ h => h) hJ (congrArg Value.bool HG7.out)
    · intro ls vs a w1 hi hJ hold hdep K hK
      have q76 : a.tmps[76]?.getD undef = .bool G7 := (hdep 47 76 (by kernel_rfl) (by kernel_rfl)).2.1.trans (hdep 47 76 (by kernel_rfl) (by kernel_rfl)).2.2
      rw [if_pos (by rfl)]
      clear hold hdep hend o3 o4 o5
      go_simp
      exact hK _ _ (fun _ _ _ h => h) hJ rfl
    · intro ls vs a w1 hi hJ hold hdep K hK
      have q5 : a.tmps[5]?.getD undef = .pointer (some ⟨w.heap.size + 2, 0, none⟩) := (hold 5 (by kernel_rfl)).trans o5
      have q77 : a.tmps[77]?.getD undef = .bool G7 := (hdep 48 77 (by kernel_rfl) (by kernel_rfl)).2.1.trans (hdep 48 77 (by kernel_rfl) (by kernel_rfl)).2.2
      clear hold hdep hend o3 o4 o5
      rw [wanted_of rfl (by kernel_rfl) q77]
      cases G7
      case true =>
        rw [if_neg (by decide)]
        exact hK _ _ (fun _ _ _ h => h) hJ rfl
      rw [if_pos (by rfl)]
      go_simp
      exact hK _ _ (fun _ _ _ h => h) hJ rfl
    · intro ls vs a w1 hi hJ hold hdep K hK
      have q78 : a.tmps[78]?.getD undef = gv (!G7) (.pointer (some ⟨w.heap.size + 2, 1, none⟩)) := (hdep 49 78 (by kernel_rfl) (by kernel_rfl)).2.1.trans (hdep 49 78 (by kernel_rfl) (by kernel_rfl)).2.2
      have q77 : a.tmps[77]?.getD undef = .bool G7 := (hdep 48 77 (by kernel_rfl) (by kernel_rfl)).2.1.trans (hdep 48 77 (by kernel_rfl) (by kernel_rfl)).2.2
      clear hold hdep hend o3 o4 o5
      rw [wanted_of rfl (by kernel_rfl) q77]
      cases G7
      case true =>
        rw [if_neg (by decide)]
        exact hK _ _ (fun _ _ _ h => h) hJ rfl
      rw [if_pos (by rfl)]
      simp only [Bool.not_false, Bool.not_true, gv_true, gv_false] at q78
      have hz1 := hr.trans hJ
      go_simp
      exact hK _ _ (fun _ _ _ h => h) hJ rfl
    · intro ls vs a w1 hi hJ hold hdep K hK
      have q3 : a.tmps[3]?.getD undef = .pointer (some ⟨w.heap.size, 0, none⟩) := (hold 3 (by kernel_rfl)).trans o3
      have q77 : a.tmps[77]?.getD undef = .bool G7 := (hdep 48 77 (by kernel_rfl) (by kernel_rfl)).2.1.trans (hdep 48 77 (by kernel_rfl) (by kernel_rfl)).2.2
      clear hold hdep hend o3 o4 o5
      rw [wanted_of rfl (by kernel_rfl) q77]
      cases G7
      case true =>
        rw [if_neg (by decide)]
        exact hK _ _ (fun _ _ _ h => h) hJ rfl
      rw [if_pos (by rfl)]
      go_simp
      exact hK _ _ (fun _ _ _ h => h) hJ rfl
    · intro ls vs a w1 hi hJ hold hdep K hK
      have q80 : a.tmps[80]?.getD undef = gv (!G7) (.pointer (some ⟨w.heap.size, 2, none⟩)) := (hdep 51 80 (by kernel_rfl) (by kernel_rfl)).2.1.trans (hdep 51 80 (by kernel_rfl) (by kernel_rfl)).2.2
      have q77 : a.tmps[77]?.getD undef = .bool G7 := (hdep 48 77 (by kernel_rfl) (by kernel_rfl)).2.1.trans (hdep 48 77 (by kernel_rfl) (by kernel_rfl)).2.2
      clear hold hdep hend o3 o4 o5
      rw [wanted_of rfl (by kernel_rfl) q77]
      cases G7
      case true =>
        rw [if_neg (by decide)]
        exact hK _ _ (fun _ _ _ h => h) hJ rfl
      rw [if_pos (by rfl)]
      simp only [Bool.not_false, Bool.not_true, gv_true, gv_false] at q80
      have hz1 := hr.trans hJ
      go_simp
      exact hK _ _ (fun _ _ _ h => h) hJ rfl
    · intro ls vs a w1 hi hJ hold hdep K hK
      have q81 : a.tmps[81]?.getD undef = gv (!G7) (.slice sa ha.st.length sc) := (hdep 52 81 (by kernel_rfl) (by kernel_rfl)).2.1.trans (hdep 52 81 (by kernel_rfl) (by kernel_rfl)).2.2
      have q77 : a.tmps[77]?.getD undef = .bool G7 := (hdep 48 77 (by kernel_rfl) (by kernel_rfl)).2.1.trans (hdep 48 77 (by kernel_rfl) (by kernel_rfl)).2.2
      clear hold hdep hend o3 o4 o5
      rw [wanted_of rfl (by kernel_rfl) q77]
      cases G7
      case true =>
        rw [if_neg (by decide)]
        exact hK _ _ (fun _ _ _ h => h) hJ rfl
      rw [if_pos (by rfl)]
      simp only [Bool.not_false, Bool.not_true, gv_true, gv_false] at q81
      go_simp
      exact hK _ _ (fun _ _ _ h => h) hJ rfl
    · intro ls vs a w1 hi hJ hold hdep K hK
      have q79 : a.tmps[79]?.getD undef = gv (!G7) (.int .i64 now) := (hdep 50 79 (by kernel_rfl) (by kernel_rfl)).2.1.trans (hdep 50 79 (by kernel_rfl) (by kernel_rfl)).2.2
      have q82 : a.tmps[82]?.getD undef = gv (!G7) (.int .i64 ha.st.length) := (hdep 53 82 (by kernel_rfl) (by kernel_rfl)).2.1.trans (hdep 53 82 (by kernel_rfl) (by kernel_rfl)).2.2
      have q77 : a.tmps[77]?.getD undef = .bool G7 := (hdep 48 77 (by kernel_rfl) (by kernel_rfl)).2.1.trans (hdep 48 77 (by kernel_rfl) (by kernel_rfl)).2.2
      clear hold hdep hend o3 o4 o5
      rw [wanted_of rfl (by kernel_rfl) q77]
      cases G7
      case true =>
        rw [if_neg (by decide)]
        exact hK _ _ (fun _ _ _ h => h) hJ rfl
      rw [if_pos (by rfl)]
      simp only [Bool.not_false, Bool.not_true, gv_true, gv_false] at q79
      simp only [Bool.not_false, Bool.not_true, gv_true, gv_false] at q82
      go_simp
      exact hK _ _ (fun _ _ _ h => h) hJ (congrArg Value.bool HC9.out)
    · intro ls vs a w1 hi hJ hold hdep K hK
      have q77 : a.tmps[77]?.getD undef = .bool G7 := (hdep 48 77 (by kernel_rfl) (by kernel_rfl)).2.1.trans (hdep 48 77 (by kernel_rfl) (by kernel_rfl)).2.2
      have q83 : a.tmps[83]?.getD undef = gv (!G7) (.bool C9) := (hdep 54 83 (by kernel_rfl) (by kernel_rfl)).2.1.trans (hdep 54 83 (by kernel_rfl) (by kernel_rfl)).2.2
      rw [if_pos (by rfl)]
      clear hold hdep hend o3 o4 o5
      cases G7
      · simp only [Bool.not_false, gv_true] at q83
        go_simp
        exact hK _ _ (fun _ _ _ h => h) hJ (congrArg Value.bool HG8.out)
      · go_simp
        exact hK _ _ (fun _ _ _ h => h) hJ (congrArg Value.bool HG8.out)
  · intro vs w9 ls9 hl9 hJ9 hφ
    have e0 := hφ 0 (by kernel_rfl)
    have e1 := hφ 1 (by kernel_rfl)
    have e2 := hφ 2 (by kernel_rfl)
    have e3 := hφ 3 (by kernel_rfl)
    have e4 := hφ 4 (by kernel_rfl)
    have e5 := hφ 5 (by kernel_rfl)
    have e6 := hφ 6 (by kernel_rfl)
    have e7 := hφ 7 (by kernel_rfl)
    have e8 := hφ 8 (by kernel_rfl)
    have e9 := hφ 9 (by kernel_rfl)
    have e10 := hφ 10 (by kernel_rfl)
    have e11 := hφ 11 (by kernel_rfl)
    have e12 := hφ 12 (by kernel_rfl)
    have e13 := hφ 13 (by kernel_rfl)
    have e14 := hφ 14 (by kernel_rfl)
    have e15 := hφ 15 (by kernel_rfl)
    have e16 := hφ 16 (by kernel_rfl)
    have e17 := hφ 17 (by kernel_rfl)
    have e18 := hφ 18 (by kernel_rfl)
    have e19 := hφ 19 (by kernel_rfl)
    have e20 := hφ 20 (by kernel_rfl)
    have e21 := hφ 21 (by kernel_rfl)
    have e22 := hφ 22 (by kernel_rfl)
    have e23 := hφ 23 (by kernel_rfl)
    have e24 := hφ 24 (by kernel_rfl)
    have e25 := hφ 25 (by kernel_rfl)
    have e26 := hφ 26 (by kernel_rfl)
    have e27 := hφ 27 (by kernel_rfl)
    have e28 := hφ 28 (by kernel_rfl)
    have e29 := hφ 29 (by kernel_rfl)
    have e30 := hφ 30 (by kernel_rfl)
    have e31 := hφ 31 (by kernel_rfl)
    have e32 := hφ 32 (by kernel_rfl)
    have e33 := hφ 33 (by kernel_rfl)
    have e34 := hφ 34 (by kernel_rfl)
    have e35 := hφ 35 (by kernel_rfl)
    have e36 := hφ 36 (by kernel_rfl)
    have e37 := hφ 37 (by kernel_rfl)
    have e38 := hφ 38 (by kernel_rfl)
    have e39 := hφ 39 (by kernel_rfl)
    have e40 := hφ 40 (by kernel_rfl)
    have e41 := hφ 41 (by kernel_rfl)
    have e42 := hφ 42 (by kernel_rfl)
    have e43 := hφ 43 (by kernel_rfl)
    have e44 := hφ 44 (by kernel_rfl)
    have e45 := hφ 45 (by kernel_rfl)
    have e46 := hφ 46 (by kernel_rfl)
    have e47 := hφ 47 (by kernel_rfl)
    have e48 := hφ 48 (by kernel_rfl)
    have e49 := hφ 49 (by kernel_rfl)
    have e50 := hφ 50 (by kernel_rfl)
    have e51 := hφ 51 (by kernel_rfl)
    have e52 := hφ 52 (by kernel_rfl)
    have e53 := hφ 53 (by kernel_rfl)
    have e54 := hφ 54 (by kernel_rfl)
    have e55 := hφ 55 (by kernel_rfl)
    have hq := hend vs w9 ls9 hl9 hJ9 e0 e1 e2 e3 e4 e5 e6 e7 e8 e9 e10 e11 e12 e13 e14 e15 e16 e17 e18 e19 e20 e21 e22 e23 e24 e25 e26 e27 e28 e29 e30 e31 e32 e33 e34 e35 e36 e37 e38 e39 e40 e41 e42 e43 e44 e45 e46 e47 e48 e49 e50 e51 e52 e53 e54 e55
    simp only [Act.put] at hq
    simp only [putAll, Act.put]
    exact hq

set_option maxRecDepth 100000 in
set_option maxHeartbeats 4000000 in
theorem s4_law {l : List Camp} {la ra : Option Addr} {lc np rc : Nat} {rv : Int} {V U X1 Z Q1 Y X4 : Bool} {w w1 wX : World} (he : Ext w w1) (hr : Ext w1 wX) (l0 : ∀ W, Ext w1 W → W.cell? ⟨w.heap.size + 1, 0, none⟩ = some (.slice la l.length lc)) (HV : Hid ((rv != 0) = V)) (HU : Hid ((rv != 101) = U)) (HX1 : Hid ((V && U) = X1)) (HZ : Hid ((rv == 0) = Z)) (HQ : Hid (((np : Int) != (l.length : Int)) = Q1)) (HY : Hid ((Z && Q1) = Y)) (HX4 : Hid ((X1 || Y) = X4)) {Q : Exit → Act → World → Prop} (aZ : Act) (hsz : aZ.tmps.size = 317) (o4 : aZ.tmps[4]?.getD undef = .pointer (some ⟨w.heap.size + 1, 0, none⟩)) (o7 : aZ.tmps[7]?.getD undef = .slice ra np rc) (o9 : aZ.tmps[9]?.getD undef = .int .i64 rv)
    (hend : ∀ (vs : Nat → Value) (w9 : World) (ls9 : Nat → Bool), (∀ j : Nat, j < 17 → ls9 j = true) → (Ext wX w9) → (vs 0 = .int .i64 rv) → (vs 1 = .bool V) → (vs 2 = .bool V) → (vs 3 = gv V (.int .i64 rv)) → (vs 4 = gv V (.bool U)) → (vs 5 = .bool X1) → (vs 6 = .bool X1) → (vs 7 = gv (!X1) (.int .i64 rv)) → (vs 8 = gv (!X1) (.bool Z)) → (vs 9 = gv (!X1) (.bool Z)) → (vs 10 = gv (!X1) (gv Z (.slice ra np rc))) → (vs 11 = gv (!X1) (gv Z (.int .i64 np))) → (vs 12 = gv (!X1) (gv Z (.slice la l.length lc))) → (vs 13 = gv (!X1) (gv Z (.int .i64 l.length))) → (vs 14 = gv (!X1) (gv Z (.bool Q1))) → (vs 15 = gv (!X1) (.bool Y)) → (vs 16 = .bool X4) → Q .normal (((((((((((((((((aZ.put (some 100) (vs 0)).put (some 101) (vs 1)).put (some 102) (vs 2)).put (some 103) (vs 3)).put (some 104) (vs 4)).put (some 105) (vs 5)).put (some 106) (vs 6)).put (some 107) (vs 7)).put (some 108) (vs 8)).put (some 109) (vs 9)).put (some 110) (vs 10)).put (some 111) (vs 11)).put (some 112) (vs 12)).put (some 113) (vs 13)).put (some 114) (vs 14)).put (some 115) (vs 15)).put (some 116) (vs 16)) w9) : (regOf Try.f9 4).wp Try.prog Q aZ wX := by
  conv => arg 2; whnf
  refine wp_region_seq3 (fun i v wz => match i with
    | 0 => v = .int .i64 rv
    | 1 => v = .bool V
    | 2 => v = .bool V
    | 3 => v = gv V (.int .i64 rv)
    | 4 => v = gv V (.bool U)
    | 5 => v = .bool X1
    | 6 => v = .bool X1
    | 7 => v = gv (!X1) (.int .i64 rv)
    | 8 => v = gv (!X1) (.bool Z)
    | 9 => v = gv (!X1) (.bool Z)
    | 10 => v = gv (!X1) (gv Z (.slice ra np rc))
    | 11 => v = gv (!X1) (gv Z (.int .i64 np))
    | 12 => v = gv (!X1) (gv Z (.slice la l.length lc))
    | 13 => v = gv (!X1) (gv Z (.int .i64 l.length))
    | 14 => v = gv (!X1) (gv Z (.bool Q1))
    | 15 => v = gv (!X1) (.bool Y)
    | _ => v = .bool X4) (fun ls vs wz => Ext wX wz) (by kernel_rfl) (by rw [hsz]; kernel_rfl) ?_ ?_ ?_
  · exact Ext.refl _
  · refine ⟨?_, ?_, ?_, ?_, ?_, ?_, ?_, ?_, ?_, ?_, ?_, ?_, ?_, ?_, ?_, ?_, ?_, trivial⟩
    · intro ls vs a w1 hi hJ hold hdep K hK
      have q9 : a.tmps[9]?.getD undef = .int .i64 rv := (hold 9 (by kernel_rfl)).trans o9
      rw [if_pos (by rfl)]
      clear hold hdep hend o4 o7 o9
      go_simp
      exact hK _ _ (fun _ _ _ h => h) hJ rfl
    · intro ls vs a w1 hi hJ hold hdep K hK
      have q100 : a.tmps[100]?.getD undef = .int .i64 rv := (hdep 0 100 (by kernel_rfl) (by kernel_rfl)).2.1.trans (hdep 0 100 (by kernel_rfl) (by kernel_rfl)).2.2
      rw [if_pos (by rfl)]
      clear hold hdep hend o4 o7 o9
      go_simp
      exact hK _ _ (fun _ _ _ h => h) hJ (congrArg Value.bool HV.out)
    · intro ls vs a w1 hi hJ hold hdep K hK
      have q101 : a.tmps[101]?.getD undef = .bool V := (hdep 1 101 (by kernel_rfl) (by kernel_rfl)).2.1.trans (hdep 1 101 (by kernel_rfl) (by kernel_rfl)).2.2
      rw [if_pos (by rfl)]
      clear hold hdep hend o4 o7 o9
      go_simp
      exact hK _ _ (fun _ _ _ h => h) hJ rfl
    · intro ls vs a w1 hi hJ hold hdep K hK
      have q9 : a.tmps[9]?.getD undef = .int .i64 rv := (hold 9 (by kernel_rfl)).trans o9
      have q102 : a.tmps[102]?.getD undef = .bool V := (hdep 2 102 (by kernel_rfl) (by kernel_rfl)).2.1.trans (hdep 2 102 (by kernel_rfl) (by kernel_rfl)).2.2
      clear hold hdep hend o4 o7 o9
      rw [wanted_of rfl (by kernel_rfl) q102]
      cases V
      case false =>
        rw [if_neg (by decide)]
        exact hK _ _ (fun _ _ _ h => h) hJ rfl
      rw [if_pos (by rfl)]
      go_simp
      exact hK _ _ (fun _ _ _ h => h) hJ rfl
    · intro ls vs a w1 hi hJ hold hdep K hK
      have q103 : a.tmps[103]?.getD undef = gv V (.int .i64 rv) := (hdep 3 103 (by kernel_rfl) (by kernel_rfl)).2.1.trans (hdep 3 103 (by kernel_rfl) (by kernel_rfl)).2.2
      have q102 : a.tmps[102]?.getD undef = .bool V := (hdep 2 102 (by kernel_rfl) (by kernel_rfl)).2.1.trans (hdep 2 102 (by kernel_rfl) (by kernel_rfl)).2.2
      clear hold hdep hend o4 o7 o9
      rw [wanted_of rfl (by kernel_rfl) q102]
      cases V
      case false =>
        rw [if_neg (by decide)]
        exact hK _ _ (fun _ _ _ h => h) hJ rfl
      rw [if_pos (by rfl)]
      simp only [Bool.not_false, Bool.not_true, gv_true, gv_false] at q103
      go_simp
      exact hK _ _ (fun _ _ _ h => h) hJ (congrArg Value.bool HU.out)
    · intro ls vs a w1 hi hJ hold hdep K hK
      have q102 : a.tmps[102]?.getD undef = .bool V := (hdep 2 102 (by kernel_rfl) (by kernel_rfl)).2.1.trans (hdep 2 102 (by kernel_rfl) (by kernel_rfl)).2.2
      have q104 : a.tmps[104]?.getD undef = gv V (.bool U) := (hdep 4 104 (by kernel_rfl) (by kernel_rfl)).2.1.trans (hdep 4 104 (by kernel_rfl) (by kernel_rfl)).2.2
      rw [if_pos (by rfl)]
      clear hold hdep hend o4 o7 o9
      cases V
      · go_simp
        exact hK _ _ (fun _ _ _ h => h) hJ (congrArg Value.bool HX1.out)
      · simp only [gv_true] at q104
        go_simp
        exact hK _ _ (fun _ _ _ h => h) hJ (congrArg Value.bool HX1.out)
    · intro ls vs a w1 hi hJ hold hdep K hK
      have q105 : a.tmps[105]?.getD undef = .bool X1 := (hdep 5 105 (by kernel_rfl) (by kernel_rfl)).2.1.trans (hdep 5 105 (by kernel_rfl) (by kernel_rfl)).2.2
      rw [if_pos (by rfl)]
      clear hold hdep hend o4 o7 o9
      go_simp
      exact hK _ _ (fun _ _ _ h => h) hJ rfl
    · intro ls vs a w1 hi hJ hold hdep K hK
      have q9 : a.tmps[9]?.getD undef = .int .i64 rv := (hold 9 (by kernel_rfl)).trans o9
      have q106 : a.tmps[106]?.getD undef = .bool X1 := (hdep 6 106 (by kernel_rfl) (by kernel_rfl)).2.1.trans (hdep 6 106 (by kernel_rfl) (by kernel_rfl)).2.2
      clear hold hdep hend o4 o7 o9
      rw [wanted_of rfl (by kernel_rfl) q106]
      cases X1
      case true =>
        rw [if_neg (by decide)]
        exact hK _ _ (fun _ _ _ h => h) hJ rfl
      rw [if_pos (by rfl)]
      go_simp
      exact hK _ _ (fun _ _ _ h => h) hJ rfl
    · intro ls vs a w1 hi hJ hold hdep K hK
      have q107 : a.tmps[107]?.getD undef = gv (!X1) (.int .i64 rv) := (hdep 7 107 (by kernel_rfl) (by kernel_rfl)).2.1.trans (hdep 7 107 (by kernel_rfl) (by kernel_rfl)).2.2
      have q106 : a.tmps[106]?.getD undef = .bool X1 := (hdep 6 106 (by kernel_rfl) (by kernel_rfl)).2.1.trans (hdep 6 106 (by kernel_rfl) (by kernel_rfl)).2.2
      clear hold hdep hend o4 o7 o9
      rw [wanted_of rfl (by kernel_rfl) q106]
      cases X1
      case true =>
        rw [if_neg (by decide)]
        exact hK _ _ (fun _ _ _ h => h) hJ rfl
      rw [if_pos (by rfl)]
      simp only [Bool.not_false, Bool.not_true, gv_true, gv_false] at q107
      go_simp
      exact hK _ _ (fun _ _ _ h => h) hJ (congrArg Value.bool HZ.out)
    · intro ls vs a w1 hi hJ hold hdep K hK
      have q108 : a.tmps[108]?.getD undef = gv (!X1) (.bool Z) := (hdep 8 108 (by kernel_rfl) (by kernel_rfl)).2.1.trans (hdep 8 108 (by kernel_rfl) (by kernel_rfl)).2.2
      have q106 : a.tmps[106]?.getD undef = .bool X1 := (hdep 6 106 (by kernel_rfl) (by kernel_rfl)).2.1.trans (hdep 6 106 (by kernel_rfl) (by kernel_rfl)).2.2
      clear hold hdep hend o4 o7 o9
      rw [wanted_of rfl (by kernel_rfl) q106]
      cases X1
      case true =>
        rw [if_neg (by decide)]
        exact hK _ _ (fun _ _ _ h => h) hJ rfl
      rw [if_pos (by rfl)]
      simp only [Bool.not_false, Bool.not_true, gv_true, gv_false] at q108
      go_simp
      exact hK _ _ (fun _ _ _ h => h) hJ rfl
    · intro ls vs a w1 hi hJ hold hdep K hK
      have q7 : a.tmps[7]?.getD undef = .slice ra np rc := (hold 7 (by kernel_rfl)).trans o7
      have q109 : a.tmps[109]?.getD undef = gv (!X1) (.bool Z) := (hdep 9 109 (by kernel_rfl) (by kernel_rfl)).2.1.trans (hdep 9 109 (by kernel_rfl) (by kernel_rfl)).2.2
      clear hold hdep hend o4 o7 o9
      cases X1
      case true =>
        simp only [Bool.not_true, gv_false] at q109
        rw [wanted_none rfl (by kernel_rfl) q109, if_neg (by decide)]
        exact hK _ _ (fun _ _ _ h => h) hJ rfl
      simp only [Bool.not_false, gv_true] at q109
      rw [wanted_of rfl (by kernel_rfl) q109]
      cases Z
      case false =>
        rw [if_neg (by decide)]
        exact hK _ _ (fun _ _ _ h => h) hJ rfl
      rw [if_pos (by rfl)]
      go_simp
      exact hK _ _ (fun _ _ _ h => h) hJ rfl
    · intro ls vs a w1 hi hJ hold hdep K hK
      have q110 : a.tmps[110]?.getD undef = gv (!X1) (gv Z (.slice ra np rc)) := (hdep 10 110 (by kernel_rfl) (by kernel_rfl)).2.1.trans (hdep 10 110 (by kernel_rfl) (by kernel_rfl)).2.2
      have q109 : a.tmps[109]?.getD undef = gv (!X1) (.bool Z) := (hdep 9 109 (by kernel_rfl) (by kernel_rfl)).2.1.trans (hdep 9 109 (by kernel_rfl) (by kernel_rfl)).2.2
      clear hold hdep hend o4 o7 o9
      cases X1
      case true =>
        simp only [Bool.not_true, gv_false] at q109
        rw [wanted_none rfl (by kernel_rfl) q109, if_neg (by decide)]
        exact hK _ _ (fun _ _ _ h => h) hJ rfl
      simp only [Bool.not_false, gv_true] at q109
      rw [wanted_of rfl (by kernel_rfl) q109]
      cases Z
      case false =>
        rw [if_neg (by decide)]
        exact hK _ _ (fun _ _ _ h => h) hJ rfl
      rw [if_pos (by rfl)]
      simp only [Bool.not_false, Bool.not_true, gv_true, gv_false] at q110
      go_simp
      exact hK _ _ (fun _ _ _ h => h) hJ rfl
    · intro ls vs a w1 hi hJ hold hdep K hK
      have q4 : a.tmps[4]?.getD undef = .pointer (some ⟨w.heap.size + 1, 0, none⟩) := (hold 4 (by kernel_rfl)).trans o4
      have q109 : a.tmps[109]?.getD undef = gv (!X1) (.bool Z) := (hdep 9 109 (by kernel_rfl) (by kernel_rfl)).2.1.trans (hdep 9 109 (by kernel_rfl) (by kernel_rfl)).2.2
      clear hold hdep hend o4 o7 o9
      cases X1
      case true =>
        simp only [Bool.not_true, gv_false] at q109
        rw [wanted_none rfl (by kernel_rfl) q109, if_neg (by decide)]
        exact hK _ _ (fun _ _ _ h => h) hJ rfl
      simp only [Bool.not_false, gv_true] at q109
      rw [wanted_of rfl (by kernel_rfl) q109]
      cases Z
      case false =>
        rw [if_neg (by decide)]
        exact hK _ _ (fun _ _ _ h => h) hJ rfl
      rw [if_pos (by rfl)]
      have hz1 := hr.trans hJ
      go_simp
      exact hK _ _ (fun _ _ _ h => h) hJ rfl
    · intro ls vs a w1 hi hJ hold hdep K hK
      have q112 : a.tmps[112]?.getD undef = gv (!X1) (gv Z (.slice la l.length lc)) := (hdep 12 112 (by kernel_rfl) (by kernel_rfl)).2.1.trans (hdep 12 112 (by kernel_rfl) (by kernel_rfl)).2.2
      have q109 : a.tmps[109]?.getD undef = gv (!X1) (.bool Z) := (hdep 9 109 (by kernel_rfl) (by kernel_rfl)).2.1.trans (hdep 9 109 (by kernel_rfl) (by kernel_rfl)).2.2
      clear hold hdep hend o4 o7 o9
      cases X1
      case true =>
        simp only [Bool.not_true, gv_false] at q109
        rw [wanted_none rfl (by kernel_rfl) q109, if_neg (by decide)]
        exact hK _ _ (fun _ _ _ h => h) hJ rfl
      simp only [Bool.not_false, gv_true] at q109
      rw [wanted_of rfl (by kernel_rfl) q109]
      cases Z
      case false =>
        rw [if_neg (by decide)]
        exact hK _ _ (fun _ _ _ h => h) hJ rfl
      rw [if_pos (by rfl)]
      simp only [Bool.not_false, Bool.not_true, gv_true, gv_false] at q112
      go_simp
      exact hK _ _ (fun _ _ _ h => h) hJ rfl
    · intro ls vs a w1 hi hJ hold hdep K hK
      have q111 : a.tmps[111]?.getD undef = gv (!X1) (gv Z (.int .i64 np)) := (hdep 11 111 (by kernel_rfl) (by kernel_rfl)).2.1.trans (hdep 11 111 (by kernel_rfl) (by kernel_rfl)).2.2
      have q113 : a.tmps[113]?.getD undef = gv (!X1) (gv Z (.int .i64 l.length)) := (hdep 13 113 (by kernel_rfl) (by kernel_rfl)).2.1.trans (hdep 13 113 (by kernel_rfl) (by kernel_rfl)).2.2
      have q109 : a.tmps[109]?.getD undef = gv (!X1) (.bool Z) := (hdep 9 109 (by kernel_rfl) (by kernel_rfl)).2.1.trans (hdep 9 109 (by kernel_rfl) (by kernel_rfl)).2.2
      clear hold hdep hend o4 o7 o9
      cases X1
      case true =>
        simp only [Bool.not_true, gv_false] at q109
        rw [wanted_none rfl (by kernel_rfl) q109, if_neg (by decide)]
        exact hK _ _ (fun _ _ _ h => h) hJ rfl
      simp only [Bool.not_false, gv_true] at q109
      rw [wanted_of rfl (by kernel_rfl) q109]
      cases Z
      case false =>
        rw [if_neg (by decide)]
        exact hK _ _ (fun _ _ _ h => h) hJ rfl
      rw [if_pos (by rfl)]
      simp only [Bool.not_false, Bool.not_true, gv_true, gv_false] at q111
      simp only [Bool.not_false, Bool.not_true, gv_true, gv_false] at q113
      go_simp
      exact hK _ _ (fun _ _ _ h => h) hJ (congrArg Value.bool HQ.out)
    · intro ls vs a w1 hi hJ hold hdep K hK
      have q109 : a.tmps[109]?.getD undef = gv (!X1) (.bool Z) := (hdep 9 109 (by kernel_rfl) (by kernel_rfl)).2.1.trans (hdep 9 109 (by kernel_rfl) (by kernel_rfl)).2.2
      have q114 : a.tmps[114]?.getD undef = gv (!X1) (gv Z (.bool Q1)) := (hdep 14 114 (by kernel_rfl) (by kernel_rfl)).2.1.trans (hdep 14 114 (by kernel_rfl) (by kernel_rfl)).2.2
      have q106 : a.tmps[106]?.getD undef = .bool X1 := (hdep 6 106 (by kernel_rfl) (by kernel_rfl)).2.1.trans (hdep 6 106 (by kernel_rfl) (by kernel_rfl)).2.2
      clear hold hdep hend o4 o7 o9
      rw [wanted_of rfl (by kernel_rfl) q106]
      cases X1
      case true =>
        rw [if_neg (by decide)]
        exact hK _ _ (fun _ _ _ h => h) hJ rfl
      rw [if_pos (by rfl)]
      simp only [Bool.not_false, Bool.not_true, gv_true, gv_false] at q109
      simp only [Bool.not_false, Bool.not_true, gv_true, gv_false] at q114
      cases Z
      · go_simp
        exact hK _ _ (fun _ _ _ h => h) hJ (congrArg Value.bool HY.out)
      · simp only [gv_true] at q114
        go_simp
        exact hK _ _ (fun _ _ _ h => h) hJ (congrArg Value.bool HY.out)
    · intro ls vs a w1 hi hJ hold hdep K hK
      have q106 : a.tmps[106]?.getD undef = .bool X1 := (hdep 6 106 (by kernel_rfl) (by kernel_rfl)).2.1.trans (hdep 6 106 (by kernel_rfl) (by kernel_rfl)).2.2
      have q115 : a.tmps[115]?.getD undef = gv (!X1) (.bool Y) := (hdep 15 115 (by kernel_rfl) (by kernel_rfl)).2.1.trans (hdep 15 115 (by kernel_rfl) (by kernel_rfl)).2.2
      rw [if_pos (by rfl)]
      clear hold hdep hend o4 o7 o9
      cases X1
      · simp only [Bool.not_false, gv_true] at q115
        go_simp
        exact hK _ _ (fun _ _ _ h => h) hJ (congrArg Value.bool HX4.out)
      · go_simp
        exact hK _ _ (fun _ _ _ h => h) hJ (congrArg Value.bool HX4.out)
  · intro vs w9 ls9 hl9 hJ9 hφ
    have e0 := hφ 0 (by kernel_rfl)
    have e1 := hφ 1 (by kernel_rfl)
    have e2 := hφ 2 (by kernel_rfl)
    have e3 := hφ 3 (by kernel_rfl)
    have e4 := hφ 4 (by kernel_rfl)
    have e5 := hφ 5 (by kernel_rfl)
    have e6 := hφ 6 (by kernel_rfl)
    have e7 := hφ 7 (by kernel_rfl)
    have e8 := hφ 8 (by kernel_rfl)
    have e9 := hφ 9 (by kernel_rfl)
    have e10 := hφ 10 (by kernel_rfl)
    have e11 := hφ 11 (by kernel_rfl)
    have e12 := hφ 12 (by kernel_rfl)
    have e13 := hφ 13 (by kernel_rfl)
    have e14 := hφ 14 (by kernel_rfl)
    have e15 := hφ 15 (by kernel_rfl)
    have e16 := hφ 16 (by kernel_rfl)
    have hq := hend vs w9 ls9 hl9 hJ9 e0 e1 e2 e3 e4 e5 e6 e7 e8 e9 e10 e11 e12 e13 e14 e15 e16
    simp only [Act.put] at hq
    simp only [putAll, Act.put]
    exact hq

set_option maxRecDepth 100000 in
set_option maxHeartbeats 4000000 in
theorem s9_law {ra : Option Addr} {np rc : Nat} {kv : Int} {w wX : World} (HST : Hid (∀ W, Ext wX W → Calls Try.prog 38 #[.slice ra np rc, .pointer (some ⟨w.heap.size + 1, 0, none⟩), .pointer (some ⟨w.heap.size + 2, 0, none⟩)] W (Ret (.bool true) W))) {Q : Exit → Act → World → Prop} (aZ : Act) (hsz : aZ.tmps.size = 317) (o7 : aZ.tmps[7]?.getD undef = .slice ra np rc) (o8 : aZ.tmps[8]?.getD undef = .int .i64 kv) (o10 : aZ.tmps[10]?.getD undef = .func (.func 38) #[] #[.pointer (some ⟨w.heap.size + 1, 0, none⟩), .pointer (some ⟨w.heap.size + 2, 0, none⟩)]) (o11 : aZ.tmps[11]?.getD undef = .int .i64 kv) (o12 : aZ.tmps[12]?.getD undef = .int .i64 0)
    (hend : ∀ (vs : Nat → Value) (w9 : World) (ls9 : Nat → Bool), (∀ j : Nat, j < 13 → ls9 j = true) → (Ext wX w9) → (vs 0 = .int .i64 0) → (vs 1 = .bool false) → (vs 2 = .bool false) → (vs 3 = .int .i64 kv) → (vs 4 = .int .i64 kv) → (vs 5 = .bool false) → (vs 6 = .bool false) → (vs 7 = .bool false) → (vs 8 = .func (.func 38) #[] #[.pointer (some ⟨w.heap.size + 1, 0, none⟩), .pointer (some ⟨w.heap.size + 2, 0, none⟩)]) → (vs 9 = .slice ra np rc) → (vs 10 = .bool true) → (vs 11 = .bool false) → (vs 12 = .bool false) → Q .normal (((((((((((((aZ.put (some 130) (vs 0)).put (some 131) (vs 1)).put (some 132) (vs 2)).put (some 133) (vs 3)).put (some 134) (vs 4)).put (some 135) (vs 5)).put (some 136) (vs 6)).put (some 137) (vs 7)).put (some 138) (vs 8)).put (some 139) (vs 9)).put (some 140) (vs 10)).put (some 141) (vs 11)).put (some 142) (vs 12)) w9) : (regOf Try.f9 9).wp Try.prog Q aZ wX := by
  conv => arg 2; whnf
  refine wp_region_seq3 (fun i v wz => match i with
    | 0 => v = .int .i64 0
    | 1 => v = .bool false
    | 2 => v = .bool false
    | 3 => v = .int .i64 kv
    | 4 => v = .int .i64 kv
    | 5 => v = .bool false
    | 6 => v = .bool false
    | 7 => v = .bool false
    | 8 => v = .func (.func 38) #[] #[.pointer (some ⟨w.heap.size + 1, 0, none⟩), .pointer (some ⟨w.heap.size + 2, 0, none⟩)]
    | 9 => v = .slice ra np rc
    | 10 => v = .bool true
    | 11 => v = .bool false
    | _ => v = .bool false) (fun ls vs wz => Ext wX wz) (by kernel_rfl) (by rw [hsz]; kernel_rfl) ?_ ?_ ?_
  · exact Ext.refl _
  · refine ⟨?_, ?_, ?_, ?_, ?_, ?_, ?_, ?_, ?_, ?_, ?_, ?_, ?_, trivial⟩
    · intro ls vs a w1 hi hJ hold hdep K hK
      have q12 : a.tmps[12]?.getD undef = .int .i64 0 := (hold 12 (by kernel_rfl)).trans o12
      rw [if_pos (by rfl)]
      clear hold hdep hend o7 o8 o10 o11 o12
      go_simp
      exact hK _ _ (fun _ _ _ h => h) hJ rfl
    · intro ls vs a w1 hi hJ hold hdep K hK
      have q130 : a.tmps[130]?.getD undef = .int .i64 0 := (hdep 0 130 (by kernel_rfl) (by kernel_rfl)).2.1.trans (hdep 0 130 (by kernel_rfl) (by kernel_rfl)).2.2
      rw [if_pos (by rfl)]
      clear hold hdep hend o7 o8 o10 o11 o12
      go_simp
      exact hK _ _ (fun _ _ _ h => h) hJ rfl
    · intro ls vs a w1 hi hJ hold hdep K hK
      have q131 : a.tmps[131]?.getD undef = .bool false := (hdep 1 131 (by kernel_rfl) (by kernel_rfl)).2.1.trans (hdep 1 131 (by kernel_rfl) (by kernel_rfl)).2.2
      rw [if_pos (by rfl)]
      clear hold hdep hend o7 o8 o10 o11 o12
      go_simp
      exact hK _ _ (fun _ _ _ h => h) hJ rfl
    · intro ls vs a w1 hi hJ hold hdep K hK
      have q11 : a.tmps[11]?.getD undef = .int .i64 kv := (hold 11 (by kernel_rfl)).trans o11
      have q132 : a.tmps[132]?.getD undef = .bool false := (hdep 2 132 (by kernel_rfl) (by kernel_rfl)).2.1.trans (hdep 2 132 (by kernel_rfl) (by kernel_rfl)).2.2
      clear hold hdep hend o7 o8 o10 o11 o12
      rw [wanted_of rfl (by kernel_rfl) q132, if_pos (by rfl)]
      go_simp
      exact hK _ _ (fun _ _ _ h => h) hJ rfl
    · intro ls vs a w1 hi hJ hold hdep K hK
      have q8 : a.tmps[8]?.getD undef = .int .i64 kv := (hold 8 (by kernel_rfl)).trans o8
      have q132 : a.tmps[132]?.getD undef = .bool false := (hdep 2 132 (by kernel_rfl) (by kernel_rfl)).2.1.trans (hdep 2 132 (by kernel_rfl) (by kernel_rfl)).2.2
      clear hold hdep hend o7 o8 o10 o11 o12
      rw [wanted_of rfl (by kernel_rfl) q132, if_pos (by rfl)]
      go_simp
      exact hK _ _ (fun _ _ _ h => h) hJ rfl
    · intro ls vs a w1 hi hJ hold hdep K hK
      have q133 : a.tmps[133]?.getD undef = .int .i64 kv := (hdep 3 133 (by kernel_rfl) (by kernel_rfl)).2.1.trans (hdep 3 133 (by kernel_rfl) (by kernel_rfl)).2.2
      have q134 : a.tmps[134]?.getD undef = .int .i64 kv := (hdep 4 134 (by kernel_rfl) (by kernel_rfl)).2.1.trans (hdep 4 134 (by kernel_rfl) (by kernel_rfl)).2.2
      have q132 : a.tmps[132]?.getD undef = .bool false := (hdep 2 132 (by kernel_rfl) (by kernel_rfl)).2.1.trans (hdep 2 132 (by kernel_rfl) (by kernel_rfl)).2.2
      clear hold hdep hend o7 o8 o10 o11 o12
      rw [wanted_of rfl (by kernel_rfl) q132, if_pos (by rfl)]
      go_simp
      exact hK _ _ (fun _ _ _ h => h) hJ (by simp)
    · intro ls vs a w1 hi hJ hold hdep K hK
      have q132 : a.tmps[132]?.getD undef = .bool false := (hdep 2 132 (by kernel_rfl) (by kernel_rfl)).2.1.trans (hdep 2 132 (by kernel_rfl) (by kernel_rfl)).2.2
      have q135 : a.tmps[135]?.getD undef = .bool false := (hdep 5 135 (by kernel_rfl) (by kernel_rfl)).2.1.trans (hdep 5 135 (by kernel_rfl) (by kernel_rfl)).2.2
      rw [if_pos (by rfl)]
      clear hold hdep hend o7 o8 o10 o11 o12
      go_simp
      exact hK _ _ (fun _ _ _ h => h) hJ rfl
    · intro ls vs a w1 hi hJ hold hdep K hK
      have q136 : a.tmps[136]?.getD undef = .bool false := (hdep 6 136 (by kernel_rfl) (by kernel_rfl)).2.1.trans (hdep 6 136 (by kernel_rfl) (by kernel_rfl)).2.2
      rw [if_pos (by rfl)]
      clear hold hdep hend o7 o8 o10 o11 o12
      go_simp
      exact hK _ _ (fun _ _ _ h => h) hJ rfl
    · intro ls vs a w1 hi hJ hold hdep K hK
      have q10 : a.tmps[10]?.getD undef = .func (.func 38) #[] #[.pointer (some ⟨w.heap.size + 1, 0, none⟩), .pointer (some ⟨w.heap.size + 2, 0, none⟩)] := (hold 10 (by kernel_rfl)).trans o10
      have q137 : a.tmps[137]?.getD undef = .bool false := (hdep 7 137 (by kernel_rfl) (by kernel_rfl)).2.1.trans (hdep 7 137 (by kernel_rfl) (by kernel_rfl)).2.2
      clear hold hdep hend o7 o8 o10 o11 o12
      rw [wanted_of rfl (by kernel_rfl) q137, if_pos (by rfl)]
      go_simp
      exact hK _ _ (fun _ _ _ h => h) hJ rfl
    · intro ls vs a w1 hi hJ hold hdep K hK
      have q7 : a.tmps[7]?.getD undef = .slice ra np rc := (hold 7 (by kernel_rfl)).trans o7
      have q137 : a.tmps[137]?.getD undef = .bool false := (hdep 7 137 (by kernel_rfl) (by kernel_rfl)).2.1.trans (hdep 7 137 (by kernel_rfl) (by kernel_rfl)).2.2
      clear hold hdep hend o7 o8 o10 o11 o12
      rw [wanted_of rfl (by kernel_rfl) q137, if_pos (by rfl)]
      go_simp
      exact hK _ _ (fun _ _ _ h => h) hJ rfl
    · intro ls vs a w1 hi hJ hold hdep K hK
      have q138 : a.tmps[138]?.getD undef = .func (.func 38) #[] #[.pointer (some ⟨w.heap.size + 1, 0, none⟩), .pointer (some ⟨w.heap.size + 2, 0, none⟩)] := (hdep 8 138 (by kernel_rfl) (by kernel_rfl)).2.1.trans (hdep 8 138 (by kernel_rfl) (by kernel_rfl)).2.2
      have q139 : a.tmps[139]?.getD undef = .slice ra np rc := (hdep 9 139 (by kernel_rfl) (by kernel_rfl)).2.1.trans (hdep 9 139 (by kernel_rfl) (by kernel_rfl)).2.2
      have q137 : a.tmps[137]?.getD undef = .bool false := (hdep 7 137 (by kernel_rfl) (by kernel_rfl)).2.1.trans (hdep 7 137 (by kernel_rfl) (by kernel_rfl)).2.2
      clear hold hdep hend o7 o8 o10 o11 o12
      rw [wanted_of rfl (by kernel_rfl) q137, if_pos (by rfl)]
      go_simp
      go_at_call 38
      (with_reducible refine (HST.out _ hJ).mono ?_); rintro e w20 ⟨rfl, he2⟩
      exact hK _ _ (fun _ _ _ h => h) (hJ.trans he2) rfl
    · intro ls vs a w1 hi hJ hold hdep K hK
      have q140 : a.tmps[140]?.getD undef = .bool true := (hdep 10 140 (by kernel_rfl) (by kernel_rfl)).2.1.trans (hdep 10 140 (by kernel_rfl) (by kernel_rfl)).2.2
      have q137 : a.tmps[137]?.getD undef = .bool false := (hdep 7 137 (by kernel_rfl) (by kernel_rfl)).2.1.trans (hdep 7 137 (by kernel_rfl) (by kernel_rfl)).2.2
      clear hold hdep hend o7 o8 o10 o11 o12
      rw [wanted_of rfl (by kernel_rfl) q137, if_pos (by rfl)]
      go_simp
      exact hK _ _ (fun _ _ _ h => h) hJ rfl
    · intro ls vs a w1 hi hJ hold hdep K hK
      have q137 : a.tmps[137]?.getD undef = .bool false := (hdep 7 137 (by kernel_rfl) (by kernel_rfl)).2.1.trans (hdep 7 137 (by kernel_rfl) (by kernel_rfl)).2.2
      have q141 : a.tmps[141]?.getD undef = .bool false := (hdep 11 141 (by kernel_rfl) (by kernel_rfl)).2.1.trans (hdep 11 141 (by kernel_rfl) (by kernel_rfl)).2.2
      rw [if_pos (by rfl)]
      clear hold hdep hend o7 o8 o10 o11 o12
      go_simp
      exact hK _ _ (fun _ _ _ h => h) hJ rfl
  · intro vs w9 ls9 hl9 hJ9 hφ
    have e0 := hφ 0 (by kernel_rfl)
    have e1 := hφ 1 (by kernel_rfl)
    have e2 := hφ 2 (by kernel_rfl)
    have e3 := hφ 3 (by kernel_rfl)
    have e4 := hφ 4 (by kernel_rfl)
    have e5 := hφ 5 (by kernel_rfl)
    have e6 := hφ 6 (by kernel_rfl)
    have e7 := hφ 7 (by kernel_rfl)
    have e8 := hφ 8 (by kernel_rfl)
    have e9 := hφ 9 (by kernel_rfl)
    have e10 := hφ 10 (by kernel_rfl)
    have e11 := hφ 11 (by kernel_rfl)
    have e12 := hφ 12 (by kernel_rfl)
    have hq := hend vs w9 ls9 hl9 hJ9 e0 e1 e2 e3 e4 e5 e6 e7 e8 e9 e10 e11 e12
    simp only [Act.put] at hq
    simp only [putAll, Act.put]
    exact hq

set_option maxRecDepth 100000 in
set_option maxHeartbeats 4000000 in
theorem s15_law {l : List Camp} {P : List (List Int)} {la ppa : Option Addr} {lc qb qo qc nk ppc k : Nat} {ek rv dk kv : Int} {E N X2 S X3 V L Y X4 : Bool} {w w1 wX : World} (he : Ext w w1) (hr : Ext w1 wX) (hlt : k < P.length) (hP20 : P.length ≤ 20) (hn4 : l.length ≤ 4) (l0 : ∀ W, Ext w1 W → W.cell? ⟨w.heap.size + 1, 0, none⟩ = some (.slice la l.length lc)) (a2 : ∀ W, Ext w1 W → W.cell? ⟨w.heap.size + 2, 2, none⟩ = some (.slice (some ⟨qb, qo, none⟩) P.length qc)) (e0 : ∀ W, Ext w W → W.cell? ⟨qb, qo + k, none⟩ = some (.slice ppa nk ppc)) (HST : Hid (X2 = true → ∀ W, Ext wX W → Calls Try.prog 38 #[.slice ppa nk ppc, .pointer (some ⟨w.heap.size + 1, 0, none⟩), .pointer (some ⟨w.heap.size + 2, 0, none⟩)] W (Ret (.bool S) W))) (HE : Hid ((ek == 0) = E)) (HN : Hid (((nk : Int) == (l.length : Int)) = N)) (HX2 : Hid ((E && N) = X2)) (HX3 : Hid ((X2 && S) = X3)) (HV : Hid ((rv != 0) = V)) (HL : Hid (decide (dk < kv) = L)) (HY : Hid ((V || L) = Y)) (HX4 : Hid ((X3 && Y) = X4)) {Q : Exit → Act → World → Prop} (aZ : Act) (hsz : aZ.tmps.size = 317) (o4 : aZ.tmps[4]?.getD undef = .pointer (some ⟨w.heap.size + 1, 0, none⟩)) (o5 : aZ.tmps[5]?.getD undef = .pointer (some ⟨w.heap.size + 2, 0, none⟩)) (o8 : aZ.tmps[8]?.getD undef = .int .i64 kv) (o9 : aZ.tmps[9]?.getD undef = .int .i64 rv) (o10 : aZ.tmps[10]?.getD undef = .func (.func 38) #[] #[.pointer (some ⟨w.heap.size + 1, 0, none⟩), .pointer (some ⟨w.heap.size + 2, 0, none⟩)]) (o13 : aZ.tmps[13]?.getD undef = .int .i64 k) (o14 : aZ.tmps[14]?.getD undef = .int .i64 dk) (o15 : aZ.tmps[15]?.getD undef = .int .i64 ek)
    (hend : ∀ (vs : Nat → Value) (w9 : World) (ls9 : Nat → Bool), (∀ j : Nat, j < 31 → ls9 j = true) → (Ext wX w9) → (vs 0 = .int .i64 ek) → (vs 1 = .bool E) → (vs 2 = .bool E) → (vs 3 = gv E (.pointer (some ⟨w.heap.size + 2, 2, none⟩))) → (vs 4 = gv E (.slice (some ⟨qb, qo, none⟩) P.length qc)) → (vs 5 = gv E (.int .i64 k)) → (vs 6 = gv E (.pointer (some ⟨qb, qo + k, none⟩))) → (vs 7 = gv E (.slice ppa nk ppc)) → (vs 8 = gv E (.int .i64 nk)) → (vs 9 = gv E (.slice la l.length lc)) → (vs 10 = gv E (.int .i64 l.length)) → (vs 11 = gv E (.bool N)) → (vs 12 = .bool X2) → (vs 13 = .bool X2) → (vs 14 = gv X2 (.func (.func 38) #[] #[.pointer (some ⟨w.heap.size + 1, 0, none⟩), .pointer (some ⟨w.heap.size + 2, 0, none⟩)])) → (vs 15 = gv X2 (.pointer (some ⟨w.heap.size + 2, 2, none⟩))) → (vs 16 = gv X2 (.slice (some ⟨qb, qo, none⟩) P.length qc)) → (vs 17 = gv X2 (.int .i64 k)) → (vs 18 = gv X2 (.pointer (some ⟨qb, qo + k, none⟩))) → (vs 19 = gv X2 (.slice ppa nk ppc)) → (vs 20 = gv X2 (.bool S)) → (vs 21 = .bool X3) → (vs 22 = .bool X3) → (vs 23 = gv X3 (.int .i64 rv)) → (vs 24 = gv X3 (.bool V)) → (vs 25 = gv X3 (.bool V)) → (vs 26 = gv X3 (gv (!V) (.int .i64 dk))) → (vs 27 = gv X3 (gv (!V) (.int .i64 kv))) → (vs 28 = gv X3 (gv (!V) (.bool L))) → (vs 29 = gv X3 (.bool Y)) → (vs 30 = .bool X4) → Q .normal (((((((((((((((((((((((((((((((aZ.put (some 164) (vs 0)).put (some 165) (vs 1)).put (some 166) (vs 2)).put (some 167) (vs 3)).put (some 168) (vs 4)).put (some 169) (vs 5)).put (some 170) (vs 6)).put (some 171) (vs 7)).put (some 172) (vs 8)).put (some 173) (vs 9)).put (some 174) (vs 10)).put (some 175) (vs 11)).put (some 176) (vs 12)).put (some 177) (vs 13)).put (some 178) (vs 14)).put (some 179) (vs 15)).put (some 180) (vs 16)).put (some 181) (vs 17)).put (some 182) (vs 18)).put (some 183) (vs 19)).put (some 184) (vs 20)).put (some 185) (vs 21)).put (some 186) (vs 22)).put (some 187) (vs 23)).put (some 188) (vs 24)).put (some 189) (vs 25)).put (some 190) (vs 26)).put (some 191) (vs 27)).put (some 192) (vs 28)).put (some 193) (vs 29)).put (some 194) (vs 30)) w9) : (regOf Try.f9 15).wp Try.prog Q aZ wX := by
  conv => arg 2; whnf
  refine wp_region_said3 (fun i v wz => match i with
    | 0 => v = .int .i64 ek
    | 1 => v = .bool E
    | 2 => v = .bool E
    | 3 => v = gv E (.pointer (some ⟨w.heap.size + 2, 2, none⟩))
    | 4 => v = gv E (.slice (some ⟨qb, qo, none⟩) P.length qc)
    | 5 => v = gv E (.int .i64 k)
    | 6 => v = gv E (.pointer (some ⟨qb, qo + k, none⟩))
    | 7 => v = gv E (.slice ppa nk ppc)
    | 8 => v = gv E (.int .i64 nk)
    | 9 => v = gv E (.slice la l.length lc)
    | 10 => v = gv E (.int .i64 l.length)
    | 11 => v = gv E (.bool N)
    | 12 => v = .bool X2
    | 13 => v = .bool X2
    | 14 => v = gv X2 (.func (.func 38) #[] #[.pointer (some ⟨w.heap.size + 1, 0, none⟩), .pointer (some ⟨w.heap.size + 2, 0, none⟩)])
    | 15 => v = gv X2 (.pointer (some ⟨w.heap.size + 2, 2, none⟩))
    | 16 => v = gv X2 (.slice (some ⟨qb, qo, none⟩) P.length qc)
    | 17 => v = gv X2 (.int .i64 k)
    | 18 => v = gv X2 (.pointer (some ⟨qb, qo + k, none⟩))
    | 19 => v = gv X2 (.slice ppa nk ppc)
    | 20 => v = gv X2 (.bool S)
    | 21 => v = .bool X3
    | 22 => v = .bool X3
    | 23 => v = gv X3 (.int .i64 rv)
    | 24 => v = gv X3 (.bool V)
    | 25 => v = gv X3 (.bool V)
    | 26 => v = gv X3 (gv (!V) (.int .i64 dk))
    | 27 => v = gv X3 (gv (!V) (.int .i64 kv))
    | 28 => v = gv X3 (gv (!V) (.bool L))
    | 29 => v = gv X3 (.bool Y)
    | _ => v = .bool X4) (fun ls vs wz => Ext wX wz) (by kernel_rfl) (by kernel_rfl) (by rw [hsz]; kernel_rfl) ?_ ?_ ?_
  · exact (Ext.refl _).drew
  · refine ⟨?_, ?_, ?_, ?_, ?_, ?_, ?_, ?_, ?_, ?_, ?_, ?_, ?_, ?_, ?_, ?_, ?_, ?_, ?_, ?_, ?_, ?_, ?_, ?_, ?_, ?_, ?_, ?_, ?_, ?_, ?_, trivial⟩
    · intro ls vs a w1 hi hJ hold hdep K hK
      have q15 : a.tmps[15]?.getD undef = .int .i64 ek := (hold 15 (by kernel_rfl)).trans o15
      rw [if_pos (by rfl)]
      clear hold hdep hend o4 o5 o8 o9 o10 o13 o14 o15
      go_simp
      exact hK _ _ (fun _ _ _ h => h) hJ rfl
    · intro ls vs a w1 hi hJ hold hdep K hK
      have q164 : a.tmps[164]?.getD undef = .int .i64 ek := (hdep 0 164 (by kernel_rfl) (by kernel_rfl)).2.1.trans (hdep 0 164 (by kernel_rfl) (by kernel_rfl)).2.2
      rw [if_pos (by rfl)]
      clear hold hdep hend o4 o5 o8 o9 o10 o13 o14 o15
      go_simp
      exact hK _ _ (fun _ _ _ h => h) hJ (congrArg Value.bool HE.out)
    · intro ls vs a w1 hi hJ hold hdep K hK
      have q165 : a.tmps[165]?.getD undef = .bool E := (hdep 1 165 (by kernel_rfl) (by kernel_rfl)).2.1.trans (hdep 1 165 (by kernel_rfl) (by kernel_rfl)).2.2
      rw [if_pos (by rfl)]
      clear hold hdep hend o4 o5 o8 o9 o10 o13 o14 o15
      go_simp
      exact hK _ _ (fun _ _ _ h => h) hJ rfl
    · intro ls vs a w1 hi hJ hold hdep K hK
      have q5 : a.tmps[5]?.getD undef = .pointer (some ⟨w.heap.size + 2, 0, none⟩) := (hold 5 (by kernel_rfl)).trans o5
      have q166 : a.tmps[166]?.getD undef = .bool E := (hdep 2 166 (by kernel_rfl) (by kernel_rfl)).2.1.trans (hdep 2 166 (by kernel_rfl) (by kernel_rfl)).2.2
      clear hold hdep hend o4 o5 o8 o9 o10 o13 o14 o15
      rw [wanted_of rfl (by kernel_rfl) q166]
      cases E
      case false =>
        rw [if_neg (by decide)]
        exact hK _ _ (fun _ _ _ h => h) hJ rfl
      rw [if_pos (by rfl)]
      go_simp
      exact hK _ _ (fun _ _ _ h => h) hJ rfl
    · intro ls vs a w1 hi hJ hold hdep K hK
      have q167 : a.tmps[167]?.getD undef = gv E (.pointer (some ⟨w.heap.size + 2, 2, none⟩)) := (hdep 3 167 (by kernel_rfl) (by kernel_rfl)).2.1.trans (hdep 3 167 (by kernel_rfl) (by kernel_rfl)).2.2
      have q166 : a.tmps[166]?.getD undef = .bool E := (hdep 2 166 (by kernel_rfl) (by kernel_rfl)).2.1.trans (hdep 2 166 (by kernel_rfl) (by kernel_rfl)).2.2
      clear hold hdep hend o4 o5 o8 o9 o10 o13 o14 o15
      rw [wanted_of rfl (by kernel_rfl) q166]
      cases E
      case false =>
        rw [if_neg (by decide)]
        exact hK _ _ (fun _ _ _ h => h) hJ rfl
      rw [if_pos (by rfl)]
      simp only [Bool.not_false, Bool.not_true, gv_true, gv_false] at q167
      have hz1 := hr.trans hJ
      have hz2 := he.trans hz1
      go_simp
      exact hK _ _ (fun _ _ _ h => h) hJ rfl
    · intro ls vs a w1 hi hJ hold hdep K hK
      have q13 : a.tmps[13]?.getD undef = .int .i64 k := (hold 13 (by kernel_rfl)).trans o13
      have q166 : a.tmps[166]?.getD undef = .bool E := (hdep 2 166 (by kernel_rfl) (by kernel_rfl)).2.1.trans (hdep 2 166 (by kernel_rfl) (by kernel_rfl)).2.2
      clear hold hdep hend o4 o5 o8 o9 o10 o13 o14 o15
      rw [wanted_of rfl (by kernel_rfl) q166]
      cases E
      case false =>
        rw [if_neg (by decide)]
        exact hK _ _ (fun _ _ _ h => h) hJ rfl
      rw [if_pos (by rfl)]
      go_simp
      exact hK _ _ (fun _ _ _ h => h) hJ rfl
    · intro ls vs a w1 hi hJ hold hdep K hK
      have q168 : a.tmps[168]?.getD undef = gv E (.slice (some ⟨qb, qo, none⟩) P.length qc) := (hdep 4 168 (by kernel_rfl) (by kernel_rfl)).2.1.trans (hdep 4 168 (by kernel_rfl) (by kernel_rfl)).2.2
      have q169 : a.tmps[169]?.getD undef = gv E (.int .i64 k) := (hdep 5 169 (by kernel_rfl) (by kernel_rfl)).2.1.trans (hdep 5 169 (by kernel_rfl) (by kernel_rfl)).2.2
      have q166 : a.tmps[166]?.getD undef = .bool E := (hdep 2 166 (by kernel_rfl) (by kernel_rfl)).2.1.trans (hdep 2 166 (by kernel_rfl) (by kernel_rfl)).2.2
      clear hold hdep hend o4 o5 o8 o9 o10 o13 o14 o15
      rw [wanted_of rfl (by kernel_rfl) q166]
      cases E
      case false =>
        rw [if_neg (by decide)]
        exact hK _ _ (fun _ _ _ h => h) hJ rfl
      rw [if_pos (by rfl)]
      simp only [Bool.not_false, Bool.not_true, gv_true, gv_false] at q168
      simp only [Bool.not_false, Bool.not_true, gv_true, gv_false] at q169
      go_simp
      exact hK _ _ (fun _ _ _ h => h) hJ rfl
    · intro ls vs a w1 hi hJ hold hdep K hK
      have q170 : a.tmps[170]?.getD undef = gv E (.pointer (some ⟨qb, qo + k, none⟩)) := (hdep 6 170 (by kernel_rfl) (by kernel_rfl)).2.1.trans (hdep 6 170 (by kernel_rfl) (by kernel_rfl)).2.2
      have q166 : a.tmps[166]?.getD undef = .bool E := (hdep 2 166 (by kernel_rfl) (by kernel_rfl)).2.1.trans (hdep 2 166 (by kernel_rfl) (by kernel_rfl)).2.2
      clear hold hdep hend o4 o5 o8 o9 o10 o13 o14 o15
      rw [wanted_of rfl (by kernel_rfl) q166]
      cases E
      case false =>
        rw [if_neg (by decide)]
        exact hK _ _ (fun _ _ _ h => h) hJ rfl
      rw [if_pos (by rfl)]
      simp only [Bool.not_false, Bool.not_true, gv_true, gv_false] at q170
      have hz1 := hr.trans hJ
      have hz2 := he.trans hz1
      go_simp
      exact hK _ _ (fun _ _ _ h => h) hJ rfl
    · intro ls vs a w1 hi hJ hold hdep K hK
      have q171 : a.tmps[171]?.getD undef = gv E (.slice ppa nk ppc) := (hdep 7 171 (by kernel_rfl) (by kernel_rfl)).2.1.trans (hdep 7 171 (by kernel_rfl) (by kernel_rfl)).2.2
      have q166 : a.tmps[166]?.getD undef = .bool E := (hdep 2 166 (by kernel_rfl) (by kernel_rfl)).2.1.trans (hdep 2 166 (by kernel_rfl) (by kernel_rfl)).2.2
      clear hold hdep hend o4 o5 o8 o9 o10 o13 o14 o15
      rw [wanted_of rfl (by kernel_rfl) q166]
      cases E
      case false =>
        rw [if_neg (by decide)]
        exact hK _ _ (fun _ _ _ h => h) hJ rfl
      rw [if_pos (by rfl)]
      simp only [Bool.not_false, Bool.not_true, gv_true, gv_false] at q171
      go_simp
      exact hK _ _ (fun _ _ _ h => h) hJ rfl
    · intro ls vs a w1 hi hJ hold hdep K hK
      have q4 : a.tmps[4]?.getD undef = .pointer (some ⟨w.heap.size + 1, 0, none⟩) := (hold 4 (by kernel_rfl)).trans o4
      have q166 : a.tmps[166]?.getD undef = .bool E := (hdep 2 166 (by kernel_rfl) (by kernel_rfl)).2.1.trans (hdep 2 166 (by kernel_rfl) (by kernel_rfl)).2.2
      clear hold hdep hend o4 o5 o8 o9 o10 o13 o14 o15
      rw [wanted_of rfl (by kernel_rfl) q166]
      cases E
      case false =>
        rw [if_neg (by decide)]
        exact hK _ _ (fun _ _ _ h => h) hJ rfl
      rw [if_pos (by rfl)]
      have hz1 := hr.trans hJ
      have hz2 := he.trans hz1
      go_simp
      exact hK _ _ (fun _ _ _ h => h) hJ rfl
    · intro ls vs a w1 hi hJ hold hdep K hK
      have q173 : a.tmps[173]?.getD undef = gv E (.slice la l.length lc) := (hdep 9 173 (by kernel_rfl) (by kernel_rfl)).2.1.trans (hdep 9 173 (by kernel_rfl) (by kernel_rfl)).2.2
      have q166 : a.tmps[166]?.getD undef = .bool E := (hdep 2 166 (by kernel_rfl) (by kernel_rfl)).2.1.trans (hdep 2 166 (by kernel_rfl) (by kernel_rfl)).2.2
      clear hold hdep hend o4 o5 o8 o9 o10 o13 o14 o15
      rw [wanted_of rfl (by kernel_rfl) q166]
      cases E
      case false =>
        rw [if_neg (by decide)]
        exact hK _ _ (fun _ _ _ h => h) hJ rfl
      rw [if_pos (by rfl)]
      simp only [Bool.not_false, Bool.not_true, gv_true, gv_false] at q173
      go_simp
      exact hK _ _ (fun _ _ _ h => h) hJ rfl
    · intro ls vs a w1 hi hJ hold hdep K hK
      have q172 : a.tmps[172]?.getD undef = gv E (.int .i64 nk) := (hdep 8 172 (by kernel_rfl) (by kernel_rfl)).2.1.trans (hdep 8 172 (by kernel_rfl) (by kernel_rfl)).2.2
      have q174 : a.tmps[174]?.getD undef = gv E (.int .i64 l.length) := (hdep 10 174 (by kernel_rfl) (by kernel_rfl)).2.1.trans (hdep 10 174 (by kernel_rfl) (by kernel_rfl)).2.2
      have q166 : a.tmps[166]?.getD undef = .bool E := (hdep 2 166 (by kernel_rfl) (by kernel_rfl)).2.1.trans (hdep 2 166 (by kernel_rfl) (by kernel_rfl)).2.2
      clear hold hdep hend o4 o5 o8 o9 o10 o13 o14 o15
      rw [wanted_of rfl (by kernel_rfl) q166]
      cases E
      case false =>
        rw [if_neg (by decide)]
        exact hK _ _ (fun _ _ _ h => h) hJ rfl
      rw [if_pos (by rfl)]
      simp only [Bool.not_false, Bool.not_true, gv_true, gv_false] at q172
      simp only [Bool.not_false, Bool.not_true, gv_true, gv_false] at q174
      go_simp
      exact hK _ _ (fun _ _ _ h => h) hJ (congrArg Value.bool HN.out)
    · intro ls vs a w1 hi hJ hold hdep K hK
      have q166 : a.tmps[166]?.getD undef = .bool E := (hdep 2 166 (by kernel_rfl) (by kernel_rfl)).2.1.trans (hdep 2 166 (by kernel_rfl) (by kernel_rfl)).2.2
      have q175 : a.tmps[175]?.getD undef = gv E (.bool N) := (hdep 11 175 (by kernel_rfl) (by kernel_rfl)).2.1.trans (hdep 11 175 (by kernel_rfl) (by kernel_rfl)).2.2
      rw [if_pos (by rfl)]
      clear hold hdep hend o4 o5 o8 o9 o10 o13 o14 o15
      cases E
      · go_simp
        exact hK _ _ (fun _ _ _ h => h) hJ (congrArg Value.bool HX2.out)
      · simp only [gv_true] at q175
        go_simp
        exact hK _ _ (fun _ _ _ h => h) hJ (congrArg Value.bool HX2.out)
    · intro ls vs a w1 hi hJ hold hdep K hK
      have q176 : a.tmps[176]?.getD undef = .bool X2 := (hdep 12 176 (by kernel_rfl) (by kernel_rfl)).2.1.trans (hdep 12 176 (by kernel_rfl) (by kernel_rfl)).2.2
      rw [if_pos (by rfl)]
      clear hold hdep hend o4 o5 o8 o9 o10 o13 o14 o15
      go_simp
      exact hK _ _ (fun _ _ _ h => h) hJ rfl
    · intro ls vs a w1 hi hJ hold hdep K hK
      have q10 : a.tmps[10]?.getD undef = .func (.func 38) #[] #[.pointer (some ⟨w.heap.size + 1, 0, none⟩), .pointer (some ⟨w.heap.size + 2, 0, none⟩)] := (hold 10 (by kernel_rfl)).trans o10
      have q177 : a.tmps[177]?.getD undef = .bool X2 := (hdep 13 177 (by kernel_rfl) (by kernel_rfl)).2.1.trans (hdep 13 177 (by kernel_rfl) (by kernel_rfl)).2.2
      clear hold hdep hend o4 o5 o8 o9 o10 o13 o14 o15
      rw [wanted_of rfl (by kernel_rfl) q177]
      cases X2
      case false =>
        rw [if_neg (by decide)]
        exact hK _ _ (fun _ _ _ h => h) hJ rfl
      rw [if_pos (by rfl)]
      go_simp
      exact hK _ _ (fun _ _ _ h => h) hJ rfl
    · intro ls vs a w1 hi hJ hold hdep K hK
      have q5 : a.tmps[5]?.getD undef = .pointer (some ⟨w.heap.size + 2, 0, none⟩) := (hold 5 (by kernel_rfl)).trans o5
      have q177 : a.tmps[177]?.getD undef = .bool X2 := (hdep 13 177 (by kernel_rfl) (by kernel_rfl)).2.1.trans (hdep 13 177 (by kernel_rfl) (by kernel_rfl)).2.2
      clear hold hdep hend o4 o5 o8 o9 o10 o13 o14 o15
      rw [wanted_of rfl (by kernel_rfl) q177]
      cases X2
      case false =>
        rw [if_neg (by decide)]
        exact hK _ _ (fun _ _ _ h => h) hJ rfl
      rw [if_pos (by rfl)]
      go_simp
      exact hK _ _ (fun _ _ _ h => h) hJ rfl
    · intro ls vs a w1 hi hJ hold hdep K hK
      have q179 : a.tmps[179]?.getD undef = gv X2 (.pointer (some ⟨w.heap.size + 2, 2, none⟩)) := (hdep 15 179 (by kernel_rfl) (by kernel_rfl)).2.1.trans (hdep 15 179 (by kernel_rfl) (by kernel_rfl)).2.2
      have q177 : a.tmps[177]?.getD undef = .bool X2 := (hdep 13 177 (by kernel_rfl) (by kernel_rfl)).2.1.trans (hdep 13 177 (by kernel_rfl) (by kernel_rfl)).2.2
      clear hold hdep hend o4 o5 o8 o9 o10 o13 o14 o15
      rw [wanted_of rfl (by kernel_rfl) q177]
      cases X2
      case false =>
        rw [if_neg (by decide)]
        exact hK _ _ (fun _ _ _ h => h) hJ rfl
      rw [if_pos (by rfl)]
      simp only [Bool.not_false, Bool.not_true, gv_true, gv_false] at q179
      have hz1 := hr.trans hJ
      have hz2 := he.trans hz1
      go_simp
      exact hK _ _ (fun _ _ _ h => h) hJ rfl
    · intro ls vs a w1 hi hJ hold hdep K hK
      have q13 : a.tmps[13]?.getD undef = .int .i64 k := (hold 13 (by kernel_rfl)).trans o13
      have q177 : a.tmps[177]?.getD undef = .bool X2 := (hdep 13 177 (by kernel_rfl) (by kernel_rfl)).2.1.trans (hdep 13 177 (by kernel_rfl) (by kernel_rfl)).2.2
      clear hold hdep hend o4 o5 o8 o9 o10 o13 o14 o15
      rw [wanted_of rfl (by kernel_rfl) q177]
      cases X2
      case false =>
        rw [if_neg (by decide)]
        exact hK _ _ (fun _ _ _ h => h) hJ rfl
      rw [if_pos (by rfl)]
      go_simp
      exact hK _ _ (fun _ _ _ h => h) hJ rfl
    · intro ls vs a w1 hi hJ hold hdep K hK
      have q180 : a.tmps[180]?.getD undef = gv X2 (.slice (some ⟨qb, qo, none⟩) P.length qc) := (hdep 16 180 (by kernel_rfl) (by kernel_rfl)).2.1.trans (hdep 16 180 (by kernel_rfl) (by kernel_rfl)).2.2
      have q181 : a.tmps[181]?.getD undef = gv X2 (.int .i64 k) := (hdep 17 181 (by kernel_rfl) (by kernel_rfl)).2.1.trans (hdep 17 181 (by kernel_rfl) (by kernel_rfl)).2.2
      have q177 : a.tmps[177]?.getD undef = .bool X2 := (hdep 13 177 (by kernel_rfl) (by kernel_rfl)).2.1.trans (hdep 13 177 (by kernel_rfl) (by kernel_rfl)).2.2
      clear hold hdep hend o4 o5 o8 o9 o10 o13 o14 o15
      rw [wanted_of rfl (by kernel_rfl) q177]
      cases X2
      case false =>
        rw [if_neg (by decide)]
        exact hK _ _ (fun _ _ _ h => h) hJ rfl
      rw [if_pos (by rfl)]
      simp only [Bool.not_false, Bool.not_true, gv_true, gv_false] at q180
      simp only [Bool.not_false, Bool.not_true, gv_true, gv_false] at q181
      go_simp
      exact hK _ _ (fun _ _ _ h => h) hJ rfl
    · intro ls vs a w1 hi hJ hold hdep K hK
      have q182 : a.tmps[182]?.getD undef = gv X2 (.pointer (some ⟨qb, qo + k, none⟩)) := (hdep 18 182 (by kernel_rfl) (by kernel_rfl)).2.1.trans (hdep 18 182 (by kernel_rfl) (by kernel_rfl)).2.2
      have q177 : a.tmps[177]?.getD undef = .bool X2 := (hdep 13 177 (by kernel_rfl) (by kernel_rfl)).2.1.trans (hdep 13 177 (by kernel_rfl) (by kernel_rfl)).2.2
      clear hold hdep hend o4 o5 o8 o9 o10 o13 o14 o15
      rw [wanted_of rfl (by kernel_rfl) q177]
      cases X2
      case false =>
        rw [if_neg (by decide)]
        exact hK _ _ (fun _ _ _ h => h) hJ rfl
      rw [if_pos (by rfl)]
      simp only [Bool.not_false, Bool.not_true, gv_true, gv_false] at q182
      have hz1 := hr.trans hJ
      have hz2 := he.trans hz1
      go_simp
      exact hK _ _ (fun _ _ _ h => h) hJ rfl
    · intro ls vs a w1 hi hJ hold hdep K hK
      have q178 : a.tmps[178]?.getD undef = gv X2 (.func (.func 38) #[] #[.pointer (some ⟨w.heap.size + 1, 0, none⟩), .pointer (some ⟨w.heap.size + 2, 0, none⟩)]) := (hdep 14 178 (by kernel_rfl) (by kernel_rfl)).2.1.trans (hdep 14 178 (by kernel_rfl) (by kernel_rfl)).2.2
      have q183 : a.tmps[183]?.getD undef = gv X2 (.slice ppa nk ppc) := (hdep 19 183 (by kernel_rfl) (by kernel_rfl)).2.1.trans (hdep 19 183 (by kernel_rfl) (by kernel_rfl)).2.2
      have q177 : a.tmps[177]?.getD undef = .bool X2 := (hdep 13 177 (by kernel_rfl) (by kernel_rfl)).2.1.trans (hdep 13 177 (by kernel_rfl) (by kernel_rfl)).2.2
      clear hold hdep hend o4 o5 o8 o9 o10 o13 o14 o15
      rw [wanted_of rfl (by kernel_rfl) q177]
      cases X2
      case false =>
        rw [if_neg (by decide)]
        exact hK _ _ (fun _ _ _ h => h) hJ rfl
      rw [if_pos (by rfl)]
      simp only [Bool.not_false, Bool.not_true, gv_true, gv_false] at q178
      simp only [Bool.not_false, Bool.not_true, gv_true, gv_false] at q183
      go_simp
      go_at_call 38
      (with_reducible refine (HST.out rfl _ hJ).mono ?_); rintro e w20 ⟨rfl, he2⟩
      exact hK _ _ (fun _ _ _ h => h) (hJ.trans he2) rfl
    · intro ls vs a w1 hi hJ hold hdep K hK
      have q177 : a.tmps[177]?.getD undef = .bool X2 := (hdep 13 177 (by kernel_rfl) (by kernel_rfl)).2.1.trans (hdep 13 177 (by kernel_rfl) (by kernel_rfl)).2.2
      have q184 : a.tmps[184]?.getD undef = gv X2 (.bool S) := (hdep 20 184 (by kernel_rfl) (by kernel_rfl)).2.1.trans (hdep 20 184 (by kernel_rfl) (by kernel_rfl)).2.2
      rw [if_pos (by rfl)]
      clear hold hdep hend o4 o5 o8 o9 o10 o13 o14 o15
      cases X2
      · go_simp
        exact hK _ _ (fun _ _ _ h => h) hJ (congrArg Value.bool HX3.out)
      · simp only [gv_true] at q184
        go_simp
        exact hK _ _ (fun _ _ _ h => h) hJ (congrArg Value.bool HX3.out)
    · intro ls vs a w1 hi hJ hold hdep K hK
      have q185 : a.tmps[185]?.getD undef = .bool X3 := (hdep 21 185 (by kernel_rfl) (by kernel_rfl)).2.1.trans (hdep 21 185 (by kernel_rfl) (by kernel_rfl)).2.2
      rw [if_pos (by rfl)]
      clear hold hdep hend o4 o5 o8 o9 o10 o13 o14 o15
      go_simp
      exact hK _ _ (fun _ _ _ h => h) hJ rfl
    · intro ls vs a w1 hi hJ hold hdep K hK
      have q9 : a.tmps[9]?.getD undef = .int .i64 rv := (hold 9 (by kernel_rfl)).trans o9
      have q186 : a.tmps[186]?.getD undef = .bool X3 := (hdep 22 186 (by kernel_rfl) (by kernel_rfl)).2.1.trans (hdep 22 186 (by kernel_rfl) (by kernel_rfl)).2.2
      clear hold hdep hend o4 o5 o8 o9 o10 o13 o14 o15
      rw [wanted_of rfl (by kernel_rfl) q186]
      cases X3
      case false =>
        rw [if_neg (by decide)]
        exact hK _ _ (fun _ _ _ h => h) hJ rfl
      rw [if_pos (by rfl)]
      go_simp
      exact hK _ _ (fun _ _ _ h => h) hJ rfl
    · intro ls vs a w1 hi hJ hold hdep K hK
      have q187 : a.tmps[187]?.getD undef = gv X3 (.int .i64 rv) := (hdep 23 187 (by kernel_rfl) (by kernel_rfl)).2.1.trans (hdep 23 187 (by kernel_rfl) (by kernel_rfl)).2.2
      have q186 : a.tmps[186]?.getD undef = .bool X3 := (hdep 22 186 (by kernel_rfl) (by kernel_rfl)).2.1.trans (hdep 22 186 (by kernel_rfl) (by kernel_rfl)).2.2
      clear hold hdep hend o4 o5 o8 o9 o10 o13 o14 o15
      rw [wanted_of rfl (by kernel_rfl) q186]
      cases X3
      case false =>
        rw [if_neg (by decide)]
        exact hK _ _ (fun _ _ _ h => h) hJ rfl
      rw [if_pos (by rfl)]
      simp only [Bool.not_false, Bool.not_true, gv_true, gv_false] at q187
      go_simp
      exact hK _ _ (fun _ _ _ h => h) hJ (congrArg Value.bool HV.out)
    · intro ls vs a w1 hi hJ hold hdep K hK
      have q188 : a.tmps[188]?.getD undef = gv X3 (.bool V) := (hdep 24 188 (by kernel_rfl) (by kernel_rfl)).2.1.trans (hdep 24 188 (by kernel_rfl) (by kernel_rfl)).2.2
      have q186 : a.tmps[186]?.getD undef = .bool X3 := (hdep 22 186 (by kernel_rfl) (by kernel_rfl)).2.1.trans (hdep 22 186 (by kernel_rfl) (by kernel_rfl)).2.2
      clear hold hdep hend o4 o5 o8 o9 o10 o13 o14 o15
      rw [wanted_of rfl (by kernel_rfl) q186]
      cases X3
      case false =>
        rw [if_neg (by decide)]
        exact hK _ _ (fun _ _ _ h => h) hJ rfl
      rw [if_pos (by rfl)]
      simp only [Bool.not_false, Bool.not_true, gv_true, gv_false] at q188
      go_simp
      exact hK _ _ (fun _ _ _ h => h) hJ rfl
    · intro ls vs a w1 hi hJ hold hdep K hK
      have q14 : a.tmps[14]?.getD undef = .int .i64 dk := (hold 14 (by kernel_rfl)).trans o14
      have q189 : a.tmps[189]?.getD undef = gv X3 (.bool V) := (hdep 25 189 (by kernel_rfl) (by kernel_rfl)).2.1.trans (hdep 25 189 (by kernel_rfl) (by kernel_rfl)).2.2
      clear hold hdep hend o4 o5 o8 o9 o10 o13 o14 o15
      cases X3
      case false =>
        rw [wanted_none rfl (by kernel_rfl) q189, if_neg (by decide)]
        exact hK _ _ (fun _ _ _ h => h) hJ rfl
      rw [gv_true] at q189
      rw [wanted_of rfl (by kernel_rfl) q189]
      cases V
      case true =>
        rw [if_neg (by decide)]
        exact hK _ _ (fun _ _ _ h => h) hJ rfl
      rw [if_pos (by rfl)]
      go_simp
      exact hK _ _ (fun _ _ _ h => h) hJ rfl
    · intro ls vs a w1 hi hJ hold hdep K hK
      have q8 : a.tmps[8]?.getD undef = .int .i64 kv := (hold 8 (by kernel_rfl)).trans o8
      have q189 : a.tmps[189]?.getD undef = gv X3 (.bool V) := (hdep 25 189 (by kernel_rfl) (by kernel_rfl)).2.1.trans (hdep 25 189 (by kernel_rfl) (by kernel_rfl)).2.2
      clear hold hdep hend o4 o5 o8 o9 o10 o13 o14 o15
      cases X3
      case false =>
        rw [wanted_none rfl (by kernel_rfl) q189, if_neg (by decide)]
        exact hK _ _ (fun _ _ _ h => h) hJ rfl
      rw [gv_true] at q189
      rw [wanted_of rfl (by kernel_rfl) q189]
      cases V
      case true =>
        rw [if_neg (by decide)]
        exact hK _ _ (fun _ _ _ h => h) hJ rfl
      rw [if_pos (by rfl)]
      go_simp
      exact hK _ _ (fun _ _ _ h => h) hJ rfl
    · intro ls vs a w1 hi hJ hold hdep K hK
      have q190 : a.tmps[190]?.getD undef = gv X3 (gv (!V) (.int .i64 dk)) := (hdep 26 190 (by kernel_rfl) (by kernel_rfl)).2.1.trans (hdep 26 190 (by kernel_rfl) (by kernel_rfl)).2.2
      have q191 : a.tmps[191]?.getD undef = gv X3 (gv (!V) (.int .i64 kv)) := (hdep 27 191 (by kernel_rfl) (by kernel_rfl)).2.1.trans (hdep 27 191 (by kernel_rfl) (by kernel_rfl)).2.2
      have q189 : a.tmps[189]?.getD undef = gv X3 (.bool V) := (hdep 25 189 (by kernel_rfl) (by kernel_rfl)).2.1.trans (hdep 25 189 (by kernel_rfl) (by kernel_rfl)).2.2
      clear hold hdep hend o4 o5 o8 o9 o10 o13 o14 o15
      cases X3
      case false =>
        rw [wanted_none rfl (by kernel_rfl) q189, if_neg (by decide)]
        exact hK _ _ (fun _ _ _ h => h) hJ rfl
      rw [gv_true] at q189
      rw [wanted_of rfl (by kernel_rfl) q189]
      cases V
      case true =>
        rw [if_neg (by decide)]
        exact hK _ _ (fun _ _ _ h => h) hJ rfl
      rw [if_pos (by rfl)]
      simp only [Bool.not_false, Bool.not_true, gv_true, gv_false] at q190
      simp only [Bool.not_false, Bool.not_true, gv_true, gv_false] at q191
      go_simp
      exact hK _ _ (fun _ _ _ h => h) hJ (congrArg Value.bool HL.out)
    · intro ls vs a w1 hi hJ hold hdep K hK
      have q189 : a.tmps[189]?.getD undef = gv X3 (.bool V) := (hdep 25 189 (by kernel_rfl) (by kernel_rfl)).2.1.trans (hdep 25 189 (by kernel_rfl) (by kernel_rfl)).2.2
      have q192 : a.tmps[192]?.getD undef = gv X3 (gv (!V) (.bool L)) := (hdep 28 192 (by kernel_rfl) (by kernel_rfl)).2.1.trans (hdep 28 192 (by kernel_rfl) (by kernel_rfl)).2.2
      have q186 : a.tmps[186]?.getD undef = .bool X3 := (hdep 22 186 (by kernel_rfl) (by kernel_rfl)).2.1.trans (hdep 22 186 (by kernel_rfl) (by kernel_rfl)).2.2
      clear hold hdep hend o4 o5 o8 o9 o10 o13 o14 o15
      rw [wanted_of rfl (by kernel_rfl) q186]
      cases X3
      case false =>
        rw [if_neg (by decide)]
        exact hK _ _ (fun _ _ _ h => h) hJ rfl
      rw [if_pos (by rfl)]
      simp only [Bool.not_false, Bool.not_true, gv_true, gv_false] at q189
      simp only [Bool.not_false, Bool.not_true, gv_true, gv_false] at q192
      cases V
      · simp only [Bool.not_false, gv_true] at q192
        go_simp
        exact hK _ _ (fun _ _ _ h => h) hJ (congrArg Value.bool HY.out)
      · go_simp
        exact hK _ _ (fun _ _ _ h => h) hJ (congrArg Value.bool HY.out)
    · intro ls vs a w1 hi hJ hold hdep K hK
      have q186 : a.tmps[186]?.getD undef = .bool X3 := (hdep 22 186 (by kernel_rfl) (by kernel_rfl)).2.1.trans (hdep 22 186 (by kernel_rfl) (by kernel_rfl)).2.2
      have q193 : a.tmps[193]?.getD undef = gv X3 (.bool Y) := (hdep 29 193 (by kernel_rfl) (by kernel_rfl)).2.1.trans (hdep 29 193 (by kernel_rfl) (by kernel_rfl)).2.2
      rw [if_pos (by rfl)]
      clear hold hdep hend o4 o5 o8 o9 o10 o13 o14 o15
      cases X3
      · go_simp
        exact hK _ _ (fun _ _ _ h => h) hJ (congrArg Value.bool HX4.out)
      · simp only [gv_true] at q193
        go_simp
        exact hK _ _ (fun _ _ _ h => h) hJ (congrArg Value.bool HX4.out)
  · intro vs w9 ls9 hl9 hJ9 hφ
    have e0 := hφ 0 (by kernel_rfl)
    have e1 := hφ 1 (by kernel_rfl)
    have e2 := hφ 2 (by kernel_rfl)
    have e3 := hφ 3 (by kernel_rfl)
    have e4 := hφ 4 (by kernel_rfl)
    have e5 := hφ 5 (by kernel_rfl)
    have e6 := hφ 6 (by kernel_rfl)
    have e7 := hφ 7 (by kernel_rfl)
    have e8 := hφ 8 (by kernel_rfl)
    have e9 := hφ 9 (by kernel_rfl)
    have e10 := hφ 10 (by kernel_rfl)
    have e11 := hφ 11 (by kernel_rfl)
    have e12 := hφ 12 (by kernel_rfl)
    have e13 := hφ 13 (by kernel_rfl)
    have e14 := hφ 14 (by kernel_rfl)
    have e15 := hφ 15 (by kernel_rfl)
    have e16 := hφ 16 (by kernel_rfl)
    have e17 := hφ 17 (by kernel_rfl)
    have e18 := hφ 18 (by kernel_rfl)
    have e19 := hφ 19 (by kernel_rfl)
    have e20 := hφ 20 (by kernel_rfl)
    have e21 := hφ 21 (by kernel_rfl)
    have e22 := hφ 22 (by kernel_rfl)
    have e23 := hφ 23 (by kernel_rfl)
    have e24 := hφ 24 (by kernel_rfl)
    have e25 := hφ 25 (by kernel_rfl)
    have e26 := hφ 26 (by kernel_rfl)
    have e27 := hφ 27 (by kernel_rfl)
    have e28 := hφ 28 (by kernel_rfl)
    have e29 := hφ 29 (by kernel_rfl)
    have e30 := hφ 30 (by kernel_rfl)
    have hq := hend vs w9 ls9 hl9 hJ9 e0 e1 e2 e3 e4 e5 e6 e7 e8 e9 e10 e11 e12 e13 e14 e15 e16 e17 e18 e19 e20 e21 e22 e23 e24 e25 e26 e27 e28 e29 e30
    simp only [Act.put] at hq
    simp only [putAll, Act.put]
    exact hq

set_option maxRecDepth 100000 in
set_option maxHeartbeats 4000000 in
theorem s17_law {ha : Hal} {l : List Camp} {p : List Int} {sa ea la pa : Option Addr} {sc ec lc pc : Nat} {w w1 wX : World} (he : Ext w w1) (hr : Ext w1 wX) (hn24 : ha.st.length ≤ 24) (hen200 : ha.en.length ≤ 200) (hn4 : l.length ≤ 4) (HPN : Hid (p.length = l.length)) (HOW : Hid (∀ W, Ext w W → ha.st.length ≤ 1000 → ha.en.length ≤ 1000 → Calls Try.prog 15 #[hval ha ⟨sa, sc, ea, ec⟩] W (RetOwn ha W))) (HCP : Hid (∀ W, Ext w W → l.length ≤ 1000000 → Calls Try.prog 16 #[.slice la l.length lc] W (RetC l W))) (b0 : ∀ W, Ext w1 W → W.cell? ⟨w.heap.size, 0, none⟩ = some (.int .i64 ha.ro)) (b1 : ∀ W, Ext w1 W → W.cell? ⟨w.heap.size, 1, none⟩ = some (.int .i64 ha.cl)) (b2 : ∀ W, Ext w1 W → W.cell? ⟨w.heap.size, 2, none⟩ = some (.slice sa ha.st.length sc)) (b3 : ∀ W, Ext w1 W → W.cell? ⟨w.heap.size, 3, none⟩ = some (.slice ea ha.en.length ec)) (l0 : ∀ W, Ext w1 W → W.cell? ⟨w.heap.size + 1, 0, none⟩ = some (.slice la l.length lc)) (HIN : Hid (∀ W, Ext w W → p.length ≤ 1000000 → Calls Try.prog 17 #[.slice pa l.length pc] W (RetI p W))) (a0 : ∀ W, Ext w1 W → W.cell? ⟨w.heap.size + 2, 0, none⟩ = some (.slice pa l.length pc)) {Q : Exit → Act → World → Prop} (aZ : Act) (hsz : aZ.tmps.size = 317) (o3 : aZ.tmps[3]?.getD undef = .pointer (some ⟨w.heap.size, 0, none⟩)) (o4 : aZ.tmps[4]?.getD undef = .pointer (some ⟨w.heap.size + 1, 0, none⟩)) (o5 : aZ.tmps[5]?.getD undef = .pointer (some ⟨w.heap.size + 2, 0, none⟩))
    (hend : ∀ (vs : Nat → Value) (w9 : World) (ls9 : Nat → Bool), (∀ j : Nat, j < 14 → ls9 j = true) → (Ext wX w9) → (vs 0 = hval ha ⟨sa, sc, ea, ec⟩) → (∃ g6 c6 g10 c10 : Nat, vs 1 = hval ha ⟨some ⟨g6, 0, none⟩, c6, some ⟨g10, 0, none⟩, c10⟩ ∧ OwnI w9 0 (.slice (some ⟨g6, 0, none⟩) ha.st.length c6) ha.st ∧ OwnI w9 0 (.slice (some ⟨g10, 0, none⟩) ha.en.length c10) ha.en) → (vs 2 = .slice la l.length lc) → (∃ ca cc, vs 3 = .slice ca l.length cc ∧ OwnC w9 0 (.slice ca l.length cc) l) → (vs 4 = .pointer (some ⟨w.heap.size + 2, 0, none⟩)) → (vs 5 = .slice pa l.length pc) → (∃ ia ic, vs 6 = .slice ia p.length ic ∧ OwnI w9 0 (.slice ia p.length ic) p) → (vs 7 = .tuple #[bval (chkB ha l p), .int .i64 (errS ha l p)]) → (vs 8 = .tuple #[bval (chkB ha l p), .int .i64 (errS ha l p)]) → (vs 9 = bval (chkB ha l p)) → (vs 10 = .int .i64 (errS ha l p)) → (∃ g v0 v1 v2 v3, vs 11 = .pointer (some ⟨g, 0, none⟩) ∧ wX.heap.size ≤ g ∧ w9.heap[g]? = some (.cells #[v0, v1, v2, v3] 55 (0, 0))) → (vs 13 = .int .i64 (errS ha l p)) → Q .normal (((((((((((((aZ.put (some 196) (vs 0)).put (some 197) (vs 1)).put (some 198) (vs 2)).put (some 199) (vs 3)).put (some 200) (vs 4)).put (some 201) (vs 5)).put (some 202) (vs 6)).put (some 203) (vs 7)).put (some 195) (vs 8)).put (some 204) (vs 9)).put (some 205) (vs 10)).put (some 16) (vs 11)).put (some 17) (vs 13)) w9) : (regOf Try.f9 17).wp Try.prog Q aZ wX := by
  conv => arg 2; whnf
  refine wp_region_said3 (fun i v wz => match i with
    | 0 => v = hval ha ⟨sa, sc, ea, ec⟩
    | 1 => ∃ g6 c6 g10 c10 : Nat, v = hval ha ⟨some ⟨g6, 0, none⟩, c6, some ⟨g10, 0, none⟩, c10⟩ ∧ OwnI wz 0 (.slice (some ⟨g6, 0, none⟩) ha.st.length c6) ha.st ∧ OwnI wz 0 (.slice (some ⟨g10, 0, none⟩) ha.en.length c10) ha.en
    | 2 => v = .slice la l.length lc
    | 3 => ∃ ca cc, v = .slice ca l.length cc ∧ OwnC wz 0 (.slice ca l.length cc) l
    | 4 => v = .pointer (some ⟨w.heap.size + 2, 0, none⟩)
    | 5 => v = .slice pa l.length pc
    | 6 => ∃ ia ic, v = .slice ia p.length ic ∧ OwnI wz 0 (.slice ia p.length ic) p
    | 7 => v = .tuple #[bval (chkB ha l p), .int .i64 (errS ha l p)]
    | 8 => v = .tuple #[bval (chkB ha l p), .int .i64 (errS ha l p)]
    | 9 => v = bval (chkB ha l p)
    | 10 => v = .int .i64 (errS ha l p)
    | 11 => ∃ g v0 v1 v2 v3, v = .pointer (some ⟨g, 0, none⟩) ∧ wX.heap.size ≤ g ∧ wz.heap[g]? = some (.cells #[v0, v1, v2, v3] 55 (0, 0))
    | 12 => True
    | _ => v = .int .i64 (errS ha l p)) (fun ls vs wz => Ext wX wz) (by kernel_rfl) (by kernel_rfl) (by rw [hsz]; kernel_rfl) ?_ ?_ ?_
  · exact (Ext.refl _).drew
  · refine ⟨?_, ?_, ?_, ?_, ?_, ?_, ?_, ?_, ?_, ?_, ?_, ?_, ?_, ?_, trivial⟩
    · intro ls vs a w1 hi hJ hold hdep K hK
      have q3 : a.tmps[3]?.getD undef = .pointer (some ⟨w.heap.size, 0, none⟩) := (hold 3 (by kernel_rfl)).trans o3
      rw [if_pos (by rfl)]
      clear hold hdep hend o3 o4 o5
      have hz1 := hr.trans hJ
      go_simp
      exact hK _ _ (fun _ _ _ h => h) hJ rfl
    · intro ls vs a w1 hi hJ hold hdep K hK
      have q196 : a.tmps[196]?.getD undef = hval ha ⟨sa, sc, ea, ec⟩ := (hdep 0 196 (by kernel_rfl) (by kernel_rfl)).2.1.trans (hdep 0 196 (by kernel_rfl) (by kernel_rfl)).2.2
      rw [if_pos (by rfl)]
      clear hold hdep hend o3 o4 o5
      go_simp
      go_at_call 15
      (with_reducible refine (HOW.out _ (he.trans (hr.trans hJ)) (by omega) (by omega)).mono ?_); rintro e w20 ⟨h6, i6, h10, i10, rfl, he2, -, -, -, ho6, ho10⟩
      exact hK _ _ (fun j u _ h => by
            match j, h with
            | 0, h | 2, h | 4, h | 5, h | 7, h | 8, h | 9, h | 10, h | 12, h => exact h
            | 1, h => (obtain ⟨a1, a2, a3, a4, h1, h2, h3⟩ := h; exact ⟨a1, a2, a3, a4, h1, own_ext h2 he2, own_ext h3 he2⟩)
            | 3, h => (obtain ⟨a1, a2, h1, h2⟩ := h; exact ⟨a1, a2, h1, own_ext h2 he2⟩)
            | 6, h => (obtain ⟨a1, a2, h1, h2⟩ := h; exact ⟨a1, a2, h1, own_ext h2 he2⟩)
            | 11, h => (obtain ⟨g, v0, v1, v2, v3, h1, h2, h3⟩ := h; exact ⟨g, v0, v1, v2, v3, h1, h2, he2.block h3⟩)
            | (n + 13), h => exact h) (hJ.trans he2) ⟨_, _, _, _, rfl, own_down ho6 (Nat.zero_le _), own_down ho10 (Nat.zero_le _)⟩
    · intro ls vs a w1 hi hJ hold hdep K hK
      have q4 : a.tmps[4]?.getD undef = .pointer (some ⟨w.heap.size + 1, 0, none⟩) := (hold 4 (by kernel_rfl)).trans o4
      rw [if_pos (by rfl)]
      clear hold hdep hend o3 o4 o5
      have hz1 := hr.trans hJ
      go_simp
      exact hK _ _ (fun _ _ _ h => h) hJ rfl
    · intro ls vs a w1 hi hJ hold hdep K hK
      have q198 : a.tmps[198]?.getD undef = .slice la l.length lc := (hdep 2 198 (by kernel_rfl) (by kernel_rfl)).2.1.trans (hdep 2 198 (by kernel_rfl) (by kernel_rfl)).2.2
      rw [if_pos (by rfl)]
      clear hold hdep hend o3 o4 o5
      go_simp
      go_at_call 16
      (with_reducible refine (HCP.out _ (he.trans (hr.trans hJ)) (by omega)).mono ?_); rintro e w20 ⟨ca, cc, rfl, he2, ho⟩
      exact hK _ _ (fun j u _ h => by
            match j, h with
            | 0, h | 2, h | 4, h | 5, h | 7, h | 8, h | 9, h | 10, h | 12, h => exact h
            | 1, h => (obtain ⟨a1, a2, a3, a4, h1, h2, h3⟩ := h; exact ⟨a1, a2, a3, a4, h1, own_ext h2 he2, own_ext h3 he2⟩)
            | 3, h => (obtain ⟨a1, a2, h1, h2⟩ := h; exact ⟨a1, a2, h1, own_ext h2 he2⟩)
            | 6, h => (obtain ⟨a1, a2, h1, h2⟩ := h; exact ⟨a1, a2, h1, own_ext h2 he2⟩)
            | 11, h => (obtain ⟨g, v0, v1, v2, v3, h1, h2, h3⟩ := h; exact ⟨g, v0, v1, v2, v3, h1, h2, he2.block h3⟩)
            | (n + 13), h => exact h) (hJ.trans he2) ⟨_, _, rfl, own_downC ho (Nat.zero_le _)⟩
    · intro ls vs a w1 hi hJ hold hdep K hK
      have q5 : a.tmps[5]?.getD undef = .pointer (some ⟨w.heap.size + 2, 0, none⟩) := (hold 5 (by kernel_rfl)).trans o5
      rw [if_pos (by rfl)]
      clear hold hdep hend o3 o4 o5
      go_simp
      exact hK _ _ (fun _ _ _ h => h) hJ rfl
    · intro ls vs a w1 hi hJ hold hdep K hK
      have q200 : a.tmps[200]?.getD undef = .pointer (some ⟨w.heap.size + 2, 0, none⟩) := (hdep 4 200 (by kernel_rfl) (by kernel_rfl)).2.1.trans (hdep 4 200 (by kernel_rfl) (by kernel_rfl)).2.2
      rw [if_pos (by rfl)]
      clear hold hdep hend o3 o4 o5
      have hz1 := hr.trans hJ
      go_simp
      exact hK _ _ (fun _ _ _ h => h) hJ rfl
    · intro ls vs a w1 hi hJ hold hdep K hK
      have q201 : a.tmps[201]?.getD undef = .slice pa l.length pc := (hdep 5 201 (by kernel_rfl) (by kernel_rfl)).2.1.trans (hdep 5 201 (by kernel_rfl) (by kernel_rfl)).2.2
      rw [if_pos (by rfl)]
      clear hold hdep hend o3 o4 o5
      go_simp
      go_at_call 17
      (with_reducible refine (HIN.out _ (he.trans (hr.trans hJ)) (by rw [HPN.out]; omega)).mono ?_); rintro e w20 ⟨ia, ic, rfl, he2, ho⟩
      exact hK _ _ (fun j u _ h => by
            match j, h with
            | 0, h | 2, h | 4, h | 5, h | 7, h | 8, h | 9, h | 10, h | 12, h => exact h
            | 1, h => (obtain ⟨a1, a2, a3, a4, h1, h2, h3⟩ := h; exact ⟨a1, a2, a3, a4, h1, own_ext h2 he2, own_ext h3 he2⟩)
            | 3, h => (obtain ⟨a1, a2, h1, h2⟩ := h; exact ⟨a1, a2, h1, own_ext h2 he2⟩)
            | 6, h => (obtain ⟨a1, a2, h1, h2⟩ := h; exact ⟨a1, a2, h1, own_ext h2 he2⟩)
            | 11, h => (obtain ⟨g, v0, v1, v2, v3, h1, h2, h3⟩ := h; exact ⟨g, v0, v1, v2, v3, h1, h2, he2.block h3⟩)
            | (n + 13), h => exact h) (hJ.trans he2) ⟨_, _, rfl, own_down ho (Nat.zero_le _)⟩
    · intro ls vs a w1 hi hJ hold hdep K hK
      obtain ⟨hl1, q197, p197⟩ := hdep 1 197 (by kernel_rfl) (by kernel_rfl)
      obtain ⟨hl3, q199, p199⟩ := hdep 3 199 (by kernel_rfl) (by kernel_rfl)
      obtain ⟨hl6, q202, p202⟩ := hdep 6 202 (by kernel_rfl) (by kernel_rfl)
      rw [if_pos (by rfl)]
      clear hold hdep hend o3 o4 o5
      obtain ⟨h6, i6, h10, i10, k1, k2, k2'⟩ := p197
      rw [k1] at q197
      obtain ⟨ca, cc, k3, k4⟩ := p199
      rw [k3] at q199
      obtain ⟨ia, ic, k5, k6⟩ := p202
      rw [k5] at q202
      go_simp
      go_at_call 39
      (with_reducible refine (Check_any ha ⟨some ⟨h6, 0, none⟩, i6, some ⟨h10, 0, none⟩, i10⟩ l ca cc p ia _ ic _ ⟨k2.ints.1, k2'.ints.1⟩ k4.camps.1 k6.ints.1 rfl).mono ?_); rintro e w20 ⟨rfl, he2⟩
      exact hK _ _ (fun j u _ h => by
            match j, h with
            | 0, h | 2, h | 4, h | 5, h | 7, h | 8, h | 9, h | 10, h | 12, h => exact h
            | 1, h => (obtain ⟨a1, a2, a3, a4, h1, h2, h3⟩ := h; exact ⟨a1, a2, a3, a4, h1, own_ext h2 he2, own_ext h3 he2⟩)
            | 3, h => (obtain ⟨a1, a2, h1, h2⟩ := h; exact ⟨a1, a2, h1, own_ext h2 he2⟩)
            | 6, h => (obtain ⟨a1, a2, h1, h2⟩ := h; exact ⟨a1, a2, h1, own_ext h2 he2⟩)
            | 11, h => (obtain ⟨g, v0, v1, v2, v3, h1, h2, h3⟩ := h; exact ⟨g, v0, v1, v2, v3, h1, h2, he2.block h3⟩)
            | (n + 13), h => exact h) (hJ.trans he2) rfl
    · intro ls vs a w1 hi hJ hold hdep K hK
      have q203 : a.tmps[203]?.getD undef = .tuple #[bval (chkB ha l p), .int .i64 (errS ha l p)] := (hdep 7 203 (by kernel_rfl) (by kernel_rfl)).2.1.trans (hdep 7 203 (by kernel_rfl) (by kernel_rfl)).2.2
      rw [if_pos (by rfl)]
      clear hold hdep hend o3 o4 o5
      go_simp
      exact hK _ _ (fun _ _ _ h => h) hJ rfl
    · intro ls vs a w1 hi hJ hold hdep K hK
      have q195 : a.tmps[195]?.getD undef = .tuple #[bval (chkB ha l p), .int .i64 (errS ha l p)] := (hdep 8 195 (by kernel_rfl) (by kernel_rfl)).2.1.trans (hdep 8 195 (by kernel_rfl) (by kernel_rfl)).2.2
      rw [if_pos (by rfl)]
      clear hold hdep hend o3 o4 o5
      go_simp
      exact hK _ _ (fun _ _ _ h => h) hJ rfl
    · intro ls vs a w1 hi hJ hold hdep K hK
      have q195 : a.tmps[195]?.getD undef = .tuple #[bval (chkB ha l p), .int .i64 (errS ha l p)] := (hdep 8 195 (by kernel_rfl) (by kernel_rfl)).2.1.trans (hdep 8 195 (by kernel_rfl) (by kernel_rfl)).2.2
      rw [if_pos (by rfl)]
      clear hold hdep hend o3 o4 o5
      go_simp
      exact hK _ _ (fun _ _ _ h => h) hJ rfl
    · intro ls vs a w1 hi hJ hold hdep K hK
      rw [if_pos (by rfl)]
      clear hold hdep hend o3 o4 o5
      go_simp
      have he2 := (Ext.refl w1).alloc (Obj.cells #[.int .u8 0, .int .i64 0, .int .i64 0, .int .i64 0] 55)
      exact hK _ _ (fun j u _ h => by
            match j, h with
            | 0, h | 2, h | 4, h | 5, h | 7, h | 8, h | 9, h | 10, h | 12, h => exact h
            | 1, h => (obtain ⟨a1, a2, a3, a4, h1, h2, h3⟩ := h; exact ⟨a1, a2, a3, a4, h1, own_ext h2 he2, own_ext h3 he2⟩)
            | 3, h => (obtain ⟨a1, a2, h1, h2⟩ := h; exact ⟨a1, a2, h1, own_ext h2 he2⟩)
            | 6, h => (obtain ⟨a1, a2, h1, h2⟩ := h; exact ⟨a1, a2, h1, own_ext h2 he2⟩)
            | 11, h => (obtain ⟨g, v0, v1, v2, v3, h1, h2, h3⟩ := h; exact ⟨g, v0, v1, v2, v3, h1, h2, he2.block h3⟩)
            | (n + 13), h => exact h) (hJ.trans he2) ⟨_, _, _, _, _, rfl, hJ.size, heap_new _ _⟩
    · intro ls vs a w1 hi hJ hold hdep K hK
      obtain ⟨hl11, q16, p16⟩ := hdep 11 16 (by kernel_rfl) (by kernel_rfl)
      have q204 : a.tmps[204]?.getD undef = bval (chkB ha l p) := (hdep 9 204 (by kernel_rfl) (by kernel_rfl)).2.1.trans (hdep 9 204 (by kernel_rfl) (by kernel_rfl)).2.2
      rw [if_pos (by rfl)]
      clear hold hdep hend o3 o4 o5
      obtain ⟨g, v0, v1, v2, v3, k1, k2, k3⟩ := p16
      rw [k1] at q16
      have fz := obj_free k3 w1 (Ext.refl _)
      obtain ⟨z0, z1, z2, z3⟩ := obj_cells4 k3
      have hr1 := Ext.refl w1
      go_simp
      have he2 : ExtX g w1 _ := ((((ExtX.refl g w1).set 0 (.int .u8 (chkB ha l p).ru)).set 1 (.int .i64 (chkB ha l p).a)).set 2 (.int .i64 (chkB ha l p).b)).set 3 (.int .i64 (chkB ha l p).ho)
      have hbk := block_set (block_set (block_set (block_set k3 0 (.int .u8 (chkB ha l p).ru)) 1 (.int .i64 (chkB ha l p).a)) 2 (.int .i64 (chkB ha l p).b)) 3 (.int .i64 (chkB ha l p).ho)
      exact hK undef _ (fun j u _ h => by
            match j, h with
            | 0, h | 2, h | 4, h | 5, h | 7, h | 8, h | 9, h | 10, h | 12, h => exact h
            | 1, h => (obtain ⟨a1, a2, a3, a4, h1, h2, h3⟩ := h; exact ⟨a1, a2, a3, a4, h1, ownsRow_x h2 he2 k3 (by decide), ownsRow_x h3 he2 k3 (by decide)⟩)
            | 3, h => (obtain ⟨a1, a2, h1, h2⟩ := h; exact ⟨a1, a2, h1, ownsRow_x h2 he2 k3 (by decide)⟩)
            | 6, h => (obtain ⟨a1, a2, h1, h2⟩ := h; exact ⟨a1, a2, h1, ownsRow_x h2 he2 k3 (by decide)⟩)
            | 11, h => (obtain ⟨g', v0', v1', v2', v3', h1, h2, h3⟩ := h; by_cases hgg : g' = g; (subst hgg; exact ⟨_, _, _, _, _, h1, h2, hbk⟩); exact ⟨g', v0', v1', v2', v3', h1, h2, (he2.block _ (lt_of_block h3) hgg).trans h3⟩)
            | (n + 13), h => exact h) ((hJ.x.trans he2).ext k2) trivial
    · intro ls vs a w1 hi hJ hold hdep K hK
      have q205 : a.tmps[205]?.getD undef = .int .i64 (errS ha l p) := (hdep 10 205 (by kernel_rfl) (by kernel_rfl)).2.1.trans (hdep 10 205 (by kernel_rfl) (by kernel_rfl)).2.2
      rw [if_pos (by rfl)]
      clear hold hdep hend o3 o4 o5
      go_simp
      exact hK _ _ (fun _ _ _ h => h) hJ rfl
  · intro vs w9 ls9 hl9 hJ9 hφ
    have e0 := hφ 0 (by kernel_rfl)
    have e1 := hφ 1 (by kernel_rfl)
    have e2 := hφ 2 (by kernel_rfl)
    have e3 := hφ 3 (by kernel_rfl)
    have e4 := hφ 4 (by kernel_rfl)
    have e5 := hφ 5 (by kernel_rfl)
    have e6 := hφ 6 (by kernel_rfl)
    have e7 := hφ 7 (by kernel_rfl)
    have e8 := hφ 8 (by kernel_rfl)
    have e9 := hφ 9 (by kernel_rfl)
    have e10 := hφ 10 (by kernel_rfl)
    have e11 := hφ 11 (by kernel_rfl)
    have e13 := hφ 13 (by kernel_rfl)
    have hq := hend vs w9 ls9 hl9 hJ9 e0 e1 e2 e3 e4 e5 e6 e7 e8 e9 e10 e11 e13
    simp only [Act.put] at hq
    simp only [putAll, Act.put]
    exact hq

set_option maxRecDepth 100000 in
set_option maxHeartbeats 4000000 in
theorem s22_law {rb rd : Option Addr} {n0 rbc rdc : Nat} {k0 : Int} {wX : World} (HSA : Hid (∀ W, Ext wX W → Calls Try.prog 28 #[.slice rb n0 rbc, .slice rd n0 rdc] W (Ret (.bool true) W))) {Q : Exit → Act → World → Prop} (aZ : Act) (hsz : aZ.tmps.size = 317) (o18 : aZ.tmps[18]?.getD undef = .slice rb n0 rbc) (o19 : aZ.tmps[19]?.getD undef = .int .i64 k0) (o20 : aZ.tmps[20]?.getD undef = .int .i64 0) (o21 : aZ.tmps[21]?.getD undef = .slice rd n0 rdc) (o22 : aZ.tmps[22]?.getD undef = .int .i64 k0) (o23 : aZ.tmps[23]?.getD undef = .int .i64 0)
    (hend : ∀ (vs : Nat → Value) (w9 : World) (ls9 : Nat → Bool), (∀ j : Nat, j < 17 → ls9 j = true) → (Ext wX w9) → (vs 0 = .int .i64 0) → (vs 1 = .bool false) → (vs 2 = .bool false) → (vs 3 = .int .i64 0) → (vs 4 = .bool false) → (vs 5 = .bool false) → (vs 6 = .bool false) → (vs 7 = .int .i64 k0) → (vs 8 = .int .i64 k0) → (vs 9 = .bool false) → (vs 10 = .bool false) → (vs 11 = .bool false) → (vs 12 = .slice rb n0 rbc) → (vs 13 = .slice rd n0 rdc) → (vs 14 = .bool true) → (vs 15 = .bool false) → (vs 16 = .bool false) → Q .normal (((((((((((((((((aZ.put (some 234) (vs 0)).put (some 235) (vs 1)).put (some 236) (vs 2)).put (some 237) (vs 3)).put (some 238) (vs 4)).put (some 239) (vs 5)).put (some 240) (vs 6)).put (some 241) (vs 7)).put (some 242) (vs 8)).put (some 243) (vs 9)).put (some 244) (vs 10)).put (some 245) (vs 11)).put (some 246) (vs 12)).put (some 247) (vs 13)).put (some 248) (vs 14)).put (some 249) (vs 15)).put (some 250) (vs 16)) w9) : (regOf Try.f9 22).wp Try.prog Q aZ wX := by
  conv => arg 2; whnf
  refine wp_region_seq3 (fun i v wz => match i with
    | 0 => v = .int .i64 0
    | 1 => v = .bool false
    | 2 => v = .bool false
    | 3 => v = .int .i64 0
    | 4 => v = .bool false
    | 5 => v = .bool false
    | 6 => v = .bool false
    | 7 => v = .int .i64 k0
    | 8 => v = .int .i64 k0
    | 9 => v = .bool false
    | 10 => v = .bool false
    | 11 => v = .bool false
    | 12 => v = .slice rb n0 rbc
    | 13 => v = .slice rd n0 rdc
    | 14 => v = .bool true
    | 15 => v = .bool false
    | _ => v = .bool false) (fun ls vs wz => Ext wX wz) (by kernel_rfl) (by rw [hsz]; kernel_rfl) ?_ ?_ ?_
  · exact Ext.refl _
  · refine ⟨?_, ?_, ?_, ?_, ?_, ?_, ?_, ?_, ?_, ?_, ?_, ?_, ?_, ?_, ?_, ?_, ?_, trivial⟩
    · intro ls vs a w1 hi hJ hold hdep K hK
      have q20 : a.tmps[20]?.getD undef = .int .i64 0 := (hold 20 (by kernel_rfl)).trans o20
      rw [if_pos (by rfl)]
      clear hold hdep hend o18 o19 o20 o21 o22 o23
      go_simp
      exact hK _ _ (fun _ _ _ h => h) hJ rfl
    · intro ls vs a w1 hi hJ hold hdep K hK
      have q234 : a.tmps[234]?.getD undef = .int .i64 0 := (hdep 0 234 (by kernel_rfl) (by kernel_rfl)).2.1.trans (hdep 0 234 (by kernel_rfl) (by kernel_rfl)).2.2
      rw [if_pos (by rfl)]
      clear hold hdep hend o18 o19 o20 o21 o22 o23
      go_simp
      exact hK _ _ (fun _ _ _ h => h) hJ rfl
    · intro ls vs a w1 hi hJ hold hdep K hK
      have q235 : a.tmps[235]?.getD undef = .bool false := (hdep 1 235 (by kernel_rfl) (by kernel_rfl)).2.1.trans (hdep 1 235 (by kernel_rfl) (by kernel_rfl)).2.2
      rw [if_pos (by rfl)]
      clear hold hdep hend o18 o19 o20 o21 o22 o23
      go_simp
      exact hK _ _ (fun _ _ _ h => h) hJ rfl
    · intro ls vs a w1 hi hJ hold hdep K hK
      have q23 : a.tmps[23]?.getD undef = .int .i64 0 := (hold 23 (by kernel_rfl)).trans o23
      have q236 : a.tmps[236]?.getD undef = .bool false := (hdep 2 236 (by kernel_rfl) (by kernel_rfl)).2.1.trans (hdep 2 236 (by kernel_rfl) (by kernel_rfl)).2.2
      clear hold hdep hend o18 o19 o20 o21 o22 o23
      rw [wanted_of rfl (by kernel_rfl) q236, if_pos (by rfl)]
      go_simp
      exact hK _ _ (fun _ _ _ h => h) hJ rfl
    · intro ls vs a w1 hi hJ hold hdep K hK
      have q237 : a.tmps[237]?.getD undef = .int .i64 0 := (hdep 3 237 (by kernel_rfl) (by kernel_rfl)).2.1.trans (hdep 3 237 (by kernel_rfl) (by kernel_rfl)).2.2
      have q236 : a.tmps[236]?.getD undef = .bool false := (hdep 2 236 (by kernel_rfl) (by kernel_rfl)).2.1.trans (hdep 2 236 (by kernel_rfl) (by kernel_rfl)).2.2
      clear hold hdep hend o18 o19 o20 o21 o22 o23
      rw [wanted_of rfl (by kernel_rfl) q236, if_pos (by rfl)]
      go_simp
      exact hK _ _ (fun _ _ _ h => h) hJ rfl
    · intro ls vs a w1 hi hJ hold hdep K hK
      have q236 : a.tmps[236]?.getD undef = .bool false := (hdep 2 236 (by kernel_rfl) (by kernel_rfl)).2.1.trans (hdep 2 236 (by kernel_rfl) (by kernel_rfl)).2.2
      have q238 : a.tmps[238]?.getD undef = .bool false := (hdep 4 238 (by kernel_rfl) (by kernel_rfl)).2.1.trans (hdep 4 238 (by kernel_rfl) (by kernel_rfl)).2.2
      rw [if_pos (by rfl)]
      clear hold hdep hend o18 o19 o20 o21 o22 o23
      go_simp
      exact hK _ _ (fun _ _ _ h => h) hJ rfl
    · intro ls vs a w1 hi hJ hold hdep K hK
      have q239 : a.tmps[239]?.getD undef = .bool false := (hdep 5 239 (by kernel_rfl) (by kernel_rfl)).2.1.trans (hdep 5 239 (by kernel_rfl) (by kernel_rfl)).2.2
      rw [if_pos (by rfl)]
      clear hold hdep hend o18 o19 o20 o21 o22 o23
      go_simp
      exact hK _ _ (fun _ _ _ h => h) hJ rfl
    · intro ls vs a w1 hi hJ hold hdep K hK
      have q19 : a.tmps[19]?.getD undef = .int .i64 k0 := (hold 19 (by kernel_rfl)).trans o19
      have q240 : a.tmps[240]?.getD undef = .bool false := (hdep 6 240 (by kernel_rfl) (by kernel_rfl)).2.1.trans (hdep 6 240 (by kernel_rfl) (by kernel_rfl)).2.2
      clear hold hdep hend o18 o19 o20 o21 o22 o23
      rw [wanted_of rfl (by kernel_rfl) q240, if_pos (by rfl)]
      go_simp
      exact hK _ _ (fun _ _ _ h => h) hJ rfl
    · intro ls vs a w1 hi hJ hold hdep K hK
      have q22 : a.tmps[22]?.getD undef = .int .i64 k0 := (hold 22 (by kernel_rfl)).trans o22
      have q240 : a.tmps[240]?.getD undef = .bool false := (hdep 6 240 (by kernel_rfl) (by kernel_rfl)).2.1.trans (hdep 6 240 (by kernel_rfl) (by kernel_rfl)).2.2
      clear hold hdep hend o18 o19 o20 o21 o22 o23
      rw [wanted_of rfl (by kernel_rfl) q240, if_pos (by rfl)]
      go_simp
      exact hK _ _ (fun _ _ _ h => h) hJ rfl
    · intro ls vs a w1 hi hJ hold hdep K hK
      have q241 : a.tmps[241]?.getD undef = .int .i64 k0 := (hdep 7 241 (by kernel_rfl) (by kernel_rfl)).2.1.trans (hdep 7 241 (by kernel_rfl) (by kernel_rfl)).2.2
      have q242 : a.tmps[242]?.getD undef = .int .i64 k0 := (hdep 8 242 (by kernel_rfl) (by kernel_rfl)).2.1.trans (hdep 8 242 (by kernel_rfl) (by kernel_rfl)).2.2
      have q240 : a.tmps[240]?.getD undef = .bool false := (hdep 6 240 (by kernel_rfl) (by kernel_rfl)).2.1.trans (hdep 6 240 (by kernel_rfl) (by kernel_rfl)).2.2
      clear hold hdep hend o18 o19 o20 o21 o22 o23
      rw [wanted_of rfl (by kernel_rfl) q240, if_pos (by rfl)]
      go_simp
      exact hK _ _ (fun _ _ _ h => h) hJ (by simp)
    · intro ls vs a w1 hi hJ hold hdep K hK
      have q240 : a.tmps[240]?.getD undef = .bool false := (hdep 6 240 (by kernel_rfl) (by kernel_rfl)).2.1.trans (hdep 6 240 (by kernel_rfl) (by kernel_rfl)).2.2
      have q243 : a.tmps[243]?.getD undef = .bool false := (hdep 9 243 (by kernel_rfl) (by kernel_rfl)).2.1.trans (hdep 9 243 (by kernel_rfl) (by kernel_rfl)).2.2
      rw [if_pos (by rfl)]
      clear hold hdep hend o18 o19 o20 o21 o22 o23
      go_simp
      exact hK _ _ (fun _ _ _ h => h) hJ rfl
    · intro ls vs a w1 hi hJ hold hdep K hK
      have q244 : a.tmps[244]?.getD undef = .bool false := (hdep 10 244 (by kernel_rfl) (by kernel_rfl)).2.1.trans (hdep 10 244 (by kernel_rfl) (by kernel_rfl)).2.2
      rw [if_pos (by rfl)]
      clear hold hdep hend o18 o19 o20 o21 o22 o23
      go_simp
      exact hK _ _ (fun _ _ _ h => h) hJ rfl
    · intro ls vs a w1 hi hJ hold hdep K hK
      have q18 : a.tmps[18]?.getD undef = .slice rb n0 rbc := (hold 18 (by kernel_rfl)).trans o18
      have q245 : a.tmps[245]?.getD undef = .bool false := (hdep 11 245 (by kernel_rfl) (by kernel_rfl)).2.1.trans (hdep 11 245 (by kernel_rfl) (by kernel_rfl)).2.2
      clear hold hdep hend o18 o19 o20 o21 o22 o23
      rw [wanted_of rfl (by kernel_rfl) q245, if_pos (by rfl)]
      go_simp
      exact hK _ _ (fun _ _ _ h => h) hJ rfl
    · intro ls vs a w1 hi hJ hold hdep K hK
      have q21 : a.tmps[21]?.getD undef = .slice rd n0 rdc := (hold 21 (by kernel_rfl)).trans o21
      have q245 : a.tmps[245]?.getD undef = .bool false := (hdep 11 245 (by kernel_rfl) (by kernel_rfl)).2.1.trans (hdep 11 245 (by kernel_rfl) (by kernel_rfl)).2.2
      clear hold hdep hend o18 o19 o20 o21 o22 o23
      rw [wanted_of rfl (by kernel_rfl) q245, if_pos (by rfl)]
      go_simp
      exact hK _ _ (fun _ _ _ h => h) hJ rfl
    · intro ls vs a w1 hi hJ hold hdep K hK
      have q246 : a.tmps[246]?.getD undef = .slice rb n0 rbc := (hdep 12 246 (by kernel_rfl) (by kernel_rfl)).2.1.trans (hdep 12 246 (by kernel_rfl) (by kernel_rfl)).2.2
      have q247 : a.tmps[247]?.getD undef = .slice rd n0 rdc := (hdep 13 247 (by kernel_rfl) (by kernel_rfl)).2.1.trans (hdep 13 247 (by kernel_rfl) (by kernel_rfl)).2.2
      have q245 : a.tmps[245]?.getD undef = .bool false := (hdep 11 245 (by kernel_rfl) (by kernel_rfl)).2.1.trans (hdep 11 245 (by kernel_rfl) (by kernel_rfl)).2.2
      clear hold hdep hend o18 o19 o20 o21 o22 o23
      rw [wanted_of rfl (by kernel_rfl) q245, if_pos (by rfl)]
      go_simp
      go_at_call 28
      (with_reducible refine (HSA.out _ hJ).mono ?_); rintro e w20 ⟨rfl, he2⟩
      exact hK _ _ (fun _ _ _ h => h) (hJ.trans he2) rfl
    · intro ls vs a w1 hi hJ hold hdep K hK
      have q248 : a.tmps[248]?.getD undef = .bool true := (hdep 14 248 (by kernel_rfl) (by kernel_rfl)).2.1.trans (hdep 14 248 (by kernel_rfl) (by kernel_rfl)).2.2
      have q245 : a.tmps[245]?.getD undef = .bool false := (hdep 11 245 (by kernel_rfl) (by kernel_rfl)).2.1.trans (hdep 11 245 (by kernel_rfl) (by kernel_rfl)).2.2
      clear hold hdep hend o18 o19 o20 o21 o22 o23
      rw [wanted_of rfl (by kernel_rfl) q245, if_pos (by rfl)]
      go_simp
      exact hK _ _ (fun _ _ _ h => h) hJ rfl
    · intro ls vs a w1 hi hJ hold hdep K hK
      have q245 : a.tmps[245]?.getD undef = .bool false := (hdep 11 245 (by kernel_rfl) (by kernel_rfl)).2.1.trans (hdep 11 245 (by kernel_rfl) (by kernel_rfl)).2.2
      have q249 : a.tmps[249]?.getD undef = .bool false := (hdep 15 249 (by kernel_rfl) (by kernel_rfl)).2.1.trans (hdep 15 249 (by kernel_rfl) (by kernel_rfl)).2.2
      rw [if_pos (by rfl)]
      clear hold hdep hend o18 o19 o20 o21 o22 o23
      go_simp
      exact hK _ _ (fun _ _ _ h => h) hJ rfl
  · intro vs w9 ls9 hl9 hJ9 hφ
    have e0 := hφ 0 (by kernel_rfl)
    have e1 := hφ 1 (by kernel_rfl)
    have e2 := hφ 2 (by kernel_rfl)
    have e3 := hφ 3 (by kernel_rfl)
    have e4 := hφ 4 (by kernel_rfl)
    have e5 := hφ 5 (by kernel_rfl)
    have e6 := hφ 6 (by kernel_rfl)
    have e7 := hφ 7 (by kernel_rfl)
    have e8 := hφ 8 (by kernel_rfl)
    have e9 := hφ 9 (by kernel_rfl)
    have e10 := hφ 10 (by kernel_rfl)
    have e11 := hφ 11 (by kernel_rfl)
    have e12 := hφ 12 (by kernel_rfl)
    have e13 := hφ 13 (by kernel_rfl)
    have e14 := hφ 14 (by kernel_rfl)
    have e15 := hφ 15 (by kernel_rfl)
    have e16 := hφ 16 (by kernel_rfl)
    have hq := hend vs w9 ls9 hl9 hJ9 e0 e1 e2 e3 e4 e5 e6 e7 e8 e9 e10 e11 e12 e13 e14 e15 e16
    simp only [Act.put] at hq
    simp only [putAll, Act.put]
    exact hq

set_option maxRecDepth 100000 in
set_option maxHeartbeats 4000000 in
theorem s25_law {l m : List Camp} {c : Camp} {la : Option Addr} {lc : Nat} {w w1 wX : World} (he : Ext w w1) (hr : Ext w1 wX) (hn4 : l.length ≤ 4) (HCP : Hid (∀ W, Ext w W → l.length ≤ 1000000 → Calls Try.prog 16 #[.slice la l.length lc] W (RetC l W))) (HM : Hid (l ++ [c] = m)) (l0 : ∀ W, Ext w1 W → W.cell? ⟨w.heap.size + 1, 0, none⟩ = some (.slice la l.length lc)) (a3 : ∀ W, Ext w1 W → W.cell? ⟨w.heap.size + 2, 3, none⟩ = some (.int .i64 c.cu)) (a4 : ∀ W, Ext w1 W → W.cell? ⟨w.heap.size + 2, 4, none⟩ = some (.int .i64 c.pr)) (a5 : ∀ W, Ext w1 W → W.cell? ⟨w.heap.size + 2, 5, none⟩ = some (.int .i64 c.ho)) (a6 : ∀ W, Ext w1 W → W.cell? ⟨w.heap.size + 2, 6, none⟩ = some (.int .i64 c.en)) (a7 : ∀ W, Ext w1 W → W.cell? ⟨w.heap.size + 2, 7, none⟩ = some (.int .i64 c.ea)) (a8 : ∀ W, Ext w1 W → W.cell? ⟨w.heap.size + 2, 8, none⟩ = some (.int .i64 c.la)) (a9 : ∀ W, Ext w1 W → W.cell? ⟨w.heap.size + 2, 9, none⟩ = some (.int .i64 c.we)) {Q : Exit → Act → World → Prop} (aZ : Act) (hsz : aZ.tmps.size = 317) (o4 : aZ.tmps[4]?.getD undef = .pointer (some ⟨w.heap.size + 1, 0, none⟩)) (o5 : aZ.tmps[5]?.getD undef = .pointer (some ⟨w.heap.size + 2, 0, none⟩))
    (hend : ∀ (vs : Nat → Value) (w9 : World) (ls9 : Nat → Bool), (∀ j : Nat, j < 7 → ls9 j = true) → (Ext wX w9 ∧ (ls9 5 = false → ls9 1 = true → OwnC w9 wX.heap.size (vs 1) l) ∧ (ls9 5 = false → ls9 4 = true → ∃ g, vs 4 = .slice (some ⟨g, 0, none⟩) 1 1 ∧ w9.heap[g]? = some (.cells (crow c) 45 (0, 0))) ∧ (ls9 5 = true → ∃ ma mc, vs 5 = .slice ma m.length mc ∧ Camps w9 ma m) ∧ (ls9 6 = true → ls9 5 = true ∧ vs 6 = vs 5)) → (vs 0 = .slice la l.length lc) → (True) → (vs 2 = .pointer (some ⟨w.heap.size + 2, 3, none⟩)) → (vs 3 = .agg (crow c)) → (True) → (True) → (True) → Q .normal (((((((aZ.put (some 264) (vs 0)).put (some 265) (vs 1)).put (some 266) (vs 2)).put (some 267) (vs 3)).put (some 268) (vs 4)).put (some 269) (vs 5)).put (some 25) (vs 6)) w9) : (regOf Try.f9 25).wp Try.prog Q aZ wX := by
  conv => arg 2; whnf
  refine wp_region_said3 (fun i v wz => match i with
    | 0 => v = .slice la l.length lc
    | 1 => True
    | 2 => v = .pointer (some ⟨w.heap.size + 2, 3, none⟩)
    | 3 => v = .agg (crow c)
    | 4 => True
    | 5 => True
    | _ => True) (fun ls vs wz => Ext wX wz ∧ (ls 5 = false → ls 1 = true → OwnC wz wX.heap.size (vs 1) l) ∧ (ls 5 = false → ls 4 = true → ∃ g, vs 4 = .slice (some ⟨g, 0, none⟩) 1 1 ∧ wz.heap[g]? = some (.cells (crow c) 45 (0, 0))) ∧ (ls 5 = true → ∃ ma mc, vs 5 = .slice ma m.length mc ∧ Camps wz ma m) ∧ (ls 6 = true → ls 5 = true ∧ vs 6 = vs 5)) (by kernel_rfl) (by kernel_rfl) (by rw [hsz]; kernel_rfl) ?_ ?_ ?_
  · exact ⟨(Ext.refl _).drew, fun _ e => (by cases e), fun _ e => (by cases e), fun e => (by cases e), fun e => (by cases e)⟩
  · refine ⟨?_, ?_, ?_, ?_, ?_, ?_, ?_, trivial⟩
    · intro ls vs a w1 hi hJ hold hdep K hK
      have q4 : a.tmps[4]?.getD undef = .pointer (some ⟨w.heap.size + 1, 0, none⟩) := (hold 4 (by kernel_rfl)).trans o4
      rw [if_pos (by rfl)]
      clear hold hdep hend o4 o5
      have HJ := Lib.hid hJ
      clear hJ
      have hz1 := hr.trans HJ.out.1
      go_simp
      exact hK _ _ (fun _ _ _ h => h) HJ.out rfl
    · intro ls vs a w1 hi hJ hold hdep K hK
      have q264 : a.tmps[264]?.getD undef = .slice la l.length lc := (hdep 0 264 (by kernel_rfl) (by kernel_rfl)).2.1.trans (hdep 0 264 (by kernel_rfl) (by kernel_rfl)).2.2
      rw [if_pos (by rfl)]
      clear hold hdep hend o4 o5
      have HJ := Lib.hid hJ
      clear hJ
      have hz1 := he.trans (hr.trans HJ.out.1)
      go_simp
      go_at_call 16
      (with_reducible refine (HCP.out _ hz1 (by omega)).mono ?_); rintro e w20 ⟨ca, cc, rfl, he2, ho⟩
      obtain ⟨j1, j2, j3, j4, j5⟩ := HJ.out
      exact hK _ _ (fun _ _ _ h => h) ⟨j1.trans he2, fun _ _ => own_downC ho j1.size, fun e1 e2 => (by obtain ⟨g, h1, h2⟩ := j3 e1 e2; exact ⟨g, h1, he2.block h2⟩), fun e => (by obtain ⟨g1, g2, h1, h2⟩ := j4 e; exact ⟨g1, g2, h1, h2.ext he2⟩), j5⟩ trivial
    · intro ls vs a w1 hi hJ hold hdep K hK
      have q5 : a.tmps[5]?.getD undef = .pointer (some ⟨w.heap.size + 2, 0, none⟩) := (hold 5 (by kernel_rfl)).trans o5
      rw [if_pos (by rfl)]
      clear hold hdep hend o4 o5
      have HJ := Lib.hid hJ
      clear hJ
      go_simp
      exact hK _ _ (fun _ _ _ h => h) HJ.out rfl
    · intro ls vs a w1 hi hJ hold hdep K hK
      have q266 : a.tmps[266]?.getD undef = .pointer (some ⟨w.heap.size + 2, 3, none⟩) := (hdep 2 266 (by kernel_rfl) (by kernel_rfl)).2.1.trans (hdep 2 266 (by kernel_rfl) (by kernel_rfl)).2.2
      rw [if_pos (by rfl)]
      clear hold hdep hend o4 o5
      have HJ := Lib.hid hJ
      clear hJ
      have hz1 := hr.trans HJ.out.1
      go_simp
      exact hK _ _ (fun _ _ _ h => h) HJ.out rfl
    · intro ls vs a w1 hi hJ hold hdep K hK
      have q267 : a.tmps[267]?.getD undef = .agg (crow c) := (hdep 3 267 (by kernel_rfl) (by kernel_rfl)).2.1.trans (hdep 3 267 (by kernel_rfl) (by kernel_rfl)).2.2
      rw [if_pos (by rfl)]
      clear hold hdep hend o4 o5
      have HJ := Lib.hid hJ
      clear hJ
      simp only [crow] at q267
      go_simp
      have he2 := (Ext.refl w1).alloc (.cells (crow c) 45)
      obtain ⟨j1, j2, j3, j4, j5⟩ := HJ.out
      exact hK _ _ (fun _ _ _ h => h) ⟨j1.trans he2, fun e1 e2 => own_ext (j2 e1 e2) he2, fun _ _ => ⟨_, rfl, heap_new _ _⟩, fun e => (by obtain ⟨g1, g2, h1, h2⟩ := j4 e; exact ⟨g1, g2, h1, h2.ext he2⟩), j5⟩ trivial
    · intro ls vs a w1 hi hJ hold hdep K hK
      obtain ⟨hl1, q265, p265⟩ := hdep 1 265 (by kernel_rfl) (by kernel_rfl)
      obtain ⟨hl4, q268, p268⟩ := hdep 4 268 (by kernel_rfl) (by kernel_rfl)
      clear hold hdep hend o4 o5
      have HJ := Lib.hid hJ
      clear hJ
      obtain ⟨j1, j2, j3, j4, j5⟩ := HJ.out
      obtain ⟨g, hv, hb⟩ := j3 hi hl4
      rw [hv] at q268
      have hO := j2 hi hl1
      have happ := app_camps w1 wX.heap.size 25 _ l [c] (some ⟨g, 0, none⟩) 1 hO (camps_one hb) (by simp only [List.length_singleton]; omega) j1.size
      refine step_app (by rfl) (.tmp 265) (.tmp 268) 25 (by rfl) _ _ (by simpa [Act.eval, Array.getD_eq_getD_getElem?] using q265) (by simpa [Act.eval, Array.getD_eq_getD_getElem?] using q268) _ happ ?_
      rintro v3 w3 ⟨ho3, hg3⟩
      have he2 : Ext wX w3 := grown_ext j1 hg3 (fun k hk => (ownsRow_ownBlock hO hk).1)
      obtain ⟨a', n', c', rfl⟩ := ownC_slice ho3
      rw [HM.out] at ho3
      obtain ⟨hcs, hn', -⟩ := ho3.camps
      refine hK _ _ (fun _ _ _ h => h) ⟨he2, fun e => (by simp at e), fun e => (by simp at e), fun _ => ⟨a', c', by rw [hn']; rfl, hcs⟩, fun e => absurd (j5 e).1 (by rw [hi]; decide)⟩ trivial
    · intro ls vs a w1 hi hJ hold hdep K hK
      obtain ⟨hl5, q269, p269⟩ := hdep 5 269 (by kernel_rfl) (by kernel_rfl)
      rw [if_pos (by rfl)]
      clear hold hdep hend o4 o5
      have HJ := Lib.hid hJ
      clear hJ
      go_simp
      obtain ⟨j1, j2, j3, j4, j5⟩ := HJ.out
      exact hK _ _ (fun _ _ _ h => h) ⟨j1, j2, j3, j4, fun _ => ⟨hl5, rfl⟩⟩ trivial
  · intro vs w9 ls9 hl9 hJ9 hφ
    have e0 := hφ 0 (by kernel_rfl)
    have e1 := hφ 1 (by kernel_rfl)
    have e2 := hφ 2 (by kernel_rfl)
    have e3 := hφ 3 (by kernel_rfl)
    have e4 := hφ 4 (by kernel_rfl)
    have e5 := hφ 5 (by kernel_rfl)
    have e6 := hφ 6 (by kernel_rfl)
    have hq := hend vs w9 ls9 hl9 hJ9 e0 e1 e2 e3 e4 e5 e6
    simp only [Act.put] at hq
    simp only [putAll, Act.put]
    exact hq

/-- What is so while a campaign more is tried at an hour: the lists that are new, and where they lie. -/
def J31 (ha : Hal) (p : List Int) (k : Nat) (wX : World) (l1 l5 l7 l8 : Bool) (v1 v5 v7 v8 : Value) (wz : World) : Prop :=
  Ext wX wz ∧ (l1 = true → ∃ g6 c6 g10 c10 : Nat, v1 = hval ha ⟨some ⟨g6, 0, none⟩, c6, some ⟨g10, 0, none⟩, c10⟩ ∧ OwnI wz 0 (.slice (some ⟨g6, 0, none⟩) ha.st.length c6) ha.st ∧ OwnI wz 0 (.slice (some ⟨g10, 0, none⟩) ha.en.length c10) ha.en ∧
    (l5 = true → l8 = false → v5.ownBlock ≠ some g6 ∧ v5.ownBlock ≠ some g10)) ∧
  (l5 = true → l8 = false → OwnI wz wX.heap.size v5 p) ∧
  (l7 = true → l8 = false → ∃ g, v7 = .slice (some ⟨g, 0, none⟩) 1 1 ∧ wz.heap[g]? = some (.cells #[.int .i64 k] 3 (0, 0))) ∧
  (l8 = true → OwnI wz wX.heap.size v8 (p ++ [(k : Int)]))
section
variable {ha : Hal} {p : List Int} {k : Nat} {wX w w' : World} {l1 l5 l7 l8 : Bool} {v1 v5 v7 v8 : Value}
theorem J31.ext (h : J31 ha p k wX l1 l5 l7 l8 v1 v5 v7 v8 w) (he : Ext w w') : J31 ha p k wX l1 l5 l7 l8 v1 v5 v7 v8 w' := by
  obtain ⟨h1, h2, h3, h4, h5⟩ := h
  refine ⟨h1.trans he, fun e => ?_, fun e f => own_ext (h3 e f) he, fun e f => ?_, fun e => own_ext (h5 e) he⟩
  · obtain ⟨a1, a2, a3, a4, q1, q2, q3, q4⟩ := h2 e
    exact ⟨a1, a2, a3, a4, q1, own_ext q2 he, own_ext q3 he, q4⟩
  · obtain ⟨g, q1, q2⟩ := h4 e f
    exact ⟨g, q1, he.block q2⟩
theorem J31.put1 {g6 c6 g10 c10 : Nat} (h : J31 ha p k wX l1 l5 l7 l8 v1 v5 v7 v8 w) (he : Ext w w') (h6 : OwnI w' w.heap.size (.slice (some ⟨g6, 0, none⟩) ha.st.length c6) ha.st) (h10 : OwnI w' w.heap.size (.slice (some ⟨g10, 0, none⟩) ha.en.length c10) ha.en) :
    J31 ha p k wX true l5 l7 l8 (hval ha ⟨some ⟨g6, 0, none⟩, c6, some ⟨g10, 0, none⟩, c10⟩) v5 v7 v8 w' := by
  have h3 := h.2.2.1
  obtain ⟨k1, -, k3, k4, k5⟩ := h.ext he
  refine ⟨k1, fun _ => ⟨_, _, _, _, rfl, own_down h6 (Nat.zero_le _), own_down h10 (Nat.zero_le _), fun e f => ⟨fun q => ?_, fun q => ?_⟩⟩, k3, k4, k5⟩
  · obtain ⟨_, cur, hb⟩ := ownsRow_ownBlock (h3 e f) q
    have := lt_of_block hb
    have := (ownsRow_blk h6).1
    omega
  · obtain ⟨_, cur, hb⟩ := ownsRow_ownBlock (h3 e f) q
    have := lt_of_block hb
    have := (ownsRow_blk h10).1
    omega
theorem J31.put5 {v : Value} (h : J31 ha p k wX l1 l5 l7 l8 v1 v5 v7 v8 w) (he : Ext w w') (ho : OwnI w' w.heap.size v p) : J31 ha p k wX l1 true l7 l8 v1 v v7 v8 w' := by
  have h2 := h.2.1
  have hs := h.1.size
  obtain ⟨k1, k2, -, k4, k5⟩ := h.ext he
  refine ⟨k1, fun e => ?_, fun _ _ => own_down ho hs, k4, k5⟩
  obtain ⟨a1, a2, a3, a4, q1, q2, q3, -⟩ := h2 e
  have b2 := lt_of_block (ownsRow_blk q2).2.choose_spec
  have b3 := lt_of_block (ownsRow_blk q3).2.choose_spec
  refine ⟨a1, a2, a3, a4, q1, own_ext q2 he, own_ext q3 he, fun _ _ => ⟨fun q => ?_, fun q => ?_⟩⟩
  · have := (ownsRow_ownBlock ho q).1; omega
  · have := (ownsRow_ownBlock ho q).1; omega
theorem J31.put7 {g : Nat} (h : J31 ha p k wX l1 l5 l7 l8 v1 v5 v7 v8 w) (he : Ext w w') (hb : w'.heap[g]? = some (.cells #[.int .i64 k] 3 (0, 0))) : J31 ha p k wX l1 l5 true l8 v1 v5 (.slice (some ⟨g, 0, none⟩) 1 1) v8 w' := by
  obtain ⟨k1, k2, k3, k4, k5⟩ := h.ext he
  exact ⟨k1, k2, k3, fun _ _ => ⟨_, rfl, hb⟩, k5⟩
theorem J31.put8 {v : Value} (h : J31 ha p k wX l1 l5 l7 l8 v1 v5 v7 v8 w) (e5 : l5 = true) (e8 : l8 = false) (hg : w.grownBy w' v5.ownBlock) (ho : OwnI w' wX.heap.size v (p ++ [(k : Int)])) : J31 ha p k wX l1 l5 l7 true v1 v5 v7 v w' := by
  obtain ⟨h1, h2, h3, h4, h5⟩ := h
  have hO := h3 e5 e8
  refine ⟨grown_ext h1 hg (fun j hj => (ownsRow_ownBlock hO hj).1), fun e => ?_, fun _ e => (by cases e), fun _ e => (by cases e), fun _ => ho⟩
  obtain ⟨a1, a2, a3, a4, q1, q2, q3, q4⟩ := h2 e
  have b2 := lt_of_block (ownsRow_blk q2).2.choose_spec
  have b3 := lt_of_block (ownsRow_blk q3).2.choose_spec
  obtain ⟨n1, n2⟩ := q4 e5 e8
  exact ⟨a1, a2, a3, a4, q1, ownsRow_at q2 (hg.block a1 b2 (fun e => n1 e.symm)), ownsRow_at q3 (hg.block a3 b3 (fun e => n2 e.symm)), fun _ e => (by cases e)⟩
theorem J31.setx {g : Nat} {cs : Array Value} {fz : Nat × Nat} (h : J31 ha p k wX l1 l5 l7 l8 v1 v5 v7 v8 w) (hx : ExtX g w w') (hk : w.heap[g]? = some (.cells cs 55 fz)) (hg : wX.heap.size ≤ g) : J31 ha p k wX l1 l5 l7 l8 v1 v5 v7 v8 w' := by
  obtain ⟨h1, h2, h3, h4, h5⟩ := h
  refine ⟨(h1.x.trans hx).ext hg, fun e => ?_, fun e f => ownsRow_x (h3 e f) hx hk (by decide), fun e f => ?_, fun e => ownsRow_x (h5 e) hx hk (by decide)⟩
  · obtain ⟨a1, a2, a3, a4, q1, q2, q3, q4⟩ := h2 e
    exact ⟨a1, a2, a3, a4, q1, ownsRow_x q2 hx hk (by decide), ownsRow_x q3 hx hk (by decide), q4⟩
  · obtain ⟨g', q1, q2⟩ := h4 e f
    exact ⟨g', q1, (hx.block g' (lt_of_block q2) (fun e => by subst e; rw [hk] at q2; cases q2)).trans q2⟩
end
set_option maxRecDepth 100000 in
set_option maxHeartbeats 4000000 in
theorem s31_law {ha : Hal} {l m : List Camp} {p : List Int} {sa ea pa ma : Option Addr} {sc ec pc mc k : Nat} {ek : Int} {w w1 wX : World} (he : Ext w w1) (hr : Ext w1 wX) (hn24 : ha.st.length ≤ 24) (hen200 : ha.en.length ≤ 200) (hn4 : l.length ≤ 4) (HPN : Hid (p.length = l.length)) (HOW : Hid (∀ W, Ext w W → ha.st.length ≤ 1000 → ha.en.length ≤ 1000 → Calls Try.prog 15 #[hval ha ⟨sa, sc, ea, ec⟩] W (RetOwn ha W))) (b0 : ∀ W, Ext w1 W → W.cell? ⟨w.heap.size, 0, none⟩ = some (.int .i64 ha.ro)) (b1 : ∀ W, Ext w1 W → W.cell? ⟨w.heap.size, 1, none⟩ = some (.int .i64 ha.cl)) (b2 : ∀ W, Ext w1 W → W.cell? ⟨w.heap.size, 2, none⟩ = some (.slice sa ha.st.length sc)) (b3 : ∀ W, Ext w1 W → W.cell? ⟨w.heap.size, 3, none⟩ = some (.slice ea ha.en.length ec)) (HIN : Hid (∀ W, Ext w W → p.length ≤ 1000000 → Calls Try.prog 17 #[.slice pa l.length pc] W (RetI p W))) (a0 : ∀ W, Ext w1 W → W.cell? ⟨w.heap.size + 2, 0, none⟩ = some (.slice pa l.length pc)) (HMC : Hid (Camps wX ma m)) (HEK : Hid (errS ha m (p ++ [(k : Int)]) = ek)) {Q : Exit → Act → World → Prop} (aZ : Act) (hsz : aZ.tmps.size = 317) (o3 : aZ.tmps[3]?.getD undef = .pointer (some ⟨w.heap.size, 0, none⟩)) (o5 : aZ.tmps[5]?.getD undef = .pointer (some ⟨w.heap.size + 2, 0, none⟩)) (o25 : aZ.tmps[25]?.getD undef = .slice ma m.length mc) (o26 : aZ.tmps[26]?.getD undef = .int .i64 k)
    (hend : ∀ (vs : Nat → Value) (w9 : World) (ls9 : Nat → Bool), (∀ j : Nat, j < 16 → ls9 j = true) → (J31 ha p k wX (ls9 1) (ls9 5) (ls9 7) (ls9 8) (vs 1) (vs 5) (vs 7) (vs 8) w9) → (vs 0 = hval ha ⟨sa, sc, ea, ec⟩) → (True) → (vs 2 = .slice ma m.length mc) → (vs 3 = .pointer (some ⟨w.heap.size + 2, 0, none⟩)) → (vs 4 = .slice pa l.length pc) → (True) → (vs 6 = .int .i64 k) → (True) → (True) → (vs 9 = .tuple #[bval (chkB ha m (p ++ [(k : Int)])), .int .i64 ek]) → (vs 10 = .tuple #[bval (chkB ha m (p ++ [(k : Int)])), .int .i64 ek]) → (vs 11 = bval (chkB ha m (p ++ [(k : Int)]))) → (vs 12 = .int .i64 ek) → (∃ g v0 v1 v2 v3, vs 13 = .pointer (some ⟨g, 0, none⟩) ∧ wX.heap.size ≤ g ∧ w9.heap[g]? = some (.cells #[v0, v1, v2, v3] 55 (0, 0))) → (vs 15 = .int .i64 ek) → Q .normal (((((((((((((((aZ.put (some 288) (vs 0)).put (some 289) (vs 1)).put (some 290) (vs 2)).put (some 291) (vs 3)).put (some 292) (vs 4)).put (some 293) (vs 5)).put (some 294) (vs 6)).put (some 295) (vs 7)).put (some 296) (vs 8)).put (some 297) (vs 9)).put (some 287) (vs 10)).put (some 298) (vs 11)).put (some 299) (vs 12)).put (some 27) (vs 13)).put (some 28) (vs 15)) w9) : (regOf Try.f9 31).wp Try.prog Q aZ wX := by
  conv => arg 2; whnf
  refine wp_region_said3 (fun i v wz => match i with
    | 0 => v = hval ha ⟨sa, sc, ea, ec⟩
    | 1 => True
    | 2 => v = .slice ma m.length mc
    | 3 => v = .pointer (some ⟨w.heap.size + 2, 0, none⟩)
    | 4 => v = .slice pa l.length pc
    | 5 => True
    | 6 => v = .int .i64 k
    | 7 => True
    | 8 => True
    | 9 => v = .tuple #[bval (chkB ha m (p ++ [(k : Int)])), .int .i64 ek]
    | 10 => v = .tuple #[bval (chkB ha m (p ++ [(k : Int)])), .int .i64 ek]
    | 11 => v = bval (chkB ha m (p ++ [(k : Int)]))
    | 12 => v = .int .i64 ek
    | 13 => ∃ g v0 v1 v2 v3, v = .pointer (some ⟨g, 0, none⟩) ∧ wX.heap.size ≤ g ∧ wz.heap[g]? = some (.cells #[v0, v1, v2, v3] 55 (0, 0))
    | 14 => True
    | _ => v = .int .i64 ek) (fun ls vs wz => J31 ha p k wX (ls 1) (ls 5) (ls 7) (ls 8) (vs 1) (vs 5) (vs 7) (vs 8) wz) (by kernel_rfl) (by kernel_rfl) (by rw [hsz]; kernel_rfl) ?_ ?_ ?_
  · exact ⟨(Ext.refl _).drew, fun e => (by cases e), fun e => (by cases e), fun e => (by cases e), fun e => (by cases e)⟩
  · refine ⟨?_, ?_, ?_, ?_, ?_, ?_, ?_, ?_, ?_, ?_, ?_, ?_, ?_, ?_, ?_, ?_, trivial⟩
    · intro ls vs a w1 hi hJ hold hdep K hK
      have q3 : a.tmps[3]?.getD undef = .pointer (some ⟨w.heap.size, 0, none⟩) := (hold 3 (by kernel_rfl)).trans o3
      rw [if_pos (by rfl)]
      clear hold hdep hend o3 o5 o25 o26
      have hz1 := hr.trans hJ.1
      go_simp
      exact hK _ _ (fun _ _ _ h => h) hJ rfl
    · intro ls vs a w1 hi hJ hold hdep K hK
      have q288 : a.tmps[288]?.getD undef = hval ha ⟨sa, sc, ea, ec⟩ := (hdep 0 288 (by kernel_rfl) (by kernel_rfl)).2.1.trans (hdep 0 288 (by kernel_rfl) (by kernel_rfl)).2.2
      rw [if_pos (by rfl)]
      clear hold hdep hend o3 o5 o25 o26
      have hz1 := he.trans (hr.trans hJ.1)
      go_simp
      go_at_call 15
      (with_reducible refine (HOW.out _ hz1 (by omega) (by omega)).mono ?_); rintro e w20 ⟨h6, i6, h10, i10, rfl, he2, -, -, -, ho6, ho10⟩
      exact hK _ _ (fun j u _ h => by
            match j, h with
            | 0, h | 1, h | 2, h | 3, h | 4, h | 5, h | 6, h | 7, h | 8, h | 9, h | 10, h | 11, h | 12, h | 14, h => exact h
            | 13, h => (obtain ⟨g, v0, v1, v2, v3, h1, h2, h3⟩ := h; exact ⟨g, v0, v1, v2, v3, h1, h2, he2.block h3⟩)
            | (n + 15), h => exact h) (J31.put1 hJ he2 ho6 ho10) trivial
    · intro ls vs a w1 hi hJ hold hdep K hK
      have q25 : a.tmps[25]?.getD undef = .slice ma m.length mc := (hold 25 (by kernel_rfl)).trans o25
      rw [if_pos (by rfl)]
      clear hold hdep hend o3 o5 o25 o26
      go_simp
      exact hK _ _ (fun _ _ _ h => h) hJ rfl
    · intro ls vs a w1 hi hJ hold hdep K hK
      have q5 : a.tmps[5]?.getD undef = .pointer (some ⟨w.heap.size + 2, 0, none⟩) := (hold 5 (by kernel_rfl)).trans o5
      rw [if_pos (by rfl)]
      clear hold hdep hend o3 o5 o25 o26
      go_simp
      exact hK _ _ (fun _ _ _ h => h) hJ rfl
    · intro ls vs a w1 hi hJ hold hdep K hK
      have q291 : a.tmps[291]?.getD undef = .pointer (some ⟨w.heap.size + 2, 0, none⟩) := (hdep 3 291 (by kernel_rfl) (by kernel_rfl)).2.1.trans (hdep 3 291 (by kernel_rfl) (by kernel_rfl)).2.2
      rw [if_pos (by rfl)]
      clear hold hdep hend o3 o5 o25 o26
      have hz1 := hr.trans hJ.1
      go_simp
      exact hK _ _ (fun _ _ _ h => h) hJ rfl
    · intro ls vs a w1 hi hJ hold hdep K hK
      have q292 : a.tmps[292]?.getD undef = .slice pa l.length pc := (hdep 4 292 (by kernel_rfl) (by kernel_rfl)).2.1.trans (hdep 4 292 (by kernel_rfl) (by kernel_rfl)).2.2
      rw [if_pos (by rfl)]
      clear hold hdep hend o3 o5 o25 o26
      have hz1 := he.trans (hr.trans hJ.1)
      go_simp
      go_at_call 17
      (with_reducible refine (HIN.out _ hz1 (by rw [HPN.out]; omega)).mono ?_); rintro e w20 ⟨ia, ic, rfl, he2, ho⟩
      exact hK _ _ (fun j u _ h => by
            match j, h with
            | 0, h | 1, h | 2, h | 3, h | 4, h | 5, h | 6, h | 7, h | 8, h | 9, h | 10, h | 11, h | 12, h | 14, h => exact h
            | 13, h => (obtain ⟨g, v0, v1, v2, v3, h1, h2, h3⟩ := h; exact ⟨g, v0, v1, v2, v3, h1, h2, he2.block h3⟩)
            | (n + 15), h => exact h) (J31.put5 hJ he2 ho) trivial
    · intro ls vs a w1 hi hJ hold hdep K hK
      have q26 : a.tmps[26]?.getD undef = .int .i64 k := (hold 26 (by kernel_rfl)).trans o26
      rw [if_pos (by rfl)]
      clear hold hdep hend o3 o5 o25 o26
      go_simp
      exact hK _ _ (fun _ _ _ h => h) hJ rfl
    · intro ls vs a w1 hi hJ hold hdep K hK
      have q294 : a.tmps[294]?.getD undef = .int .i64 k := (hdep 6 294 (by kernel_rfl) (by kernel_rfl)).2.1.trans (hdep 6 294 (by kernel_rfl) (by kernel_rfl)).2.2
      rw [if_pos (by rfl)]
      clear hold hdep hend o3 o5 o25 o26
      go_simp
      have he2 := (Ext.refl w1).alloc (.cells #[.int .i64 k] 3)
      exact hK _ _ (fun j u _ h => by
            match j, h with
            | 0, h | 1, h | 2, h | 3, h | 4, h | 5, h | 6, h | 7, h | 8, h | 9, h | 10, h | 11, h | 12, h | 14, h => exact h
            | 13, h => (obtain ⟨g, v0, v1, v2, v3, h1, h2, h3⟩ := h; exact ⟨g, v0, v1, v2, v3, h1, h2, he2.block h3⟩)
            | (n + 15), h => exact h) (J31.put7 hJ he2 (heap_new _ _)) trivial
    · intro ls vs a w1 hi hJ hold hdep K hK
      obtain ⟨hl5, q293, p293⟩ := hdep 5 293 (by kernel_rfl) (by kernel_rfl)
      obtain ⟨hl7, q295, p295⟩ := hdep 7 295 (by kernel_rfl) (by kernel_rfl)
      clear hold hdep hend o3 o5 o25 o26
      obtain ⟨g, hv, hb⟩ := hJ.2.2.2.1 hl7 hi
      rw [hv] at q295
      have hO := hJ.2.2.1 hl5 hi
      have happ := app_ints w1 wX.heap.size 22 _ p [(k : Int)] (some ⟨g, 0, none⟩) 1 hO (ints_one hb) (by rw [HPN.out]; simp only [List.length_singleton]; omega) hJ.1.size
      refine step_app (by rfl) (.tmp 293) (.tmp 295) 22 (by rfl) _ _ (by simpa [Act.eval, Array.getD_eq_getD_getElem?] using q293) (by simpa [Act.eval, Array.getD_eq_getD_getElem?] using q295) _ happ ?_
      rintro v3 w3 ⟨ho3, hg3⟩
      exact hK _ _ (fun j u _ h => by
            match j, h with
            | 0, h | 1, h | 2, h | 3, h | 4, h | 5, h | 6, h | 7, h | 8, h | 9, h | 10, h | 11, h | 12, h | 14, h => exact h
            | 13, h => (obtain ⟨g, v0, v1, v2, v3, h1, h2, h3⟩ := h; exact ⟨g, v0, v1, v2, v3, h1, h2, block_grown h3 hO hg3 (by decide)⟩)
            | (n + 15), h => exact h) (J31.put8 hJ hl5 hi hg3 ho3) trivial
    · intro ls vs a w1 hi hJ hold hdep K hK
      obtain ⟨hl1, q289, p289⟩ := hdep 1 289 (by kernel_rfl) (by kernel_rfl)
      have q290 : a.tmps[290]?.getD undef = .slice ma m.length mc := (hdep 2 290 (by kernel_rfl) (by kernel_rfl)).2.1.trans (hdep 2 290 (by kernel_rfl) (by kernel_rfl)).2.2
      obtain ⟨hl8, q296, p296⟩ := hdep 8 296 (by kernel_rfl) (by kernel_rfl)
      rw [if_pos (by rfl)]
      clear hold hdep hend o3 o5 o25 o26
      have hO := hJ.2.2.2.2 hl8
      obtain ⟨a', n', c', hv⟩ := own_slice hO
      rw [hv] at q296 hO
      obtain ⟨hi1, hn', -⟩ := hO.ints
      have HN' := Lib.hid hn'
      clear hn'
      obtain ⟨h6, i6, h10, i10, k1, k2, k3, -⟩ := hJ.2.1 hl1
      rw [k1] at q289
      have hMC := HMC.out.ext hJ.1
      go_simp
      go_at_call 39
      (with_reducible refine (Check_any ha ⟨some ⟨h6, 0, none⟩, i6, some ⟨h10, 0, none⟩, i10⟩ m ma mc (p ++ [(k : Int)]) a' n' c' _ ⟨k2.ints.1, k3.ints.1⟩ hMC hi1 HN'.out.symm).mono ?_); rintro e w20 ⟨rfl, he2⟩
      rw [HEK.out]
      exact hK _ _ (fun j u _ h => by
            match j, h with
            | 0, h | 1, h | 2, h | 3, h | 4, h | 5, h | 6, h | 7, h | 8, h | 9, h | 10, h | 11, h | 12, h | 14, h => exact h
            | 13, h => (obtain ⟨g, v0, v1, v2, v3, h1, h2, h3⟩ := h; exact ⟨g, v0, v1, v2, v3, h1, h2, he2.block h3⟩)
            | (n + 15), h => exact h) (J31.ext hJ he2) rfl
    · intro ls vs a w1 hi hJ hold hdep K hK
      have q297 : a.tmps[297]?.getD undef = .tuple #[bval (chkB ha m (p ++ [(k : Int)])), .int .i64 ek] := (hdep 9 297 (by kernel_rfl) (by kernel_rfl)).2.1.trans (hdep 9 297 (by kernel_rfl) (by kernel_rfl)).2.2
      rw [if_pos (by rfl)]
      clear hold hdep hend o3 o5 o25 o26
      go_simp
      exact hK _ _ (fun _ _ _ h => h) hJ rfl
    · intro ls vs a w1 hi hJ hold hdep K hK
      have q287 : a.tmps[287]?.getD undef = .tuple #[bval (chkB ha m (p ++ [(k : Int)])), .int .i64 ek] := (hdep 10 287 (by kernel_rfl) (by kernel_rfl)).2.1.trans (hdep 10 287 (by kernel_rfl) (by kernel_rfl)).2.2
      rw [if_pos (by rfl)]
      clear hold hdep hend o3 o5 o25 o26
      go_simp
      exact hK _ _ (fun _ _ _ h => h) hJ rfl
    · intro ls vs a w1 hi hJ hold hdep K hK
      have q287 : a.tmps[287]?.getD undef = .tuple #[bval (chkB ha m (p ++ [(k : Int)])), .int .i64 ek] := (hdep 10 287 (by kernel_rfl) (by kernel_rfl)).2.1.trans (hdep 10 287 (by kernel_rfl) (by kernel_rfl)).2.2
      rw [if_pos (by rfl)]
      clear hold hdep hend o3 o5 o25 o26
      go_simp
      exact hK _ _ (fun _ _ _ h => h) hJ rfl
    · intro ls vs a w1 hi hJ hold hdep K hK
      rw [if_pos (by rfl)]
      clear hold hdep hend o3 o5 o25 o26
      go_simp
      have he2 := (Ext.refl w1).alloc (Obj.cells #[.int .u8 0, .int .i64 0, .int .i64 0, .int .i64 0] 55)
      exact hK _ _ (fun j u _ h => by
            match j, h with
            | 0, h | 1, h | 2, h | 3, h | 4, h | 5, h | 6, h | 7, h | 8, h | 9, h | 10, h | 11, h | 12, h | 14, h => exact h
            | 13, h => (obtain ⟨g, v0, v1, v2, v3, h1, h2, h3⟩ := h; exact ⟨g, v0, v1, v2, v3, h1, h2, he2.block h3⟩)
            | (n + 15), h => exact h) (J31.ext hJ he2) ⟨_, _, _, _, _, rfl, hJ.1.size, heap_new _ _⟩
    · intro ls vs a w1 hi hJ hold hdep K hK
      obtain ⟨hl13, q27, p27⟩ := hdep 13 27 (by kernel_rfl) (by kernel_rfl)
      have q298 : a.tmps[298]?.getD undef = bval (chkB ha m (p ++ [(k : Int)])) := (hdep 11 298 (by kernel_rfl) (by kernel_rfl)).2.1.trans (hdep 11 298 (by kernel_rfl) (by kernel_rfl)).2.2
      rw [if_pos (by rfl)]
      clear hold hdep hend o3 o5 o25 o26
      obtain ⟨g, v0, v1, v2, v3, k1, k2, k3⟩ := p27
      rw [k1] at q27
      have fz := obj_free k3 w1 (Ext.refl _)
      obtain ⟨z0, z1, z2, z3⟩ := obj_cells4 k3
      have hr1 := Ext.refl w1
      go_simp
      have he2 : ExtX g w1 _ := ((((ExtX.refl g w1).set 0 (.int .u8 (chkB ha m (p ++ [(k : Int)])).ru)).set 1 (.int .i64 (chkB ha m (p ++ [(k : Int)])).a)).set 2 (.int .i64 (chkB ha m (p ++ [(k : Int)])).b)).set 3 (.int .i64 (chkB ha m (p ++ [(k : Int)])).ho)
      have hbk := block_set (block_set (block_set (block_set k3 0 (.int .u8 (chkB ha m (p ++ [(k : Int)])).ru)) 1 (.int .i64 (chkB ha m (p ++ [(k : Int)])).a)) 2 (.int .i64 (chkB ha m (p ++ [(k : Int)])).b)) 3 (.int .i64 (chkB ha m (p ++ [(k : Int)])).ho)
      exact hK undef _ (fun j u _ h => by
            match j, h with
            | 0, h | 1, h | 2, h | 3, h | 4, h | 5, h | 6, h | 7, h | 8, h | 9, h | 10, h | 11, h | 12, h | 14, h => exact h
            | 13, h => (obtain ⟨g', v0', v1', v2', v3', h1, h2, h3⟩ := h; by_cases hgg : g' = g; (subst hgg; exact ⟨_, _, _, _, _, h1, h2, hbk⟩); exact ⟨g', v0', v1', v2', v3', h1, h2, (he2.block _ (lt_of_block h3) hgg).trans h3⟩)
            | (n + 15), h => exact h) (J31.setx hJ he2 k3 k2) trivial
    · intro ls vs a w1 hi hJ hold hdep K hK
      have q299 : a.tmps[299]?.getD undef = .int .i64 ek := (hdep 12 299 (by kernel_rfl) (by kernel_rfl)).2.1.trans (hdep 12 299 (by kernel_rfl) (by kernel_rfl)).2.2
      rw [if_pos (by rfl)]
      clear hold hdep hend o3 o5 o25 o26
      go_simp
      exact hK _ _ (fun _ _ _ h => h) hJ rfl
  · intro vs w9 ls9 hl9 hJ9 hφ
    have e0 := hφ 0 (by kernel_rfl)
    have e1 := hφ 1 (by kernel_rfl)
    have e2 := hφ 2 (by kernel_rfl)
    have e3 := hφ 3 (by kernel_rfl)
    have e4 := hφ 4 (by kernel_rfl)
    have e5 := hφ 5 (by kernel_rfl)
    have e6 := hφ 6 (by kernel_rfl)
    have e7 := hφ 7 (by kernel_rfl)
    have e8 := hφ 8 (by kernel_rfl)
    have e9 := hφ 9 (by kernel_rfl)
    have e10 := hφ 10 (by kernel_rfl)
    have e11 := hφ 11 (by kernel_rfl)
    have e12 := hφ 12 (by kernel_rfl)
    have e13 := hφ 13 (by kernel_rfl)
    have e15 := hφ 15 (by kernel_rfl)
    have hq := hend vs w9 ls9 hl9 hJ9 e0 e1 e2 e3 e4 e5 e6 e7 e8 e9 e10 e11 e12 e13 e15
    simp only [Act.put] at hq
    simp only [putAll, Act.put]
    exact hq

end Go.Proofs.Ytjpgignbjkgjiaa
end
