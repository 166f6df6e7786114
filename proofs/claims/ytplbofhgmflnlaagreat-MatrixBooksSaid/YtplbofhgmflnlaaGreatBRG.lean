/-
  Books: the region of the law that makes a book of own lists.
-/
import Derived.Test.YtplbofhgmflnlaaGreatOW3
set_option linter.unusedVariables false
set_option linter.unusedSimpArgs false
namespace Go.Proofs.YtplbofhgmflnlaaGreat
open Go.RowKit
structure B3J (R : World → Value → Prop) (E : Value) (P : Pw) (ss : List Se) (n : Nat) (wr wz : World) (l2 l5 l8 l9 l10 l12 : Bool) (v2 v5 v8 v9 v10 v12 : Value) : Prop where
  ext : Ext wr wz
  p : l2 = true → ∃ Q, v2 = planV Q ∧ PlanAt wz Q ∧ SameP P Q
  s : l5 = true → ∃ ta tc tt, v5 = .slice ta n tc ∧ SetsAt wz ta tt ∧ SameSe ss tt
  b : l8 = true → ∃ x, v8 = .tuple #[x, E] ∧ R wz x
  c : l9 = true → v9 = v8 ∧ l8 = true
  d : l10 = true → v9 = .tuple #[v10, E] ∧ l9 = true
  e : l12 = true → v12 = v10 ∧ l10 = true
section
variable {R : World → Value → Prop} {E : Value} {P : Pw} {ss : List Se} {n : Nat} {wr wz w' : World} {l2 l5 l8 l9 l10 l12 : Bool} {v2 v5 v8 v9 v10 v12 : Value}
theorem B3J.grow (h : B3J R E P ss n wr wz l2 l5 l8 l9 l10 l12 v2 v5 v8 v9 v10 v12) (hR : ∀ W W' x, Ext W W' → R W x → R W' x) (e : Ext wz w') : B3J R E P ss n wr w' l2 l5 l8 l9 l10 l12 v2 v5 v8 v9 v10 v12 :=
  ⟨h.ext.trans e, fun q => (by obtain ⟨Q, h1, h2, h3⟩ := h.p q; exact ⟨Q, h1, h2.ext e, h3⟩), fun q => (by obtain ⟨ta, tc, tt, h1, h2, h3⟩ := h.s q; exact ⟨ta, tc, tt, h1, h2.ext e, h3⟩), fun q => (by obtain ⟨x, h1, h2⟩ := h.b q; exact ⟨x, h1, hR _ _ _ e h2⟩), h.c, h.d, h.e⟩
theorem B3J.put2 (h : B3J R E P ss n wr wz l2 l5 l8 l9 l10 l12 v2 v5 v8 v9 v10 v12) (hR : ∀ W W' x, Ext W W' → R W x → R W' x) (e : Ext wz w') {Q : Pw} (hq : PlanAt w' Q) (hs : SameP P Q) : B3J R E P ss n wr w' true l5 l8 l9 l10 l12 (planV Q) v5 v8 v9 v10 v12 :=
  let g := h.grow hR e
  ⟨g.ext, fun _ => ⟨Q, rfl, hq, hs⟩, g.s, g.b, g.c, g.d, g.e⟩
theorem B3J.put5 (h : B3J R E P ss n wr wz l2 l5 l8 l9 l10 l12 v2 v5 v8 v9 v10 v12) (hR : ∀ W W' x, Ext W W' → R W x → R W' x) (e : Ext wz w') {ta : Option Addr} {tc : Nat} {tt : List Se} (hq : SetsAt w' ta tt) (hs : SameSe ss tt) : B3J R E P ss n wr w' l2 true l8 l9 l10 l12 v2 (.slice ta n tc) v8 v9 v10 v12 :=
  let g := h.grow hR e
  ⟨g.ext, g.p, fun _ => ⟨ta, tc, tt, rfl, hq, hs⟩, g.b, g.c, g.d, g.e⟩
theorem B3J.put8 (h : B3J R E P ss n wr wz l2 l5 l8 l9 l10 l12 v2 v5 v8 v9 v10 v12) (hn9 : l9 = false) (e : Ext wz w') {x : Value} (hr : R w' x) : B3J R E P ss n wr w' l2 l5 true l9 l10 l12 v2 v5 (.tuple #[x, E]) v9 v10 v12 :=
  ⟨h.ext.trans e, fun q => (by obtain ⟨Q, h1, h2, h3⟩ := h.p q; exact ⟨Q, h1, h2.ext e, h3⟩), fun q => (by obtain ⟨ta, tc, tt, h1, h2, h3⟩ := h.s q; exact ⟨ta, tc, tt, h1, h2.ext e, h3⟩), fun _ => ⟨x, rfl, hr⟩, fun q => (by rw [hn9] at q; cases q), h.d, h.e⟩
theorem B3J.put9 (h : B3J R E P ss n wr wz l2 l5 l8 l9 l10 l12 v2 v5 v8 v9 v10 v12) (hn10 : l10 = false) (hl8 : l8 = true) : B3J R E P ss n wr wz l2 l5 l8 true l10 l12 v2 v5 v8 v8 v10 v12 :=
  ⟨h.ext, h.p, h.s, h.b, fun _ => ⟨rfl, hl8⟩, fun q => (by rw [hn10] at q; cases q), h.e⟩
theorem B3J.put10 (h : B3J R E P ss n wr wz l2 l5 l8 l9 l10 l12 v2 v5 v8 v9 v10 v12) (hn12 : l12 = false) (hl9 : l9 = true) {x : Value} (hv : v8 = .tuple #[x, E]) : B3J R E P ss n wr wz l2 l5 l8 l9 true l12 v2 v5 v8 v9 x v12 :=
  ⟨h.ext, h.p, h.s, h.b, h.c, fun _ => ⟨by rw [(h.c hl9).1, hv], hl9⟩, fun q => (by rw [hn12] at q; cases q)⟩
theorem B3J.put12 (h : B3J R E P ss n wr wz l2 l5 l8 l9 l10 l12 v2 v5 v8 v9 v10 v12) (hl10 : l10 = true) : B3J R E P ss n wr wz l2 l5 l8 l9 l10 true v2 v5 v8 v9 v10 v10 :=
  ⟨h.ext, h.p, h.s, h.b, h.c, h.d, fun _ => ⟨rfl, hl10⟩⟩
theorem B3J.fin (h : B3J R E P ss n wr wz l2 l5 l8 l9 l10 l12 v2 v5 v8 v9 v10 v12) (hl : l12 = true) : R wz v12 := by
  obtain ⟨h1, h2⟩ := h.e hl
  obtain ⟨h3, h4⟩ := h.d h2
  obtain ⟨h5, h6⟩ := h.c h4
  obtain ⟨x, h7, h8⟩ := h.b h6
  rw [h5, h7] at h3
  simp only [Value.tuple.injEq, Array.mk.injEq, List.cons.injEq, and_true] at h3
  rw [h1, ← h3]; exact h8
end
set_option maxRecDepth 100000 in
set_option maxHeartbeats 4000000 in
theorem b3_law {P : Pw} {ob n sc : Nat} {sd : Int} {sla : Option Addr} {ss : List Se} {E : Value} {wr : World} {R : World → Value → Prop} (HC0 : Hid (∀ W, Ext wr W → W.cell? ⟨ob, 0, none⟩ = some (.slice P.fa P.fs.length P.fc))) (HC1 : Hid (∀ W, Ext wr W → W.cell? ⟨ob, 1, none⟩ = some (.slice P.ga P.fo.length P.gc))) (HC2 : Hid (∀ W, Ext wr W → W.cell? ⟨ob, 2, none⟩ = some (.slice sla n sc))) (HC3 : Hid (∀ W, Ext wr W → W.cell? ⟨ob, 3, none⟩ = some (.int .u64 sd))) (HOV : Hid (∀ W, Ext wr W → Calls Tryz.prog 40 #[planV P] W (fun e w' => ∃ Q, e = .returned (planV Q) ∧ Ext W w' ∧ PlanAt w' Q ∧ SameP P Q))) (HOS : Hid (∀ W, Ext wr W → Calls Tryz.prog 46 #[.slice sla n sc] W (fun e w' => ∃ a' c' tt, e = .returned (.slice a' n c') ∧ Ext W w' ∧ SetsAt w' a' tt ∧ SameSe ss tt))) (HBK : Hid (∀ W, Ext wr W → ∀ Q ta tc tt, PlanAt W Q → SameP P Q → SetsAt W ta tt → SameSe ss tt → Calls Tryz.prog 52 #[planV Q, .slice ta n tc, .int .u64 sd] W (fun e w' => ∃ x, e = .returned (.tuple #[x, E]) ∧ Ext W w' ∧ R w' x))) (HRM : Hid (∀ W W' x, Ext W W' → R W x → R W' x)) {Q : Exit → Act → World → Prop} (aZ : Act) (hsz : aZ.tmps.size = 146) (o1 : aZ.tmps[1]?.getD undef = .pointer (some ⟨ob, 0, none⟩))
    (hend : ∀ (vs : Nat → Value) (w9 : World) (ls9 : Nat → Bool), (∀ j : Nat, j < 14 → ls9 j = true) → (B3J R E P ss n wr w9 (ls9 2) (ls9 5) (ls9 8) (ls9 9) (ls9 10) (ls9 12) (vs 2) (vs 5) (vs 8) (vs 9) (vs 10) (vs 12)) → (vs 0 = .pointer (some ⟨ob, 0, none⟩)) → (vs 1 = .agg #[.slice P.fa P.fs.length P.fc, .slice P.ga P.fo.length P.gc]) → (True) → (vs 3 = .pointer (some ⟨ob, 2, none⟩)) → (vs 4 = .slice sla n sc) → (True) → (vs 6 = .pointer (some ⟨ob, 3, none⟩)) → (vs 7 = .int .u64 sd) → (True) → (True) → (True) → (vs 11 = E) → (True) → (vs 13 = E) → Q .normal ((((((((((((((aZ.put (some 18) (vs 0)).put (some 19) (vs 1)).put (some 20) (vs 2)).put (some 21) (vs 3)).put (some 22) (vs 4)).put (some 23) (vs 5)).put (some 24) (vs 6)).put (some 25) (vs 7)).put (some 26) (vs 8)).put (some 17) (vs 9)).put (some 27) (vs 10)).put (some 28) (vs 11)).put (some 3) (vs 12)).put (some 4) (vs 13)) w9) : (regOf Tryz.f11 3).wp Tryz.prog Q aZ wr := by
  conv => arg 2; whnf
  refine wp_region_said3 (fun i v wz => match i with
    | 0 => v = .pointer (some ⟨ob, 0, none⟩)
    | 1 => v = .agg #[.slice P.fa P.fs.length P.fc, .slice P.ga P.fo.length P.gc]
    | 2 => True
    | 3 => v = .pointer (some ⟨ob, 2, none⟩)
    | 4 => v = .slice sla n sc
    | 5 => True
    | 6 => v = .pointer (some ⟨ob, 3, none⟩)
    | 7 => v = .int .u64 sd
    | 8 => True
    | 9 => True
    | 10 => True
    | 11 => v = E
    | 12 => True
    | _ => v = E) (fun ls vs wz => B3J R E P ss n wr wz (ls 2) (ls 5) (ls 8) (ls 9) (ls 10) (ls 12) (vs 2) (vs 5) (vs 8) (vs 9) (vs 10) (vs 12)) (by kernel_rfl) (by kernel_rfl) (by rw [hsz]; kernel_rfl) ?_ ?_ ?_
  · exact ⟨(Ext.refl _).drew, fun e => (by cases e), fun e => (by cases e), fun e => (by cases e), fun e => (by cases e), fun e => (by cases e), fun e => (by cases e)⟩
  · refine ⟨?_, ?_, ?_, ?_, ?_, ?_, ?_, ?_, ?_, ?_, ?_, ?_, ?_, ?_, trivial⟩
    · intro ls vs a w1 hi hJ hold hdep hdon hcl K hK
      have q1 : a.tmps[1]?.getD undef = .pointer (some ⟨ob, 0, none⟩) := (hold 1 (by kernel_rfl)).trans o1
      rw [if_pos (by rfl)]
      clear hold hdep hend hdon hcl o1
      have HJ := Lib.hid hJ
      clear hJ
      go_simp
      exact hK _ _ (fun _ _ _ h => h) HJ.out rfl
    · intro ls vs a w1 hi hJ hold hdep hdon hcl K hK
      have q18 : a.tmps[18]?.getD undef = .pointer (some ⟨ob, 0, none⟩) := (hdep 0 18 (by kernel_rfl) (by kernel_rfl)).2.1.trans (hdep 0 18 (by kernel_rfl) (by kernel_rfl)).2.2
      rw [if_pos (by rfl)]
      clear hold hdep hend hdon hcl o1
      have HJ := Lib.hid hJ
      clear hJ
      have c7 := HC0.out w1 HJ.out.ext
      have c8 := HC1.out w1 HJ.out.ext
      go_simp
      exact hK _ _ (fun _ _ _ h => h) HJ.out rfl
    · intro ls vs a w1 hi hJ hold hdep hdon hcl K hK
      have q19 : a.tmps[19]?.getD undef = .agg #[.slice P.fa P.fs.length P.fc, .slice P.ga P.fo.length P.gc] := (hdep 1 19 (by kernel_rfl) (by kernel_rfl)).2.1.trans (hdep 1 19 (by kernel_rfl) (by kernel_rfl)).2.2
      rw [if_pos (by rfl)]
      clear hold hdep hend hdon hcl o1
      have HJ := Lib.hid hJ
      clear hJ
      go_simp
      (with_reducible refine (HOV.out _ HJ.out.ext).mono ?_); rintro e w20 ⟨Q, rfl, he, hq, hs⟩
      exact hK _ _ (fun _ _ _ h => h) (HJ.out.put2 HRM.out he hq hs) trivial
    · intro ls vs a w1 hi hJ hold hdep hdon hcl K hK
      have q1 : a.tmps[1]?.getD undef = .pointer (some ⟨ob, 0, none⟩) := (hold 1 (by kernel_rfl)).trans o1
      rw [if_pos (by rfl)]
      clear hold hdep hend hdon hcl o1
      have HJ := Lib.hid hJ
      clear hJ
      go_simp
      exact hK _ _ (fun _ _ _ h => h) HJ.out rfl
    · intro ls vs a w1 hi hJ hold hdep hdon hcl K hK
      have q21 : a.tmps[21]?.getD undef = .pointer (some ⟨ob, 2, none⟩) := (hdep 3 21 (by kernel_rfl) (by kernel_rfl)).2.1.trans (hdep 3 21 (by kernel_rfl) (by kernel_rfl)).2.2
      rw [if_pos (by rfl)]
      clear hold hdep hend hdon hcl o1
      have HJ := Lib.hid hJ
      clear hJ
      have c7 := HC2.out w1 HJ.out.ext
      go_simp
      exact hK _ _ (fun _ _ _ h => h) HJ.out rfl
    · intro ls vs a w1 hi hJ hold hdep hdon hcl K hK
      have q22 : a.tmps[22]?.getD undef = .slice sla n sc := (hdep 4 22 (by kernel_rfl) (by kernel_rfl)).2.1.trans (hdep 4 22 (by kernel_rfl) (by kernel_rfl)).2.2
      rw [if_pos (by rfl)]
      clear hold hdep hend hdon hcl o1
      have HJ := Lib.hid hJ
      clear hJ
      go_simp
      (with_reducible refine (HOS.out _ HJ.out.ext).mono ?_); rintro e w20 ⟨ta, tc, tt, rfl, he, hq, hs⟩
      exact hK _ _ (fun _ _ _ h => h) (HJ.out.put5 HRM.out he hq hs) trivial
    · intro ls vs a w1 hi hJ hold hdep hdon hcl K hK
      have q1 : a.tmps[1]?.getD undef = .pointer (some ⟨ob, 0, none⟩) := (hold 1 (by kernel_rfl)).trans o1
      rw [if_pos (by rfl)]
      clear hold hdep hend hdon hcl o1
      have HJ := Lib.hid hJ
      clear hJ
      go_simp
      exact hK _ _ (fun _ _ _ h => h) HJ.out rfl
    · intro ls vs a w1 hi hJ hold hdep hdon hcl K hK
      have q24 : a.tmps[24]?.getD undef = .pointer (some ⟨ob, 3, none⟩) := (hdep 6 24 (by kernel_rfl) (by kernel_rfl)).2.1.trans (hdep 6 24 (by kernel_rfl) (by kernel_rfl)).2.2
      rw [if_pos (by rfl)]
      clear hold hdep hend hdon hcl o1
      have HJ := Lib.hid hJ
      clear hJ
      have c7 := HC3.out w1 HJ.out.ext
      go_simp
      exact hK _ _ (fun _ _ _ h => h) HJ.out rfl
    · intro ls vs a w1 hi hJ hold hdep hdon hcl K hK
      obtain ⟨hl2, q20, p20⟩ := hdep 2 20 (by kernel_rfl) (by kernel_rfl)
      obtain ⟨hl5, q23, p23⟩ := hdep 5 23 (by kernel_rfl) (by kernel_rfl)
      have q25 : a.tmps[25]?.getD undef = .int .u64 sd := (hdep 7 25 (by kernel_rfl) (by kernel_rfl)).2.1.trans (hdep 7 25 (by kernel_rfl) (by kernel_rfl)).2.2
      have hn9 : ls 9 = false := by
        cases e : ls 9 with
        | false => rfl
        | true =>
          replace e := hcl 9 8 e (by kernel_rfl)
          rw [show ls 8 = false from hi] at e
          cases e
      have hl2 := hdon 2 (by kernel_rfl)
      have hl5 := hdon 5 (by kernel_rfl)
      rw [if_pos (by rfl)]
      clear hold hdep hend hdon hcl o1
      have HJ := Lib.hid hJ
      clear hJ
      obtain ⟨Q, hv2, hq, hsp⟩ := HJ.out.p hl2
      obtain ⟨ta, tc, tt, hv5, ht, hse⟩ := HJ.out.s hl5
      rw [hv2] at q20
      rw [hv5] at q23
      have HQ := Lib.hid (HBK.out w1 HJ.out.ext Q ta tc tt hq hsp ht hse)
      clear hq hsp ht hse hv2 hv5
      go_simp
      (with_reducible refine HQ.out.mono ?_); rintro e w20 ⟨x, rfl, he, hr⟩
      exact hK _ _ (fun _ _ _ h => h) (HJ.out.put8 hn9 he hr) trivial
    · intro ls vs a w1 hi hJ hold hdep hdon hcl K hK
      obtain ⟨hl8, q26, p26⟩ := hdep 8 26 (by kernel_rfl) (by kernel_rfl)
      have hn10 : ls 10 = false := by
        cases e : ls 10 with
        | false => rfl
        | true =>
          replace e := hcl 10 9 e (by kernel_rfl)
          rw [show ls 9 = false from hi] at e
          cases e
      have hl8 := hdon 8 (by kernel_rfl)
      rw [if_pos (by rfl)]
      clear hold hdep hend hdon hcl o1
      have HJ := Lib.hid hJ
      clear hJ
      go_simp
      exact hK _ _ (fun _ _ _ h => h) (HJ.out.put9 hn10 hl8) trivial
    · intro ls vs a w1 hi hJ hold hdep hdon hcl K hK
      obtain ⟨hl9, q17, p17⟩ := hdep 9 17 (by kernel_rfl) (by kernel_rfl)
      have hn12 : ls 12 = false := by
        cases e : ls 12 with
        | false => rfl
        | true =>
          replace e := hcl 12 10 e (by kernel_rfl)
          rw [show ls 10 = false from hi] at e
          cases e
      have hl9 := hdon 9 (by kernel_rfl)
      rw [if_pos (by rfl)]
      clear hold hdep hend hdon hcl o1
      have HJ := Lib.hid hJ
      clear hJ
      obtain ⟨h9, hl8⟩ := HJ.out.c hl9
      obtain ⟨x, hv8, hr⟩ := HJ.out.b hl8
      rw [h9, hv8] at q17
      have j9 := HJ.out.put10 hn12 hl9 hv8
      clear h9 hv8 hr hl8
      go_simp
      exact hK _ _ (fun _ _ _ h => h) j9 trivial
    · intro ls vs a w1 hi hJ hold hdep hdon hcl K hK
      obtain ⟨hl9, q17, p17⟩ := hdep 9 17 (by kernel_rfl) (by kernel_rfl)
      have hl9 := hdon 9 (by kernel_rfl)
      rw [if_pos (by rfl)]
      clear hold hdep hend hdon hcl o1
      have HJ := Lib.hid hJ
      clear hJ
      obtain ⟨h9, hl8⟩ := HJ.out.c hl9
      obtain ⟨x, hv8, hr⟩ := HJ.out.b hl8
      rw [h9, hv8] at q17
      clear h9 hv8 hr hl8
      go_simp
      exact hK _ _ (fun _ _ _ h => h) HJ.out rfl
    · intro ls vs a w1 hi hJ hold hdep hdon hcl K hK
      obtain ⟨hl10, q27, p27⟩ := hdep 10 27 (by kernel_rfl) (by kernel_rfl)
      have hl10 := hdon 10 (by kernel_rfl)
      rw [if_pos (by rfl)]
      clear hold hdep hend hdon hcl o1
      have HJ := Lib.hid hJ
      clear hJ
      go_simp
      exact hK _ _ (fun _ _ _ h => h) (HJ.out.put12 hl10) trivial
    · intro ls vs a w1 hi hJ hold hdep hdon hcl K hK
      have q28 : a.tmps[28]?.getD undef = E := (hdep 11 28 (by kernel_rfl) (by kernel_rfl)).2.1.trans (hdep 11 28 (by kernel_rfl) (by kernel_rfl)).2.2
      rw [if_pos (by rfl)]
      clear hold hdep hend hdon hcl o1
      have HJ := Lib.hid hJ
      clear hJ
      go_simp
      exact hK _ _ (fun _ _ _ h => h) HJ.out rfl
  · intro vs w9 ls9 hl9 hJ9 hφ
    have e0 := hφ 0 (by kernel_rfl)
    have e1 := hφ 1 (by kernel_rfl)
    have e2 := hφ 2 (by kernel_rfl)
    have e3 := hφ 3 (by kernel_rfl)
    have e4 := hφ 4 (by kernel_rfl)
    have e5 := hφ 5 (by kernel_rfl)
    have e6 := hφ 6 (by kernel_rfl)
    have e7 := hφ 7 (by kernel_rfl)
    have e8 := hφ 8 (by kernel_rfl)
    have e9 := hφ 9 (by kernel_rfl)
    have e10 := hφ 10 (by kernel_rfl)
    have e11 := hφ 11 (by kernel_rfl)
    have e12 := hφ 12 (by kernel_rfl)
    have e13 := hφ 13 (by kernel_rfl)
    have hq := hend vs w9 ls9 hl9 hJ9 e0 e1 e2 e3 e4 e5 e6 e7 e8 e9 e10 e11 e12 e13
    simp only [Act.put] at hq
    simp only [putAll, Act.put]
    exact hq
end Go.Proofs.YtplbofhgmflnlaaGreat
