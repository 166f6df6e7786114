/-
  Walks: the laws' own copies of settings and of plans.
-/
import Derived.Test.YtplbofhgmflnlaaGreatMX0
set_option linter.unusedVariables false
set_option linter.unusedSimpArgs false
namespace Go.Proofs.YtplbofhgmflnlaaGreat
open Go.RowKit
/-- What a copy of one setting has made by now. -/
structure OsJ (wr wz : World) (xs : List Int) (blk : Int) (R : World → Value → Prop) (l1 l7 l13 l14 l15 l16 : Bool) (v1 v7 v13 v14 v15 v16 : Value) : Prop where
  ext : l15 = false → Ext wr wz
  e1 : l1 = true → l7 = false → l15 = false → ∃ g, v1 = .slice (some ⟨g, 0, none⟩) 0 0 ∧ wr.heap.size ≤ g ∧ wz.heap[g]? = some (.cells #[] 3 (0, 0))
  e7 : l7 = true → l15 = false → ∃ a c, v7 = .slice a xs.length c ∧ OwnI wz wr.heap.size (.slice a xs.length c) xs
  e13 : l13 = true → l15 = false → ∃ a c, v7 = .slice a xs.length c ∧ v13 = .agg #[.slice a xs.length c, .int .i64 blk] ∧ l7 = true
  e14 : l14 = true → l15 = false → ∃ a c g, v7 = .slice a xs.length c ∧ v14 = .slice (some ⟨g, 0, none⟩) 1 1 ∧ wz.heap[g]? = some (.cells #[.slice a xs.length c, .int .i64 blk] 49 (0, 0)) ∧ l7 = true
  e15 : l15 = true → R wz v15
  e16 : l16 = true → v16 = v15
section
variable {wr wz : World} {xs : List Int} {blk : Int} {R : World → Value → Prop} {l1 l7 l13 l14 l15 l16 : Bool} {v1 v7 v13 v14 v15 v16 : Value}
theorem OsJ.start (h : Ext wr wz) : OsJ wr wz xs blk R false false false false false false v1 v7 v13 v14 v15 v16 :=
  ⟨fun _ => h, fun e => (by cases e), fun e => (by cases e), fun e => (by cases e), fun e => (by cases e), fun e => (by cases e), fun e => (by cases e)⟩
theorem OsJ.put1 (h : OsJ wr wz xs blk R l1 l7 l13 l14 l15 l16 v1 v7 v13 v14 v15 v16) (h7 : l7 = false) (h13 : l13 = false) (h14 : l14 = false) (h15 : l15 = false) :
    OsJ wr (wz.alloc (.cells #[] 3)) xs blk R true l7 l13 l14 l15 l16 (.slice (some ⟨wz.heap.size, 0, none⟩) 0 0) v7 v13 v14 v15 v16 := by
  subst h7 h13 h14 h15
  have hx := h.ext rfl
  exact ⟨fun _ => hx.alloc _, fun _ _ _ => ⟨_, rfl, hx.size, heap_new _ _⟩, fun e => (by cases e), fun e => (by cases e), fun e => (by cases e), fun e => (by cases e), h.e16⟩
theorem OsJ.put7 (h : OsJ wr wz xs blk R l1 l7 l13 l14 l15 l16 v1 v7 v13 v14 v15 v16) (h1 : l1 = true) (h7 : l7 = false) (h13 : l13 = false) (h14 : l14 = false) (h15 : l15 = false) {la : Option Addr} (hi : Ints wr la xs) (hn : xs.length ≤ 1000000) (lc g : Nat) (hv : v1 = .slice (some ⟨g, 0, none⟩) 0 0) :
    ∃ v' w', (Builtin.append_ #[31, 31] 31 #[.slice (some ⟨g, 0, none⟩) 0 0, .slice la xs.length lc]).run Tryz.prog wz = .ok v' w' ∧ OsJ wr w' xs blk R l1 true l13 l14 l15 l16 v1 v' v13 v14 v15 v16 := by
  subst h1 h7 h13 h14 h15
  have hx := h.ext rfl
  obtain ⟨g', hg, hge, hb⟩ := h.e1 rfl rfl rfl
  rw [hv] at hg
  simp only [Value.slice.injEq, Option.some.injEq, Addr.mk.injEq, and_true] at hg
  obtain rfl := hg
  obtain ⟨v', w', r1, -, r2, r3⟩ := app_ints0 wz g wr.heap.size 31 xs la lc hb hge (hi.ext hx) hn
  refine ⟨v', w', r1, fun _ => grown_ext (v := .slice (some ⟨g, 0, none⟩) 0 0) hx r3 (fun k hk => by simp only [Value.ownBlock, Option.some.injEq] at hk; omega), fun _ e => (by cases e), fun _ _ => ?_, fun e => (by cases e), fun e => (by cases e), fun e => (by cases e), h.e16⟩
  obtain ⟨a, n, c, rfl⟩ := own_slice r2
  obtain ⟨-, rfl, -⟩ := r2.ints
  exact ⟨a, c, rfl, r2⟩
theorem OsJ.put13 (h : OsJ wr wz xs blk R l1 l7 l13 l14 l15 l16 v1 v7 v13 v14 v15 v16) (h14 : l14 = false) (h15 : l15 = false) (h7 : l7 = true) {a : Option Addr} {c : Nat} (hv : v7 = .slice a xs.length c) :
    OsJ wr wz xs blk R l1 l7 true l14 l15 l16 v1 v7 (.agg #[.slice a xs.length c, .int .i64 blk]) v14 v15 v16 := by
  subst h14 h15
  exact ⟨h.ext, h.e1, h.e7, fun _ _ => ⟨a, c, hv, rfl, h7⟩, fun e => (by cases e), fun e => (by cases e), h.e16⟩
theorem OsJ.put14 (h : OsJ wr wz xs blk R l1 l7 l13 l14 l15 l16 v1 v7 v13 v14 v15 v16) (h15 : l15 = false) (h7 : l7 = true) {a : Option Addr} {c : Nat} (hv : v7 = .slice a xs.length c) :
    OsJ wr (wz.alloc (.cells #[.slice a xs.length c, .int .i64 blk] 49)) xs blk R l1 l7 l13 true l15 l16 v1 v7 v13 (.slice (some ⟨wz.heap.size, 0, none⟩) 1 1) v15 v16 := by
  subst h15 h7
  have hx := (Ext.refl wz).alloc (.cells #[.slice a xs.length c, .int .i64 blk] 49)
  refine ⟨fun e => (h.ext e).trans hx, fun _ e => (by cases e), fun _ e => ?_, h.e13, fun _ _ => ⟨a, c, _, hv, rfl, heap_new _ _, rfl⟩, fun e => (by cases e), h.e16⟩
  obtain ⟨a', c', h1, h2⟩ := h.e7 rfl e
  exact ⟨a', c', h1, h2.ext hx⟩
theorem OsJ.put15 {w' : World} {v' : Value} (h : OsJ wr wz xs blk R l1 l7 l13 l14 l15 l16 v1 v7 v13 v14 v15 v16) (h16 : l16 = false) (hr : R w' v') : OsJ wr w' xs blk R l1 l7 l13 l14 true l16 v1 v7 v13 v14 v' v16 := by
  subst h16
  exact ⟨fun e => (by cases e), fun _ _ e => (by cases e), fun _ e => (by cases e), fun _ e => (by cases e), fun _ e => (by cases e), fun _ => hr, fun e => (by cases e)⟩
theorem OsJ.put16 (h : OsJ wr wz xs blk R l1 l7 l13 l14 l15 l16 v1 v7 v13 v14 v15 v16) : OsJ wr wz xs blk R l1 l7 l13 l14 l15 true v1 v7 v13 v14 v15 v15 :=
  ⟨h.ext, h.e1, h.e7, h.e13, h.e14, h.e15, fun _ => rfl⟩
end
set_option maxRecDepth 100000 in
set_option maxHeartbeats 4000000 in
theorem os_law {lb lo n lc k : Nat} {la : Option Addr} {lcc : Nat} {xs : List Int} {blk : Int} {V : Value} {wr : World} {R : World → Value → Prop} (hk0 : (0 : Int) ≤ (k : Int)) (hkn : (k : Int) < (n : Int)) (HC0 : Hid (∀ W, Ext wr W → W.cell? ⟨lb, lo + k * 2, none⟩ = some (.slice la xs.length lcc))) (HC1 : Hid (∀ W, Ext wr W → W.cell? ⟨lb, lo + k * 2 + 1, none⟩ = some (.int .i64 blk))) (HI : Hid (Ints wr la xs ∧ xs.length ≤ 1000000)) (HAPP : Hid (∀ W, Ext wr W → ∀ a c g, OwnI W wr.heap.size (.slice a xs.length c) xs → W.heap[g]? = some (.cells #[.slice a xs.length c, .int .i64 blk] 49 (0, 0)) → ∃ v' w', (Builtin.append_ #[26, 26] 26 #[V, .slice (some ⟨g, 0, none⟩) 1 1]).run Tryz.prog W = .ok v' w' ∧ R w' v')) {Q : Exit → Act → World → Prop} (aZ : Act) (hsz : aZ.tmps.size = 29) (o0 : aZ.tmps[0]?.getD undef = .slice (some ⟨lb, lo, none⟩) n lc) (o3 : aZ.tmps[3]?.getD undef = V) (o4 : aZ.tmps[4]?.getD undef = .int .i64 (k : Int))
    (hend : ∀ (vs : Nat → Value) (w9 : World) (ls9 : Nat → Bool), (∀ j : Nat, j < 17 → ls9 j = true) → (OsJ wr w9 xs blk R (ls9 1) (ls9 7) (ls9 13) (ls9 14) (ls9 15) (ls9 16) (vs 1) (vs 7) (vs 13) (vs 14) (vs 15) (vs 16)) → (vs 0 = V) → (True) → (vs 2 = .slice (some ⟨lb, lo, none⟩) n lc) → (vs 3 = .int .i64 (k : Int)) → (vs 4 = .pointer (some ⟨lb, lo + k * 2, none⟩)) → (vs 5 = .pointer (some ⟨lb, lo + k * 2, none⟩)) → (vs 6 = .slice la xs.length lcc) → (True) → (vs 8 = .slice (some ⟨lb, lo, none⟩) n lc) → (vs 9 = .int .i64 (k : Int)) → (vs 10 = .pointer (some ⟨lb, lo + k * 2, none⟩)) → (vs 11 = .pointer (some ⟨lb, lo + k * 2 + 1, none⟩)) → (vs 12 = .int .i64 blk) → (True) → (True) → (True) → (True) → Q .normal (((((((((((((((((aZ.put (some 12) (vs 0)).put (some 13) (vs 1)).put (some 14) (vs 2)).put (some 15) (vs 3)).put (some 16) (vs 4)).put (some 17) (vs 5)).put (some 18) (vs 6)).put (some 19) (vs 7)).put (some 20) (vs 8)).put (some 21) (vs 9)).put (some 22) (vs 10)).put (some 23) (vs 11)).put (some 24) (vs 12)).put (some 25) (vs 13)).put (some 26) (vs 14)).put (some 27) (vs 15)).put (some 3) (vs 16)) w9) : (regOf Tryz.f46 5).wp Tryz.prog Q aZ wr := by
  conv => arg 2; whnf
  refine wp_region_said3 (fun i v wz => match i with
    | 0 => v = V
    | 1 => True
    | 2 => v = .slice (some ⟨lb, lo, none⟩) n lc
    | 3 => v = .int .i64 (k : Int)
    | 4 => v = .pointer (some ⟨lb, lo + k * 2, none⟩)
    | 5 => v = .pointer (some ⟨lb, lo + k * 2, none⟩)
    | 6 => v = .slice la xs.length lcc
    | 7 => True
    | 8 => v = .slice (some ⟨lb, lo, none⟩) n lc
    | 9 => v = .int .i64 (k : Int)
    | 10 => v = .pointer (some ⟨lb, lo + k * 2, none⟩)
    | 11 => v = .pointer (some ⟨lb, lo + k * 2 + 1, none⟩)
    | 12 => v = .int .i64 blk
    | 13 => True
    | 14 => True
    | 15 => True
    | _ => True) (fun ls vs wz => OsJ wr wz xs blk R (ls 1) (ls 7) (ls 13) (ls 14) (ls 15) (ls 16) (vs 1) (vs 7) (vs 13) (vs 14) (vs 15) (vs 16)) (by kernel_rfl) (by kernel_rfl) (by rw [hsz]; kernel_rfl) ?_ ?_ ?_
  · exact OsJ.start (Ext.refl _).drew
  · refine ⟨?_, ?_, ?_, ?_, ?_, ?_, ?_, ?_, ?_, ?_, ?_, ?_, ?_, ?_, ?_, ?_, ?_, trivial⟩
    · intro ls vs a w1 hi hJ hold hdep hdon hcl K hK
      have q3 : a.tmps[3]?.getD undef = V := (hold 3 (by kernel_rfl)).trans o3
      rw [if_pos (by rfl)]
      clear hold hdep hend hdon hcl o0 o3 o4
      have HJ := Lib.hid hJ
      clear hJ
      go_simp
      exact hK _ _ (fun _ _ _ h => h) HJ.out rfl
    · intro ls vs a w1 hi hJ hold hdep hdon hcl K hK
      have hn7 : ls 7 = false := by
        cases e : ls 7 with
        | false => rfl
        | true =>
          replace e := hcl 7 1 e (by kernel_rfl)
          rw [show ls 1 = false from hi] at e
          cases e
      have hn13 : ls 13 = false := by
        cases e : ls 13 with
        | false => rfl
        | true =>
          replace e := hcl 13 7 e (by kernel_rfl)
          replace e := hcl 7 1 e (by kernel_rfl)
          rw [show ls 1 = false from hi] at e
          cases e
      have hn14 : ls 14 = false := by
        cases e : ls 14 with
        | false => rfl
        | true =>
          replace e := hcl 14 13 e (by kernel_rfl)
          replace e := hcl 13 7 e (by kernel_rfl)
          replace e := hcl 7 1 e (by kernel_rfl)
          rw [show ls 1 = false from hi] at e
          cases e
      have hn15 : ls 15 = false := by
        cases e : ls 15 with
        | false => rfl
        | true =>
          replace e := hcl 15 7 e (by kernel_rfl)
          replace e := hcl 7 1 e (by kernel_rfl)
          rw [show ls 1 = false from hi] at e
          cases e
      rw [if_pos (by rfl)]
      clear hold hdep hend hdon hcl o0 o3 o4
      have HJ := Lib.hid hJ
      clear hJ
      go_simp
      exact hK _ _ (fun _ _ _ h => h) (HJ.out.put1 hn7 hn13 hn14 hn15) trivial
    · intro ls vs a w1 hi hJ hold hdep hdon hcl K hK
      have q0 : a.tmps[0]?.getD undef = .slice (some ⟨lb, lo, none⟩) n lc := (hold 0 (by kernel_rfl)).trans o0
      rw [if_pos (by rfl)]
      clear hold hdep hend hdon hcl o0 o3 o4
      have HJ := Lib.hid hJ
      clear hJ
      go_simp
      exact hK _ _ (fun _ _ _ h => h) HJ.out rfl
    · intro ls vs a w1 hi hJ hold hdep hdon hcl K hK
      have q4 : a.tmps[4]?.getD undef = .int .i64 (k : Int) := (hold 4 (by kernel_rfl)).trans o4
      rw [if_pos (by rfl)]
      clear hold hdep hend hdon hcl o0 o3 o4
      have HJ := Lib.hid hJ
      clear hJ
      go_simp
      exact hK _ _ (fun _ _ _ h => h) HJ.out rfl
    · intro ls vs a w1 hi hJ hold hdep hdon hcl K hK
      have q14 : a.tmps[14]?.getD undef = .slice (some ⟨lb, lo, none⟩) n lc := (hdep 2 14 (by kernel_rfl) (by kernel_rfl)).2.1.trans (hdep 2 14 (by kernel_rfl) (by kernel_rfl)).2.2
      have q15 : a.tmps[15]?.getD undef = .int .i64 (k : Int) := (hdep 3 15 (by kernel_rfl) (by kernel_rfl)).2.1.trans (hdep 3 15 (by kernel_rfl) (by kernel_rfl)).2.2
      rw [if_pos (by rfl)]
      clear hold hdep hend hdon hcl o0 o3 o4
      have HJ := Lib.hid hJ
      clear hJ
      go_simp
      exact hK _ _ (fun _ _ _ h => h) HJ.out rfl
    · intro ls vs a w1 hi hJ hold hdep hdon hcl K hK
      have q16 : a.tmps[16]?.getD undef = .pointer (some ⟨lb, lo + k * 2, none⟩) := (hdep 4 16 (by kernel_rfl) (by kernel_rfl)).2.1.trans (hdep 4 16 (by kernel_rfl) (by kernel_rfl)).2.2
      rw [if_pos (by rfl)]
      clear hold hdep hend hdon hcl o0 o3 o4
      have HJ := Lib.hid hJ
      clear hJ
      go_simp
      exact hK _ _ (fun _ _ _ h => h) HJ.out rfl
    · intro ls vs a w1 hi hJ hold hdep hdon hcl K hK
      have q17 : a.tmps[17]?.getD undef = .pointer (some ⟨lb, lo + k * 2, none⟩) := (hdep 5 17 (by kernel_rfl) (by kernel_rfl)).2.1.trans (hdep 5 17 (by kernel_rfl) (by kernel_rfl)).2.2
      have hn15 : ls 15 = false := by
        cases e : ls 15 with
        | false => rfl
        | true =>
          replace e := hcl 15 7 e (by kernel_rfl)
          replace e := hcl 7 6 e (by kernel_rfl)
          rw [show ls 6 = false from hi] at e
          cases e
      rw [if_pos (by rfl)]
      clear hold hdep hend hdon hcl o0 o3 o4
      have HJ := Lib.hid hJ
      clear hJ
      have c7 := HC0.out w1 (HJ.out.ext hn15)
      go_simp
      exact hK _ _ (fun _ _ _ h => h) HJ.out rfl
    · intro ls vs a w1 hi hJ hold hdep hdon hcl K hK
      obtain ⟨hl1, q13, p13⟩ := hdep 1 13 (by kernel_rfl) (by kernel_rfl)
      have q18 : a.tmps[18]?.getD undef = .slice la xs.length lcc := (hdep 6 18 (by kernel_rfl) (by kernel_rfl)).2.1.trans (hdep 6 18 (by kernel_rfl) (by kernel_rfl)).2.2
      have hn13 : ls 13 = false := by
        cases e : ls 13 with
        | false => rfl
        | true =>
          replace e := hcl 13 7 e (by kernel_rfl)
          rw [show ls 7 = false from hi] at e
          cases e
      have hn14 : ls 14 = false := by
        cases e : ls 14 with
        | false => rfl
        | true =>
          replace e := hcl 14 13 e (by kernel_rfl)
          replace e := hcl 13 7 e (by kernel_rfl)
          rw [show ls 7 = false from hi] at e
          cases e
      have hn15 : ls 15 = false := by
        cases e : ls 15 with
        | false => rfl
        | true =>
          replace e := hcl 15 7 e (by kernel_rfl)
          rw [show ls 7 = false from hi] at e
          cases e
      have hl1 := hdon 1 (by kernel_rfl)
      have hl6 := hdon 6 (by kernel_rfl)
      clear hold hdep hend hdon o0 o3 o4
      have HJ := Lib.hid hJ
      clear hJ
      obtain ⟨g, hv, hg1, hg2⟩ := HJ.out.e1 hl1 hi hn15
      rw [hv] at q13
      obtain ⟨v', w', r1, r2⟩ := HJ.out.put7 hl1 hi hn13 hn14 hn15 HI.out.1 HI.out.2 lcc g hv
      refine step_app (by rfl) (.tmp 13) (.tmp 18) 31 (by rfl) _ _ (by simpa [Act.eval, Array.getD_eq_getD_getElem?] using q13) (by simpa [Act.eval, Array.getD_eq_getD_getElem?] using q18) (fun v3 w3 => v3 = v' ∧ w3 = w') ⟨_, _, r1, rfl, rfl⟩ ?_
      rintro v3 w3 ⟨rfl, rfl⟩
      exact hK _ _ (fun _ _ _ h => h) r2 trivial
    · intro ls vs a w1 hi hJ hold hdep hdon hcl K hK
      have q0 : a.tmps[0]?.getD undef = .slice (some ⟨lb, lo, none⟩) n lc := (hold 0 (by kernel_rfl)).trans o0
      rw [if_pos (by rfl)]
      clear hold hdep hend hdon hcl o0 o3 o4
      have HJ := Lib.hid hJ
      clear hJ
      go_simp
      exact hK _ _ (fun _ _ _ h => h) HJ.out rfl
    · intro ls vs a w1 hi hJ hold hdep hdon hcl K hK
      have q4 : a.tmps[4]?.getD undef = .int .i64 (k : Int) := (hold 4 (by kernel_rfl)).trans o4
      rw [if_pos (by rfl)]
      clear hold hdep hend hdon hcl o0 o3 o4
      have HJ := Lib.hid hJ
      clear hJ
      go_simp
      exact hK _ _ (fun _ _ _ h => h) HJ.out rfl
    · intro ls vs a w1 hi hJ hold hdep hdon hcl K hK
      have q20 : a.tmps[20]?.getD undef = .slice (some ⟨lb, lo, none⟩) n lc := (hdep 8 20 (by kernel_rfl) (by kernel_rfl)).2.1.trans (hdep 8 20 (by kernel_rfl) (by kernel_rfl)).2.2
      have q21 : a.tmps[21]?.getD undef = .int .i64 (k : Int) := (hdep 9 21 (by kernel_rfl) (by kernel_rfl)).2.1.trans (hdep 9 21 (by kernel_rfl) (by kernel_rfl)).2.2
      rw [if_pos (by rfl)]
      clear hold hdep hend hdon hcl o0 o3 o4
      have HJ := Lib.hid hJ
      clear hJ
      go_simp
      exact hK _ _ (fun _ _ _ h => h) HJ.out rfl
    · intro ls vs a w1 hi hJ hold hdep hdon hcl K hK
      have q22 : a.tmps[22]?.getD undef = .pointer (some ⟨lb, lo + k * 2, none⟩) := (hdep 10 22 (by kernel_rfl) (by kernel_rfl)).2.1.trans (hdep 10 22 (by kernel_rfl) (by kernel_rfl)).2.2
      rw [if_pos (by rfl)]
      clear hold hdep hend hdon hcl o0 o3 o4
      have HJ := Lib.hid hJ
      clear hJ
      go_simp
      exact hK _ _ (fun _ _ _ h => h) HJ.out rfl
    · intro ls vs a w1 hi hJ hold hdep hdon hcl K hK
      have q23 : a.tmps[23]?.getD undef = .pointer (some ⟨lb, lo + k * 2 + 1, none⟩) := (hdep 11 23 (by kernel_rfl) (by kernel_rfl)).2.1.trans (hdep 11 23 (by kernel_rfl) (by kernel_rfl)).2.2
      have hn15 : ls 15 = false := by
        cases e : ls 15 with
        | false => rfl
        | true =>
          replace e := hcl 15 14 e (by kernel_rfl)
          replace e := hcl 14 13 e (by kernel_rfl)
          replace e := hcl 13 12 e (by kernel_rfl)
          rw [show ls 12 = false from hi] at e
          cases e
      rw [if_pos (by rfl)]
      clear hold hdep hend hdon hcl o0 o3 o4
      have HJ := Lib.hid hJ
      clear hJ
      have c7 := HC1.out w1 (HJ.out.ext hn15)
      go_simp
      exact hK _ _ (fun _ _ _ h => h) HJ.out rfl
    · intro ls vs a w1 hi hJ hold hdep hdon hcl K hK
      obtain ⟨hl7, q19, p19⟩ := hdep 7 19 (by kernel_rfl) (by kernel_rfl)
      have q24 : a.tmps[24]?.getD undef = .int .i64 blk := (hdep 12 24 (by kernel_rfl) (by kernel_rfl)).2.1.trans (hdep 12 24 (by kernel_rfl) (by kernel_rfl)).2.2
      have hn14 : ls 14 = false := by
        cases e : ls 14 with
        | false => rfl
        | true =>
          replace e := hcl 14 13 e (by kernel_rfl)
          rw [show ls 13 = false from hi] at e
          cases e
      have hn15 : ls 15 = false := by
        cases e : ls 15 with
        | false => rfl
        | true =>
          replace e := hcl 15 14 e (by kernel_rfl)
          replace e := hcl 14 13 e (by kernel_rfl)
          rw [show ls 13 = false from hi] at e
          cases e
      have hl7 := hdon 7 (by kernel_rfl)
      have hl12 := hdon 12 (by kernel_rfl)
      rw [if_pos (by rfl)]
      clear hold hdep hend hdon hcl o0 o3 o4
      have HJ := Lib.hid hJ
      clear hJ
      obtain ⟨a7, c7, hv, ho⟩ := HJ.out.e7 hl7 hn15
      rw [hv] at q19
      go_simp
      exact hK _ _ (fun _ _ _ h => h) (HJ.out.put13 hn14 hn15 hl7 hv) trivial
    · intro ls vs a w1 hi hJ hold hdep hdon hcl K hK
      obtain ⟨hl13, q25, p25⟩ := hdep 13 25 (by kernel_rfl) (by kernel_rfl)
      have hn15 : ls 15 = false := by
        cases e : ls 15 with
        | false => rfl
        | true =>
          replace e := hcl 15 14 e (by kernel_rfl)
          rw [show ls 14 = false from hi] at e
          cases e
      have hl13 := hdon 13 (by kernel_rfl)
      rw [if_pos (by rfl)]
      clear hold hdep hend hdon hcl o0 o3 o4
      have HJ := Lib.hid hJ
      clear hJ
      obtain ⟨a7, c7, hv, hv13, hl7⟩ := HJ.out.e13 hl13 hn15
      rw [hv13] at q25
      go_simp
      exact hK _ _ (fun _ _ _ h => h) (HJ.out.put14 hn15 hl7 hv) trivial
    · intro ls vs a w1 hi hJ hold hdep hdon hcl K hK
      have q12 : a.tmps[12]?.getD undef = V := (hdep 0 12 (by kernel_rfl) (by kernel_rfl)).2.1.trans (hdep 0 12 (by kernel_rfl) (by kernel_rfl)).2.2
      obtain ⟨hl14, q26, p26⟩ := hdep 14 26 (by kernel_rfl) (by kernel_rfl)
      have hn16 : ls 16 = false := by
        cases e : ls 16 with
        | false => rfl
        | true =>
          replace e := hcl 16 15 e (by kernel_rfl)
          rw [show ls 15 = false from hi] at e
          cases e
      have hl14 := hdon 14 (by kernel_rfl)
      clear hold hdep hend hdon o0 o3 o4
      have HJ := Lib.hid hJ
      clear hJ
      obtain ⟨a7, c7, g, hv, hv14, hb, hl7⟩ := HJ.out.e14 hl14 hi
      rw [hv14] at q26
      obtain ⟨a8, c8, hv8, ho⟩ := HJ.out.e7 hl7 hi
      rw [hv] at hv8
      simp only [Value.slice.injEq, true_and] at hv8
      obtain ⟨rfl, rfl⟩ := hv8
      obtain ⟨v', w', r1, r2⟩ := HAPP.out w1 (HJ.out.ext hi) _ _ g ho hb
      refine step_app (by rfl) (.tmp 12) (.tmp 26) 26 (by rfl) _ _ (by simpa [Act.eval, Array.getD_eq_getD_getElem?] using q12) (by simpa [Act.eval, Array.getD_eq_getD_getElem?] using q26) (fun v3 w3 => v3 = v' ∧ w3 = w') ⟨_, _, r1, rfl, rfl⟩ ?_
      rintro v3 w3 ⟨rfl, rfl⟩
      exact hK _ _ (fun _ _ _ h => h) (HJ.out.put15 hn16 r2) trivial
    · intro ls vs a w1 hi hJ hold hdep hdon hcl K hK
      obtain ⟨hl15, q27, p27⟩ := hdep 15 27 (by kernel_rfl) (by kernel_rfl)
      have hl15 := hdon 15 (by kernel_rfl)
      rw [if_pos (by rfl)]
      clear hold hdep hend hdon hcl o0 o3 o4
      have HJ := Lib.hid hJ
      clear hJ
      go_simp
      exact hK _ _ (fun _ _ _ h => h) HJ.out.put16 trivial
  · intro vs w9 ls9 hl9 hJ9 hφ
    have e0 := hφ 0 (by kernel_rfl)
    have e1 := hφ 1 (by kernel_rfl)
    have e2 := hφ 2 (by kernel_rfl)
    have e3 := hφ 3 (by kernel_rfl)
    have e4 := hφ 4 (by kernel_rfl)
    have e5 := hφ 5 (by kernel_rfl)
    have e6 := hφ 6 (by kernel_rfl)
    have e7 := hφ 7 (by kernel_rfl)
    have e8 := hφ 8 (by kernel_rfl)
    have e9 := hφ 9 (by kernel_rfl)
    have e10 := hφ 10 (by kernel_rfl)
    have e11 := hφ 11 (by kernel_rfl)
    have e12 := hφ 12 (by kernel_rfl)
    have e13 := hφ 13 (by kernel_rfl)
    have e14 := hφ 14 (by kernel_rfl)
    have e15 := hφ 15 (by kernel_rfl)
    have e16 := hφ 16 (by kernel_rfl)
    have hq := hend vs w9 ls9 hl9 hJ9 e0 e1 e2 e3 e4 e5 e6 e7 e8 e9 e10 e11 e12 e13 e14 e15 e16
    simp only [Act.put] at hq
    simp only [putAll, Act.put]
    exact hq
/-- Settings with the same numbers in them, wherever they lie. -/
def SameSe (ss tt : List Se) : Prop := ss.length = tt.length ∧ ∀ i, i < ss.length → (eth ss i).lv.xs = (eth tt i).lv.xs ∧ (eth ss i).blk = (eth tt i).blk
def lvOf (ss : List Se) : List (Sl Int) := ss.map (·.lv)
theorem lvOf_len (ss : List Se) : (lvOf ss).length = ss.length := by simp [lvOf]
theorem lvOf_at (ss : List Se) (i : Nat) (hi : i < ss.length) : vth (lvOf ss) i = (eth ss i).lv := by
  rw [vth_eq _ _ (by rw [lvOf_len]; exact hi), eth_eq _ _ hi]; simp [lvOf]
theorem eth_app (ss : List Se) (x : Se) (i : Nat) (hi : i < ss.length) : eth (ss ++ [x]) i = eth ss i := by simp [eth, List.getElem?_append_left hi]
theorem eth_last (ss : List Se) (x : Se) : eth (ss ++ [x]) ss.length = x := by simp [eth]
/-- A row of settings that is the call's own, the levels too. -/
def OwnSs (w : World) (B : Nat) (v : Value) (ss : List Se) : Prop := OwnS w B v ss ∧ RowsI w B (lvOf ss)
theorem OwnSs.ext {w w' : World} {B : Nat} {v : Value} {ss : List Se} (h : OwnSs w B v ss) (e : Ext w w') : OwnSs w' B v ss := ⟨OwnF.ext h.1 e, h.2.ext e⟩
theorem OwnSs.sets {w : World} {B : Nat} {a : Option Addr} {n c : Nat} {ss : List Se} (h : OwnSs w B (.slice a n c) ss) : SetsAt w a ss :=
  ⟨RowAt.own setC_len h.1, fun i hi => by
    have := (h.2.own i (by rw [lvOf_len]; exact hi)).ints.1
    rw [lvOf_at _ _ hi] at this; exact this⟩
theorem OwnSs.push {w W : World} {B g c : Nat} {a : Option Addr} {v : Value} {ss : List Se} {xs : List Int} {blk : Int} (h : OwnSs w B v ss) (hB : B ≤ w.heap.size) (he : Ext w W) (ho : OwnI W w.heap.size (.slice a xs.length c) xs) (hg : W.heap[g]? = some (.cells #[.slice a xs.length c, .int .i64 blk] 49 (0, 0))) (hn : ss.length ≤ 100000) :
    ∃ v' w', (Builtin.append_ #[26, 26] 26 #[v, .slice (some ⟨g, 0, none⟩) 1 1]).run Tryz.prog W = .ok v' w' ∧ OwnSs w' B v' (ss ++ [⟨⟨a, xs, c⟩, blk⟩]) ∧ ∀ w0, Ext w0 w → w0.heap.size ≤ B → Ext w0 w' := by
  obtain ⟨v', w', r1, r2, r3⟩ := app_set W B 26 v ss [⟨⟨a, xs, c⟩, blk⟩] (some ⟨g, 0, none⟩) 1 (OwnF.ext h.1 he) (set_one (x := ⟨⟨a, xs, c⟩, blk⟩) hg) (by simp; omega) (Nat.le_trans hB he.size)
  refine ⟨v', w', r1, ⟨r2, ?_⟩, fun w0 e0 hb => grown_ext (e0.trans he) r3 (fun k hk => Nat.le_trans hb (ownS_block h.1 k hk))⟩
  have e1 : lvOf (ss ++ [⟨⟨a, xs, c⟩, blk⟩]) = lvOf ss ++ [⟨a, xs, c⟩] := by simp [lvOf]
  rw [e1]
  refine RowsI.push (M := w.heap.size) ?_ ?_ hB ?_
  · refine RowsI.far (h.2.ext he) r3 fun i hi k hk e => ?_
    exact own_types_ne ((h.2.ext he).own i hi) (OwnF.ext h.1 he) (by decide) k k hk e rfl
  · show OwnI w' _ (.slice a xs.length c) xs
    refine own_of_block ho fun k hk => ?_
    exact r3.block k (ho.lt k hk).2 (fun e => by
      have h1 := (h.1.lt k (by first | exact e | exact e.symm)).2
      have h2 := (ho.lt k hk).1
      omega)
  · intro i hi p hp
    have := h.2.own i hi
    rw [hp] at this
    exact (ownI_lt this).2
set_option maxRecDepth 100000 in
set_option maxHeartbeats 4000000 in
theorem ownSets_any (a : Option Addr) (ss : List Se) (sc : Nat) (w : World) (hs : SetsAt w a ss) (hn : ss.length ≤ 10000) (hl : ∀ i, i < ss.length → (eth ss i).lv.xs.length ≤ 1000000) :
    Calls Tryz.prog 46 #[.slice a ss.length sc] w (fun e w' => ∃ a' c' tt, e = .returned (.slice a' ss.length c') ∧ Ext w w' ∧ OwnSs w' w.heap.size (.slice a' ss.length c') tt ∧ SameSe ss tt) := by
  have HS := Lib.hid hs; have HL := Lib.hid hl
  obtain ⟨n, hnn⟩ : ∃ n, n = ss.length := ⟨_, rfl⟩
  have HNN := Lib.hid hnn
  rw [← hnn] at hn ⊢
  clear hs hl hnn
  go_enter Tryz.func46, Tryz.ntmps46
  go_wp2_with (fail)
  have HO4 : Hid (OwnSs (w.alloc (.cells #[] 49)) w.heap.size (.slice (some ⟨w.heap.size, 0, none⟩) 0 0) []) := ⟨own_empty w 49 2, RowsI.nil _ _⟩
  have HX4 : Hid (Ext w (w.alloc (.cells #[] 49))) := (Ext.refl _).alloc _
  go_loopw [3, 4] (fun v i wr => ∃ (k : Nat) (tt : List Se), k ≤ n ∧ i = .int .i64 k ∧ Hid (Ext w wr) ∧ Hid (OwnSs wr w.heap.size v tt ∧ tt.length = k ∧ ∀ i, i < k → (eth ss i).lv.xs = (eth tt i).lv.xs ∧ (eth ss i).blk = (eth tt i).blk)) (fun _ i _ => n - (intOf i).toNat)
  case atStart => exact ⟨0, [], Nat.zero_le _, rfl, HX4.out, HO4.out, rfl, fun i hi => by omega⟩
  case round =>
    obtain ⟨k, tt, hk, rfl, HX, HO⟩ := hrel
    by_cases hlt : k < n
    · have hks : k < ss.length := by rw [← HNN.out]; exact hlt
      obtain ⟨lb, lo, rfl, d0, d1⟩ := set_at (HS.out.ext HX.out).row k hks
      have HI : Hid (Ints wr (eth ss k).lv.a (eth ss k).lv.xs ∧ (eth ss k).lv.xs.length ≤ 1000000) := ⟨(HS.out.ext HX.out).lv k hks, HL.out k hks⟩
      have hk0 : (0 : Int) ≤ (k : Int) := by omega
      have hkn : (k : Int) < (n : Int) := by omega
      obtain ⟨s, hse⟩ : ∃ s, s = eth ss k := ⟨_, rfl⟩
      rw [← hse] at d0 d1 HI
      obtain ⟨⟨la, xs, lcc⟩, blk⟩ := s
      have HC0 := Lib.hid d0; have HC1 := Lib.hid d1
      have HSE := Lib.hid hse
      obtain ⟨R, hR⟩ : ∃ R : World → Value → Prop, R = fun W v => Ext w W ∧ ∃ a c, OwnSs W w.heap.size v (tt ++ [⟨⟨a, xs, c⟩, blk⟩]) := ⟨_, rfl⟩
      have HC0 : Hid (∀ W, Ext wr W → W.cell? ⟨lb, lo + k * 2, none⟩ = some (.slice la xs.length lcc)) := HC0
      have HC1 : Hid (∀ W, Ext wr W → W.cell? ⟨lb, lo + k * 2 + 1, none⟩ = some (.int .i64 blk)) := HC1
      have HI : Hid (Ints wr la xs ∧ xs.length ≤ 1000000) := HI
      have HAPP : Hid (∀ W, Ext wr W → ∀ a c g, OwnI W wr.heap.size (.slice a xs.length c) xs → W.heap[g]? = some (.cells #[.slice a xs.length c, .int .i64 blk] 49 (0, 0)) → ∃ v' w', (Builtin.append_ #[26, 26] 26 #[u3, .slice (some ⟨g, 0, none⟩) 1 1]).run Tryz.prog W = .ok v' w' ∧ R w' v') := fun W e a c g ho hg => by
        obtain ⟨v', w', r1, r2, r3⟩ := HO.out.1.push HX.out.size e ho hg (by rw [HO.out.2.1]; omega)
        refine ⟨v', w', r1, ?_⟩
        rw [hR]
        exact ⟨r3 w HX.out (Nat.le_refl _), a, c, r2⟩
      have HRR := Lib.hid hR
      clear d0 d1 hse hR
      go_upto_region 5 with fail
      refine os_law hk0 hkn HC0 HC1 HI HAPP _ (by rfl) rfl rfl rfl ?_
      intro vs w9 ls9 hl9 hJ9 e0 e1 e2 e3 e4 e5 e6 e7 e8 e9 e10 e11 e12 e13 e14 e15 e16
      simp only [Act.put, List.setIfInBounds_toArray, List.set_cons_zero, List.set_cons_succ]
      rw [e0, e2, e3, e4, e5, e6, e8, e9, e10, e11, e12]
      have h16 := hJ9.e16 (hl9 16 (by omega))
      have h15 := hJ9.e15 (hl9 15 (by omega))
      rw [h16]
      rw [HRR.out] at h15
      obtain ⟨hx9, a9, c9, ho9⟩ := h15
      have HX9 := Lib.hid hx9; have HO9 := Lib.hid ho9
      have HEQ : Hid ((tt ++ [(⟨⟨a9, xs, c9⟩, blk⟩ : Se)]).length = k + 1 ∧ ∀ i, i < k + 1 → (eth ss i).lv.xs = (eth (tt ++ [⟨⟨a9, xs, c9⟩, blk⟩]) i).lv.xs ∧ (eth ss i).blk = (eth (tt ++ [⟨⟨a9, xs, c9⟩, blk⟩]) i).blk) := by
        refine ⟨by simp [HO.out.2.1], fun i hi => ?_⟩
        by_cases hik : i < k
        · rw [eth_app _ _ _ (by rw [HO.out.2.1]; exact hik)]
          exact HO.out.2.2 i hik
        · obtain rfl : i = tt.length := by rw [HO.out.2.1]; omega
          rw [eth_last, HO.out.2.1, ← HSE.out]
          exact ⟨rfl, rfl⟩
      clear hJ9 hl9 HAPP HRR h16 hx9 ho9
      generalize vs 15 = v15 at HO9 ⊢
      generalize vs 1 = v1
      generalize vs 7 = v7
      generalize vs 13 = v13
      generalize vs 14 = v14
      go_wp2_with (fail)
      go_roundw
      case rel => exact ⟨k + 1, _, by omega, by go_num, HX9.out, HO9.out, HEQ.out⟩
      case measure => simp [intOf]; omega
    · obtain rfl : k = n := by omega
      obtain ⟨a', n', c', rfl⟩ := ownS_slice HO.out.1.1
      obtain ⟨hn', -⟩ := OwnF.lens HO.out.1.1
      rw [HO.out.2.1] at hn'
      subst hn'
      have HSS : Hid (SameSe ss tt) := ⟨by rw [← HNN.out, HO.out.2.1], fun i hi => HO.out.2.2 i (by rw [HNN.out]; exact hi)⟩
      go_wp2_with (fail)
      go_ret
      exact ⟨a', c', tt, rfl, HX.out, HO.out.1, HSS.out⟩
end Go.Proofs.YtplbofhgmflnlaaGreat
