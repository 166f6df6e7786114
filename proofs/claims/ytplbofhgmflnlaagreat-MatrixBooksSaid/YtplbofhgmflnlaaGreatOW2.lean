/-
  Walks: the laws' own copy of a plan.
-/
import Derived.Test.YtplbofhgmflnlaaGreatMG6
set_option linter.unusedVariables false
set_option linter.unusedSimpArgs false
namespace Go.Proofs.YtplbofhgmflnlaaGreat
open Go.RowKit
theorem info127 : (Tryz.prog.info? 127).map (fun i => (i.zero, i.size, i.bytes)) = some (some (.agg #[.int .i64 0, .int .i64 0]), 2, 16) := by kernel_rfl
theorem info125 : (Tryz.prog.info? 125).map (fun i => (i.zero, i.size, i.bytes)) = some (some (.slice none 0 0), 1, 24) := by kernel_rfl
theorem info52 : (Tryz.prog.info? 52).map (fun i => (i.zero, i.size, i.bytes)) = some (some (.agg #[.int .i64 0, .int .i64 0, .bool false]), 3, 24) := by kernel_rfl
theorem app_prs (w : World) (B : Nat) (ty : TypeId) (v : Value) (xs ys : List Pr) (a : Option Addr) (c : Nat) (hv : OwnF 127 2 prC w B v xs) (hx : Prs w a ys) (hn : xs.length + ys.length ≤ 1000000) (hB : B ≤ w.heap.size) :
    ∃ v' w', (Builtin.append_ #[125, 125] ty #[v, .slice a ys.length c]).run Tryz.prog w = .ok v' w' ∧ OwnF 127 2 prC w' B v' (xs ++ ys) ∧ w.grownBy w' v.ownBlock := by
  obtain ⟨i0, hi, hz0, hz1, hz2⟩ := info_parts info127
  exact app_row prC_len prC_one Tryz.underlying125 hi hz0 hz1 hz2 rfl (by omega) (by omega) w B ty v xs ys a c hv hx hn hB
theorem app_fac (w : World) (B : Nat) (ty : TypeId) (v : Value) (xs ys : List Fac) (a : Option Addr) (c : Nat) (hv : OwnF 52 3 facC w B v xs) (hx : Facs w a ys) (hn : xs.length + ys.length ≤ 1000000) (hB : B ≤ w.heap.size) :
    ∃ v' w', (Builtin.append_ #[22, 22] ty #[v, .slice a ys.length c]).run Tryz.prog w = .ok v' w' ∧ OwnF 52 3 facC w' B v' (xs ++ ys) ∧ w.grownBy w' v.ownBlock := by
  obtain ⟨i0, hi, hz0, hz1, hz2⟩ := info_parts info52
  exact app_row facC_len facC_one Tryz.underlying22 hi hz0 hz1 hz2 rfl (by omega) (by omega) w B ty v xs ys a c hv hx hn hB
theorem app_grpL (w : World) (B : Nat) (ty : TypeId) (v : Value) (xs ys : List (Sl Pr)) (a : Addr) (c : Nat) (hv : OwnF 125 1 grpC w B v xs) (hx : Grps w (some a) ys) (hn : xs.length + ys.length ≤ 1000000) (hB : B ≤ w.heap.size) :
    ∃ v' w', (Builtin.append_ #[23, 23] ty #[v, .slice (some a) ys.length c]).run Tryz.prog w = .ok v' w' ∧ OwnF 125 1 grpC w' B v' (xs ++ ys) ∧ w.grownBy w' v.ownBlock ∧ (v'.ownBlock = v.ownBlock ∨ v'.ownBlock = some w.heap.size) := by
  obtain ⟨i0, hi, hz0, hz1, hz2⟩ := info_parts info125
  obtain ⟨v', w', r1, r2, r3, -, r5⟩ := run_append_own_at (P := Tryz.prog) w B 23 ty 125 i0 _ 1 24 Tryz.underlying23 hi hz0 hz1 hz2 rfl (by omega) v xs.length (rowF grpC xs) hv a ys.length c (rowF grpC ys) (rowF_len grpC_len ys) (by
    rcases hx.src grpC_len with h | ⟨ad, h, hc⟩
    · intro j u hj; rw [h] at hj; simp at hj
    · cases h; exact hc) (rowF_one grpC_one ys) (by unfold maxLen; omega) (by omega) hB
  refine ⟨v', w', r1, ?_, r3, r5⟩
  unfold OwnF
  rw [List.length_append, rowF_append]
  exact r2
theorem grp_one {w : World} {b : Nat} {x : Sl Pr} {T : TypeId} {fz : Nat × Nat} (h : w.heap[b]? = some (.cells #[.slice x.a x.xs.length x.c] T fz)) : Grps w (some ⟨b, 0, none⟩) [x] := by
  have c0 := obj_cells1 h
  refine .inr ⟨b, 0, rfl, fun i hi j hj => ?_⟩
  obtain rfl : i = 0 := by simp at hi; omega
  obtain rfl : j = 0 := by omega
  exact c0 w (Ext.refl w)
/-- What a copy of one group has made by now. -/
structure PlJ (wr wz : World) (xs : List Pr) (S R : World → Value → Prop) (l2 l8 l9 l10 l12 : Bool) (v2 v8 v9 v10 : Value) : Prop where
  ext : l10 = false → Ext wr wz
  e2 : l2 = true → l8 = false → l10 = false → ∃ g, v2 = .slice (some ⟨g, 0, none⟩) 0 0 ∧ wr.heap.size ≤ g ∧ wz.heap[g]? = some (.cells #[] 127 (0, 0))
  e8 : l8 = true → l10 = false → ∃ a c, v8 = .slice a xs.length c ∧ wz.ownsRow wr.heap.size 127 2 (.slice a xs.length c) xs.length (rowF prC xs)
  e9 : l9 = true → l10 = false → ∃ a c g, v8 = .slice a xs.length c ∧ v9 = .slice (some ⟨g, 0, none⟩) 1 1 ∧ wz.heap[g]? = some (.cells #[.slice a xs.length c] 125 (0, 0)) ∧ l8 = true
  e10 : l10 = true → l12 = false → S wz v10
  e12 : l12 = true → R wz v10
section
variable {wr wz : World} {xs : List Pr} {S R : World → Value → Prop} {l2 l8 l9 l10 l12 : Bool} {v2 v8 v9 v10 : Value}
theorem PlJ.start (h : Ext wr wz) : PlJ wr wz xs S R false false false false false v2 v8 v9 v10 :=
  ⟨fun _ => h, fun e => (by cases e), fun e => (by cases e), fun e => (by cases e), fun e => (by cases e), fun e => (by cases e)⟩
theorem PlJ.put2 (h : PlJ wr wz xs S R l2 l8 l9 l10 l12 v2 v8 v9 v10) (h8 : l8 = false) (h9 : l9 = false) (h10 : l10 = false) (h12 : l12 = false) :
    PlJ wr (wz.alloc (.cells #[] 127)) xs S R true l8 l9 l10 l12 (.slice (some ⟨wz.heap.size, 0, none⟩) 0 0) v8 v9 v10 := by
  subst h8 h9 h10 h12
  have hx := h.ext rfl
  exact ⟨fun _ => hx.alloc _, fun _ _ _ => ⟨_, rfl, hx.size, heap_new _ _⟩, fun e => (by cases e), fun e => (by cases e), fun e => (by cases e), fun e => (by cases e)⟩
theorem PlJ.put8 (h : PlJ wr wz xs S R l2 l8 l9 l10 l12 v2 v8 v9 v10) (h2 : l2 = true) (h8 : l8 = false) (h9 : l9 = false) (h10 : l10 = false) (h12 : l12 = false) {la : Option Addr} (hi : Prs wr la xs) (hn : xs.length ≤ 500000) (lc g : Nat) (hv : v2 = .slice (some ⟨g, 0, none⟩) 0 0) :
    ∃ v' w', (Builtin.append_ #[125, 125] 125 #[.slice (some ⟨g, 0, none⟩) 0 0, .slice la xs.length lc]).run Tryz.prog wz = .ok v' w' ∧ PlJ wr w' xs S R l2 true l9 l10 l12 v2 v' v9 v10 := by
  subst h2 h8 h9 h10 h12
  have hx := h.ext rfl
  obtain ⟨g', hg, hge, hb⟩ := h.e2 rfl rfl rfl
  rw [hv] at hg
  simp only [Value.slice.injEq, Option.some.injEq, Addr.mk.injEq, and_true] at hg
  obtain rfl := hg
  have ho : OwnF 127 2 prC wz wr.heap.size (.slice (some ⟨g, 0, none⟩) 0 0) [] := ownsRow_empty hb hge
  obtain ⟨v', w', r1, r2, r3⟩ := app_prs wz wr.heap.size 125 (.slice (some ⟨g, 0, none⟩) 0 0) [] xs la lc ho (hi.ext prC_len hx) (by simp; omega) hx.size
  rw [List.nil_append] at r2
  refine ⟨v', w', r1, fun _ => grown_ext (v := .slice (some ⟨g, 0, none⟩) 0 0) hx r3 (fun k hk => by simp only [Value.ownBlock, Option.some.injEq] at hk; omega), fun _ e => (by cases e), fun _ _ => ?_, fun e => (by cases e), fun e => (by cases e), fun e => (by cases e)⟩
  obtain ⟨a, n, c, rfl⟩ : ∃ a n c, v' = .slice a n c := by
    rcases r2.2 with ⟨h, _⟩ | ⟨g, cap, cur, h, _⟩
    · exact ⟨_, _, _, h⟩
    · exact ⟨_, _, _, h⟩
  obtain ⟨rfl, -⟩ := OwnF.lens r2
  exact ⟨a, c, rfl, r2⟩
theorem PlJ.put9 (h : PlJ wr wz xs S R l2 l8 l9 l10 l12 v2 v8 v9 v10) (h10 : l10 = false) (h12 : l12 = false) (h8 : l8 = true) {a : Option Addr} {c : Nat} (hv : v8 = .slice a xs.length c) :
    PlJ wr (wz.alloc (.cells #[.slice a xs.length c] 125)) xs S R l2 l8 true l10 l12 v2 v8 (.slice (some ⟨wz.heap.size, 0, none⟩) 1 1) v10 := by
  subst h10 h12 h8
  have hx := (Ext.refl wz).alloc (.cells #[.slice a xs.length c] 125)
  refine ⟨fun e => (h.ext e).trans hx, fun _ e => (by cases e), fun _ e => ?_, fun _ _ => ⟨a, c, _, hv, rfl, heap_new _ _, rfl⟩, fun e => (by cases e), fun e => (by cases e)⟩
  obtain ⟨a', c', h1, h2⟩ := h.e8 rfl e
  exact ⟨a', c', h1, own_ext h2 hx⟩
theorem PlJ.put10 {w' : World} {v' : Value} (h : PlJ wr wz xs S R l2 l8 l9 l10 l12 v2 v8 v9 v10) (h12 : l12 = false) (hs : S w' v') : PlJ wr w' xs S R l2 l8 l9 true l12 v2 v8 v9 v' := by
  subst h12
  exact ⟨fun e => (by cases e), fun _ _ e => (by cases e), fun _ e => (by cases e), fun _ e => (by cases e), fun _ _ => hs, fun e => (by cases e)⟩
theorem PlJ.put12 {w' : World} (h : PlJ wr wz xs S R l2 l8 l9 l10 l12 v2 v8 v9 v10) (hr : R w' v10) (h10 : l10 = true) : PlJ wr w' xs S R l2 l8 l9 l10 true v2 v8 v9 v10 := by
  subst h10
  exact ⟨fun e => (by cases e), fun _ _ e => (by cases e), fun _ e => (by cases e), fun _ e => (by cases e), fun _ e => (by cases e), fun _ => hr⟩
end
set_option maxRecDepth 100000 in
set_option maxHeartbeats 4000000 in
theorem pl_law {pb bq gb go m gc k : Nat} {la : Option Addr} {lcc : Nat} {xs : List Pr} {V : Value} {wr : World} {S R : World → Value → Prop} (hk0 : (0 : Int) ≤ (k : Int)) (hkn : (k : Int) < (m : Int)) (HCQ : Hid (∀ W, Ext wr W → W.cell? ⟨bq, 1, none⟩ = some V)) (HCP : Hid (∀ W, Ext wr W → W.cell? ⟨pb, 1, none⟩ = some (.slice (some ⟨gb, go, none⟩) m gc))) (HCG : Hid (∀ W, Ext wr W → W.cell? ⟨gb, go + k, none⟩ = some (.slice la xs.length lcc))) (HI : Hid (Prs wr la xs ∧ xs.length ≤ 500000)) (HAPP : Hid (∀ W, Ext wr W → ∀ a c g, W.ownsRow wr.heap.size 127 2 (.slice a xs.length c) xs.length (rowF prC xs) → W.heap[g]? = some (.cells #[.slice a xs.length c] 125 (0, 0)) → ∃ v' w', (Builtin.append_ #[23, 23] 23 #[V, .slice (some ⟨g, 0, none⟩) 1 1]).run Tryz.prog W = .ok v' w' ∧ S w' v')) (HSV : Hid (∀ W v, S W v → (∃ u, W.cell? ⟨bq, 1, none⟩ = some u) ∧ W.frozen? ⟨bq, 1, none⟩ = false ∧ ∃ a n c, v = .slice a n c)) (HST : Hid (∀ W v, S W v → R (W.setCell ⟨bq, 1, none⟩ v) v)) {Q : Exit → Act → World → Prop} (aZ : Act) (hsz : aZ.tmps.size = 30) (o1 : aZ.tmps[1]?.getD undef = .pointer (some ⟨pb, 0, none⟩)) (o3 : aZ.tmps[3]?.getD undef = .pointer (some ⟨bq, 0, none⟩)) (o4 : aZ.tmps[4]?.getD undef = .int .i64 (k : Int))
    (hend : ∀ (vs : Nat → Value) (w9 : World) (ls9 : Nat → Bool), (∀ j : Nat, j < 13 → ls9 j = true) → (PlJ wr w9 xs S R (ls9 2) (ls9 8) (ls9 9) (ls9 10) (ls9 12) (vs 2) (vs 8) (vs 9) (vs 10)) → (vs 0 = .pointer (some ⟨bq, 1, none⟩)) → (vs 1 = V) → (True) → (vs 3 = .pointer (some ⟨pb, 1, none⟩)) → (vs 4 = .slice (some ⟨gb, go, none⟩) m gc) → (vs 5 = .int .i64 (k : Int)) → (vs 6 = .pointer (some ⟨gb, go + k, none⟩)) → (vs 7 = .slice la xs.length lcc) → (True) → (True) → (True) → (vs 11 = .pointer (some ⟨bq, 1, none⟩)) → Q .normal ((((((((((((aZ.put (some 17) (vs 0)).put (some 18) (vs 1)).put (some 19) (vs 2)).put (some 20) (vs 3)).put (some 21) (vs 4)).put (some 22) (vs 5)).put (some 23) (vs 6)).put (some 24) (vs 7)).put (some 25) (vs 8)).put (some 26) (vs 9)).put (some 27) (vs 10)).put (some 28) (vs 11)) w9) : (regOf Tryz.f40 5).wp Tryz.prog Q aZ wr := by
  conv => arg 2; whnf
  refine wp_region_said3 (fun i v wz => match i with
    | 0 => v = .pointer (some ⟨bq, 1, none⟩)
    | 1 => v = V
    | 2 => True
    | 3 => v = .pointer (some ⟨pb, 1, none⟩)
    | 4 => v = .slice (some ⟨gb, go, none⟩) m gc
    | 5 => v = .int .i64 (k : Int)
    | 6 => v = .pointer (some ⟨gb, go + k, none⟩)
    | 7 => v = .slice la xs.length lcc
    | 8 => True
    | 9 => True
    | 10 => True
    | 11 => v = .pointer (some ⟨bq, 1, none⟩)
    | _ => True) (fun ls vs wz => PlJ wr wz xs S R (ls 2) (ls 8) (ls 9) (ls 10) (ls 12) (vs 2) (vs 8) (vs 9) (vs 10)) (by kernel_rfl) (by kernel_rfl) (by rw [hsz]; kernel_rfl) ?_ ?_ ?_
  · exact PlJ.start (Ext.refl _).drew
  · refine ⟨?_, ?_, ?_, ?_, ?_, ?_, ?_, ?_, ?_, ?_, ?_, ?_, ?_, trivial⟩
    · intro ls vs a w1 hi hJ hold hdep hdon hcl K hK
      have q3 : a.tmps[3]?.getD undef = .pointer (some ⟨bq, 0, none⟩) := (hold 3 (by kernel_rfl)).trans o3
      rw [if_pos (by rfl)]
      clear hold hdep hend hdon hcl o1 o3 o4
      have HJ := Lib.hid hJ
      clear hJ
      go_simp
      exact hK _ _ (fun _ _ _ h => h) HJ.out rfl
    · intro ls vs a w1 hi hJ hold hdep hdon hcl K hK
      have q17 : a.tmps[17]?.getD undef = .pointer (some ⟨bq, 1, none⟩) := (hdep 0 17 (by kernel_rfl) (by kernel_rfl)).2.1.trans (hdep 0 17 (by kernel_rfl) (by kernel_rfl)).2.2
      have hn10 : ls 10 = false := by
        cases e : ls 10 with
        | false => rfl
        | true =>
          replace e := hcl 10 1 e (by kernel_rfl)
          rw [show ls 1 = false from hi] at e
          cases e
      have hn12 : ls 12 = false := by
        cases e : ls 12 with
        | false => rfl
        | true =>
          replace e := hcl 12 1 e (by kernel_rfl)
          rw [show ls 1 = false from hi] at e
          cases e
      rw [if_pos (by rfl)]
      clear hold hdep hend hdon hcl o1 o3 o4
      have HJ := Lib.hid hJ
      clear hJ
      have c7 := HCQ.out w1 (HJ.out.ext hn10)
      go_simp
      exact hK _ _ (fun _ _ _ h => h) HJ.out rfl
    · intro ls vs a w1 hi hJ hold hdep hdon hcl K hK
      have hn8 : ls 8 = false := by
        cases e : ls 8 with
        | false => rfl
        | true =>
          replace e := hcl 8 2 e (by kernel_rfl)
          rw [show ls 2 = false from hi] at e
          cases e
      have hn9 : ls 9 = false := by
        cases e : ls 9 with
        | false => rfl
        | true =>
          replace e := hcl 9 8 e (by kernel_rfl)
          replace e := hcl 8 2 e (by kernel_rfl)
          rw [show ls 2 = false from hi] at e
          cases e
      have hn10 : ls 10 = false := by
        cases e : ls 10 with
        | false => rfl
        | true =>
          replace e := hcl 10 8 e (by kernel_rfl)
          replace e := hcl 8 2 e (by kernel_rfl)
          rw [show ls 2 = false from hi] at e
          cases e
      have hn12 : ls 12 = false := by
        cases e : ls 12 with
        | false => rfl
        | true =>
          replace e := hcl 12 2 e (by kernel_rfl)
          rw [show ls 2 = false from hi] at e
          cases e
      rw [if_pos (by rfl)]
      clear hold hdep hend hdon hcl o1 o3 o4
      have HJ := Lib.hid hJ
      clear hJ
      go_simp
      exact hK _ _ (fun _ _ _ h => h) (HJ.out.put2 hn8 hn9 hn10 hn12) trivial
    · intro ls vs a w1 hi hJ hold hdep hdon hcl K hK
      have q1 : a.tmps[1]?.getD undef = .pointer (some ⟨pb, 0, none⟩) := (hold 1 (by kernel_rfl)).trans o1
      rw [if_pos (by rfl)]
      clear hold hdep hend hdon hcl o1 o3 o4
      have HJ := Lib.hid hJ
      clear hJ
      go_simp
      exact hK _ _ (fun _ _ _ h => h) HJ.out rfl
    · intro ls vs a w1 hi hJ hold hdep hdon hcl K hK
      have q20 : a.tmps[20]?.getD undef = .pointer (some ⟨pb, 1, none⟩) := (hdep 3 20 (by kernel_rfl) (by kernel_rfl)).2.1.trans (hdep 3 20 (by kernel_rfl) (by kernel_rfl)).2.2
      have hn10 : ls 10 = false := by
        cases e : ls 10 with
        | false => rfl
        | true =>
          replace e := hcl 10 8 e (by kernel_rfl)
          replace e := hcl 8 7 e (by kernel_rfl)
          replace e := hcl 7 6 e (by kernel_rfl)
          replace e := hcl 6 4 e (by kernel_rfl)
          rw [show ls 4 = false from hi] at e
          cases e
      have hn12 : ls 12 = false := by
        cases e : ls 12 with
        | false => rfl
        | true =>
          replace e := hcl 12 4 e (by kernel_rfl)
          rw [show ls 4 = false from hi] at e
          cases e
      rw [if_pos (by rfl)]
      clear hold hdep hend hdon hcl o1 o3 o4
      have HJ := Lib.hid hJ
      clear hJ
      have c7 := HCP.out w1 (HJ.out.ext hn10)
      go_simp
      exact hK _ _ (fun _ _ _ h => h) HJ.out rfl
    · intro ls vs a w1 hi hJ hold hdep hdon hcl K hK
      have q4 : a.tmps[4]?.getD undef = .int .i64 (k : Int) := (hold 4 (by kernel_rfl)).trans o4
      rw [if_pos (by rfl)]
      clear hold hdep hend hdon hcl o1 o3 o4
      have HJ := Lib.hid hJ
      clear hJ
      go_simp
      exact hK _ _ (fun _ _ _ h => h) HJ.out rfl
    · intro ls vs a w1 hi hJ hold hdep hdon hcl K hK
      have q21 : a.tmps[21]?.getD undef = .slice (some ⟨gb, go, none⟩) m gc := (hdep 4 21 (by kernel_rfl) (by kernel_rfl)).2.1.trans (hdep 4 21 (by kernel_rfl) (by kernel_rfl)).2.2
      have q22 : a.tmps[22]?.getD undef = .int .i64 (k : Int) := (hdep 5 22 (by kernel_rfl) (by kernel_rfl)).2.1.trans (hdep 5 22 (by kernel_rfl) (by kernel_rfl)).2.2
      rw [if_pos (by rfl)]
      clear hold hdep hend hdon hcl o1 o3 o4
      have HJ := Lib.hid hJ
      clear hJ
      go_simp
      exact hK _ _ (fun _ _ _ h => h) HJ.out rfl
    · intro ls vs a w1 hi hJ hold hdep hdon hcl K hK
      have q23 : a.tmps[23]?.getD undef = .pointer (some ⟨gb, go + k, none⟩) := (hdep 6 23 (by kernel_rfl) (by kernel_rfl)).2.1.trans (hdep 6 23 (by kernel_rfl) (by kernel_rfl)).2.2
      have hn10 : ls 10 = false := by
        cases e : ls 10 with
        | false => rfl
        | true =>
          replace e := hcl 10 8 e (by kernel_rfl)
          replace e := hcl 8 7 e (by kernel_rfl)
          rw [show ls 7 = false from hi] at e
          cases e
      have hn12 : ls 12 = false := by
        cases e : ls 12 with
        | false => rfl
        | true =>
          replace e := hcl 12 7 e (by kernel_rfl)
          rw [show ls 7 = false from hi] at e
          cases e
      rw [if_pos (by rfl)]
      clear hold hdep hend hdon hcl o1 o3 o4
      have HJ := Lib.hid hJ
      clear hJ
      have c7 := HCG.out w1 (HJ.out.ext hn10)
      go_simp
      exact hK _ _ (fun _ _ _ h => h) HJ.out rfl
    · intro ls vs a w1 hi hJ hold hdep hdon hcl K hK
      obtain ⟨hl2, q19, p19⟩ := hdep 2 19 (by kernel_rfl) (by kernel_rfl)
      have q24 : a.tmps[24]?.getD undef = .slice la xs.length lcc := (hdep 7 24 (by kernel_rfl) (by kernel_rfl)).2.1.trans (hdep 7 24 (by kernel_rfl) (by kernel_rfl)).2.2
      have hn9 : ls 9 = false := by
        cases e : ls 9 with
        | false => rfl
        | true =>
          replace e := hcl 9 8 e (by kernel_rfl)
          rw [show ls 8 = false from hi] at e
          cases e
      have hn10 : ls 10 = false := by
        cases e : ls 10 with
        | false => rfl
        | true =>
          replace e := hcl 10 8 e (by kernel_rfl)
          rw [show ls 8 = false from hi] at e
          cases e
      have hn12 : ls 12 = false := by
        cases e : ls 12 with
        | false => rfl
        | true =>
          replace e := hcl 12 8 e (by kernel_rfl)
          rw [show ls 8 = false from hi] at e
          cases e
      have hl2 := hdon 2 (by kernel_rfl)
      have hl7 := hdon 7 (by kernel_rfl)
      clear hold hdep hend hdon o1 o3 o4
      have HJ := Lib.hid hJ
      clear hJ
      obtain ⟨g, hv, hg1, hg2⟩ := HJ.out.e2 hl2 hi hn10
      rw [hv] at q19
      obtain ⟨v', w', r1, r2⟩ := HJ.out.put8 hl2 hi hn9 hn10 hn12 HI.out.1 HI.out.2 lcc g hv
      refine step_app (by rfl) (.tmp 19) (.tmp 24) 125 (by rfl) _ _ (by simpa [Act.eval, Array.getD_eq_getD_getElem?] using q19) (by simpa [Act.eval, Array.getD_eq_getD_getElem?] using q24) (fun v3 w3 => v3 = v' ∧ w3 = w') ⟨_, _, r1, rfl, rfl⟩ ?_
      rintro v3 w3 ⟨rfl, rfl⟩
      exact hK _ _ (fun _ _ _ h => h) r2 trivial
    · intro ls vs a w1 hi hJ hold hdep hdon hcl K hK
      obtain ⟨hl8, q25, p25⟩ := hdep 8 25 (by kernel_rfl) (by kernel_rfl)
      have hn10 : ls 10 = false := by
        cases e : ls 10 with
        | false => rfl
        | true =>
          replace e := hcl 10 9 e (by kernel_rfl)
          rw [show ls 9 = false from hi] at e
          cases e
      have hn12 : ls 12 = false := by
        cases e : ls 12 with
        | false => rfl
        | true =>
          replace e := hcl 12 9 e (by kernel_rfl)
          rw [show ls 9 = false from hi] at e
          cases e
      have hl8 := hdon 8 (by kernel_rfl)
      rw [if_pos (by rfl)]
      clear hold hdep hend hdon hcl o1 o3 o4
      have HJ := Lib.hid hJ
      clear hJ
      obtain ⟨a8, c8, hv, ho⟩ := HJ.out.e8 hl8 hn10
      rw [hv] at q25
      go_simp
      exact hK _ _ (fun _ _ _ h => h) (HJ.out.put9 hn10 hn12 hl8 hv) trivial
    · intro ls vs a w1 hi hJ hold hdep hdon hcl K hK
      have q18 : a.tmps[18]?.getD undef = V := (hdep 1 18 (by kernel_rfl) (by kernel_rfl)).2.1.trans (hdep 1 18 (by kernel_rfl) (by kernel_rfl)).2.2
      obtain ⟨hl9, q26, p26⟩ := hdep 9 26 (by kernel_rfl) (by kernel_rfl)
      have hn12 : ls 12 = false := by
        cases e : ls 12 with
        | false => rfl
        | true =>
          replace e := hcl 12 10 e (by kernel_rfl)
          rw [show ls 10 = false from hi] at e
          cases e
      have hl1 := hdon 1 (by kernel_rfl)
      have hl9 := hdon 9 (by kernel_rfl)
      clear hold hdep hend hdon o1 o3 o4
      have HJ := Lib.hid hJ
      clear hJ
      obtain ⟨a8, c8, g, hv, hv9, hb, hl8⟩ := HJ.out.e9 hl9 hi
      rw [hv9] at q26
      obtain ⟨a8', c8', hv8, ho⟩ := HJ.out.e8 hl8 hi
      rw [hv] at hv8
      simp only [Value.slice.injEq, true_and] at hv8
      obtain ⟨rfl, rfl⟩ := hv8
      obtain ⟨v', w', r1, r2⟩ := HAPP.out w1 (HJ.out.ext hi) _ _ g ho hb
      refine step_app (by rfl) (.tmp 18) (.tmp 26) 23 (by rfl) _ _ (by simpa [Act.eval, Array.getD_eq_getD_getElem?] using q18) (by simpa [Act.eval, Array.getD_eq_getD_getElem?] using q26) (fun v3 w3 => v3 = v' ∧ w3 = w') ⟨_, _, r1, rfl, rfl⟩ ?_
      rintro v3 w3 ⟨rfl, rfl⟩
      exact hK _ _ (fun _ _ _ h => h) (HJ.out.put10 hn12 r2) trivial
    · intro ls vs a w1 hi hJ hold hdep hdon hcl K hK
      have q3 : a.tmps[3]?.getD undef = .pointer (some ⟨bq, 0, none⟩) := (hold 3 (by kernel_rfl)).trans o3
      rw [if_pos (by rfl)]
      clear hold hdep hend hdon hcl o1 o3 o4
      have HJ := Lib.hid hJ
      clear hJ
      go_simp
      exact hK _ _ (fun _ _ _ h => h) HJ.out rfl
    · intro ls vs a w1 hi hJ hold hdep hdon hcl K hK
      obtain ⟨hl10, q27, p27⟩ := hdep 10 27 (by kernel_rfl) (by kernel_rfl)
      have q28 : a.tmps[28]?.getD undef = .pointer (some ⟨bq, 1, none⟩) := (hdep 11 28 (by kernel_rfl) (by kernel_rfl)).2.1.trans (hdep 11 28 (by kernel_rfl) (by kernel_rfl)).2.2
      have hl10 := hdon 10 (by kernel_rfl)
      have hl11 := hdon 11 (by kernel_rfl)
      rw [if_pos (by rfl)]
      clear hold hdep hend hdon hcl o1 o3 o4
      have HJ := Lib.hid hJ
      clear hJ
      have hs := HJ.out.e10 hl10 hi
      obtain ⟨⟨u, c1⟩, f1, a10, n10, c10, hv10⟩ := HSV.out w1 _ hs
      have r1 := HST.out w1 _ hs
      rw [hv10] at q27
      go_simp
      exact hK undef _ (fun _ _ _ h => h) (HJ.out.put12 (by rw [hv10] at r1; rw [hv10]; exact r1) hl10) trivial
  · intro vs w9 ls9 hl9 hJ9 hφ
    have e0 := hφ 0 (by kernel_rfl)
    have e1 := hφ 1 (by kernel_rfl)
    have e2 := hφ 2 (by kernel_rfl)
    have e3 := hφ 3 (by kernel_rfl)
    have e4 := hφ 4 (by kernel_rfl)
    have e5 := hφ 5 (by kernel_rfl)
    have e6 := hφ 6 (by kernel_rfl)
    have e7 := hφ 7 (by kernel_rfl)
    have e8 := hφ 8 (by kernel_rfl)
    have e9 := hφ 9 (by kernel_rfl)
    have e10 := hφ 10 (by kernel_rfl)
    have e11 := hφ 11 (by kernel_rfl)
    have hq := hend vs w9 ls9 hl9 hJ9 e0 e1 e2 e3 e4 e5 e6 e7 e8 e9 e10 e11
    simp only [Act.put] at hq
    simp only [putAll, Act.put]
    exact hq
end Go.Proofs.YtplbofhgmflnlaaGreat
