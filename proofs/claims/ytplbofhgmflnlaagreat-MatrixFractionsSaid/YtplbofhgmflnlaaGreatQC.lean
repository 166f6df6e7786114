/-
  Walks: the reference's Put, Relation, Aliases (its region printed by regthm.py).
-/
import Derived.Test.YtplbofhgmflnlaaGreatQB
set_option linter.unusedVariables false
set_option linter.unusedSimpArgs false
namespace Go.Proofs.YtplbofhgmflnlaaGreat
open Go.RowKit
theorem app_wdL (w : World) (B : Nat) (ty : TypeId) (v : Value) (xs ys : List Wd) (a : Addr) (c : Nat) (hv : OwnW w B v xs) (hx : Wds w (some a) ys) (hn : xs.length + ys.length ≤ 1000000) (hB : B ≤ w.heap.size) :
    ∃ v' w', (Builtin.append_ #[56, 56] ty #[v, .slice (some a) ys.length c]).run Tryz.prog w = .ok v' w' ∧ OwnW w' B v' (xs ++ ys) ∧ w.grownBy w' v.ownBlock ∧ (v'.ownBlock = v.ownBlock ∨ v'.ownBlock = some w.heap.size) := by
  obtain ⟨i0, hi, hz0, hz1, hz2⟩ := info_parts info75
  obtain ⟨v', w', r1, r2, r3, -, r5⟩ := run_append_own_at (P := Tryz.prog) w B 56 ty 75 i0 _ 2 4 Tryz.underlying56 hi hz0 hz1 hz2 rfl (by omega) v xs.length (rowF wdC xs) hv a ys.length c (rowF wdC ys) (rowF_len wdC_len ys) (by
    rcases hx.src wdC_len with h | ⟨ad, h, hc⟩
    · intro j u hj; rw [h] at hj; simp at hj
    · cases h; exact hc) (rowF_one wdC_one ys) (by unfold maxLen; omega) (by omega) hB
  refine ⟨v', w', r1, ?_, r3, r5⟩
  unfold OwnW OwnF
  rw [List.length_append, rowF_append]
  exact r2
abbrev rwW (v : Value) (xs : List Wd) : Rw := ⟨75, 2, v, xs.length, rowF wdC xs⟩
/-- What a put has made by now. -/
structure PutJ (wr wz : World) (xs : List Wd) (k : Nat) (x : Wd) (l0 l4 l6 l7 l11 : Bool) (v0 v4 v6 v7 v11 : Value) : Prop where
  ext : Ext wr wz
  rows : RowsAt wz wr.heap.size ((if l11 then [rwW v11 (xs.take k ++ x :: xs.drop k)] else if l7 then [rwW v7 (xs.take k ++ [x])] else if l4 then [rwW v4 (xs.take k)] else if l0 then [rwW v0 []] else []) ++ (if l6 && !l7 then [rwW v6 [x]] else []))
theorem PutJ.start {wr wz : World} {xs : List Wd} {k : Nat} {x : Wd} {v0 v4 v6 v7 v11 : Value} (h : Ext wr wz) : PutJ wr wz xs k x false false false false false v0 v4 v6 v7 v11 := ⟨h, RowsAt.nil _ _⟩
theorem PutJ.put0 {wr wz : World} {xs : List Wd} {k : Nat} {x : Wd} {l6 : Bool} {v0 v4 v6 v7 v11 : Value} (h : PutJ wr wz xs k x false false l6 false false v0 v4 v6 v7 v11) :
    PutJ wr (wz.alloc (.cells #[] 75)) xs k x true false l6 false false (.slice (some ⟨wz.heap.size, 0, none⟩) 0 0) v4 v6 v7 v11 := by
  have hx := (Ext.refl wz).alloc (.cells #[] 75)
  refine ⟨h.ext.trans hx, ?_⟩
  have h1 := h.rows
  simp only [Bool.false_eq_true, if_false, List.nil_append] at h1
  have h2 := h1.push (r := rwW (.slice (some ⟨wz.heap.size, 0, none⟩) 0 0) []) (ownsRow_empty (heap_new _ _) h.ext.size) (fun k hk => heap_old _ _ k hk) (fun k hk => by simp [Value.ownBlock] at hk; omega)
  simpa using h2
theorem PutJ.put6 {wr wz : World} {xs : List Wd} {k : Nat} {x : Wd} {l0 l4 : Bool} {v0 v4 v6 v7 v11 : Value} (h : PutJ wr wz xs k x l0 l4 false false false v0 v4 v6 v7 v11) :
    PutJ wr (wz.alloc (.cells #[.int .u16 (x.mask : Int), .bool x.odd] 75)) xs k x l0 l4 true false false v0 v4 (.slice (some ⟨wz.heap.size, 0, none⟩) 1 1) v7 v11 := by
  have hx := (Ext.refl wz).alloc (.cells #[.int .u16 (x.mask : Int), .bool x.odd] 75)
  refine ⟨h.ext.trans hx, ?_⟩
  have h1 := h.rows
  simp only [Bool.false_and, Bool.false_eq_true, if_false, List.append_nil] at h1
  have h2 := h1.lit (n := 1) (sz := 2) hx (heap_new _ _) (Nat.le_refl _) h.ext.size (by omega) rfl
  simp only [Bool.true_and, Bool.not_false, if_true, Bool.false_eq_true, if_false]
  exact h2.perm (List.perm_append_comm (l₁ := [_]))
theorem PutJ.put4 {wr wz : World} {xs : List Wd} {k : Nat} {x : Wd} {l6 : Bool} {v0 v4 v6 v7 v11 : Value} {a : Addr} {c : Nat} (h : PutJ wr wz xs k x true false l6 false false v0 v4 v6 v7 v11) (hk : k ≤ xs.length) (hn : xs.length ≤ 500000) (hs : Wds wz (some a) (xs.take k)) :
    ∃ v' w', (Builtin.append_ #[56, 56] 56 #[v0, .slice (some a) k c]).run Tryz.prog wz = .ok v' w' ∧ PutJ wr w' xs k x true true l6 false false v0 v' v6 v7 v11 := by
  have h1 := h.rows
  simp only [Bool.false_eq_true, if_false, if_true] at h1
  have hl : (xs.take k).length = k := by rw [List.length_take]; omega
  have hown : OwnW wz wr.heap.size v0 [] := h1.own (rwW v0 []) (by simp)
  obtain ⟨v', w', r1, r2, r3, r4⟩ := app_wdL wz wr.heap.size 56 v0 [] (xs.take k) a c hown hs (by rw [hl]; simp; omega) h.ext.size
  rw [hl] at r1
  refine ⟨v', w', r1, grown_ext h.ext r3 (fun j hj => (hown.lt j hj).1), ?_⟩
  simp only [Bool.false_eq_true, if_false, if_true]
  exact RowsAt.appMid (L1 := []) (r := rwW v0 []) (r' := rwW v' (xs.take k)) h1 r3 (show OwnW w' wr.heap.size v' (xs.take k) by simpa using r2) r4
theorem PutJ.put7 {wr wz : World} {xs : List Wd} {k : Nat} {x : Wd} {l0 : Bool} {v0 v4 v6 v7 v11 : Value} (h : PutJ wr wz xs k x l0 true true false false v0 v4 v6 v7 v11) (hn : xs.length ≤ 500000) :
    ∃ a c, v6 = .slice a 1 c ∧ ∃ v' w', (Builtin.append_ #[56, 56] 56 #[v4, v6]).run Tryz.prog wz = .ok v' w' ∧ PutJ wr w' xs k x l0 true true true false v0 v4 v6 v' v11 := by
  have h1 := h.rows
  simp only [Bool.false_eq_true, if_false, if_true, Bool.not_false, Bool.and_true] at h1
  have hown : OwnW wz wr.heap.size v4 (xs.take k) := h1.own (rwW v4 (xs.take k)) (by simp)
  have hown6 : OwnW wz wr.heap.size v6 [x] := h1.own (rwW v6 [x]) (by simp)
  obtain ⟨a, c, rfl⟩ := ownF_slice hown6
  have hw6 : Wds wz a [x] := RowAt.own wdC_len hown6
  obtain ⟨ad, rfl⟩ : ∃ ad, a = some ad := by
    rcases hw6 with h | ⟨b, o, h, _⟩
    · cases h
    · exact ⟨_, h⟩
  have hl : (xs.take k).length ≤ xs.length := by rw [List.length_take]; omega
  obtain ⟨v', w', r1, r2, r3, r4⟩ := app_wdL wz wr.heap.size 56 v4 (xs.take k) [x] ad c hown hw6 (by simp only [List.length_singleton]; omega) h.ext.size
  refine ⟨some ad, c, rfl, v', w', r1, grown_ext h.ext r3 (fun j hj => (hown.lt j hj).1), ?_⟩
  simp only [Bool.false_eq_true, if_false, if_true, Bool.not_true, Bool.and_false, List.append_nil]
  have h2 : RowsAt wz wr.heap.size [rwW v4 (xs.take k)] := h1.sub (by simp)
  exact RowsAt.appMid (L1 := []) (L2 := []) (r := rwW v4 (xs.take k)) (r' := rwW v' (xs.take k ++ [x])) h2 r3 r2 r4
theorem PutJ.put11 {wr wz : World} {xs : List Wd} {k : Nat} {x : Wd} {l0 l4 l6 : Bool} {v0 v4 v6 v7 v11 : Value} {a : Addr} {c : Nat} (h : PutJ wr wz xs k x l0 l4 l6 true false v0 v4 v6 v7 v11) (hn : xs.length ≤ 500000) (hs : Wds wz (some a) (xs.drop k)) :
    ∃ v' w', (Builtin.append_ #[56, 56] 56 #[v7, .slice (some a) (xs.drop k).length c]).run Tryz.prog wz = .ok v' w' ∧ PutJ wr w' xs k x l0 l4 l6 true true v0 v4 v6 v7 v' := by
  have h1 := h.rows
  simp only [Bool.false_eq_true, if_false, if_true, Bool.not_true, Bool.and_false, List.append_nil] at h1
  have hown : OwnW wz wr.heap.size v7 (xs.take k ++ [x]) := h1.own (rwW v7 (xs.take k ++ [x])) (by simp)
  have hl : (xs.take k).length + (xs.drop k).length = xs.length := by rw [List.length_take, List.length_drop]; omega
  obtain ⟨v', w', r1, r2, r3, r4⟩ := app_wdL wz wr.heap.size 56 v7 (xs.take k ++ [x]) (xs.drop k) a c hown hs (by rw [List.length_append, List.length_singleton]; omega) h.ext.size
  refine ⟨v', w', r1, grown_ext h.ext r3 (fun j hj => (hown.lt j hj).1), ?_⟩
  simp only [Bool.false_eq_true, if_false, if_true, Bool.not_true, Bool.and_false, List.append_nil]
  refine RowsAt.appMid (L1 := []) (L2 := []) (r := rwW v7 (xs.take k ++ [x])) (r' := rwW v' (xs.take k ++ x :: xs.drop k)) h1 r3 ?_ r4
  have e : xs.take k ++ [x] ++ xs.drop k = xs.take k ++ x :: xs.drop k := by simp
  rw [e] at r2
  exact r2
theorem PutJ.done {wr wz : World} {xs : List Wd} {k : Nat} {x : Wd} {l0 l4 l6 l7 : Bool} {v0 v4 v6 v7 v11 : Value} (h : PutJ wr wz xs k x l0 l4 l6 l7 true v0 v4 v6 v7 v11) : OwnW wz wr.heap.size v11 (xs.take k ++ x :: xs.drop k) := by
  have h1 := h.rows
  simp only [if_true] at h1
  exact h1.own (rwW v11 (xs.take k ++ x :: xs.drop k)) (by simp)
theorem putW_split {xs : List Wd} {x : Wd} {k : Nat} (hk : k ≤ xs.length) (h1 : ∀ j, j < k → ltW (wth xs j) x = true) (h2 : k < xs.length → ltW (wth xs k) x = false) : (xs.takeWhile fun y => ltW y x) = xs.take k ∧ (xs.dropWhile fun y => ltW y x) = xs.drop k := by
  induction xs generalizing k with
  | nil => simp
  | cons a xs ih =>
    cases k with
    | zero =>
      have := h2 (by simp)
      have e : wth (a :: xs) 0 = a := rfl
      rw [e] at this
      rw [List.takeWhile_cons_of_neg (by simpa using this), List.dropWhile_cons_of_neg (by simpa using this)]
      simp
    | succ k =>
      have h0 := h1 0 (by omega)
      have e : wth (a :: xs) 0 = a := rfl
      rw [e] at h0
      have hs : ∀ j, wth (a :: xs) (j + 1) = wth xs j := fun j => by simp [wth]
      obtain ⟨q1, q2⟩ := ih (k := k) (by simpa using hk) (fun j hj => by rw [← hs]; exact h1 (j + 1) (by omega)) (fun hj => by rw [← hs]; exact h2 (by simpa using hj))
      rw [List.takeWhile_cons_of_pos (by simpa using h0), List.dropWhile_cons_of_pos (by simpa using h0), q1, q2]
      simp
section
variable {wr wz : World} {xs : List Wd} {k : Nat} {x : Wd} {l0 l4 l6 l7 l11 : Bool} {v0 v4 v6 v7 v11 : Value}
theorem PutJ.qut0 (h : PutJ wr wz xs k x l0 l4 l6 l7 l11 v0 v4 v6 v7 v11) (h0 : l0 = false) (h4 : l4 = false) (h7 : l7 = false) (h11 : l11 = false) :
    PutJ wr (wz.alloc (.cells #[] 75)) xs k x true l4 l6 l7 l11 (.slice (some ⟨wz.heap.size, 0, none⟩) 0 0) v4 v6 v7 v11 := by
  subst h0 h4 h7 h11; exact h.put0
theorem PutJ.qut6 (h : PutJ wr wz xs k x l0 l4 l6 l7 l11 v0 v4 v6 v7 v11) (h6 : l6 = false) (h7 : l7 = false) (h11 : l11 = false) :
    PutJ wr (wz.alloc (.cells #[.int .u16 (x.mask : Int), .bool x.odd] 75)) xs k x l0 l4 true l7 l11 v0 v4 (.slice (some ⟨wz.heap.size, 0, none⟩) 1 1) v7 v11 := by
  subst h6 h7 h11; exact h.put6
theorem PutJ.qut4 {a : Addr} {c : Nat} (h : PutJ wr wz xs k x l0 l4 l6 l7 l11 v0 v4 v6 v7 v11) (h0 : l0 = true) (h4 : l4 = false) (h7 : l7 = false) (h11 : l11 = false) (hk : k ≤ xs.length) (hn : xs.length ≤ 500000) (hs : Wds wr (some a) (xs.take k)) :
    ∃ v' w', (Builtin.append_ #[56, 56] 56 #[v0, .slice (some a) k c]).run Tryz.prog wz = .ok v' w' ∧ PutJ wr w' xs k x l0 true l6 l7 l11 v0 v' v6 v7 v11 := by
  subst h0 h4 h7 h11; exact h.put4 hk hn (RowAt.ext wdC_len hs h.ext)
theorem PutJ.qut7 (h : PutJ wr wz xs k x l0 l4 l6 l7 l11 v0 v4 v6 v7 v11) (h4 : l4 = true) (h6 : l6 = true) (h7 : l7 = false) (h11 : l11 = false) (hn : xs.length ≤ 500000) :
    ∃ a c, v6 = .slice a 1 c ∧ ∃ v' w', (Builtin.append_ #[56, 56] 56 #[v4, v6]).run Tryz.prog wz = .ok v' w' ∧ PutJ wr w' xs k x l0 l4 l6 true l11 v0 v4 v6 v' v11 := by
  subst h4 h6 h7 h11; exact h.put7 hn
theorem PutJ.qut11 {a : Addr} {c : Nat} (h : PutJ wr wz xs k x l0 l4 l6 l7 l11 v0 v4 v6 v7 v11) (h7 : l7 = true) (h11 : l11 = false) (hn : xs.length ≤ 500000) (hs : Wds wr (some a) (xs.drop k)) :
    ∃ v' w', (Builtin.append_ #[56, 56] 56 #[v7, .slice (some a) (xs.drop k).length c]).run Tryz.prog wz = .ok v' w' ∧ PutJ wr w' xs k x l0 l4 l6 l7 true v0 v4 v6 v7 v' := by
  subst h7 h11; exact h.put11 hn (RowAt.ext wdC_len hs h.ext)
end
set_option maxRecDepth 100000 in
set_option maxHeartbeats 4000000 in
theorem put_law {gb wb k n lc d : Nat} {x : Wd} {xs : List Wd} {A : Addr} {wr : World} (hk0 : (0 : Int) ≤ (k : Int)) (hkn : (k : Int) ≤ (n : Int)) (hnc : (n : Int) ≤ (lc : Int)) (hkl : k ≤ lc) (hkm : k ≤ n) (hA : Hid ((if lc = k then (some ⟨gb, 0, none⟩ : Option Addr) else some ⟨gb, k * 2, none⟩) = some A)) (hdk : d = n - k) (HK : Hid (k ≤ xs.length ∧ xs.length ≤ 500000 ∧ (xs.drop k).length = d)) (HW : Hid (Wds wr (some ⟨gb, 0, none⟩) (xs.take k))) (HD : Hid (Wds wr (some A) (xs.drop k))) (c0 : ∀ W, Ext wr W → W.cell? ⟨wb, 0, none⟩ = some (.int .u16 (x.mask : Int))) (c1 : ∀ W, Ext wr W → W.cell? ⟨wb, 1, none⟩ = some (.bool x.odd)) {Q : Exit → Act → World → Prop} (aZ : Act) (hsz : aZ.tmps.size = 45) (o0 : aZ.tmps[0]?.getD undef = .slice (some ⟨gb, 0, none⟩) n lc) (o3 : aZ.tmps[3]?.getD undef = .pointer (some ⟨wb, 0, none⟩)) (o5 : aZ.tmps[5]?.getD undef = .int .i64 (k : Int))
    (hend : ∀ (vs : Nat → Value) (w9 : World) (ls9 : Nat → Bool), (∀ j : Nat, j < 13 → ls9 j = true) → (PutJ wr w9 xs k x (ls9 0) (ls9 4) (ls9 6) (ls9 7) (ls9 11) (vs 0) (vs 4) (vs 6) (vs 7) (vs 11) ∧ (ls9 12 = true → vs 12 = vs 11)) → (True) → (vs 1 = .slice (some ⟨gb, 0, none⟩) n lc) → (vs 2 = .int .i64 (k : Int)) → (vs 3 = .slice (some ⟨gb, 0, none⟩) k lc) → (True) → (vs 5 = .agg #[.int .u16 (x.mask : Int), .bool x.odd]) → (True) → (True) → (vs 8 = .slice (some ⟨gb, 0, none⟩) n lc) → (vs 9 = .int .i64 (k : Int)) → (vs 10 = .slice (if lc = k then (some ⟨gb, 0, none⟩ : Option Addr) else some ⟨gb, k * 2, none⟩) (n - k) (lc - k)) → (True) → (True) → Q .normal (((((((((((((aZ.put (some 33) (vs 0)).put (some 34) (vs 1)).put (some 35) (vs 2)).put (some 36) (vs 3)).put (some 37) (vs 4)).put (some 38) (vs 5)).put (some 39) (vs 6)).put (some 40) (vs 7)).put (some 41) (vs 8)).put (some 42) (vs 9)).put (some 43) (vs 10)).put (some 44) (vs 11)).put (some 4) (vs 12)) w9) : (regOf Tryz.f90 6).wp Tryz.prog Q aZ wr := by
  conv => arg 2; whnf
  refine wp_region_said3 (fun i v wz => match i with
    | 0 => True
    | 1 => v = .slice (some ⟨gb, 0, none⟩) n lc
    | 2 => v = .int .i64 (k : Int)
    | 3 => v = .slice (some ⟨gb, 0, none⟩) k lc
    | 4 => True
    | 5 => v = .agg #[.int .u16 (x.mask : Int), .bool x.odd]
    | 6 => True
    | 7 => True
    | 8 => v = .slice (some ⟨gb, 0, none⟩) n lc
    | 9 => v = .int .i64 (k : Int)
    | 10 => v = .slice (if lc = k then (some ⟨gb, 0, none⟩ : Option Addr) else some ⟨gb, k * 2, none⟩) (n - k) (lc - k)
    | 11 => True
    | _ => True) (fun ls vs wz => PutJ wr wz xs k x (ls 0) (ls 4) (ls 6) (ls 7) (ls 11) (vs 0) (vs 4) (vs 6) (vs 7) (vs 11) ∧ (ls 12 = true → vs 12 = vs 11)) (by kernel_rfl) (by kernel_rfl) (by rw [hsz]; kernel_rfl) ?_ ?_ ?_
  · exact ⟨PutJ.start (Ext.refl _).drew, fun e => (by cases e)⟩
  · refine ⟨?_, ?_, ?_, ?_, ?_, ?_, ?_, ?_, ?_, ?_, ?_, ?_, ?_, trivial⟩
    · intro ls vs a w1 hi hJ hold hdep hdon hcl K hK
      have hn4 : ls 4 = false := by
        cases e : ls 4 with
        | false => rfl
        | true =>
          replace e := hcl 4 0 e (by kernel_rfl)
          rw [show ls 0 = false from hi] at e
          cases e
      have hn7 : ls 7 = false := by
        cases e : ls 7 with
        | false => rfl
        | true =>
          replace e := hcl 7 4 e (by kernel_rfl)
          replace e := hcl 4 0 e (by kernel_rfl)
          rw [show ls 0 = false from hi] at e
          cases e
      have hn11 : ls 11 = false := by
        cases e : ls 11 with
        | false => rfl
        | true =>
          replace e := hcl 11 7 e (by kernel_rfl)
          replace e := hcl 7 4 e (by kernel_rfl)
          replace e := hcl 4 0 e (by kernel_rfl)
          rw [show ls 0 = false from hi] at e
          cases e
      have hn12 : ls 12 = false := by
        cases e : ls 12 with
        | false => rfl
        | true =>
          replace e := hcl 12 0 e (by kernel_rfl)
          rw [show ls 0 = false from hi] at e
          cases e
      rw [if_pos (by rfl)]
      clear hold hdep hend hdon hcl o0 o3 o5
      have HJ := Lib.hid hJ
      clear hJ
      go_simp
      exact hK _ _ (fun _ _ _ h => h) ⟨HJ.out.1.qut0 hi hn4 hn7 hn11, fun e => (by simp [hn12] at e)⟩ trivial
    · intro ls vs a w1 hi hJ hold hdep hdon hcl K hK
      have q0 : a.tmps[0]?.getD undef = .slice (some ⟨gb, 0, none⟩) n lc := (hold 0 (by kernel_rfl)).trans o0
      rw [if_pos (by rfl)]
      clear hold hdep hend hdon hcl o0 o3 o5
      have HJ := Lib.hid hJ
      clear hJ
      go_simp
      exact hK _ _ (fun _ _ _ h => h) HJ.out rfl
    · intro ls vs a w1 hi hJ hold hdep hdon hcl K hK
      have q5 : a.tmps[5]?.getD undef = .int .i64 (k : Int) := (hold 5 (by kernel_rfl)).trans o5
      rw [if_pos (by rfl)]
      clear hold hdep hend hdon hcl o0 o3 o5
      have HJ := Lib.hid hJ
      clear hJ
      go_simp
      exact hK _ _ (fun _ _ _ h => h) HJ.out rfl
    · intro ls vs a w1 hi hJ hold hdep hdon hcl K hK
      have q34 : a.tmps[34]?.getD undef = .slice (some ⟨gb, 0, none⟩) n lc := (hdep 1 34 (by kernel_rfl) (by kernel_rfl)).2.1.trans (hdep 1 34 (by kernel_rfl) (by kernel_rfl)).2.2
      have q35 : a.tmps[35]?.getD undef = .int .i64 (k : Int) := (hdep 2 35 (by kernel_rfl) (by kernel_rfl)).2.1.trans (hdep 2 35 (by kernel_rfl) (by kernel_rfl)).2.2
      rw [if_pos (by rfl)]
      clear hold hdep hend hdon hcl o0 o3 o5
      have HJ := Lib.hid hJ
      clear hJ
      go_simp
      exact hK _ _ (fun _ _ _ h => h) HJ.out rfl
    · intro ls vs a w1 hi hJ hold hdep hdon hcl K hK
      obtain ⟨hl0, q33, p33⟩ := hdep 0 33 (by kernel_rfl) (by kernel_rfl)
      have q36 : a.tmps[36]?.getD undef = .slice (some ⟨gb, 0, none⟩) k lc := (hdep 3 36 (by kernel_rfl) (by kernel_rfl)).2.1.trans (hdep 3 36 (by kernel_rfl) (by kernel_rfl)).2.2
      have hn7 : ls 7 = false := by
        cases e : ls 7 with
        | false => rfl
        | true =>
          replace e := hcl 7 4 e (by kernel_rfl)
          rw [show ls 4 = false from hi] at e
          cases e
      have hn11 : ls 11 = false := by
        cases e : ls 11 with
        | false => rfl
        | true =>
          replace e := hcl 11 7 e (by kernel_rfl)
          replace e := hcl 7 4 e (by kernel_rfl)
          rw [show ls 4 = false from hi] at e
          cases e
      have hn12 : ls 12 = false := by
        cases e : ls 12 with
        | false => rfl
        | true =>
          replace e := hcl 12 4 e (by kernel_rfl)
          rw [show ls 4 = false from hi] at e
          cases e
      have hl0 := hdon 0 (by kernel_rfl)
      have hl3 := hdon 3 (by kernel_rfl)
      clear hold hdep hend hdon o0 o3 o5
      have HJ := Lib.hid hJ
      clear hJ
      obtain ⟨v', w', r1, r2⟩ := HJ.out.1.qut4 hl0 hi hn7 hn11 HK.out.1 HK.out.2.1 HW.out (c := lc)
      refine step_app (by rfl) (.tmp 33) (.tmp 36) 56 (by rfl) _ _ (by simpa [Act.eval, Array.getD_eq_getD_getElem?] using q33) (by simpa [Act.eval, Array.getD_eq_getD_getElem?] using q36) (fun v3 w3 => v3 = v' ∧ w3 = w') ⟨_, _, r1, rfl, rfl⟩ ?_
      rintro v3 w3 ⟨rfl, rfl⟩
      exact hK _ _ (fun _ _ _ h => h) ⟨r2, fun e => (by simp [hn12] at e)⟩ trivial
    · intro ls vs a w1 hi hJ hold hdep hdon hcl K hK
      have q3 : a.tmps[3]?.getD undef = .pointer (some ⟨wb, 0, none⟩) := (hold 3 (by kernel_rfl)).trans o3
      rw [if_pos (by rfl)]
      clear hold hdep hend hdon hcl o0 o3 o5
      have HJ := Lib.hid hJ
      clear hJ
      have c7 := c0 w1 HJ.out.1.ext
      have c8 := c1 w1 HJ.out.1.ext
      go_simp
      exact hK _ _ (fun _ _ _ h => h) HJ.out rfl
    · intro ls vs a w1 hi hJ hold hdep hdon hcl K hK
      have q38 : a.tmps[38]?.getD undef = .agg #[.int .u16 (x.mask : Int), .bool x.odd] := (hdep 5 38 (by kernel_rfl) (by kernel_rfl)).2.1.trans (hdep 5 38 (by kernel_rfl) (by kernel_rfl)).2.2
      have hn7 : ls 7 = false := by
        cases e : ls 7 with
        | false => rfl
        | true =>
          replace e := hcl 7 6 e (by kernel_rfl)
          rw [show ls 6 = false from hi] at e
          cases e
      have hn11 : ls 11 = false := by
        cases e : ls 11 with
        | false => rfl
        | true =>
          replace e := hcl 11 7 e (by kernel_rfl)
          replace e := hcl 7 6 e (by kernel_rfl)
          rw [show ls 6 = false from hi] at e
          cases e
      have hn12 : ls 12 = false := by
        cases e : ls 12 with
        | false => rfl
        | true =>
          replace e := hcl 12 6 e (by kernel_rfl)
          rw [show ls 6 = false from hi] at e
          cases e
      have hl5 := hdon 5 (by kernel_rfl)
      rw [if_pos (by rfl)]
      clear hold hdep hend hdon hcl o0 o3 o5
      have HJ := Lib.hid hJ
      clear hJ
      go_simp
      exact hK _ _ (fun _ _ _ h => h) ⟨HJ.out.1.qut6 hi hn7 hn11, fun e => (by simp [hn12] at e)⟩ trivial
    · intro ls vs a w1 hi hJ hold hdep hdon hcl K hK
      obtain ⟨hl4, q37, p37⟩ := hdep 4 37 (by kernel_rfl) (by kernel_rfl)
      obtain ⟨hl6, q39, p39⟩ := hdep 6 39 (by kernel_rfl) (by kernel_rfl)
      have hn11 : ls 11 = false := by
        cases e : ls 11 with
        | false => rfl
        | true =>
          replace e := hcl 11 7 e (by kernel_rfl)
          rw [show ls 7 = false from hi] at e
          cases e
      have hn12 : ls 12 = false := by
        cases e : ls 12 with
        | false => rfl
        | true =>
          replace e := hcl 12 7 e (by kernel_rfl)
          rw [show ls 7 = false from hi] at e
          cases e
      have hl4 := hdon 4 (by kernel_rfl)
      have hl6 := hdon 6 (by kernel_rfl)
      clear hold hdep hend hdon o0 o3 o5
      have HJ := Lib.hid hJ
      clear hJ
      obtain ⟨a6, c6, hv6, v', w', r1, r2⟩ := HJ.out.1.qut7 hl4 hl6 hi hn11 HK.out.2.1
      refine step_app (by rfl) (.tmp 37) (.tmp 39) 56 (by rfl) _ _ (by simpa [Act.eval, Array.getD_eq_getD_getElem?] using q37) (by simpa [Act.eval, Array.getD_eq_getD_getElem?] using q39) (fun v3 w3 => v3 = v' ∧ w3 = w') ⟨_, _, r1, rfl, rfl⟩ ?_
      rintro v3 w3 ⟨rfl, rfl⟩
      exact hK _ _ (fun _ _ _ h => h) ⟨r2, fun e => (by simp [hn12] at e)⟩ trivial
    · intro ls vs a w1 hi hJ hold hdep hdon hcl K hK
      have q0 : a.tmps[0]?.getD undef = .slice (some ⟨gb, 0, none⟩) n lc := (hold 0 (by kernel_rfl)).trans o0
      rw [if_pos (by rfl)]
      clear hold hdep hend hdon hcl o0 o3 o5
      have HJ := Lib.hid hJ
      clear hJ
      go_simp
      exact hK _ _ (fun _ _ _ h => h) HJ.out rfl
    · intro ls vs a w1 hi hJ hold hdep hdon hcl K hK
      have q5 : a.tmps[5]?.getD undef = .int .i64 (k : Int) := (hold 5 (by kernel_rfl)).trans o5
      rw [if_pos (by rfl)]
      clear hold hdep hend hdon hcl o0 o3 o5
      have HJ := Lib.hid hJ
      clear hJ
      go_simp
      exact hK _ _ (fun _ _ _ h => h) HJ.out rfl
    · intro ls vs a w1 hi hJ hold hdep hdon hcl K hK
      have q41 : a.tmps[41]?.getD undef = .slice (some ⟨gb, 0, none⟩) n lc := (hdep 8 41 (by kernel_rfl) (by kernel_rfl)).2.1.trans (hdep 8 41 (by kernel_rfl) (by kernel_rfl)).2.2
      have q42 : a.tmps[42]?.getD undef = .int .i64 (k : Int) := (hdep 9 42 (by kernel_rfl) (by kernel_rfl)).2.1.trans (hdep 9 42 (by kernel_rfl) (by kernel_rfl)).2.2
      rw [if_pos (by rfl)]
      clear hold hdep hend hdon hcl o0 o3 o5
      have HJ := Lib.hid hJ
      clear hJ
      go_simp
      exact hK _ _ (fun _ _ _ h => h) HJ.out rfl
    · intro ls vs a w1 hi hJ hold hdep hdon hcl K hK
      obtain ⟨hl7, q40, p40⟩ := hdep 7 40 (by kernel_rfl) (by kernel_rfl)
      have q43 : a.tmps[43]?.getD undef = .slice (if lc = k then (some ⟨gb, 0, none⟩ : Option Addr) else some ⟨gb, k * 2, none⟩) (n - k) (lc - k) := (hdep 10 43 (by kernel_rfl) (by kernel_rfl)).2.1.trans (hdep 10 43 (by kernel_rfl) (by kernel_rfl)).2.2
      have hn12 : ls 12 = false := by
        cases e : ls 12 with
        | false => rfl
        | true =>
          replace e := hcl 12 11 e (by kernel_rfl)
          rw [show ls 11 = false from hi] at e
          cases e
      have hl7 := hdon 7 (by kernel_rfl)
      have hl10 := hdon 10 (by kernel_rfl)
      clear hold hdep hend hdon o0 o3 o5
      have HJ := Lib.hid hJ
      clear hJ
      have hdd := HK.out.2.2
      obtain ⟨v', w', r1, r2⟩ := HJ.out.1.qut11 hl7 hi HK.out.2.1 (HD.out) (c := lc - k)
      rw [hdd, hdk] at r1
      rw [hA.out] at q43
      refine step_app (by rfl) (.tmp 40) (.tmp 43) 56 (by rfl) _ _ (by simpa [Act.eval, Array.getD_eq_getD_getElem?] using q40) (by simpa [Act.eval, Array.getD_eq_getD_getElem?] using q43) (fun v3 w3 => v3 = v' ∧ w3 = w') ⟨_, _, r1, rfl, rfl⟩ ?_
      rintro v3 w3 ⟨rfl, rfl⟩
      exact hK _ _ (fun _ _ _ h => h) ⟨r2, fun e => (by simp [hn12] at e)⟩ trivial
    · intro ls vs a w1 hi hJ hold hdep hdon hcl K hK
      obtain ⟨hl11, q44, p44⟩ := hdep 11 44 (by kernel_rfl) (by kernel_rfl)
      have hl11 := hdon 11 (by kernel_rfl)
      rw [if_pos (by rfl)]
      clear hold hdep hend hdon hcl o0 o3 o5
      have HJ := Lib.hid hJ
      clear hJ
      go_simp
      exact hK _ _ (fun _ _ _ h => h) ⟨HJ.out.1, fun _ => rfl⟩ trivial
  · intro vs w9 ls9 hl9 hJ9 hφ
    have e0 := hφ 0 (by kernel_rfl)
    have e1 := hφ 1 (by kernel_rfl)
    have e2 := hφ 2 (by kernel_rfl)
    have e3 := hφ 3 (by kernel_rfl)
    have e4 := hφ 4 (by kernel_rfl)
    have e5 := hφ 5 (by kernel_rfl)
    have e6 := hφ 6 (by kernel_rfl)
    have e7 := hφ 7 (by kernel_rfl)
    have e8 := hφ 8 (by kernel_rfl)
    have e9 := hφ 9 (by kernel_rfl)
    have e10 := hφ 10 (by kernel_rfl)
    have e11 := hφ 11 (by kernel_rfl)
    have e12 := hφ 12 (by kernel_rfl)
    have hq := hend vs w9 ls9 hl9 hJ9 e0 e1 e2 e3 e4 e5 e6 e7 e8 e9 e10 e11 e12
    simp only [Act.put] at hq
    simp only [putAll, Act.put]
    exact hq
end Go.Proofs.YtplbofhgmflnlaaGreat
