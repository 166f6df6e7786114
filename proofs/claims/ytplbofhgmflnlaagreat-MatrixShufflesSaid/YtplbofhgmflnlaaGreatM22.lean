/-
  Books in memory; NewBook (printed by genm22.py).
-/
import Derived.Test.YtplbofhgmflnlaaGreatMD
set_option linter.unusedVariables false
set_option linter.unusedSimpArgs false
namespace Go.Proofs.YtplbofhgmflnlaaGreat
open Go.RowKit
/-- A point of a book. -/
structure Pt where
  blk : Int
  place : Int
  st : Int
  rs : ByteArray
def ptC (x : Pt) : List Value := [.int .i64 x.blk, .int .i64 x.place, .int .u8 x.st, .string x.rs]
theorem ptC_len (x : Pt) : (ptC x).length = 4 := rfl
theorem ptC_one (x : Pt) : ∀ u ∈ ptC x, u.oneCell' = true := by
  intro u hu
  simp only [ptC, List.mem_cons, List.mem_nil_iff, or_false] at hu
  rcases hu with rfl | rfl | rfl | rfl <;> rfl
abbrev ptZ : Pt := ⟨0, 0, 0, ⟨#[]⟩⟩
def qth (xs : List Pt) (i : Nat) : Pt := xs.getD i ptZ
theorem qth_eq (xs : List Pt) (i : Nat) (h : i < xs.length) : qth xs i = xs[i] := by simp [qth, h]
abbrev OwnP (w : World) (B : Nat) (v : Value) (xs : List Pt) : Prop := OwnF 157 4 ptC w B v xs
abbrev rwP (v : Value) (xs : List Pt) : Rw := ⟨157, 4, v, xs.length, rowF ptC xs⟩
abbrev rwB (g : Nat) (v u : Value) : Rw := ⟨155, 2, .slice (some ⟨g, 0, none⟩) 1 1, 1, [v, u]⟩
def optR (b : Bool) (r : Rw) : List Rw := if b then [r] else []
theorem info157 : (Tryz.prog.info? 157).map (fun i => (i.zero, i.size, i.bytes)) = some (some (.agg #[.int .i64 0, .int .i64 0, .int .u8 0, .string ⟨#[]⟩]), 4, 40) := by kernel_rfl
def madeP (W : World) (n : Nat) : World := W.alloc (.cells (madeCells #[.int .i64 0, .int .i64 0, .int .u8 0, .string ⟨#[]⟩] (n * 4)) 157)
theorem run_madeP (n : Nat) (hn : n ≤ 1000000) (W : World) : (Instr.makeSlice 153 (.int .i64 (n : Int)) (.int .i64 (n : Int))).run Tryz.prog W = .ok (.slice (some ⟨W.heap.size, 0, none⟩) n n) (madeP W n) := by
  obtain ⟨i0, hi, hz0, hz1, hz2⟩ := info_parts info157
  have := run_make (P := Tryz.prog) W 153 157 i0 (.agg #[.int .i64 0, .int .i64 0, .int .u8 0, .string ⟨#[]⟩]) Tryz.underlying153 hi hz0 .i64 .i64 n n
  rw [hz1, hz2] at this
  have h := this (by omega) (by omega) (by omega) (by omega)
  rw [Int.toNat_natCast] at h
  exact h
theorem madeP_list (n : Nat) : (madeCells #[.int .i64 0, .int .i64 0, .int .u8 0, .string ⟨#[]⟩] (n * 4)).toList = rowF ptC (List.replicate n ptZ) := by
  apply List.ext_getElem?
  intro t
  by_cases ht : t < n * 4
  · have hq : t / 4 < (List.replicate n ptZ).length := by rw [List.length_replicate]; omega
    have h1 := rowF_at ptC_len (List.replicate n ptZ) (t / 4) (t % 4) hq (by omega)
    rw [show t / 4 * 4 + t % 4 = t by omega] at h1
    rw [h1, List.getElem_replicate]
    unfold madeCells
    rw [Array.getElem?_toList, Array.getElem?_map, Array.getElem?_range, if_pos ht, Option.map_some]
    have h4 : t % 4 < 4 := by omega
    simp only [List.size_toArray, List.length_cons, List.length_nil]
    match h : t % 4, h4 with
    | 0, _ => simp [h, ptC]
    | 1, _ => simp [h, ptC]
    | 2, _ => simp [h, ptC]
    | 3, _ => simp [h, ptC]
  · rw [List.getElem?_eq_none (by rw [Array.length_toList, size_madeCells]; omega), List.getElem?_eq_none (by rw [rowF_len ptC_len, List.length_replicate]; omega)]
theorem madeP_facts {W : World} {B n : Nat} (hn : n ≤ 1000000) (hB : B ≤ W.heap.size) {L : List Rw} (h : RowsAt W B L) : Ext W (madeP W n) ∧ RowsAt (madeP W n) B (rwP (.slice (some ⟨W.heap.size, 0, none⟩) n n) (List.replicate n ptZ) :: L) := by
  have hx : Ext W (madeP W n) := (Ext.refl W).alloc _
  refine ⟨hx, ?_⟩
  have := h.lit (n := n) (sz := 4) hx (heap_new _ _) (Nat.le_refl _) hB hn (by rw [size_madeCells])
  rw [madeP_list] at this
  have e : (List.replicate n ptZ).length = n := List.length_replicate
  unfold rwP
  rw [e]
  exact this
set_option maxRecDepth 100000 in
set_option maxHeartbeats 4000000 in
theorem nb_law {n pb sc : Nat} {sa : Option Addr} {sd : Int} {P0 P1 : Value} {wr : World} {ord : List Int} (p0 : ∀ W, Ext wr W → W.cell? ⟨pb, 0, none⟩ = some P0) (p1 : ∀ W, Ext wr W → W.cell? ⟨pb, 1, none⟩ = some P1) (HMK : Hid (∀ W, (Instr.makeSlice 153 (.int .i64 (n : Int)) (.int .i64 (n : Int))).run Tryz.prog W = .ok (.slice (some ⟨W.heap.size, 0, none⟩) n n) (madeP W n))) (HMF : Hid (∀ W, Ext wr W → ∀ L, RowsAt W wr.heap.size L → Ext W (madeP W n) ∧ RowsAt (madeP W n) wr.heap.size (rwP (.slice (some ⟨W.heap.size, 0, none⟩) n n) (List.replicate n ptZ) :: L))) (HCALL : Hid (∀ W, Ext wr W → Calls Tryz.prog 93 #[.agg #[P0, P1], .slice sa n sc, .int .u64 sd] W (RetI ord W))) {Q : Exit → Act → World → Prop} (aZ : Act) (hsz : aZ.tmps.size = 52) (o1 : aZ.tmps[1]?.getD undef = .slice sa n sc) (o2 : aZ.tmps[2]?.getD undef = .int .u64 sd) (o3 : aZ.tmps[3]?.getD undef = .pointer (some ⟨pb, 0, none⟩))
    (hend : ∀ (vs : Nat → Value) (w9 : World) (ls9 : Nat → Bool), (∀ j : Nat, j < 10 → ls9 j = true) → (Ext wr w9 ∧ (ls9 2 = true → ∃ gp, vs 2 = .slice (some ⟨gp, 0, none⟩) n n) ∧ (ls9 8 = false → RowsAt w9 wr.heap.size (optR (ls9 2) (rwP (vs 2) (List.replicate n ptZ)) ++ optR (ls9 6) (rwI (vs 6) ord))) ∧ (ls9 7 = true → ls9 8 = false → vs 7 = .agg #[vs 2, vs 6]) ∧ (ls9 8 = true → ∃ gb, vs 8 = .pointer (some ⟨gb, 0, none⟩) ∧ RowsAt w9 wr.heap.size [rwB gb (vs 2) (vs 6), rwP (vs 2) (List.replicate n ptZ), rwI (vs 6) ord]) ∧ (ls9 9 = true → vs 9 = vs 8)) → (vs 0 = .slice sa n sc) → (vs 1 = .int .i64 n) → (True) → (vs 3 = .agg #[P0, P1]) → (vs 4 = .slice sa n sc) → (vs 5 = .int .u64 sd) → (True) → (True) → (True) → (True) → Q .normal ((((((((((aZ.put (some 18) (vs 0)).put (some 19) (vs 1)).put (some 20) (vs 2)).put (some 21) (vs 3)).put (some 22) (vs 4)).put (some 23) (vs 5)).put (some 24) (vs 6)).put (some 25) (vs 7)).put (some 26) (vs 8)).put (some 9) (vs 9)) w9) : (regOf Tryz.f52 4).wp Tryz.prog Q aZ wr := by
  conv => arg 2; whnf
  refine wp_region_said3 (fun i v wz => match i with
    | 0 => v = .slice sa n sc
    | 1 => v = .int .i64 n
    | 2 => True
    | 3 => v = .agg #[P0, P1]
    | 4 => v = .slice sa n sc
    | 5 => v = .int .u64 sd
    | 6 => True
    | 7 => True
    | 8 => True
    | _ => True) (fun ls vs wz => Ext wr wz ∧ (ls 2 = true → ∃ gp, vs 2 = .slice (some ⟨gp, 0, none⟩) n n) ∧ (ls 8 = false → RowsAt wz wr.heap.size (optR (ls 2) (rwP (vs 2) (List.replicate n ptZ)) ++ optR (ls 6) (rwI (vs 6) ord))) ∧ (ls 7 = true → ls 8 = false → vs 7 = .agg #[vs 2, vs 6]) ∧ (ls 8 = true → ∃ gb, vs 8 = .pointer (some ⟨gb, 0, none⟩) ∧ RowsAt wz wr.heap.size [rwB gb (vs 2) (vs 6), rwP (vs 2) (List.replicate n ptZ), rwI (vs 6) ord]) ∧ (ls 9 = true → vs 9 = vs 8)) (by kernel_rfl) (by kernel_rfl) (by rw [hsz]; kernel_rfl) ?_ ?_ ?_
  · exact ⟨(Ext.refl _).drew, fun e => (by cases e), fun _ => RowsAt.nil _ _, fun e => (by cases e), fun e => (by cases e), fun e => (by cases e)⟩
  · refine ⟨?_, ?_, ?_, ?_, ?_, ?_, ?_, ?_, ?_, ?_, trivial⟩
    · intro ls vs a w1 hi hJ hold hdep hdon hcl K hK
      have q1 : a.tmps[1]?.getD undef = .slice sa n sc := (hold 1 (by kernel_rfl)).trans o1
      rw [if_pos (by rfl)]
      clear hold hdep hend hdon hcl o1 o2 o3
      have HJ := Lib.hid hJ
      clear hJ
      go_simp
      exact hK _ _ (fun _ _ _ h => h) HJ.out rfl
    · intro ls vs a w1 hi hJ hold hdep hdon hcl K hK
      have q18 : a.tmps[18]?.getD undef = .slice sa n sc := (hdep 0 18 (by kernel_rfl) (by kernel_rfl)).2.1.trans (hdep 0 18 (by kernel_rfl) (by kernel_rfl)).2.2
      rw [if_pos (by rfl)]
      clear hold hdep hend hdon hcl o1 o2 o3
      have HJ := Lib.hid hJ
      clear hJ
      go_simp
      exact hK _ _ (fun _ _ _ h => h) HJ.out rfl
    · intro ls vs a w1 hi hJ hold hdep hdon hcl K hK
      have q19 : a.tmps[19]?.getD undef = .int .i64 n := (hdep 1 19 (by kernel_rfl) (by kernel_rfl)).2.1.trans (hdep 1 19 (by kernel_rfl) (by kernel_rfl)).2.2
      have hn7 : ls 7 = false := by
        cases e : ls 7 with
        | false => rfl
        | true =>
          replace e := hcl 7 2 e (by kernel_rfl)
          rw [show ls 2 = false from hi] at e
          cases e
      have hn8 : ls 8 = false := by
        cases e : ls 8 with
        | false => rfl
        | true =>
          replace e := hcl 8 7 e (by kernel_rfl)
          replace e := hcl 7 2 e (by kernel_rfl)
          rw [show ls 2 = false from hi] at e
          cases e
      have hn9 : ls 9 = false := by
        cases e : ls 9 with
        | false => rfl
        | true =>
          replace e := hcl 9 2 e (by kernel_rfl)
          rw [show ls 2 = false from hi] at e
          cases e
      rw [if_pos (by rfl)]
      clear hold hdep hend hdon hcl o1 o2 o3
      have HJ := Lib.hid hJ
      clear hJ
      obtain ⟨j1, j2, j3, j4, j5, j6⟩ := HJ.out
      have hn2 : ls 2 = false := hi
      have hmk := HMK.out
      obtain ⟨hx, hr⟩ := HMF.out w1 j1 _ (j3 hn8)
      go_simp
      refine hK _ _ (fun _ _ _ h => h) ⟨j1.trans hx, fun _ => ⟨_, rfl⟩, fun _ => ?_, fun e e2 => ?_, fun e => (by simp [hn8] at e), fun e => (by first | (simp [hn9] at e; done) | exact j6 e)⟩ trivial
      · rw [hn2] at hr
        exact hr
      · exfalso
        have e : ls 7 = true := by simpa using e
        rw [hn7] at e; cases e
    · intro ls vs a w1 hi hJ hold hdep hdon hcl K hK
      have q3 : a.tmps[3]?.getD undef = .pointer (some ⟨pb, 0, none⟩) := (hold 3 (by kernel_rfl)).trans o3
      have hn8 : ls 8 = false := by
        cases e : ls 8 with
        | false => rfl
        | true =>
          replace e := hcl 8 7 e (by kernel_rfl)
          replace e := hcl 7 6 e (by kernel_rfl)
          replace e := hcl 6 3 e (by kernel_rfl)
          rw [show ls 3 = false from hi] at e
          cases e
      rw [if_pos (by rfl)]
      clear hold hdep hend hdon hcl o1 o2 o3
      have HJ := Lib.hid hJ
      clear hJ
      have hx := HJ.out.1
      go_simp
      exact hK _ _ (fun _ _ _ h => h) HJ.out rfl
    · intro ls vs a w1 hi hJ hold hdep hdon hcl K hK
      have q1 : a.tmps[1]?.getD undef = .slice sa n sc := (hold 1 (by kernel_rfl)).trans o1
      rw [if_pos (by rfl)]
      clear hold hdep hend hdon hcl o1 o2 o3
      have HJ := Lib.hid hJ
      clear hJ
      go_simp
      exact hK _ _ (fun _ _ _ h => h) HJ.out rfl
    · intro ls vs a w1 hi hJ hold hdep hdon hcl K hK
      have q2 : a.tmps[2]?.getD undef = .int .u64 sd := (hold 2 (by kernel_rfl)).trans o2
      rw [if_pos (by rfl)]
      clear hold hdep hend hdon hcl o1 o2 o3
      have HJ := Lib.hid hJ
      clear hJ
      go_simp
      exact hK _ _ (fun _ _ _ h => h) HJ.out rfl
    · intro ls vs a w1 hi hJ hold hdep hdon hcl K hK
      have q21 : a.tmps[21]?.getD undef = .agg #[P0, P1] := (hdep 3 21 (by kernel_rfl) (by kernel_rfl)).2.1.trans (hdep 3 21 (by kernel_rfl) (by kernel_rfl)).2.2
      have q22 : a.tmps[22]?.getD undef = .slice sa n sc := (hdep 4 22 (by kernel_rfl) (by kernel_rfl)).2.1.trans (hdep 4 22 (by kernel_rfl) (by kernel_rfl)).2.2
      have q23 : a.tmps[23]?.getD undef = .int .u64 sd := (hdep 5 23 (by kernel_rfl) (by kernel_rfl)).2.1.trans (hdep 5 23 (by kernel_rfl) (by kernel_rfl)).2.2
      have hn7 : ls 7 = false := by
        cases e : ls 7 with
        | false => rfl
        | true =>
          replace e := hcl 7 6 e (by kernel_rfl)
          rw [show ls 6 = false from hi] at e
          cases e
      have hn8 : ls 8 = false := by
        cases e : ls 8 with
        | false => rfl
        | true =>
          replace e := hcl 8 7 e (by kernel_rfl)
          replace e := hcl 7 6 e (by kernel_rfl)
          rw [show ls 6 = false from hi] at e
          cases e
      have hn9 : ls 9 = false := by
        cases e : ls 9 with
        | false => rfl
        | true =>
          replace e := hcl 9 6 e (by kernel_rfl)
          rw [show ls 6 = false from hi] at e
          cases e
      rw [if_pos (by rfl)]
      clear hold hdep hend hdon hcl o1 o2 o3
      have HJ := Lib.hid hJ
      clear hJ
      obtain ⟨j1, j2, j3, j4, j5, j6⟩ := HJ.out
      have hn6 : ls 6 = false := hi
      go_simp
      go_at_call 93
      (with_reducible refine (HCALL.out _ j1).mono ?_); rintro e w20 ⟨oa, oc, rfl, he2, ho2⟩
      have hr := j3 hn8
      rw [hn6] at hr
      have hp := hr.push (w' := w20) (r := rwI (.slice oa ord.length oc) ord) (own_down ho2 j1.size) (fun k hk => Below.block he2 k hk) (fun k hk => (ho2.lt k hk).1)
      refine hK _ _ (fun _ _ _ h => h) ⟨j1.trans he2, fun e => by simpa using j2 (by simpa using e), fun _ => ?_, fun e e2 => ?_, fun e => (by simp [hn8] at e), fun e => (by first | (simp [hn9] at e; done) | exact j6 e)⟩ trivial
      · refine hp.perm ?_
        show (_ :: (optR (ls 2) _ ++ [])).Perm (optR (ls 2) _ ++ [_])
        rw [List.append_nil]
        exact (List.perm_append_comm (l₁ := [_]))
      · exfalso
        have e : ls 7 = true := by simpa using e
        rw [hn7] at e; cases e
    · intro ls vs a w1 hi hJ hold hdep hdon hcl K hK
      obtain ⟨hl2, q20, p20⟩ := hdep 2 20 (by kernel_rfl) (by kernel_rfl)
      obtain ⟨hl6, q24, p24⟩ := hdep 6 24 (by kernel_rfl) (by kernel_rfl)
      have hn8 : ls 8 = false := by
        cases e : ls 8 with
        | false => rfl
        | true =>
          replace e := hcl 8 7 e (by kernel_rfl)
          rw [show ls 7 = false from hi] at e
          cases e
      have hn9 : ls 9 = false := by
        cases e : ls 9 with
        | false => rfl
        | true =>
          replace e := hcl 9 7 e (by kernel_rfl)
          rw [show ls 7 = false from hi] at e
          cases e
      have hl2 := hdon 2 (by kernel_rfl)
      have hl6 := hdon 6 (by kernel_rfl)
      rw [if_pos (by rfl)]
      clear hold hdep hend hdon hcl o1 o2 o3
      have HJ := Lib.hid hJ
      clear hJ
      obtain ⟨j1, j2, j3, j4, j5, j6⟩ := HJ.out
      have hn7 : ls 7 = false := hi
      obtain ⟨gp, hv2⟩ := j2 hl2
      have hr := j3 hn8
      rw [hl2, hl6] at hr
      obtain ⟨oa, oc, hv6⟩ := slice_row (hr.own (rwI (vs 6) ord) (by simp [optR]))
      have hv6' : vs 6 = .slice oa ord.length oc := hv6
      rw [hv2] at q20
      rw [hv6'] at q24
      go_simp
      refine hK _ _ (fun _ _ _ h => h) ⟨j1, fun e => ⟨gp, by simpa using hv2⟩, fun _ => ?_, fun _ _ => ?_, fun e => (by simp [hn8] at e), fun e => (by first | (simp [hn9] at e; done) | exact j6 e)⟩ trivial
      · simpa [hl2, hl6] using hr
      · simp [hv2, hv6']
    · intro ls vs a w1 hi hJ hold hdep hdon hcl K hK
      obtain ⟨hl7, q25, p25⟩ := hdep 7 25 (by kernel_rfl) (by kernel_rfl)
      have hn9 : ls 9 = false := by
        cases e : ls 9 with
        | false => rfl
        | true =>
          replace e := hcl 9 8 e (by kernel_rfl)
          rw [show ls 8 = false from hi] at e
          cases e
      have hl2 := hdon 7 (by kernel_rfl)
      replace hl2 := hcl 7 2 hl2 (by kernel_rfl)
      have hl6 := hdon 7 (by kernel_rfl)
      replace hl6 := hcl 7 6 hl6 (by kernel_rfl)
      have hl7 := hdon 7 (by kernel_rfl)
      rw [if_pos (by rfl)]
      clear hold hdep hend hdon hcl o1 o2 o3
      have HJ := Lib.hid hJ
      clear hJ
      obtain ⟨j1, j2, j3, j4, j5, j6⟩ := HJ.out
      have hn8 : ls 8 = false := hi
      obtain ⟨gp, hv2⟩ := j2 hl2
      have hr := j3 hn8
      rw [hl2, hl6] at hr
      obtain ⟨oa, oc, hv6⟩ := slice_row (hr.own (rwI (vs 6) ord) (by simp [optR]))
      have hv6' : vs 6 = .slice oa ord.length oc := hv6
      rw [j4 hl7 hn8, hv2, hv6'] at q25
      go_simp
      have hx := (Ext.refl w1).alloc (.cells #[.slice (some ⟨gp, 0, none⟩) n n, .slice oa ord.length oc] 155)
      have hp := hr.lit (n := 1) (sz := 2) hx (heap_new _ _) (Nat.le_refl _) j1.size (by omega) rfl
      refine hK _ _ (fun _ _ _ h => h) ⟨j1.trans hx, fun e => ⟨gp, by simpa using hv2⟩, fun e => (by simp at e), fun _ e => (by simp at e), fun _ => ⟨_, rfl, ?_⟩, fun e => (by simp [hn9] at e)⟩ trivial
      have e1 : rwB w1.heap.size (vs 2) (vs 6) = ⟨155, 2, .slice (some ⟨w1.heap.size, 0, none⟩) 1 1, 1, [.slice (some ⟨gp, 0, none⟩) n n, .slice oa ord.length oc]⟩ := by rw [hv2, hv6']
      simp only [Nat.reduceEqDiff, if_false]
      rw [e1]
      exact hp
    · intro ls vs a w1 hi hJ hold hdep hdon hcl K hK
      obtain ⟨hl8, q26, p26⟩ := hdep 8 26 (by kernel_rfl) (by kernel_rfl)
      have hl8 := hdon 8 (by kernel_rfl)
      rw [if_pos (by rfl)]
      clear hold hdep hend hdon hcl o1 o2 o3
      have HJ := Lib.hid hJ
      clear hJ
      obtain ⟨j1, j2, j3, j4, j5, j6⟩ := HJ.out
      go_simp
      exact hK _ _ (fun _ _ _ h => h) ⟨j1, j2, j3, j4, j5, fun _ => rfl⟩ trivial
  · intro vs w9 ls9 hl9 hJ9 hφ
    have e0 := hφ 0 (by kernel_rfl)
    have e1 := hφ 1 (by kernel_rfl)
    have e2 := hφ 2 (by kernel_rfl)
    have e3 := hφ 3 (by kernel_rfl)
    have e4 := hφ 4 (by kernel_rfl)
    have e5 := hφ 5 (by kernel_rfl)
    have e6 := hφ 6 (by kernel_rfl)
    have e7 := hφ 7 (by kernel_rfl)
    have e8 := hφ 8 (by kernel_rfl)
    have e9 := hφ 9 (by kernel_rfl)
    have hq := hend vs w9 ls9 hl9 hJ9 e0 e1 e2 e3 e4 e5 e6 e7 e8 e9
    simp only [Act.put] at hq
    simp only [putAll, Act.put]
    exact hq
end Go.Proofs.YtplbofhgmflnlaaGreat
