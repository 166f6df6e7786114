/-
  Walk: a drawn region of VaultChangesSeen; chains that are made right again, link by link.
-/
import Derived.Test.YtlahejakcgoheaaLC3
set_option linter.unusedVariables false
set_option linter.unusedSimpArgs false
namespace Go.Proofs.Ytlahejakcgoheaa
open Go.RowKit
set_option maxRecDepth 100000 in
set_option maxHeartbeats 4000000 in
theorem l8_body {gd gb k q j L bc2 nb bc bb bo bw uu vv z : Nat} {wb wr : World} {R : World → Prop} (HB0 : Hid (Ext wb wr)) (HGE : Hid (wb.heap.size ≤ gb)) (hq0 : (0 : Int) ≤ (q : Int)) (hq1 : (q : Int) < (L : Int)) (hj0 : (0 : Int) ≤ (j : Int)) (hj1 : (j : Int) < (nb : Int)) (H7 : Hid (∀ W, Ext wr W → W.cell? ⟨gd, k * 10 + 7, none⟩ = some (.slice (some ⟨gb, 0, none⟩) L bc2))) (HT : Hid (∀ W, Ext wr W → W.cell? ⟨gb, q, none⟩ = some (.int .u8 (uu : Int)))) (HF : Hid (∀ W, Ext wr W → W.frozen? ⟨gb, q, none⟩ = false)) (H2 : Hid (∀ W, Ext wb W → W.cell? ⟨bw, 2, none⟩ = some (.slice (some ⟨bb, bo, none⟩) nb bc))) (HV : Hid (∀ W, Ext wb W → W.cell? ⟨bb, bo + j, none⟩ = some (.int .u8 (vv : Int)))) (HR : Hid (∀ W, Ext wr W → R (W.setCell ⟨gb, q, none⟩ (.int .u8 (z : Int))))) (HZ : Hid (bits .xor .u8 (uu : Int) (vv : Int) = (z : Int))) {Q : Exit → Act → World → Prop} (aZ : Act) (hsz : aZ.tmps.size = 295) (o1 : aZ.tmps[1]?.getD undef = .pointer (some ⟨bw, 0, none⟩)) (o10 : aZ.tmps[10]?.getD undef = .pointer (some ⟨gd, k * 10, none⟩)) (o12 : aZ.tmps[12]?.getD undef = .int .i64 j) (o13 : aZ.tmps[13]?.getD undef = .int .i64 q)
    (hend : ∀ (vs : Nat → Value) (w9 : World) (ls9 : Nat → Bool), (∀ j : Nat, j < 15 → ls9 j = true) → (Ext wb w9 ∧ (ls9 14 = true → ls9 12 = true ∧ ls9 13 = true) ∧ (ls9 13 = true → ls9 3 = true) ∧ (ls9 12 = true → ls9 6 = true) ∧ (ls9 14 = false → Ext wr w9) ∧ (ls9 14 = true → R w9)) → (vs 0 = .pointer (some ⟨gd, k * 10, none⟩)) → (vs 1 = .pointer (some ⟨gd, k * 10, none⟩)) → (vs 2 = .pointer (some ⟨gd, k * 10 + 7, none⟩)) → (vs 3 = .slice (some ⟨gb, 0, none⟩) L bc2) → (vs 4 = .int .i64 q) → (vs 5 = .pointer (some ⟨gb, q, none⟩)) → (vs 6 = .int .u8 (uu : Int)) → (vs 7 = .pointer (some ⟨bw, 2, none⟩)) → (vs 8 = .slice (some ⟨bb, bo, none⟩) nb bc) → (vs 9 = .int .i64 j) → (vs 10 = .pointer (some ⟨bb, bo + j, none⟩)) → (vs 11 = .int .u8 (vv : Int)) → (vs 12 = .int .u8 (z : Int)) → (vs 13 = .pointer (some ⟨gb, q, none⟩)) → Q .normal ((((((((((((((aZ.put (some 93) (vs 0)).put (some 94) (vs 1)).put (some 95) (vs 2)).put (some 96) (vs 3)).put (some 97) (vs 4)).put (some 98) (vs 5)).put (some 99) (vs 6)).put (some 100) (vs 7)).put (some 101) (vs 8)).put (some 102) (vs 9)).put (some 103) (vs 10)).put (some 104) (vs 11)).put (some 105) (vs 12)).put (some 106) (vs 13)) w9) : (regOf Try.f8 24).wp Try.prog Q aZ wr := by
  conv => arg 2; whnf
  refine wp_region_said3 (fun i v wz => match i with
    | 0 => v = .pointer (some ⟨gd, k * 10, none⟩)
    | 1 => v = .pointer (some ⟨gd, k * 10, none⟩)
    | 2 => v = .pointer (some ⟨gd, k * 10 + 7, none⟩)
    | 3 => v = .slice (some ⟨gb, 0, none⟩) L bc2
    | 4 => v = .int .i64 q
    | 5 => v = .pointer (some ⟨gb, q, none⟩)
    | 6 => v = .int .u8 (uu : Int)
    | 7 => v = .pointer (some ⟨bw, 2, none⟩)
    | 8 => v = .slice (some ⟨bb, bo, none⟩) nb bc
    | 9 => v = .int .i64 j
    | 10 => v = .pointer (some ⟨bb, bo + j, none⟩)
    | 11 => v = .int .u8 (vv : Int)
    | 12 => v = .int .u8 (z : Int)
    | 13 => v = .pointer (some ⟨gb, q, none⟩)
    | _ => True) (fun ls vs wz => Ext wb wz ∧ (ls 14 = true → ls 12 = true ∧ ls 13 = true) ∧ (ls 13 = true → ls 3 = true) ∧ (ls 12 = true → ls 6 = true) ∧ (ls 14 = false → Ext wr wz) ∧ (ls 14 = true → R wz)) (by kernel_rfl) (by kernel_rfl) (by rw [hsz]; kernel_rfl) ?_ ?_ ?_
  · exact ⟨HB0.out.drew, fun e => (by cases e), fun e => (by cases e), fun e => (by cases e), fun _ => (Ext.refl _).drew, fun e => (by cases e)⟩
  · refine ⟨?_, ?_, ?_, ?_, ?_, ?_, ?_, ?_, ?_, ?_, ?_, ?_, ?_, ?_, ?_, trivial⟩
    · intro ls vs a w1 hi hJ hold hdep K hK
      have q10 : a.tmps[10]?.getD undef = .pointer (some ⟨gd, k * 10, none⟩) := (hold 10 (by kernel_rfl)).trans o10
      rw [if_pos (by rfl)]
      clear hold hdep hend o1 o10 o12 o13
      have HJ := Lib.hid hJ
      clear hJ
      go_simp
      exact hK _ _ (fun _ _ _ h => h) HJ.out rfl
    · intro ls vs a w1 hi hJ hold hdep K hK
      have q93 : a.tmps[93]?.getD undef = .pointer (some ⟨gd, k * 10, none⟩) := (hdep 0 93 (by kernel_rfl) (by kernel_rfl)).2.1.trans (hdep 0 93 (by kernel_rfl) (by kernel_rfl)).2.2
      rw [if_pos (by rfl)]
      clear hold hdep hend o1 o10 o12 o13
      have HJ := Lib.hid hJ
      clear hJ
      go_simp
      exact hK _ _ (fun _ _ _ h => h) HJ.out rfl
    · intro ls vs a w1 hi hJ hold hdep K hK
      have q94 : a.tmps[94]?.getD undef = .pointer (some ⟨gd, k * 10, none⟩) := (hdep 1 94 (by kernel_rfl) (by kernel_rfl)).2.1.trans (hdep 1 94 (by kernel_rfl) (by kernel_rfl)).2.2
      rw [if_pos (by rfl)]
      clear hold hdep hend o1 o10 o12 o13
      have HJ := Lib.hid hJ
      clear hJ
      go_simp
      exact hK _ _ (fun _ _ _ h => h) HJ.out rfl
    · intro ls vs a w1 hi hJ hold hdep K hK
      have q95 : a.tmps[95]?.getD undef = .pointer (some ⟨gd, k * 10 + 7, none⟩) := (hdep 2 95 (by kernel_rfl) (by kernel_rfl)).2.1.trans (hdep 2 95 (by kernel_rfl) (by kernel_rfl)).2.2
      rw [if_pos (by rfl)]
      clear hold hdep hend o1 o10 o12 o13
      have HJ := Lib.hid hJ
      clear hJ
      obtain ⟨j1, j2, j3, j4, j5, j6⟩ := HJ.out
      have hi3 : ls 3 = false := hi
      have h14 : ls 14 = false := by
        cases e : ls 14 with
        | false => rfl
        | true => have := j3 (j2 e).2; rw [hi3] at this; cases this
      have c7 := H7.out w1 (j5 h14)
      go_simp
      exact hK _ _ (fun _ _ _ h => h) ⟨j1, fun e => by have := j2 (by simpa using e); simpa using this, fun _ => by simp, fun e => by have := j4 (by simpa using e); simpa using this, fun e => j5 (by simpa using e), fun e => j6 (by simpa using e)⟩ rfl
    · intro ls vs a w1 hi hJ hold hdep K hK
      have q13 : a.tmps[13]?.getD undef = .int .i64 q := (hold 13 (by kernel_rfl)).trans o13
      rw [if_pos (by rfl)]
      clear hold hdep hend o1 o10 o12 o13
      have HJ := Lib.hid hJ
      clear hJ
      go_simp
      exact hK _ _ (fun _ _ _ h => h) HJ.out rfl
    · intro ls vs a w1 hi hJ hold hdep K hK
      have q96 : a.tmps[96]?.getD undef = .slice (some ⟨gb, 0, none⟩) L bc2 := (hdep 3 96 (by kernel_rfl) (by kernel_rfl)).2.1.trans (hdep 3 96 (by kernel_rfl) (by kernel_rfl)).2.2
      have q97 : a.tmps[97]?.getD undef = .int .i64 q := (hdep 4 97 (by kernel_rfl) (by kernel_rfl)).2.1.trans (hdep 4 97 (by kernel_rfl) (by kernel_rfl)).2.2
      rw [if_pos (by rfl)]
      clear hold hdep hend o1 o10 o12 o13
      have HJ := Lib.hid hJ
      clear hJ
      go_simp
      exact hK _ _ (fun _ _ _ h => h) HJ.out rfl
    · intro ls vs a w1 hi hJ hold hdep K hK
      have q98 : a.tmps[98]?.getD undef = .pointer (some ⟨gb, q, none⟩) := (hdep 5 98 (by kernel_rfl) (by kernel_rfl)).2.1.trans (hdep 5 98 (by kernel_rfl) (by kernel_rfl)).2.2
      rw [if_pos (by rfl)]
      clear hold hdep hend o1 o10 o12 o13
      have HJ := Lib.hid hJ
      clear hJ
      obtain ⟨j1, j2, j3, j4, j5, j6⟩ := HJ.out
      have hi6 : ls 6 = false := hi
      have h14 : ls 14 = false := by
        cases e : ls 14 with
        | false => rfl
        | true => have := j4 (j2 e).1; rw [hi6] at this; cases this
      have c6 := HT.out w1 (j5 h14)
      go_simp
      exact hK _ _ (fun _ _ _ h => h) ⟨j1, fun e => by have := j2 (by simpa using e); simpa using this, fun e => by have := j3 (by simpa using e); simpa using this, fun _ => by simp, fun e => j5 (by simpa using e), fun e => j6 (by simpa using e)⟩ rfl
    · intro ls vs a w1 hi hJ hold hdep K hK
      have q1 : a.tmps[1]?.getD undef = .pointer (some ⟨bw, 0, none⟩) := (hold 1 (by kernel_rfl)).trans o1
      rw [if_pos (by rfl)]
      clear hold hdep hend o1 o10 o12 o13
      have HJ := Lib.hid hJ
      clear hJ
      go_simp
      exact hK _ _ (fun _ _ _ h => h) HJ.out rfl
    · intro ls vs a w1 hi hJ hold hdep K hK
      have q100 : a.tmps[100]?.getD undef = .pointer (some ⟨bw, 2, none⟩) := (hdep 7 100 (by kernel_rfl) (by kernel_rfl)).2.1.trans (hdep 7 100 (by kernel_rfl) (by kernel_rfl)).2.2
      rw [if_pos (by rfl)]
      clear hold hdep hend o1 o10 o12 o13
      have HJ := Lib.hid hJ
      clear hJ
      have c2 := H2.out w1 HJ.out.1
      go_simp
      exact hK _ _ (fun _ _ _ h => h) HJ.out rfl
    · intro ls vs a w1 hi hJ hold hdep K hK
      have q12 : a.tmps[12]?.getD undef = .int .i64 j := (hold 12 (by kernel_rfl)).trans o12
      rw [if_pos (by rfl)]
      clear hold hdep hend o1 o10 o12 o13
      have HJ := Lib.hid hJ
      clear hJ
      go_simp
      exact hK _ _ (fun _ _ _ h => h) HJ.out rfl
    · intro ls vs a w1 hi hJ hold hdep K hK
      have q101 : a.tmps[101]?.getD undef = .slice (some ⟨bb, bo, none⟩) nb bc := (hdep 8 101 (by kernel_rfl) (by kernel_rfl)).2.1.trans (hdep 8 101 (by kernel_rfl) (by kernel_rfl)).2.2
      have q102 : a.tmps[102]?.getD undef = .int .i64 j := (hdep 9 102 (by kernel_rfl) (by kernel_rfl)).2.1.trans (hdep 9 102 (by kernel_rfl) (by kernel_rfl)).2.2
      rw [if_pos (by rfl)]
      clear hold hdep hend o1 o10 o12 o13
      have HJ := Lib.hid hJ
      clear hJ
      go_simp
      exact hK _ _ (fun _ _ _ h => h) HJ.out rfl
    · intro ls vs a w1 hi hJ hold hdep K hK
      have q103 : a.tmps[103]?.getD undef = .pointer (some ⟨bb, bo + j, none⟩) := (hdep 10 103 (by kernel_rfl) (by kernel_rfl)).2.1.trans (hdep 10 103 (by kernel_rfl) (by kernel_rfl)).2.2
      rw [if_pos (by rfl)]
      clear hold hdep hend o1 o10 o12 o13
      have HJ := Lib.hid hJ
      clear hJ
      have cv := HV.out w1 HJ.out.1
      go_simp
      exact hK _ _ (fun _ _ _ h => h) HJ.out rfl
    · intro ls vs a w1 hi hJ hold hdep K hK
      have q99 : a.tmps[99]?.getD undef = .int .u8 (uu : Int) := (hdep 6 99 (by kernel_rfl) (by kernel_rfl)).2.1.trans (hdep 6 99 (by kernel_rfl) (by kernel_rfl)).2.2
      have q104 : a.tmps[104]?.getD undef = .int .u8 (vv : Int) := (hdep 11 104 (by kernel_rfl) (by kernel_rfl)).2.1.trans (hdep 11 104 (by kernel_rfl) (by kernel_rfl)).2.2
      obtain ⟨hl6, -, -⟩ := hdep 6 99 (by kernel_rfl) (by kernel_rfl)
      rw [if_pos (by rfl)]
      clear hold hdep hend o1 o10 o12 o13
      have HJ := Lib.hid hJ
      clear hJ
      obtain ⟨j1, j2, j3, j4, j5, j6⟩ := HJ.out
      have hl6' : ls 6 = true := hl6
      go_simp
      exact hK _ _ (fun _ _ _ h => h) ⟨j1, fun e => by have := j2 (by simpa using e); simpa using this.2, fun e => by have := j3 (by simpa using e); simpa using this, fun _ => by simpa using hl6', fun e => j5 (by simpa using e), fun e => j6 (by simpa using e)⟩ (congrArg (Value.int .u8) HZ.out)
    · intro ls vs a w1 hi hJ hold hdep K hK
      have q96 : a.tmps[96]?.getD undef = .slice (some ⟨gb, 0, none⟩) L bc2 := (hdep 3 96 (by kernel_rfl) (by kernel_rfl)).2.1.trans (hdep 3 96 (by kernel_rfl) (by kernel_rfl)).2.2
      have q97 : a.tmps[97]?.getD undef = .int .i64 q := (hdep 4 97 (by kernel_rfl) (by kernel_rfl)).2.1.trans (hdep 4 97 (by kernel_rfl) (by kernel_rfl)).2.2
      obtain ⟨hl3, -, -⟩ := hdep 3 96 (by kernel_rfl) (by kernel_rfl)
      rw [if_pos (by rfl)]
      clear hold hdep hend o1 o10 o12 o13
      have HJ := Lib.hid hJ
      clear hJ
      obtain ⟨j1, j2, j3, j4, j5, j6⟩ := HJ.out
      have hl3' : ls 3 = true := hl3
      go_simp
      exact hK _ _ (fun _ _ _ h => h) ⟨j1, fun e => by have := j2 (by simpa using e); simpa using this.1, fun _ => by simpa using hl3', fun e => by have := j4 (by simpa using e); simpa using this, fun e => j5 (by simpa using e), fun e => j6 (by simpa using e)⟩ rfl
    · intro ls vs a w1 hi hJ hold hdep K hK
      have q105 : a.tmps[105]?.getD undef = .int .u8 (z : Int) := (hdep 12 105 (by kernel_rfl) (by kernel_rfl)).2.1.trans (hdep 12 105 (by kernel_rfl) (by kernel_rfl)).2.2
      have q106 : a.tmps[106]?.getD undef = .pointer (some ⟨gb, q, none⟩) := (hdep 13 106 (by kernel_rfl) (by kernel_rfl)).2.1.trans (hdep 13 106 (by kernel_rfl) (by kernel_rfl)).2.2
      obtain ⟨hl12, -, -⟩ := hdep 12 105 (by kernel_rfl) (by kernel_rfl)
      obtain ⟨hl13, -, -⟩ := hdep 13 106 (by kernel_rfl) (by kernel_rfl)
      rw [if_pos (by rfl)]
      clear hold hdep hend o1 o10 o12 o13
      have HJ := Lib.hid hJ
      clear hJ
      obtain ⟨j1, j2, j3, j4, j5, j6⟩ := HJ.out
      have hi14 : ls 14 = false := hi
      have hl12' : ls 12 = true := hl12
      have hl13' : ls 13 = true := hl13
      have c8 := HT.out w1 (j5 hi14)
      have f8 := HF.out w1 (j5 hi14)
      have hR := HR.out w1 (j5 hi14)
      have hx := j1.set (p := ⟨gb, q, none⟩) HGE.out (.int .u8 (z : Int))
      go_simp
      exact hK undef _ (fun _ _ _ h => h) ⟨hx, fun _ => ⟨by simpa using hl12', by simpa using hl13'⟩, fun e => by have := j3 (by simpa using e); simpa using this, fun e => by have := j4 (by simpa using e); simpa using this, fun e => (by simp at e), fun _ => hR⟩ trivial
  · intro vs w9 ls9 hl9 hJ9 hφ
    have e0 := hφ 0 (by kernel_rfl)
    have e1 := hφ 1 (by kernel_rfl)
    have e2 := hφ 2 (by kernel_rfl)
    have e3 := hφ 3 (by kernel_rfl)
    have e4 := hφ 4 (by kernel_rfl)
    have e5 := hφ 5 (by kernel_rfl)
    have e6 := hφ 6 (by kernel_rfl)
    have e7 := hφ 7 (by kernel_rfl)
    have e8 := hφ 8 (by kernel_rfl)
    have e9 := hφ 9 (by kernel_rfl)
    have e10 := hφ 10 (by kernel_rfl)
    have e11 := hφ 11 (by kernel_rfl)
    have e12 := hφ 12 (by kernel_rfl)
    have e13 := hφ 13 (by kernel_rfl)
    have hq := hend vs w9 ls9 hl9 hJ9 e0 e1 e2 e3 e4 e5 e6 e7 e8 e9 e10 e11 e12 e13
    simp only [Act.put] at hq
    simp only [putAll, Act.put]
    exact hq
theorem checkI_set_eq (ls : List Lk) (x : Lk) : ∀ (b i k : Nat), checkI b i ls = -1 → (h : k < ls.length) → x.ch = (ls[k]).ch → chainN (lastB b (ls.take k)) x = x.ch → checkI b i (ls.set k x) = -1 := by
  induction ls with
  | nil => intro b i k _ h; simp at h
  | cons l ls ih =>
    intro b i k h0 h1 h2 h3
    rw [checkI_cons] at h0
    by_cases q : chainN b l = l.ch
    · rw [if_pos q] at h0
      cases k with
      | zero =>
        have h3' : chainN b x = x.ch := h3
        have h2' : x.ch = l.ch := h2
        rw [List.set_cons_zero, checkI_cons, if_pos h3', h2']
        exact h0
      | succ k =>
        have h3' : chainN (lastB l.ch (ls.take k)) x = x.ch := h3
        rw [List.set_cons_succ, checkI_cons, if_pos q]
        exact ih l.ch (i + 1) k h0 (by simpa using h1) h2 h3'
    · rw [if_neg q] at h0; omega
theorem reCh_step (ls : List Lk) : ∀ (b k : Nat) (h : k < ls.length), (reCh b ls)[k]? = some (withCh ls[k] (chainN (lastB b ((reCh b ls).take k)) ls[k])) := by
  induction ls with
  | nil => intro b k h; simp at h
  | cons l ls ih =>
    intro b k h
    cases k with
    | zero => rfl
    | succ k =>
      rw [reCh, List.getElem?_cons_succ, ih (chainN b l) k (by simpa using h)]
      rfl
/-- A chain of which the first k links are made right again. -/
def reTo (ls : List Lk) (k : Nat) : List Lk := (reCh 7 ls).take k ++ ls.drop k
theorem reTo_0 (ls : List Lk) : reTo ls 0 = ls := by simp [reTo]
theorem reTo_all (ls : List Lk) (k : Nat) (h : ls.length ≤ k) : reTo ls k = reCh 7 ls := by
  unfold reTo
  rw [List.take_of_length_le (by rw [reCh_len]; exact h), List.drop_of_length_le h, List.append_nil]
theorem reTo_len (ls : List Lk) (k : Nat) : (reTo ls k).length = ls.length := by
  unfold reTo
  rw [List.length_append, List.length_take, List.length_drop, reCh_len]; omega
theorem reTo_get (ls : List Lk) (k : Nat) (h : k < ls.length) : (reTo ls k)[k]? = some ls[k] := by
  unfold reTo
  rw [List.getElem?_append_right (by rw [List.length_take, reCh_len]; omega), List.length_take, reCh_len, Nat.min_eq_left (by omega), Nat.sub_self, List.getElem?_drop, Nat.add_zero, List.getElem?_eq_getElem h]
theorem reTo_set (ls : List Lk) (k : Nat) (h : k < ls.length) : (reTo ls k).set k (withCh ls[k] (chainN (lastB 7 ((reCh 7 ls).take k)) ls[k])) = reTo ls (k + 1) := by
  have hs := reCh_step ls 7 k h
  have hl := reCh_len ls 7
  have hk : k < (reCh 7 ls).length := by omega
  rw [List.getElem?_eq_getElem hk] at hs
  have hs' := Option.some.inj hs
  unfold reTo
  rw [List.take_succ_eq_append_getElem hk, hs', List.set_append_right _ _ (by rw [List.length_take]; omega), List.length_take, Nat.min_eq_left (by omega), Nat.sub_self, List.drop_eq_getElem_cons h, List.set_cons_zero, List.append_assoc]
  rfl
theorem lastB_take (ls : List Lk) : ∀ (b k : Nat) (h : k < ls.length), lastB b (ls.take (k + 1)) = (ls[k]).ch := by
  induction ls with
  | nil => intro b k h; simp at h
  | cons l ls ih =>
    intro b k h
    cases k with
    | zero => rfl
    | succ k =>
      rw [List.take_succ_cons]
      exact ih l.ch k (by simpa using h)
end Go.Proofs.Ytlahejakcgoheaa
