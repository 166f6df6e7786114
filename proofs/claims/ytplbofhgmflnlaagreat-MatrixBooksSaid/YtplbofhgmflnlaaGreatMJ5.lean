/-
  Texts merged: M17, M18, M20, M19, M21.
-/
import Derived.Test.YtplbofhgmflnlaaGreatMI4
section
/-
  Order: the drawn region of its first pass (printed by genm17.py).
-/
set_option linter.unusedVariables false
set_option linter.unusedSimpArgs false
namespace Go.Proofs.YtplbofhgmflnlaaGreat
open Go.RowKit
set_option maxRecDepth 100000 in
set_option maxHeartbeats 4000000 in
theorem or_law {b8 ab gb : Nat} {b : Int} {l0 l1 l2 l3 l4 l5 l6 l7 l8 : Int} {V : Value} {wr : World} {S : World → Value → Prop} {R : World → Prop} (HCB : Hid (∀ W, Ext wr W → W.cell? ⟨ab, 1, none⟩ = some (.int .i64 b))) (HCG : Hid (∀ W, Ext wr W → W.rangeAt gb 0 [.int .i64 l0, .int .i64 l1, .int .i64 l2, .int .i64 l3, .int .i64 l4, .int .i64 l5, .int .i64 l6, .int .i64 l7, .int .i64 l8])) (HLK : Hid (∀ W, Ext wr W → (Instr.lookup 188 (.map (some b8)) (.int .i64 b) false).run Tryz.prog W = .ok V W)) (HAPP : Hid (∀ W, Ext wr W → ∀ g, W.heap[g]? = some (.cells #[.int .i64 l0, .int .i64 l1, .int .i64 l2, .int .i64 l3, .int .i64 l4, .int .i64 l5, .int .i64 l6, .int .i64 l7, .int .i64 l8] 191 (0, 0)) → ∃ v' w', (Builtin.append_ #[193, 193] 193 #[V, .slice (some ⟨g, 0, none⟩) 1 1]).run Tryz.prog W = .ok v' w' ∧ S w' v')) (HST : Hid (∀ W v', S W v' → (Instr.mapUpdate 188 (.map (some b8)) (.int .i64 b) v').run Tryz.prog W = .ok () (mapW 188 W b8 (.int .i64 b) v') ∧ R (mapW 188 W b8 (.int .i64 b) v'))) (HSB : Hid (∀ W v', S W v' → W.cell? ⟨ab, 1, none⟩ = some (.int .i64 b))) {Q : Exit → Act → World → Prop} (aZ : Act) (hsz : aZ.tmps.size = 110) (o8 : aZ.tmps[8]?.getD undef = .map (some b8)) (o11 : aZ.tmps[11]?.getD undef = .pointer (some ⟨ab, 0, none⟩)) (o12 : aZ.tmps[12]?.getD undef = .pointer (some ⟨gb, 0, none⟩))
    (hend : ∀ (vs : Nat → Value) (w9 : World) (ls9 : Nat → Bool), (∀ j : Nat, j < 11 → ls9 j = true) → ((ls9 9 = false → Ext wr w9) ∧ (ls9 8 = true → ls9 9 = false → ∃ gn, vs 8 = .slice (some ⟨gn, 0, none⟩) 1 1 ∧ w9.heap[gn]? = some (.cells #[.int .i64 l0, .int .i64 l1, .int .i64 l2, .int .i64 l3, .int .i64 l4, .int .i64 l5, .int .i64 l6, .int .i64 l7, .int .i64 l8] 191 (0, 0))) ∧ (ls9 9 = true → ls9 10 = false → S w9 (vs 9)) ∧ (ls9 10 = true → R w9)) → (vs 0 = .map (some b8)) → (vs 1 = .pointer (some ⟨ab, 1, none⟩)) → (vs 2 = .int .i64 b) → (vs 3 = .map (some b8)) → (vs 4 = .pointer (some ⟨ab, 1, none⟩)) → (vs 5 = .int .i64 b) → (vs 6 = V) → (vs 7 = .agg #[.int .i64 l0, .int .i64 l1, .int .i64 l2, .int .i64 l3, .int .i64 l4, .int .i64 l5, .int .i64 l6, .int .i64 l7, .int .i64 l8]) → (True) → (True) → Q .normal ((((((((((aZ.put (some 47) (vs 0)).put (some 48) (vs 1)).put (some 49) (vs 2)).put (some 50) (vs 3)).put (some 51) (vs 4)).put (some 52) (vs 5)).put (some 53) (vs 6)).put (some 54) (vs 7)).put (some 55) (vs 8)).put (some 56) (vs 9)) w9) : (regOf Tryz.f93 11).wp Tryz.prog Q aZ wr := by
  conv => arg 2; whnf
  refine wp_region_said3 (fun i v wz => match i with
    | 0 => v = .map (some b8)
    | 1 => v = .pointer (some ⟨ab, 1, none⟩)
    | 2 => v = .int .i64 b
    | 3 => v = .map (some b8)
    | 4 => v = .pointer (some ⟨ab, 1, none⟩)
    | 5 => v = .int .i64 b
    | 6 => v = V
    | 7 => v = .agg #[.int .i64 l0, .int .i64 l1, .int .i64 l2, .int .i64 l3, .int .i64 l4, .int .i64 l5, .int .i64 l6, .int .i64 l7, .int .i64 l8]
    | 8 => True
    | 9 => True
    | _ => True) (fun ls vs wz => (ls 9 = false → Ext wr wz) ∧ (ls 8 = true → ls 9 = false → ∃ gn, vs 8 = .slice (some ⟨gn, 0, none⟩) 1 1 ∧ wz.heap[gn]? = some (.cells #[.int .i64 l0, .int .i64 l1, .int .i64 l2, .int .i64 l3, .int .i64 l4, .int .i64 l5, .int .i64 l6, .int .i64 l7, .int .i64 l8] 191 (0, 0))) ∧ (ls 9 = true → ls 10 = false → S wz (vs 9)) ∧ (ls 10 = true → R wz)) (by kernel_rfl) (by kernel_rfl) (by rw [hsz]; kernel_rfl) ?_ ?_ ?_
  · exact ⟨fun _ => (Ext.refl _).drew, fun e => (by cases e), fun e => (by cases e), fun e => (by cases e)⟩
  · refine ⟨?_, ?_, ?_, ?_, ?_, ?_, ?_, ?_, ?_, ?_, ?_, trivial⟩
    · intro ls vs a w1 hi hJ hold hdep hdon hcl K hK
      have q8 : a.tmps[8]?.getD undef = .map (some b8) := (hold 8 (by kernel_rfl)).trans o8
      rw [if_pos (by rfl)]
      clear hold hdep hend hdon hcl o8 o11 o12
      have HJ := Lib.hid hJ
      clear hJ
      go_simp
      exact hK _ _ (fun _ _ _ h => h) HJ.out rfl
    · intro ls vs a w1 hi hJ hold hdep hdon hcl K hK
      have q11 : a.tmps[11]?.getD undef = .pointer (some ⟨ab, 0, none⟩) := (hold 11 (by kernel_rfl)).trans o11
      rw [if_pos (by rfl)]
      clear hold hdep hend hdon hcl o8 o11 o12
      have HJ := Lib.hid hJ
      clear hJ
      go_simp
      exact hK _ _ (fun _ _ _ h => h) HJ.out rfl
    · intro ls vs a w1 hi hJ hold hdep hdon hcl K hK
      have q48 : a.tmps[48]?.getD undef = .pointer (some ⟨ab, 1, none⟩) := (hdep 1 48 (by kernel_rfl) (by kernel_rfl)).2.1.trans (hdep 1 48 (by kernel_rfl) (by kernel_rfl)).2.2
      have hn10 : ls 10 = false := by
        cases e : ls 10 with
        | false => rfl
        | true =>
          replace e := hcl 10 2 e (by kernel_rfl)
          rw [show ls 2 = false from hi] at e
          cases e
      rw [if_pos (by rfl)]
      clear hold hdep hend hdon hcl o8 o11 o12
      have HJ := Lib.hid hJ
      clear hJ
      have c7 : w1.cell? ⟨ab, 1, none⟩ = some (.int .i64 b) := by
        cases e : ls 9 with
        | false => exact HCB.out w1 (HJ.out.1 e)
        | true => exact HSB.out w1 _ (HJ.out.2.2.1 e hn10)
      go_simp
      exact hK _ _ (fun _ _ _ h => h) HJ.out rfl
    · intro ls vs a w1 hi hJ hold hdep hdon hcl K hK
      have q8 : a.tmps[8]?.getD undef = .map (some b8) := (hold 8 (by kernel_rfl)).trans o8
      rw [if_pos (by rfl)]
      clear hold hdep hend hdon hcl o8 o11 o12
      have HJ := Lib.hid hJ
      clear hJ
      go_simp
      exact hK _ _ (fun _ _ _ h => h) HJ.out rfl
    · intro ls vs a w1 hi hJ hold hdep hdon hcl K hK
      have q11 : a.tmps[11]?.getD undef = .pointer (some ⟨ab, 0, none⟩) := (hold 11 (by kernel_rfl)).trans o11
      rw [if_pos (by rfl)]
      clear hold hdep hend hdon hcl o8 o11 o12
      have HJ := Lib.hid hJ
      clear hJ
      go_simp
      exact hK _ _ (fun _ _ _ h => h) HJ.out rfl
    · intro ls vs a w1 hi hJ hold hdep hdon hcl K hK
      have q51 : a.tmps[51]?.getD undef = .pointer (some ⟨ab, 1, none⟩) := (hdep 4 51 (by kernel_rfl) (by kernel_rfl)).2.1.trans (hdep 4 51 (by kernel_rfl) (by kernel_rfl)).2.2
      have hn9 : ls 9 = false := by
        cases e : ls 9 with
        | false => rfl
        | true =>
          replace e := hcl 9 6 e (by kernel_rfl)
          replace e := hcl 6 5 e (by kernel_rfl)
          rw [show ls 5 = false from hi] at e
          cases e
      have hn10 : ls 10 = false := by
        cases e : ls 10 with
        | false => rfl
        | true =>
          replace e := hcl 10 5 e (by kernel_rfl)
          rw [show ls 5 = false from hi] at e
          cases e
      rw [if_pos (by rfl)]
      clear hold hdep hend hdon hcl o8 o11 o12
      have HJ := Lib.hid hJ
      clear hJ
      have c7 := HCB.out w1 (HJ.out.1 hn9)
      go_simp
      exact hK _ _ (fun _ _ _ h => h) HJ.out rfl
    · intro ls vs a w1 hi hJ hold hdep hdon hcl K hK
      have q50 : a.tmps[50]?.getD undef = .map (some b8) := (hdep 3 50 (by kernel_rfl) (by kernel_rfl)).2.1.trans (hdep 3 50 (by kernel_rfl) (by kernel_rfl)).2.2
      have q52 : a.tmps[52]?.getD undef = .int .i64 b := (hdep 5 52 (by kernel_rfl) (by kernel_rfl)).2.1.trans (hdep 5 52 (by kernel_rfl) (by kernel_rfl)).2.2
      have hn9 : ls 9 = false := by
        cases e : ls 9 with
        | false => rfl
        | true =>
          replace e := hcl 9 6 e (by kernel_rfl)
          rw [show ls 6 = false from hi] at e
          cases e
      have hn10 : ls 10 = false := by
        cases e : ls 10 with
        | false => rfl
        | true =>
          replace e := hcl 10 6 e (by kernel_rfl)
          rw [show ls 6 = false from hi] at e
          cases e
      rw [if_pos (by rfl)]
      clear hold hdep hend hdon hcl o8 o11 o12
      have HJ := Lib.hid hJ
      clear hJ
      have c7 := HLK.out w1 (HJ.out.1 hn9)
      go_simp
      exact hK _ _ (fun _ _ _ h => h) HJ.out rfl
    · intro ls vs a w1 hi hJ hold hdep hdon hcl K hK
      have q12 : a.tmps[12]?.getD undef = .pointer (some ⟨gb, 0, none⟩) := (hold 12 (by kernel_rfl)).trans o12
      have hn9 : ls 9 = false := by
        cases e : ls 9 with
        | false => rfl
        | true =>
          replace e := hcl 9 8 e (by kernel_rfl)
          replace e := hcl 8 7 e (by kernel_rfl)
          rw [show ls 7 = false from hi] at e
          cases e
      have hn10 : ls 10 = false := by
        cases e : ls 10 with
        | false => rfl
        | true =>
          replace e := hcl 10 7 e (by kernel_rfl)
          rw [show ls 7 = false from hi] at e
          cases e
      clear hold hdep hend hdon o8 o11 o12
      have HJ := Lib.hid hJ
      clear hJ
      have hx := HJ.out.1 hn9
      rw [if_pos (by rfl)]
      refine wp_load_mid 191 (.tmp 12) (by rfl) gb 0 (by simpa [Act.eval, Array.getD_eq_getD_getElem?] using q12) [.int .i64 l0, .int .i64 l1, .int .i64 l2, .int .i64 l3, .int .i64 l4, .int .i64 l5, .int .i64 l6, .int .i64 l7, .int .i64 l8] _ (HCG.out w1 hx) Tryz.underlying191 rfl (size191 _ rfl) ?_
      exact hK _ _ (fun _ _ _ h => h) HJ.out rfl
    · intro ls vs a w1 hi hJ hold hdep hdon hcl K hK
      have q54 : a.tmps[54]?.getD undef = .agg #[.int .i64 l0, .int .i64 l1, .int .i64 l2, .int .i64 l3, .int .i64 l4, .int .i64 l5, .int .i64 l6, .int .i64 l7, .int .i64 l8] := (hdep 7 54 (by kernel_rfl) (by kernel_rfl)).2.1.trans (hdep 7 54 (by kernel_rfl) (by kernel_rfl)).2.2
      have hn9 : ls 9 = false := by
        cases e : ls 9 with
        | false => rfl
        | true =>
          replace e := hcl 9 8 e (by kernel_rfl)
          rw [show ls 8 = false from hi] at e
          cases e
      have hn10 : ls 10 = false := by
        cases e : ls 10 with
        | false => rfl
        | true =>
          replace e := hcl 10 8 e (by kernel_rfl)
          rw [show ls 8 = false from hi] at e
          cases e
      rw [if_pos (by rfl)]
      clear hold hdep hend hdon hcl o8 o11 o12
      have HJ := Lib.hid hJ
      clear hJ
      obtain ⟨j1, j2, j3, j4⟩ := HJ.out
      go_simp
      have hx := (Ext.refl w1).alloc (.cells #[.int .i64 l0, .int .i64 l1, .int .i64 l2, .int .i64 l3, .int .i64 l4, .int .i64 l5, .int .i64 l6, .int .i64 l7, .int .i64 l8] 191)
      exact hK _ _ (fun _ _ _ h => h) ⟨fun _ => (j1 hn9).trans hx, fun _ _ => ⟨_, rfl, heap_new _ _⟩, fun e => (by simp [hn9] at e), fun e => (by simp [hn10] at e)⟩ trivial
    · intro ls vs a w1 hi hJ hold hdep hdon hcl K hK
      have q53 : a.tmps[53]?.getD undef = V := (hdep 6 53 (by kernel_rfl) (by kernel_rfl)).2.1.trans (hdep 6 53 (by kernel_rfl) (by kernel_rfl)).2.2
      obtain ⟨hl8, q55, p55⟩ := hdep 8 55 (by kernel_rfl) (by kernel_rfl)
      have hl8 := hdon 8 (by kernel_rfl)
      clear hold hdep hend hdon o8 o11 o12
      have HJ := Lib.hid hJ
      clear hJ
      obtain ⟨j1, j2, j3, j4⟩ := HJ.out
      have hn9 : ls 9 = false := hi
      have hn10 : ls 10 = false := by
        cases e : ls 10 with
        | false => rfl
        | true =>
          have e := hcl 10 9 e (by kernel_rfl)
          rw [hn9] at e; cases e
      obtain ⟨gn, hv, hb⟩ := j2 hl8 hn9
      rw [hv] at q55
      obtain ⟨v', w', r1', r2'⟩ := HAPP.out w1 (j1 hn9) gn hb
      refine step_app (by rfl) (.tmp 53) (.tmp 55) 193 (by rfl) _ _ (by simpa [Act.eval, Array.getD_eq_getD_getElem?] using q53) (by simpa [Act.eval, Array.getD_eq_getD_getElem?] using q55) (fun v3 w3 => v3 = v' ∧ w3 = w') ⟨_, _, r1', rfl, rfl⟩ ?_
      rintro v3 w3 ⟨rfl, rfl⟩
      exact hK _ _ (fun _ _ _ h => h) ⟨fun e => (by simp at e), fun _ e => (by simp at e), fun _ _ => r2', fun e => (by simp [hn10] at e)⟩ trivial
    · intro ls vs a w1 hi hJ hold hdep hdon hcl K hK
      have q47 : a.tmps[47]?.getD undef = .map (some b8) := (hdep 0 47 (by kernel_rfl) (by kernel_rfl)).2.1.trans (hdep 0 47 (by kernel_rfl) (by kernel_rfl)).2.2
      have q49 : a.tmps[49]?.getD undef = .int .i64 b := (hdep 2 49 (by kernel_rfl) (by kernel_rfl)).2.1.trans (hdep 2 49 (by kernel_rfl) (by kernel_rfl)).2.2
      obtain ⟨hl9, q56, p56⟩ := hdep 9 56 (by kernel_rfl) (by kernel_rfl)
      have hl9 := hdon 9 (by kernel_rfl)
      rw [if_pos (by rfl)]
      clear hold hdep hend hdon hcl o8 o11 o12
      have HJ := Lib.hid hJ
      clear hJ
      obtain ⟨j1, j2, j3, j4⟩ := HJ.out
      have hs := j3 hl9 hi
      obtain ⟨hr, hR⟩ := HST.out w1 _ hs
      go_simp
      exact hK undef _ (fun _ _ _ h => h) ⟨fun e => (by simp [hl9] at e), fun _ e => (by simp [hl9] at e), fun _ e => (by simp at e), fun _ => hR⟩ trivial
  · intro vs w9 ls9 hl9 hJ9 hφ
    have e0 := hφ 0 (by kernel_rfl)
    have e1 := hφ 1 (by kernel_rfl)
    have e2 := hφ 2 (by kernel_rfl)
    have e3 := hφ 3 (by kernel_rfl)
    have e4 := hφ 4 (by kernel_rfl)
    have e5 := hφ 5 (by kernel_rfl)
    have e6 := hφ 6 (by kernel_rfl)
    have e7 := hφ 7 (by kernel_rfl)
    have e8 := hφ 8 (by kernel_rfl)
    have e9 := hφ 9 (by kernel_rfl)
    have hq := hend vs w9 ls9 hl9 hJ9 e0 e1 e2 e3 e4 e5 e6 e7 e8 e9
    simp only [Act.put] at hq
    simp only [putAll, Act.put]
    exact hq
end Go.Proofs.YtplbofhgmflnlaaGreat
end
section
/-
  Order's first pass, in plain lists, and its steps on the memory.
-/
set_option linter.unusedVariables false
set_option linter.unusedSimpArgs false
namespace Go.Proofs.YtplbofhgmflnlaaGreat
open Go.RowKit Go.Maps
section
variable {κ : Type} [DecidableEq κ]
/-- What is met among the first i, each once, as it is met. -/
def ddK (K : Nat → κ) : Nat → List κ
  | 0 => []
  | i + 1 => if K i ∈ ddK K i then ddK K i else ddK K i ++ [K i]
theorem mem_ddK (K : Nat → κ) (x : κ) : ∀ i, x ∈ ddK K i ↔ ∃ j, j < i ∧ K j = x
  | 0 => by simp [ddK]
  | i + 1 => by
    have ih := mem_ddK K x i
    simp only [ddK]
    split
    · rename_i hm
      rw [ih]
      constructor
      · rintro ⟨j, hj, e⟩; exact ⟨j, by omega, e⟩
      · rintro ⟨j, hj, e⟩
        rcases Nat.lt_or_ge j i with h | h
        · exact ⟨j, h, e⟩
        · obtain rfl : j = i := by omega
          rw [← e]; exact (mem_ddK K (K j) j).1 hm
    · rw [List.mem_append, List.mem_singleton, ih]
      constructor
      · rintro (⟨j, hj, e⟩ | e)
        · exact ⟨j, by omega, e⟩
        · exact ⟨i, by omega, e.symm⟩
      · rintro ⟨j, hj, e⟩
        rcases Nat.lt_or_ge j i with h | h
        · exact .inl ⟨j, h, e⟩
        · obtain rfl : j = i := by omega
          exact .inr e.symm
theorem nodup_ddK (K : Nat → κ) : ∀ i, (ddK K i).Nodup
  | 0 => by simp [ddK]
  | i + 1 => by
    simp only [ddK]
    split
    · exact nodup_ddK K i
    · rename_i hm
      rw [List.nodup_append]
      refine ⟨nodup_ddK K i, by simp, ?_⟩
      intro a ha c hc
      simp at hc; subst hc
      exact fun e => hm (e ▸ ha)
theorem ddK_len (K : Nat → κ) : ∀ i, (ddK K i).length ≤ i
  | 0 => by simp [ddK]
  | i + 1 => by
    have := ddK_len K i
    simp only [ddK]
    split
    · omega
    · simp; omega
end
def memI (K : Nat → List Int) (i : Nat) (key : List Int) : List Int := ((List.range i).filter fun j => decide (K j = key)).map Int.ofNat
def kbI (K : Nat → List Int) (i : Nat) (b : Int) : List (List Int) := (ddK K i).filter fun k => nth k 0 = b
def KB (K : Nat → List Int) (j : Nat) : Int := nth (K j) 0
theorem memI_succ (K : Nat → List Int) (i : Nat) : memI K (i + 1) = updF (memI K i) (K i) (memI K i (K i) ++ [(i : Int)]) := by
  funext key
  unfold updF
  split
  · rename_i e; subst e
    simp [memI, List.range_succ, List.filter_append]
  · rename_i e
    have e' : ¬ (K i = key) := fun h => e h.symm
    simp [memI, List.range_succ, List.filter_append, e']
theorem memI_none {K : Nat → List Int} {i : Nat} {key : List Int} (h : key ∉ ddK K i) : memI K i key = [] := by
  unfold memI
  rw [List.map_eq_nil_iff, List.filter_eq_nil_iff]
  intro j hj
  simp only [decide_eq_true_eq]
  exact fun e => h ((mem_ddK K key i).2 ⟨j, List.mem_range.1 hj, e⟩)
theorem memI_some {K : Nat → List Int} {i : Nat} {key : List Int} (h : key ∈ ddK K i) : (memI K i key).length ≠ 0 := by
  obtain ⟨j, hj, e⟩ := (mem_ddK K key i).1 h
  intro h0
  have := List.length_eq_zero_iff.1 h0
  unfold memI at this
  rw [List.map_eq_nil_iff, List.filter_eq_nil_iff] at this
  exact this j (List.mem_range.2 hj) (by simp [e])
theorem memI_len (K : Nat → List Int) (i : Nat) (key : List Int) : (memI K i key).length ≤ i := by
  unfold memI
  rw [List.length_map]
  exact Nat.le_trans (List.length_filter_le _ _) (by simp)
theorem kbI_old {K : Nat → List Int} {i : Nat} (h : K i ∈ ddK K i) : kbI K (i + 1) = kbI K i := by
  funext b; simp [kbI, ddK, h]
theorem kbI_new {K : Nat → List Int} {i : Nat} (h : K i ∉ ddK K i) : kbI K (i + 1) = updF (kbI K i) (KB K i) (kbI K i (KB K i) ++ [K i]) := by
  funext b
  unfold updF
  split
  · rename_i e; subst e
    simp [kbI, ddK, h, List.filter_append, KB]
  · rename_i e
    have e' : ¬ (nth (K i) 0 = b) := fun h => e h.symm
    simp [kbI, ddK, h, List.filter_append, e']
theorem kb_mem {K : Nat → List Int} {i : Nat} (h : K i ∈ ddK K i) : KB K i ∈ ddK (KB K) i := by
  obtain ⟨j, hj, e⟩ := (mem_ddK K _ i).1 h
  exact (mem_ddK _ _ i).2 ⟨j, hj, by simp [KB, e]⟩
theorem kbI_none {K : Nat → List Int} {i : Nat} {b : Int} (h : b ∉ ddK (KB K) i) : kbI K i b = [] := by
  unfold kbI
  rw [List.filter_eq_nil_iff]
  intro k hk
  simp only [decide_eq_true_eq]
  intro e
  obtain ⟨j, hj, e2⟩ := (mem_ddK K k i).1 hk
  exact h ((mem_ddK _ _ i).2 ⟨j, hj, by simp [KB, e2, e]⟩)
theorem kbI_some {K : Nat → List Int} {i : Nat} {b : Int} (h : b ∈ ddK (KB K) i) : (kbI K i b).length ≠ 0 := by
  obtain ⟨j, hj, e⟩ := (mem_ddK _ _ i).1 h
  intro h0
  have := List.length_eq_zero_iff.1 h0
  unfold kbI at this
  rw [List.filter_eq_nil_iff] at this
  exact this (K j) ((mem_ddK K _ i).2 ⟨j, hj, rfl⟩) (by simpa [KB] using e)
theorem kbI_len (K : Nat → List Int) (i : Nat) (b : Int) : (kbI K i b).length ≤ i := Nat.le_trans (List.length_filter_le _ _) (ddK_len K i)
/-! ### the memory -/
abbrev GSt (w1 w : World) (b7 b8 : Nat) (gs : List (List Int × Value)) (bs : List (Int × Value)) (vn : Value) (ns : List Int) (mem : List Int → List Int) (kb : Int → List (List Int)) (X : List Rw) : Prop :=
  Ws w1 w b7 b8 (M7l gs) (M8l bs) (X ++ (rwI vn ns :: (G7 mem gs ++ G8 kb bs)))
def St (w1 w : World) (b7 b8 : Nat) (K : Nat → List Int) (i : Nat) (vn : Value) (X : List Rw) : Prop :=
  ∃ gs bs, gs.map Prod.fst = ddK K i ∧ bs.map Prod.fst = ddK (KB K) i ∧ GSt w1 w b7 b8 gs bs vn (ddK (KB K) i) (memI K i) (kbI K i) X
theorem row_block {w : World} {B b n sz : Nat} {e : TypeId} {xs : List Value} (h : (⟨e, sz, .slice (some ⟨b, 0, none⟩) n n, n, xs⟩ : Rw).at w B) : w.heap[b]? = some (.cells xs.toArray e (0, 0)) := by
  obtain ⟨h0, h1⟩ := h
  rcases h1 with ⟨hv, -⟩ | ⟨g', cap, cur, hv, hg, hh, hnc, hcm, hs, ht⟩
  · cases hv
  · simp only [Value.slice.injEq, Option.some.injEq, Addr.mk.injEq, and_true] at hv
    obtain ⟨rfl, -, rfl⟩ := hv
    simp only at hh hs ht h0
    rw [hh, ← ht, ← hs, ← Array.length_toList, List.take_length]
theorem slice_row {w : World} {B : Nat} {r : Rw} (h : r.at w B) : ∃ a c, r.v = .slice a r.n c := by
  rcases h.2 with ⟨e1, e2⟩ | ⟨g, cap, cur, e1, -⟩
  · exact ⟨none, 0, by rw [e1, show r.n = 0 from e2]⟩
  · exact ⟨_, _, e1⟩
section
variable {w1 w : World} {b7 b8 : Nat} {gs : List (List Int × Value)} {bs : List (Int × Value)} {vn : Value} {ns : List Int} {mem : List Int → List Int} {kb : Int → List (List Int)} {X : List Rw}
theorem GSt.row7 (h : GSt w1 w b7 b8 gs bs vn ns mem kb X) {g : List Int × Value} (hg : g ∈ gs) : (rwI g.2 (mem g.1)).at w w1.heap.size :=
  h.rows.own _ (by simp only [List.mem_append, List.mem_cons]; exact .inr (.inr (.inl (List.mem_map.2 ⟨g, hg, rfl⟩))))
theorem GSt.row8 (h : GSt w1 w b7 b8 gs bs vn ns mem kb X) {g : Int × Value} (hg : g ∈ bs) : (rwG g.2 (kb g.1)).at w w1.heap.size :=
  h.rows.own _ (by simp only [List.mem_append, List.mem_cons]; exact .inr (.inr (.inr (List.mem_map.2 ⟨g, hg, rfl⟩))))
/-- What the members' map tells. -/
theorem GSt.look7 (h : GSt w1 w b7 b8 gs bs vn ns mem kb X) {key : List Int} (hl : key.length = 9) (hw : ∀ x ∈ key, wf64 x) (hm : key ∉ gs.map Prod.fst → mem key = []) :
    ∃ a c, ∀ W, Ext w W → (Instr.lookup 187 (.map (some b7)) (grV key) false).run Tryz.prog W = .ok (.slice a (mem key).length c) W := by
  by_cases hk : key ∈ gs.map Prod.fst
  · obtain ⟨g, hg, rfl⟩ := List.mem_map.1 hk
    obtain ⟨a, c, hv⟩ := slice_row (h.row7 hg)
    refine ⟨a, c, fun W e => ?_⟩
    have := (h.m7.ext e).look_yes keyed191 Tryz.underlying187 (key191 hl hw) (v := g.2) (List.mem_map.2 ⟨g, hg, rfl⟩) false
    rw [show g.2 = Value.slice a (mem g.1).length c from hv] at this
    simpa using this
  · refine ⟨none, 0, fun W e => ?_⟩
    have := (h.m7.ext e).look_no keyed191 Tryz.underlying187 (zero31 W) (key191 hl hw) (M7l_mem hk) false
    rw [hm hk]
    simpa using this
theorem GSt.look8 (h : GSt w1 w b7 b8 gs bs vn ns mem kb X) {b : Int} (hw : wf64 b) (hm : b ∉ bs.map Prod.fst → kb b = []) :
    ∃ a c, ∀ W, Ext w W → (Instr.lookup 188 (.map (some b8)) (.int .i64 b) false).run Tryz.prog W = .ok (.slice a (kb b).length c) W := by
  by_cases hk : b ∈ bs.map Prod.fst
  · obtain ⟨g, hg, rfl⟩ := List.mem_map.1 hk
    obtain ⟨a, c, hv⟩ := slice_row (h.row8 hg)
    refine ⟨a, c, fun W e => ?_⟩
    have := (h.m8.ext e).look_yes keyed3 Tryz.underlying188 (key3 hw) (v := g.2) (List.mem_map.2 ⟨g, hg, rfl⟩) false
    rw [show g.2 = Value.slice a (kb g.1).length c from hv] at this
    simpa using this
  · refine ⟨none, 0, fun W e => ?_⟩
    have := (h.m8.ext e).look_no keyed3 Tryz.underlying188 (zero193 W) (key3 hw) (M8l_mem hk) false
    rw [hm hk]
    simpa using this
theorem GSt.q10 (h : GSt w1 w b7 b8 gs bs vn ns mem kb X) (x : Int) {g : Nat} (hg : w.heap[g]? = some (.cells #[.int .i64 x] 3 (0, 0))) (hn : ns.length ≤ 1000000) :
    ∃ v' w', (Builtin.append_ #[31, 31] 31 #[vn, .slice (some ⟨g, 0, none⟩) 1 1]).run Tryz.prog w = .ok v' w' ∧ GSt w1 w' b7 b8 gs bs v' (ns ++ [x]) mem kb X := Ws.appN h x hg hn
theorem GSt.q12 (h : GSt w1 w b7 b8 gs bs vn ns mem kb X) {key : List Int} (hl : key.length = 9) (hw : ∀ x ∈ key, wf64 x)
    (hm : key ∉ gs.map Prod.fst → mem key = []) (hgl : gs.length ≤ 1000000) (hml : (mem key).length ≤ 1000000) (x : Int) {g : Nat} (hg : w.heap[g]? = some (.cells #[.int .i64 x] 3 (0, 0))) :
    ∃ v0 st w', (Instr.mapEntry 187 (.map (some b7)) (grV key)).run Tryz.prog w = .ok (.tuple #[v0, .int .i64 (st : Nat)]) w' ∧
    ∃ v' w'', (Builtin.append_ #[31, 31] 31 #[v0, .slice (some ⟨g, 0, none⟩) 1 1]).run Tryz.prog w' = .ok v' w'' ∧
    ∃ w3, (Instr.entryStore 187 (.map (some b7)) (.int .i64 (st : Nat)) v').run Tryz.prog w'' = .ok () w3 ∧
    ∃ gs', gs'.map Prod.fst = (if key ∈ gs.map Prod.fst then gs.map Prod.fst else gs.map Prod.fst ++ [key]) ∧ GSt w1 w3 b7 b8 gs' bs vn ns (updF mem key (mem key ++ [x])) kb X := by
  have e : X ++ (rwI vn ns :: (G7 mem gs ++ G8 kb bs)) = (X ++ [rwI vn ns]) ++ (G7 mem gs ++ G8 kb bs) := by simp
  have h' : Ws w1 w b7 b8 (M7l gs) (M8l bs) ((X ++ [rwI vn ns]) ++ (G7 mem gs ++ G8 kb bs)) := by rw [← e]; exact h
  obtain ⟨v0, st, w', r1, v', w'', r2, w3, r3, gs', e1, h3⟩ := p12 h' hl hw hm hgl hml x hg
  refine ⟨v0, st, w', r1, v', w'', r2, w3, r3, gs', e1, ?_⟩
  have e2 : X ++ (rwI vn ns :: (G7 (updF mem key (mem key ++ [x])) gs' ++ G8 kb bs)) = (X ++ [rwI vn ns]) ++ (G7 (updF mem key (mem key ++ [x])) gs' ++ G8 kb bs) := by simp
  unfold GSt; rw [e2]; exact h3
theorem GSt.q11 (h : GSt w1 w b7 b8 gs bs vn ns mem kb X) {b : Int} (hb : wf64 b) (hz : b ∉ bs.map Prod.fst → kb b = []) (hbl : bs.length ≤ 1000000) (hkl : (kb b).length ≤ 1000000) (key : List Int) :
    ∃ (V : Value) (S : World → Value → Prop) (R : World → Prop),
      (∀ W, Ext w W → (Instr.lookup 188 (.map (some b8)) (.int .i64 b) false).run Tryz.prog W = .ok V W) ∧
      (∀ W, Ext w W → ∀ g, W.heap[g]? = some (.cells (grC key).toArray 191 (0, 0)) → ∃ v' w', (Builtin.append_ #[193, 193] 193 #[V, .slice (some ⟨g, 0, none⟩) 1 1]).run Tryz.prog W = .ok v' w' ∧ S w' v') ∧
      (∀ W v', S W v' → (Instr.mapUpdate 188 (.map (some b8)) (.int .i64 b) v').run Tryz.prog W = .ok () (mapW 188 W b8 (.int .i64 b) v') ∧ R (mapW 188 W b8 (.int .i64 b) v')) ∧
      (∀ W v', S W v' → ∀ r ∈ X, r.at W w1.heap.size) ∧
      (∀ W, R W → ∃ bs', bs'.map Prod.fst = (if b ∈ bs.map Prod.fst then bs.map Prod.fst else bs.map Prod.fst ++ [b]) ∧ GSt w1 W b7 b8 gs bs' vn ns mem (updF kb b (kb b ++ [key])) X) := by
  have e : X ++ (rwI vn ns :: (G7 mem gs ++ G8 kb bs)) = X ++ ((rwI vn ns :: G7 mem gs) ++ G8 kb bs) := by simp
  have h' : Ws w1 w b7 b8 (M7l gs) (M8l bs) (X ++ ((rwI vn ns :: G7 mem gs) ++ G8 kb bs)) := by rw [← e]; exact h
  obtain ⟨V, S, R, h1, -, h2, h3, h4, h5⟩ := p11 h' hb hz hbl hkl key
  refine ⟨V, S, R, h1, h2, h3, h4, fun W hW => ?_⟩
  obtain ⟨bs', e1, h6⟩ := h5 W hW
  refine ⟨bs', e1, ?_⟩
  have e2 : X ++ (rwI vn ns :: (G7 mem gs ++ G8 (updF kb b (kb b ++ [key])) bs')) = X ++ ((rwI vn ns :: G7 mem gs) ++ G8 (updF kb b (kb b ++ [key])) bs') := by simp
  unfold GSt; rw [e2]; exact h6
theorem GSt.drop (h : GSt w1 w b7 b8 gs bs vn ns mem kb X) : GSt w1 w b7 b8 gs bs vn ns mem kb [] := Ws.sub h (List.sublist_append_right _ _)
theorem GSt.grow {w' : World} (h : GSt w1 w b7 b8 gs bs vn ns mem kb X) (e : Ext w w') : GSt w1 w' b7 b8 gs bs vn ns mem kb X := Ws.grow h e
end
end Go.Proofs.YtplbofhgmflnlaaGreat
end
section
/-
  Order's second pass, in plain lists, and its steps on the memory.
-/
set_option linter.unusedVariables false
set_option linter.unusedSimpArgs false
namespace Go.Proofs.YtplbofhgmflnlaaGreat
open Go.RowKit Go.Maps
section
variable {α : Type} [Inhabited α]
theorem swp_perm (l : List α) (i j : Nat) (hi : i < l.length) (hj : j < l.length) : (swp l i j).Perm l := by
  unfold swp
  have e1 : l.getD j default = l[j] := by simp [hj]
  have e2 : l.getD i default = l[i] := by simp [hi]
  rw [e1, e2]
  exact List.set_set_perm hi hj
theorem shufK_perm : ∀ (k : Nat) (s : Int) (l : List α), k ≤ l.length → k ≤ 1000000 → (shufK k s l).Perm l
  | 0, _, _, _, _ => .refl _
  | 1, _, _, _, _ => .refl _
  | k + 2, s, l, h, h6 => by
    simp only [shufK]
    have hb := drw_bd (lcg s) ((k + 2 : Nat) : Int) (lcg_bd s).1 (lcg_bd s).2 (by omega) (by omega)
    exact (shufK_perm (k + 1) _ _ (by rw [swp_len]; omega) (by omega)).trans (swp_perm _ _ _ (by omega) (by omega))
theorem shufL_perm (s : Int) (l : List α) (h : l.length ≤ 1000000) : (shufL s l).Perm l := shufK_perm _ _ _ (Nat.le_refl _) h
theorem shufL_len (s : Int) (l : List α) (h : l.length ≤ 1000000) : (shufL s l).length = l.length := (shufL_perm s l h).length_eq
end
/-- The seed of a block's groups, and of a group's members. -/
def seedB (sd b : Int) : Int := IntKind.u64.wrap (sd + IntKind.u64.wrap (IntKind.u64.wrap b * 1000003))
def seedM (sd x : Int) : Int := IntKind.u64.wrap (IntKind.u64.wrap (sd + 1) + IntKind.u64.wrap (IntKind.u64.wrap x * 7919))
def shB (K : Nat → List Int) (n : Nat) (sd b : Int) : List (List Int) := shufL (seedB sd b) (kbI K n b)
def shM (K : Nat → List Int) (n : Nat) (sd : Int) (key : List Int) : List Int := shufL (seedM sd (nth (memI K n key) 0)) (memI K n key)
def sNs (K : Nat → List Int) (n : Nat) : List Int := srt (ddK (KB K) n)
def ordK (K : Nat → List Int) (n : Nat) (sd : Int) : List (List Int) := (sNs K n).flatMap (shB K n sd)
/-- Order's answer. -/
def ordL (K : Nat → List Int) (n : Nat) (sd : Int) : List Int := (ordK K n sd).flatMap (shM K n sd)
def mem2 (K : Nat → List Int) (n : Nat) (sd : Int) (D : List (List Int)) (key : List Int) : List Int := if key ∈ D then shM K n sd key else memI K n key
def kb2 (K : Nat → List Int) (n : Nat) (sd : Int) (E : List Int) (b : Int) : List (List Int) := if b ∈ E then shB K n sd b else kbI K n b
section
variable {K : Nat → List Int} {n : Nat} {sd : Int}
theorem srt_perm (xs : List Int) : (srt xs).Perm xs := List.mergeSort_perm _ _
theorem sNs_mem {b : Int} : b ∈ sNs K n ↔ b ∈ ddK (KB K) n := (srt_perm _).mem_iff
theorem sNs_nodup : (sNs K n).Nodup := (srt_perm _).nodup_iff.2 (nodup_ddK _ _)
theorem sNs_len : (sNs K n).length = (ddK (KB K) n).length := srt_len _
theorem shB_perm (hn : n ≤ 1000000) (b : Int) : (shB K n sd b).Perm (kbI K n b) := shufL_perm _ _ (Nat.le_trans (kbI_len K n b) hn)
theorem shM_perm (hn : n ≤ 1000000) (key : List Int) : (shM K n sd key).Perm (memI K n key) := shufL_perm _ _ (Nat.le_trans (memI_len K n key) hn)
theorem shB_mem (hn : n ≤ 1000000) {b : Int} {key : List Int} (h : key ∈ shB K n sd b) : key ∈ ddK K n ∧ nth key 0 = b := by
  have := (shB_perm hn b).mem_iff.1 h
  unfold kbI at this
  rw [List.mem_filter] at this
  exact ⟨this.1, by simpa using this.2⟩
theorem ordK_nodup (hn : n ≤ 1000000) : (ordK K n sd).Nodup := by
  unfold ordK
  rw [List.flatMap_def, List.Nodup, List.pairwise_flatten]
  refine ⟨?_, ?_⟩
  · intro l hl
    obtain ⟨b, hb, rfl⟩ := List.mem_map.1 hl
    exact (shB_perm hn b).nodup_iff.2 ((nodup_ddK K n).sublist List.filter_sublist)
  · rw [List.pairwise_map]
    refine sNs_nodup.imp ?_
    intro a b hab
    intro x hx y hy e
    subst e
    exact hab ((shB_mem hn hx).2.symm.trans (shB_mem hn hy).2)
theorem mem2_succ {D : List (List Int)} {key : List Int} (h : key ∉ D) : mem2 K n sd (D ++ [key]) = updF (mem2 K n sd D) key (shM K n sd key) := by
  funext x
  unfold mem2 updF
  by_cases e : x = key
  · subst e; simp
  · simp [e]
theorem kb2_succ {E : List Int} {b : Int} (h : b ∉ E) : kb2 K n sd (E ++ [b]) = updF (kb2 K n sd E) b (shB K n sd b) := by
  funext x
  unfold kb2 updF
  by_cases e : x = b
  · subst e; simp
  · simp [e]
theorem mem2_nil : mem2 K n sd [] = memI K n := by funext x; simp [mem2]
theorem kb2_nil : kb2 K n sd [] = kbI K n := by funext x; simp [kb2]
/-- The groups ahead of the j-th one of the k-th block. -/
def doneK (K : Nat → List Int) (n : Nat) (sd : Int) (k j : Nat) : List (List Int) := ((sNs K n).take k).flatMap (shB K n sd) ++ (shB K n sd (nth (sNs K n) k)).take j
theorem done_zero : doneK K n sd 0 0 = [] := by simp [doneK]
theorem done_next (k : Nat) (hk : k < (sNs K n).length) : doneK K n sd (k + 1) 0 = doneK K n sd k (shB K n sd (nth (sNs K n) k)).length := by
  unfold doneK
  rw [List.take_succ_eq_append_getElem hk, List.flatMap_append, nth_eq _ _ hk]
  simp
theorem done_succ (k j : Nat) (hj : j < (shB K n sd (nth (sNs K n) k)).length) : doneK K n sd k (j + 1) = doneK K n sd k j ++ [kth (shB K n sd (nth (sNs K n) k)) j] := by
  unfold doneK
  rw [List.take_succ_eq_append_getElem hj, kth_eq _ _ hj, List.append_assoc]
theorem done_all : doneK K n sd (sNs K n).length 0 = ordK K n sd := by
  unfold doneK ordK; simp
theorem done_new (hn : n ≤ 1000000) (k j : Nat) (hk : k < (sNs K n).length) (hj : j < (shB K n sd (nth (sNs K n) k)).length) : kth (shB K n sd (nth (sNs K n) k)) j ∉ doneK K n sd k j := by
  have h := ordK_nodup (K := K) (n := n) (sd := sd) hn
  have e : ordK K n sd = doneK K n sd k j ++ [kth (shB K n sd (nth (sNs K n) k)) j] ++ ((shB K n sd (nth (sNs K n) k)).drop (j + 1) ++ ((sNs K n).drop (k + 1)).flatMap (shB K n sd)) := by
    rw [← done_succ k j hj]
    unfold ordK doneK
    have e1 : sNs K n = (sNs K n).take k ++ nth (sNs K n) k :: (sNs K n).drop (k + 1) := by
      rw [nth_eq _ _ hk, ← List.drop_eq_getElem_cons hk, List.take_append_drop]
    conv => lhs; rw [e1]
    rw [List.flatMap_append, List.flatMap_cons]
    conv => lhs; rw [← List.take_append_drop (j + 1) (shB K n sd (nth (sNs K n) k))]
    simp only [List.append_assoc]
  rw [e, List.nodup_append, List.nodup_append] at h
  intro hm
  exact h.1.2.2 _ hm _ (by simp) rfl
theorem take_new (k : Nat) (hk : k < (sNs K n).length) : nth (sNs K n) k ∉ (sNs K n).take k := by
  have h := sNs_nodup (K := K) (n := n)
  have e1 : sNs K n = (sNs K n).take k ++ nth (sNs K n) k :: (sNs K n).drop (k + 1) := by
    rw [nth_eq _ _ hk, ← List.drop_eq_getElem_cons hk, List.take_append_drop]
  rw [e1, List.nodup_append] at h
  intro hm
  exact h.2.2 _ hm _ (by simp) rfl
end
theorem count_le {κ : Type} [BEq κ] [LawfulBEq κ] (x : κ) : ∀ D : List κ, D.Nodup → D.count x ≤ 1
  | [], _ => by simp
  | y :: D, h => by
    rw [List.nodup_cons] at h
    rw [List.count_cons]
    cases e : y == x
    · have := count_le x D h.2
      simpa using this
    · obtain rfl := eq_of_beq e
      rw [List.count_eq_zero_of_not_mem h.1]; simp
theorem sum_mem (K : Nat → List Int) (n : Nat) : ∀ D : List (List Int), (D.map fun key => (memI K (n + 1) key).length).sum = (D.map fun key => (memI K n key).length).sum + D.count (K n)
  | [] => by simp
  | y :: D => by
    have := sum_mem K n D
    simp only [List.map_cons, List.sum_cons, List.count_cons, this]
    rw [memI_succ]
    unfold updF
    by_cases e : y = K n
    · subst e; simp; omega
    · have e' : ¬ (y == K n) = true := by simpa using e
      simp [e]; omega
theorem sum_le (K : Nat → List Int) (D : List (List Int)) (h : D.Nodup) : ∀ n, (D.map fun key => (memI K n key).length).sum ≤ n
  | 0 => by
    have e : (fun key => (memI K 0 key).length) = fun _ => 0 := by funext key; simp [memI]
    rw [e, List.map_const', List.sum_replicate_nat]; simp
  | n + 1 => by
    have := sum_le K D h n
    have := count_le (K n) D h
    rw [sum_mem]; omega
theorem out_len (K : Nat → List Int) (n : Nat) (sd : Int) (hn : n ≤ 1000000) (D : List (List Int)) (h : D.Nodup) : (D.flatMap (shM K n sd)).length ≤ n := by
  have e : (D.flatMap (shM K n sd)).length = (D.map fun key => (memI K n key).length).sum := by
    rw [List.length_flatMap]
    congr 1
    exact List.map_congr_left fun key _ => (shM_perm hn key).length_eq
  rw [e]; exact sum_le K D h n
theorem done_nodup {K : Nat → List Int} {n : Nat} {sd : Int} (hn : n ≤ 1000000) (k j : Nat) (hk : k < (sNs K n).length) (hj : j ≤ (shB K n sd (nth (sNs K n) k)).length) : (doneK K n sd k j).Nodup := by
  have h := ordK_nodup (K := K) (n := n) (sd := sd) hn
  refine h.sublist ?_
  unfold ordK doneK
  have e1 : sNs K n = (sNs K n).take k ++ nth (sNs K n) k :: (sNs K n).drop (k + 1) := by
    rw [nth_eq _ _ hk, ← List.drop_eq_getElem_cons hk, List.take_append_drop]
  conv => rhs; rw [e1]
  rw [List.flatMap_append, List.flatMap_cons]
  exact List.Sublist.append (.refl _) ((List.take_sublist _ _).trans (List.sublist_append_left _ _))
/-! ### the memory -/
section
variable {w1 w : World} {b7 b8 : Nat} {gs : List (List Int × Value)} {bs : List (Int × Value)} {vn : Value} {ns : List Int} {mem : List Int → List Int} {kb : Int → List (List Int)} {X : List Rw}
theorem full_row {w : World} {B : Nat} {r : Rw} (h : r.at w B) (hn : r.n ≠ 0) : ∃ g c, r.v = .slice (some ⟨g, 0, none⟩) r.n c ∧ g < w.heap.size ∧ B ≤ g := by
  rcases h.2 with ⟨e1, e2⟩ | ⟨g, cap, cur, e1, hg, hh, -⟩
  · exact absurd e2 hn
  · exact ⟨g, cap, e1, lt_of_block hh, hg⟩
theorem GSt.at8 (h : GSt w1 w b7 b8 gs bs vn ns mem kb X) {b : Int} (hb : b ∈ bs.map Prod.fst) (hne : (kb b).length ≠ 0) : ∃ g c, (b, Value.slice (some ⟨g, 0, none⟩) (kb b).length c) ∈ bs := by
  obtain ⟨⟨b', v⟩, hg, rfl⟩ := List.mem_map.1 hb
  obtain ⟨g, c, e, -, -⟩ := full_row (h.row8 hg) hne
  exact ⟨g, c, by rw [← (show v = _ from e)]; exact hg⟩
theorem GSt.at7 (h : GSt w1 w b7 b8 gs bs vn ns mem kb X) {key : List Int} (hb : key ∈ gs.map Prod.fst) (hne : (mem key).length ≠ 0) : ∃ g c, (key, Value.slice (some ⟨g, 0, none⟩) (mem key).length c) ∈ gs := by
  obtain ⟨⟨b', v⟩, hg, rfl⟩ := List.mem_map.1 hb
  obtain ⟨g, c, e, -, -⟩ := full_row (h.row7 hg) hne
  exact ⟨g, c, by rw [← (show v = _ from e)]; exact hg⟩
theorem GSt.find8 (h : GSt w1 w b7 b8 gs bs vn ns mem kb X) {b : Int} {v : Value} (hb : (b, v) ∈ bs) (hw : wf64 b) : ∀ W, Ext w W → (Instr.lookup 188 (.map (some b8)) (.int .i64 b) false).run Tryz.prog W = .ok v W := fun W e => by
  have := (h.m8.ext e).look_yes keyed3 Tryz.underlying188 (key3 hw) (v := v) (List.mem_map.2 ⟨(b, v), hb, rfl⟩) false
  simpa using this
theorem GSt.find7 (h : GSt w1 w b7 b8 gs bs vn ns mem kb X) {key : List Int} {v : Value} (hb : (key, v) ∈ gs) (hl : key.length = 9) (hw : ∀ x ∈ key, wf64 x) : ∀ W, Ext w W → (Instr.lookup 187 (.map (some b7)) (grV key) false).run Tryz.prog W = .ok v W := fun W e => by
  have := (h.m7.ext e).look_yes keyed191 Tryz.underlying187 (key191 hl hw) (v := v) (List.mem_map.2 ⟨(key, v), hb, rfl⟩) false
  simpa using this
theorem GSt.sort (h : GSt w1 w b7 b8 gs bs vn ns mem kb X) (hn : ns.length ≤ 1000000) : Calls Tryz.prog 109 #[vn] w (fun e w' => e = .returned (.tuple #[]) ∧ GSt w1 w' b7 b8 gs bs vn (srt ns) mem kb X) := by
  rcases h.rows.mid.2 with ⟨e1, e2⟩ | ⟨g, cap, cur, e1, -⟩
  · have e1' : vn = .slice none 0 0 := e1
    have e3 : ns = [] := List.length_eq_zero_iff.1 e2
    rw [e1']
    refine (sort_none none 0 w).mono ?_
    rintro e w' ⟨rfl, rfl⟩
    subst e3
    refine ⟨rfl, ?_⟩
    rw [← e1']
    have : srt [] = [] := List.length_eq_zero_iff.1 (srt_len [])
    rw [this]; exact h
  · have e1' : vn = .slice (some ⟨g, 0, none⟩) ns.length cap := e1
    subst e1'
    refine (sort_ints w1.heap.size g cap ns w h.rows.mid hn).mono ?_
    rintro e w' ⟨rfl, hx, ho⟩
    refine ⟨rfl, Ws.wr h (r' := rwI (.slice (some ⟨g, 0, none⟩) ns.length cap) (srt ns)) hx rfl rfl ?_⟩
    exact ho
theorem GSt.shufG (h : GSt w1 w b7 b8 gs bs vn ns mem kb X) {b : Int} {g c m : Nat} (hb : (b, Value.slice (some ⟨g, 0, none⟩) m c) ∈ bs) (hm : (kb b).length = m) (hl : m ≤ 1000000) (s : Int) :
    Calls Tryz.prog 127 #[.int .u64 s, .slice (some ⟨g, 0, none⟩) m c] w (fun e w' => e = .returned (.tuple #[]) ∧ GSt w1 w' b7 b8 gs bs vn ns mem (updF kb b (shufL s (kb b))) X) := by
  have hnd := M8l_nodup h.m8.nodup
  obtain ⟨c1, c2, rfl⟩ := List.append_of_mem hb
  obtain ⟨n1, n2⟩ := nodup_split hnd
  have e : X ++ (rwI vn ns :: (G7 mem gs ++ G8 kb (c1 ++ (b, Value.slice (some ⟨g, 0, none⟩) m c) :: c2))) = (X ++ rwI vn ns :: (G7 mem gs ++ G8 kb c1)) ++ rwG (.slice (some ⟨g, 0, none⟩) m c) (kb b) :: G8 kb c2 := by simp [G8]
  have h' : Ws w1 w b7 b8 (M7l gs) (M8l (c1 ++ (b, Value.slice (some ⟨g, 0, none⟩) m c) :: c2)) ((X ++ rwI vn ns :: (G7 mem gs ++ G8 kb c1)) ++ rwG (.slice (some ⟨g, 0, none⟩) m c) (kb b) :: G8 kb c2) := by rw [← e]; exact h
  refine (shuffle_gr w1.heap.size g m c s (kb b) w hm hl h'.rows.mid (h'.rows.mid.lt g rfl).2).mono ?_
  rintro e w' ⟨rfl, hx, ho⟩
  refine ⟨rfl, ?_⟩
  have hlen : (shufK m s (kb b)).length = m := by rw [(shufK_perm m s (kb b) (by omega) hl).length_eq, hm]
  have h2 := Ws.wr h' (r' := rwG (.slice (some ⟨g, 0, none⟩) m c) (shufK m s (kb b))) hx rfl rfl ho
  have e2 : X ++ (rwI vn ns :: (G7 mem gs ++ G8 (updF kb b (shufL s (kb b))) (c1 ++ (b, Value.slice (some ⟨g, 0, none⟩) m c) :: c2))) = (X ++ rwI vn ns :: (G7 mem gs ++ G8 kb c1)) ++ rwG (.slice (some ⟨g, 0, none⟩) m c) (shufK m s (kb b)) :: G8 kb c2 := by
    rw [G8_app, G8_upd _ _ _ _ n1]
    have : G8 (updF kb b (shufL s (kb b))) ((b, Value.slice (some ⟨g, 0, none⟩) m c) :: c2) = rwG (.slice (some ⟨g, 0, none⟩) m c) (shufK m s (kb b)) :: G8 kb c2 := by
      have := G8_upd kb b (shufL s (kb b)) c2 n2
      unfold G8 at this ⊢
      rw [List.map_cons, this]
      simp [updF, shufL, hm]
    rw [this]; simp
  unfold GSt; rw [e2]; exact h2
theorem GSt.shufM (h : GSt w1 w b7 b8 gs bs vn ns mem kb X) {key : List Int} {g c m : Nat} (hb : (key, Value.slice (some ⟨g, 0, none⟩) m c) ∈ gs) (hm : (mem key).length = m) (hl : m ≤ 1000000) (s : Int) :
    Calls Tryz.prog 80 #[.int .u64 s, .slice (some ⟨g, 0, none⟩) m c] w (fun e w' => e = .returned (.tuple #[]) ∧ GSt w1 w' b7 b8 gs bs vn ns (updF mem key (shufL s (mem key))) kb X) := by
  have hnd := M7l_nodup h.m7.nodup
  obtain ⟨c1, c2, rfl⟩ := List.append_of_mem hb
  obtain ⟨n1, n2⟩ := nodup_split hnd
  have e : X ++ (rwI vn ns :: (G7 mem (c1 ++ (key, Value.slice (some ⟨g, 0, none⟩) m c) :: c2) ++ G8 kb bs)) = (X ++ rwI vn ns :: G7 mem c1) ++ rwI (.slice (some ⟨g, 0, none⟩) m c) (mem key) :: (G7 mem c2 ++ G8 kb bs) := by simp [G7]
  have h' : Ws w1 w b7 b8 (M7l (c1 ++ (key, Value.slice (some ⟨g, 0, none⟩) m c) :: c2)) (M8l bs) ((X ++ rwI vn ns :: G7 mem c1) ++ rwI (.slice (some ⟨g, 0, none⟩) m c) (mem key) :: (G7 mem c2 ++ G8 kb bs)) := by rw [← e]; exact h
  refine (shuffle_int w1.heap.size g m c s (mem key) w hm hl h'.rows.mid (h'.rows.mid.lt g rfl).2).mono ?_
  rintro e w' ⟨rfl, hx, ho⟩
  refine ⟨rfl, ?_⟩
  have h2 := Ws.wr h' (r' := rwI (.slice (some ⟨g, 0, none⟩) m c) (shufK m s (mem key))) hx rfl rfl ho
  have e2 : X ++ (rwI vn ns :: (G7 (updF mem key (shufL s (mem key))) (c1 ++ (key, Value.slice (some ⟨g, 0, none⟩) m c) :: c2) ++ G8 kb bs)) = (X ++ rwI vn ns :: G7 mem c1) ++ rwI (.slice (some ⟨g, 0, none⟩) m c) (shufK m s (mem key)) :: (G7 mem c2 ++ G8 kb bs) := by
    rw [G7_app, G7_upd _ _ _ _ n1]
    have : G7 (updF mem key (shufL s (mem key))) ((key, Value.slice (some ⟨g, 0, none⟩) m c) :: c2) = rwI (.slice (some ⟨g, 0, none⟩) m c) (shufK m s (mem key)) :: G7 mem c2 := by
      have := G7_upd mem key (shufL s (mem key)) c2 n2
      unfold G7 at this ⊢
      rw [List.map_cons, this]
      simp [updF, shufL, hm]
    rw [this]; simp
  unfold GSt; rw [e2]; exact h2
theorem GSt.appO {vo : Value} {out : List Int} (h : GSt w1 w b7 b8 gs bs vn ns mem kb [rwI vo out]) {key : List Int} {g c m : Nat} (hb : (key, Value.slice (some ⟨g, 0, none⟩) m c) ∈ gs) (hm : (mem key).length = m) (h0 : m ≠ 0) (hl : out.length + m ≤ 1000000) :
    ∃ v' w', (Builtin.append_ #[31, 31] 31 #[vo, .slice (some ⟨g, 0, none⟩) m c]).run Tryz.prog w = .ok v' w' ∧ GSt w1 w' b7 b8 gs bs vn ns mem kb [rwI v' (out ++ mem key)] := by
  have hi := (OwnI.ints (show OwnI w w1.heap.size (.slice (some ⟨g, 0, none⟩) m c) (mem key) from h.row7 hb)).1
  have h' : Ws w1 w b7 b8 (M7l gs) (M8l bs) ([] ++ rwI vo out :: (rwI vn ns :: (G7 mem gs ++ G8 kb bs))) := h
  obtain ⟨v', w', r1, r2, r3, r4⟩ := app_intsL w w1.heap.size 31 vo out (mem key) (some ⟨g, 0, none⟩) c h'.rows.mid hi (fun e => h0 (by rw [← hm, e]; rfl)) (by omega) h.ext.size
  rw [hm] at r1
  exact ⟨v', w', r1, Ws.app h' r3 (r' := rwI v' (out ++ mem key)) r2 r4⟩
end
end Go.Proofs.YtplbofhgmflnlaaGreat
end
section
/-
  Walks: order (printed by genm19.py).
-/
set_option linter.unusedVariables false
set_option linter.unusedSimpArgs false
namespace Go.Proofs.YtplbofhgmflnlaaGreat
open Go.RowKit Go.Maps
theorem K_ok {P : Pw} {ss : List Se} (hv : checkE P ss = 0) (i : Nat) (hi : i < ss.length) : (gL P.fs (eth ss i)).length = 9 ∧ (∀ x ∈ gL P.fs (eth ss i), wf64 x) := by
  obtain ⟨h1, h2, h3⟩ := checkE_ok hv
  obtain ⟨h4, -, h5, h6⟩ := setOk (h3 i hi)
  refine ⟨gT_len _ _ _ _, fun x hx => ?_⟩
  simp only [gL, gT, List.mem_cons] at hx
  rcases hx with rfl | hx
  · unfold wf64; omega
  · unfold fl at hx
    obtain ⟨j, hj, rfl⟩ := List.mem_map.1 hx
    split
    · rename_i hc
      simp only [Bool.and_eq_true, decide_eq_true_eq] at hc
      have := levB_at h4 j hc.1
      have h8 := (anyFac_off (planOk h1).2.2.1 j hc.1)
      unfold wf64; omega
    · unfold wf64; omega
theorem range_block {w : World} {g : Nat} {cs : List Value} {T : TypeId} {fz : Nat × Nat} (h : w.heap[g]? = some (.cells cs.toArray T fz)) : w.rangeAt g 0 cs := by
  intro j v hv
  simp only [World.cell?, h, Nat.zero_add, Option.isSome_none, Bool.false_eq_true, if_false]
  simpa using hv
section
variable {w1 w : World} {b7 b8 k : Nat} {K : Nat → List Int} {gs gs' : List (List Int × Value)} {bs : List (Int × Value)} {vn : Value} {key : List Int} {X : List Rw}
theorem stA (hm : K k ∈ ddK K k) (hgs : gs.map Prod.fst = ddK K k) (hbs : bs.map Prod.fst = ddK (KB K) k) (hk : K k = key) (hg : gs'.map Prod.fst = if key ∈ gs.map Prod.fst then gs.map Prod.fst else gs.map Prod.fst ++ [key])
    (h : GSt w1 w b7 b8 gs' bs vn (ddK (KB K) k) (updF (memI K k) key (memI K k key ++ [(k : Int)])) (kbI K k) X) : St w1 w b7 b8 K (k + 1) vn [] := by
  subst hk
  refine ⟨gs', bs, ?_, ?_, ?_⟩
  · rw [hg, hgs, if_pos hm]; simp only [ddK]; rw [if_pos hm]
  · rw [hbs]; simp only [ddK]; rw [if_pos (kb_mem hm)]
  · have e : ddK (KB K) (k + 1) = ddK (KB K) k := by simp only [ddK]; rw [if_pos (kb_mem hm)]
    rw [memI_succ, kbI_old hm, e]
    exact h.drop
theorem stB (hm : K k ∉ ddK K k) (hgs : gs.map Prod.fst = ddK K k) (hbs : bs.map Prod.fst = ddK (KB K) (k + 1)) (hk : K k = key) (hg : gs'.map Prod.fst = if key ∈ gs.map Prod.fst then gs.map Prod.fst else gs.map Prod.fst ++ [key])
    (h : GSt w1 w b7 b8 gs' bs vn (ddK (KB K) (k + 1)) (updF (memI K k) key (memI K k key ++ [(k : Int)])) (kbI K (k + 1)) X) : St w1 w b7 b8 K (k + 1) vn [] := by
  subst hk
  refine ⟨gs', bs, ?_, hbs, ?_⟩
  · rw [hg, hgs, if_neg hm]; simp only [ddK]; rw [if_neg hm]
  · rw [memI_succ]
    exact h.drop
end
set_option maxRecDepth 100000 in
set_option maxHeartbeats 4000000 in
theorem order_any (P : Pw) (a : Option Addr) (ss : List Se) (sc : Nat) (sd : Int) (w : World) (hp : PlanAt w P) (hb : PlanB P) (hs : SetsAt w a ss) (hn : ss.length ≤ 2000) (hv : checkE P ss = 0) (hsd : 0 ≤ sd ∧ sd < 18446744073709551616) :
    Calls Tryz.prog 93 #[planV P, .slice a ss.length sc, .int .u64 sd] w (RetI (ordL (fun i => gL P.fs (eth ss i)) ss.length sd) w) := by
  obtain ⟨h1, h2, h3⟩ := checkE_ok hv
  have hco := fun W (e : Ext w W) p (hp' : p < ss.length) => groupOf_any P (eth ss p) W (hp.ext e) (planOk h1).1 ((hs.ext e).lv p hp') (levB_len (setOk (h3 p hp')).1)
  have hko := fun p (hp' : p < ss.length) => K_ok hv p hp'
  obtain ⟨fs, fa, fc, fo, ga, gc⟩ := P
  simp only at hco hko ⊢
  obtain ⟨K, hK⟩ : ∃ K : Nat → List Int, K = fun i => gL fs (eth ss i) := ⟨_, rfl⟩
  rw [← hK]
  have HCO : Hid (∀ W, Ext w W → ∀ p, p < ss.length → Calls Tryz.prog 126 #[.agg #[.slice fa fs.length fc, .slice ga fo.length gc], setV (eth ss p)] W (Ret (grV (K p)) W)) := fun W e p hp' => by rw [hK]; exact hco W e p hp'
  have HKO : Hid (∀ p, p < ss.length → (K p).length = 9 ∧ ∀ x ∈ K p, wf64 x) := fun p hp' => by rw [hK]; exact hko p hp'
  have HKB : Hid (∀ p, KB K p = (eth ss p).blk) := fun p => by rw [hK]; rfl
  have HS := Lib.hid hs
  clear hco hko hp hb hs h1 h2 h3 hv hK
  have hmm := @run_makeMap Tryz.prog
  go_enter Tryz.func93, Tryz.ntmps93
  go_wp2_with (fail)
  generalize hw1 : World.alloc w _ = w1
  obtain ⟨he, o1, hz1⟩ := alloc1 hw1
  obtain ⟨pb, hpb⟩ : ∃ pb, pb = w.heap.size := ⟨_, rfl⟩
  rw [← hpb] at o1 hz1 ⊢
  rw [show pb + 1 = w1.heap.size from hz1.symm]
  obtain ⟨p0, p1⟩ := obj_cells2 o1
  have HE := Lib.hid he
  clear hw1 o1 he hmm
  generalize hw2 : World.alloc (World.alloc w1 _) _ = w2
  obtain ⟨b7, hb7⟩ : ∃ b7, b7 = w1.heap.size := ⟨_, rfl⟩
  obtain ⟨b8, hb8⟩ : ∃ b8, b8 = w1.heap.size + 1 := ⟨_, rfl⟩
  have HST : Hid (St w1 w2 b7 b8 K 0 (.slice none 0 0) []) := by
    have e1 : Ext w1 (w1.alloc (.map #[] 0)) := (Ext.refl w1).alloc _
    refine ⟨[], [], rfl, rfl, ?_⟩
    rw [← hw2, hb7, hb8]
    refine ⟨e1.alloc _, Nat.le_refl _, by omega, by omega, (MapAt.made 191 w1).ext ((Ext.refl _).alloc _), ?_, ?_⟩
    · have := MapAt.made 3 (w1.alloc (.map #[] 0))
      rwa [heap_size] at this
    · exact (RowsAt.nil _ _).nilrow 3 1
  rw [← hb7, ← (show b8 = b7 + 1 by rw [hb8, hb7])]
  clear hw2 hz1 hb7 hb8 hpb
  go_loopw [9, 23] (fun vn i wr => ∃ k : Nat, k ≤ ss.length ∧ i = .int .i64 k ∧ Hid (St w1 wr b7 b8 K k vn [])) (fun _ i _ => ss.length - (intOf i).toNat)
  case atStart => exact ⟨0, Nat.zero_le _, rfl, HST⟩
  case round =>
    obtain ⟨k, hk, rfl, hst⟩ := hrel
    clear HST
    obtain ⟨gs, bs, hgs, hbs, hG⟩ := hst.out
    have hr := hG.ext
    by_cases hlt : k < ss.length
    · obtain ⟨sb, so, rfl, d0, d1⟩ := set_at (HS.out.ext (HE.out.trans hr)).row k hlt
      have Er := Ext.refl wr
      obtain ⟨hkl, hkw⟩ := HKO.out k hlt
      obtain ⟨A0, hA0⟩ : ∃ A0, A0 = Value.slice (eth ss k).lv.a (eth ss k).lv.xs.length (eth ss k).lv.c := ⟨_, rfl⟩
      obtain ⟨bl, hbl⟩ : ∃ bl, bl = (eth ss k).blk := ⟨_, rfl⟩
      have HA0 := Lib.hid hA0
      have HBL := Lib.hid hbl
      have HBLK : Hid (bl = KB K k) := by rw [Hid, hbl, HKB.out]
      have HA : Hid (setV (eth ss k) = .agg #[A0, .int .i64 bl]) := by rw [hA0, hbl]; rfl
      have HGS := Lib.hid hgs; have HBS := Lib.hid hbs; have HG := Lib.hid hG
      clear hgs hbs hG hA0 hbl
      obtain ⟨l0, l1, l2, l3, l4, l5, l6, l7, l8, hkey⟩ := list9 hkl
      have HKEY := Lib.hid hkey
      have HKW : Hid (∀ x ∈ [l0, l1, l2, l3, l4, l5, l6, l7, l8], wf64 x) := by rw [Hid, ← hkey]; exact hkw
      clear hkey hkl hkw
      go_upto_region 7 with fail
      generalize hw3 : World.alloc wr _ = w3
      obtain ⟨he3, o3, hs3⟩ := alloc1 hw3
      obtain ⟨ab, hab⟩ : ∃ ab, ab = wr.heap.size := ⟨_, rfl⟩
      rw [← hab] at o3 ⊢
      rw [← HA0.out, ← HBL.out] at o3
      obtain ⟨a0, a1⟩ := obj_cells2 o3
      have hr3 := hr.trans he3
      have p0' := fun W (e : Ext w3 W) => p0 W (hr3.trans e)
      have p1' := fun W (e : Ext w3 W) => p1 W (hr3.trans e)
      have HG3 : Hid (GSt w1 w3 b7 b8 gs bs u9 (ddK (KB K) k) (memI K k) (kbI K k) [⟨49, 2, .slice (some ⟨ab, 0, none⟩) 1 1, 1, [A0, .int .i64 bl]⟩]) := Ws.lit HG.out (n := 1) (sz := 2) he3 o3 (by rw [hab]; exact Nat.le_refl _) (by omega) rfl
      have HCL : Hid (∀ W, Ext w3 W → Calls Tryz.prog 126 #[.agg #[.slice fa fs.length fc, .slice ga fo.length gc], .agg #[A0, .int .i64 bl]] W (Ret (.agg #[.int .i64 l0, .int .i64 l1, .int .i64 l2, .int .i64 l3, .int .i64 l4, .int .i64 l5, .int .i64 l6, .int .i64 l7, .int .i64 l8]) W)) := fun W e => by
        have := HCO.out W (HE.out.trans (hr3.trans e)) k hlt
        rw [HA.out, HKEY.out] at this
        exact this
      have E3 := Ext.refl w3
      clear hw3 he3 o3 hs3 hab d0 d1 Er HG HA0 HBL HA
      go_upto_region 8 with (go_at_call 126; (with_reducible refine (HCL.out _ E3).mono ?_); rintro e w4 ⟨rfl, he4⟩)
      generalize hw5 : World.alloc w4 _ = w5
      obtain ⟨he5, o5, hs5⟩ := alloc1 hw5
      obtain ⟨gb, hgb⟩ : ∃ gb, gb = w4.heap.size := ⟨_, rfl⟩
      rw [← hgb] at o5 ⊢
      obtain ⟨XA, hXA⟩ : ∃ XA : Rw, XA = ⟨49, 2, .slice (some ⟨ab, 0, none⟩) 1 1, 1, [A0, .int .i64 bl]⟩ := ⟨_, rfl⟩
      obtain ⟨XG, hXG⟩ : ∃ XG : Rw, XG = ⟨191, 9, .slice (some ⟨gb, 0, none⟩) 1 1, 1, [.int .i64 l0, .int .i64 l1, .int .i64 l2, .int .i64 l3, .int .i64 l4, .int .i64 l5, .int .i64 l6, .int .i64 l7, .int .i64 l8]⟩ := ⟨_, rfl⟩
      have HG5 : Hid (GSt w1 w5 b7 b8 gs bs u9 (ddK (KB K) k) (memI K k) (kbI K k) [XG, XA]) := by
        subst hXA hXG
        exact Ws.lit (GSt.grow HG3.out he4) (n := 1) (sz := 9) he5 o5 (by rw [hgb]; exact Nat.le_refl _) (by omega) rfl
      subst hXA hXG
      obtain ⟨x0, x1, x2, x3, x4, x5, x6, x7, x8⟩ := obj_cells9 o5
      have E5 := Ext.refl w5
      have HGL : Hid (gs.length ≤ 1000000) := by
        have := congrArg List.length HGS.out
        rw [List.length_map] at this
        have := ddK_len K k
        rw [Hid]; omega
      have HBSL : Hid (bs.length ≤ 1000000) := by
        have := congrArg List.length HBS.out
        rw [List.length_map] at this
        have := ddK_len (KB K) k
        rw [Hid]; omega
      have HMZ : Hid ([l0, l1, l2, l3, l4, l5, l6, l7, l8] ∉ gs.map Prod.fst → memI K k [l0, l1, l2, l3, l4, l5, l6, l7, l8] = []) := fun h => by rw [HGS.out] at h; exact memI_none h
      have HBW : Hid (wf64 bl) := by
        rw [Hid, HBLK.out]; unfold KB; rw [HKEY.out]; exact HKW.out _ (by simp [nth])
      have HBZ : Hid (bl ∉ bs.map Prod.fst → kbI K k bl = []) := fun h => by rw [HBS.out] at h; exact kbI_none h
      obtain ⟨m1, m2, hl7⟩ := GSt.look7 HG5.out (key := [l0, l1, l2, l3, l4, l5, l6, l7, l8]) rfl HKW.out HMZ.out
      have hl7' : ∀ W, Ext w5 W → Sem.run Tryz.prog (Instr.lookup 187 (.map (some b7)) (.agg #[.int .i64 l0, .int .i64 l1, .int .i64 l2, .int .i64 l3, .int .i64 l4, .int .i64 l5, .int .i64 l6, .int .i64 l7, .int .i64 l8]) false) W = .ok (.slice m1 (memI K k [l0, l1, l2, l3, l4, l5, l6, l7, l8]).length m2) W := hl7
      clear hw5 o5 hs5 hgb hl7 HG3 HCL E3 p0' p1' a0 a1 he5 he4 hr3 hst
      by_cases hm : K k ∈ ddK K k
      · have hm0 := memI_some hm
        rw [HKEY.out] at hm0
        have HM := Lib.hid hm
        obtain ⟨q, hq⟩ : ∃ q, q = (memI K k [l0, l1, l2, l3, l4, l5, l6, l7, l8]).length := ⟨_, rfl⟩
        rw [← hq] at hm0 hl7'
        have hq0 : ¬ ((q : Int) = 0) := by omega
        clear hq hm hm0
        go_upto_region 12 with fail
        clear hl7' E5 x0 x1 x2 x3 x4 x5 x6 x7 x8 hq0
        have hXA : w5.heap[ab]? = some (.cells #[A0, .int .i64 bl] 49 (0, 0)) := row_block (sz := 2) (n := 1) (HG5.out.rows.own _ (List.mem_cons_of_mem _ (List.mem_cons_self)))
        have hXG : w5.heap[gb]? = some (.cells #[.int .i64 l0, .int .i64 l1, .int .i64 l2, .int .i64 l3, .int .i64 l4, .int .i64 l5, .int .i64 l6, .int .i64 l7, .int .i64 l8] 191 (0, 0)) := row_block (sz := 9) (n := 1) (HG5.out.rows.own _ (List.mem_cons_self))
        obtain ⟨v0, st, wA, r1, v1, wB, r2, wC, r3, gs', hg', hF⟩ := GSt.q12 (HG5.out.grow ((Ext.refl w5).alloc (.cells #[.int .i64 (k : Int)] 3))) (key := [l0, l1, l2, l3, l4, l5, l6, l7, l8]) rfl HKW.out (fun hn' => absurd (by rw [HGS.out, ← HKEY.out]; exact HM.out) hn') HGL.out (Nat.le_trans (memI_len K k _) (by omega)) (k : Int) (heap_new _ _)
        have HF := Lib.hid (stA HM.out HGS.out HBS.out HKEY.out hg' hF)
        have r1' : Sem.run Tryz.prog (Instr.mapEntry 187 (.map (some b7)) (.agg #[.int .i64 l0, .int .i64 l1, .int .i64 l2, .int .i64 l3, .int .i64 l4, .int .i64 l5, .int .i64 l6, .int .i64 l7, .int .i64 l8])) (w5.alloc (.cells #[.int .i64 (k : Int)] 3)) = .ok (.tuple #[v0, .int .i64 (st : Nat)]) wA := r1
        have HR2 := Lib.hid r2
        obtain ⟨x0, x1, x2, x3, x4, x5, x6, x7, x8⟩ := obj_cells9 hXG
        have EW := Ext.refl w5
        clear hF hg' r1 r2 hXA hXG HG5
        go_wp2_with (at_builtin; refine wpList_app _ rfl _ _ 31 rfl (fun v w3 => v = v1 ∧ w3 = wB) ⟨_, _, HR2.out, rfl, rfl⟩ ?_; rintro _ _ ⟨rfl, rfl⟩)
        go_roundw
        case rel => exact ⟨k + 1, by omega, by go_num, HF⟩
        case measure => first | (simp [intOf]; done) | (simp [intOf]; omega)
      · have hm0 := memI_none hm
        rw [HKEY.out] at hm0
        have HM := Lib.hid hm
        rw [hm0] at hl7'
        clear hm hm0
        obtain ⟨m3, m4, hl8⟩ := GSt.look8 HG5.out (b := bl) HBW.out HBZ.out
        have hXA : w5.heap[ab]? = some (.cells #[A0, .int .i64 bl] 49 (0, 0)) := row_block (sz := 2) (n := 1) (HG5.out.rows.own _ (List.mem_cons_of_mem _ (List.mem_cons_self)))
        obtain ⟨y0, y1⟩ := obj_cells2 hXA
        clear hXA
        by_cases hnb : bl ∈ ddK (KB K) k
        · have hm0 := kbI_some hnb
          have HNB := Lib.hid hnb
          obtain ⟨q, hq⟩ : ∃ q, q = (kbI K k bl).length := ⟨_, rfl⟩
          rw [← hq] at hm0 hl8
          have hq0 : ¬ ((q : Int) = 0) := by omega
          clear hq hnb hm0
          go_upto_region 11 with fail
          clear hl7' hl8 E5 x0 x1 x2 x3 x4 x5 x6 x7 x8 hq0 y0 y1
          have hXA : w5.heap[ab]? = some (.cells #[A0, .int .i64 bl] 49 (0, 0)) := row_block (sz := 2) (n := 1) (HG5.out.rows.own _ (List.mem_cons_of_mem _ (List.mem_cons_self)))
          have hXG : w5.heap[gb]? = some (.cells #[.int .i64 l0, .int .i64 l1, .int .i64 l2, .int .i64 l3, .int .i64 l4, .int .i64 l5, .int .i64 l6, .int .i64 l7, .int .i64 l8] 191 (0, 0)) := row_block (sz := 9) (n := 1) (HG5.out.rows.own _ (List.mem_cons_self))
          obtain ⟨V, S, R, q1, q2, q3, q4, q5⟩ := GSt.q11 HG5.out (b := bl) HBW.out HBZ.out HBSL.out (Nat.le_trans (kbI_len K k _) (by omega)) [l0, l1, l2, l3, l4, l5, l6, l7, l8]
          have HCB : Hid (∀ W, Ext w5 W → W.cell? ⟨ab, 1, none⟩ = some (.int .i64 bl)) := fun W e => (obj_cells2 hXA).2 W e
          have HCG : Hid (∀ W, Ext w5 W → W.rangeAt gb 0 [.int .i64 l0, .int .i64 l1, .int .i64 l2, .int .i64 l3, .int .i64 l4, .int .i64 l5, .int .i64 l6, .int .i64 l7, .int .i64 l8]) := fun W e => range_block (e.block hXG)
          have HLK := Lib.hid q1
          have HAPP : Hid (∀ W, Ext w5 W → ∀ g, W.heap[g]? = some (.cells #[.int .i64 l0, .int .i64 l1, .int .i64 l2, .int .i64 l3, .int .i64 l4, .int .i64 l5, .int .i64 l6, .int .i64 l7, .int .i64 l8] 191 (0, 0)) → ∃ v' w', (Builtin.append_ #[193, 193] 193 #[V, .slice (some ⟨g, 0, none⟩) 1 1]).run Tryz.prog W = .ok v' w' ∧ S w' v') := fun W e g hg => q2 W e g (by rw [grC_eq rfl]; exact hg)
          have HST := Lib.hid q3
          have HSB : Hid (∀ W v', S W v' → W.cell? ⟨ab, 1, none⟩ = some (.int .i64 bl)) := fun W v' hs => (obj_cells2 (row_block (sz := 2) (n := 1) (q4 W v' hs _ (List.mem_cons_of_mem _ (List.mem_cons_self))))).2 W (Ext.refl W)
          have HQ5 := Lib.hid q5
          clear q1 q2 q3 q4 q5 hXA hXG HG5
          go_upto_region 11 with fail
          refine or_law HCB HCG HLK HAPP HST HSB _ (by rfl) rfl rfl rfl ?_
          intro vs w9 ls9 hl9 hJ9 e0 e1 e2 e3 e4 e5 e6 e7 e8 e9
          simp only [Act.put, List.setIfInBounds_toArray, List.set_cons_zero, List.set_cons_succ]
          rw [e0, e1, e2, e3, e4, e5, e6, e7]
          obtain ⟨-, -, -, j4⟩ := hJ9
          obtain ⟨bs', hb', hG'⟩ := HQ5.out w9 (j4 (hl9 10 (by omega)))
          have HGN : Hid (GSt w1 w9 b7 b8 gs bs' u9 (ddK (KB K) (k + 1)) (memI K k) (kbI K (k + 1)) [⟨191, 9, .slice (some ⟨gb, 0, none⟩) 1 1, 1, [.int .i64 l0, .int .i64 l1, .int .i64 l2, .int .i64 l3, .int .i64 l4, .int .i64 l5, .int .i64 l6, .int .i64 l7, .int .i64 l8]⟩, ⟨49, 2, .slice (some ⟨ab, 0, none⟩) 1 1, 1, [A0, .int .i64 bl]⟩]) := by
            rw [Hid, kbI_new HM.out, ← HBLK.out, HKEY.out]
            rw [show ddK (KB K) (k + 1) = ddK (KB K) k from (by simp only [ddK]; rw [← HBLK.out, if_pos HNB.out])]
            exact hG'
          have HBN : Hid (bs'.map Prod.fst = ddK (KB K) (k + 1)) := by
            rw [Hid, hb', HBS.out]
            exact (by rw [if_pos HNB.out]; simp only [ddK]; rw [← HBLK.out, if_pos HNB.out])
          clear j4 hb' hG' HCB HCG HLK HAPP HST HSB HQ5 hl9 e0 e1 e2 e3 e4 e5 e6 e7
          have hXA : w9.heap[ab]? = some (.cells #[A0, .int .i64 bl] 49 (0, 0)) := row_block (sz := 2) (n := 1) (HGN.out.rows.own _ (List.mem_cons_of_mem _ (List.mem_cons_self)))
          have hXG : w9.heap[gb]? = some (.cells #[.int .i64 l0, .int .i64 l1, .int .i64 l2, .int .i64 l3, .int .i64 l4, .int .i64 l5, .int .i64 l6, .int .i64 l7, .int .i64 l8] 191 (0, 0)) := row_block (sz := 9) (n := 1) (HGN.out.rows.own _ (List.mem_cons_self))
          obtain ⟨v0, st, wA, r1, v1, wB, r2, wC, r3, gs', hg', hF⟩ := GSt.q12 (HGN.out.grow ((Ext.refl w9).alloc (.cells #[.int .i64 (k : Int)] 3))) (key := [l0, l1, l2, l3, l4, l5, l6, l7, l8]) rfl HKW.out (fun _ => by rw [← HKEY.out]; exact memI_none HM.out) HGL.out (Nat.le_trans (memI_len K k _) (by omega)) (k : Int) (heap_new _ _)
          have HF := Lib.hid (stB HM.out HGS.out HBN.out HKEY.out hg' hF)
          have r1' : Sem.run Tryz.prog (Instr.mapEntry 187 (.map (some b7)) (.agg #[.int .i64 l0, .int .i64 l1, .int .i64 l2, .int .i64 l3, .int .i64 l4, .int .i64 l5, .int .i64 l6, .int .i64 l7, .int .i64 l8])) (w9.alloc (.cells #[.int .i64 (k : Int)] 3)) = .ok (.tuple #[v0, .int .i64 (st : Nat)]) wA := r1
          have HR2 := Lib.hid r2
          obtain ⟨x0, x1, x2, x3, x4, x5, x6, x7, x8⟩ := obj_cells9 hXG
          have EW := Ext.refl w9
          clear hF hg' r1 r2 hXA hXG HGN
          go_wp2_with (at_builtin; refine wpList_app _ rfl _ _ 31 rfl (fun v w3 => v = v1 ∧ w3 = wB) ⟨_, _, HR2.out, rfl, rfl⟩ ?_; rintro _ _ ⟨rfl, rfl⟩)
          go_roundw
          case rel => exact ⟨k + 1, by omega, by go_num, HF⟩
          case measure => first | (simp [intOf]; done) | (simp [intOf]; omega)
        · have hm0 := kbI_none hnb
          have HNB := Lib.hid hnb
          rw [hm0] at hl8
          clear hnb hm0
          go_upto_region 10 with fail
          clear hl7' hl8 x0 x1 x2 x3 x4 x5 x6 x7 x8 y0 y1
          obtain ⟨vN, wN, r1, hG6⟩ := GSt.q10 (HG5.out.grow ((Ext.refl w5).alloc (.cells #[.int .i64 bl] 3))) bl (heap_new _ _) (Nat.le_trans (ddK_len (KB K) k) (by omega))
          have HG6 := Lib.hid hG6
          have HR1 := Lib.hid r1
          have hXA : w5.heap[ab]? = some (.cells #[A0, .int .i64 bl] 49 (0, 0)) := row_block (sz := 2) (n := 1) (HG5.out.rows.own _ (List.mem_cons_of_mem _ (List.mem_cons_self)))
          have hXG : w5.heap[gb]? = some (.cells #[.int .i64 l0, .int .i64 l1, .int .i64 l2, .int .i64 l3, .int .i64 l4, .int .i64 l5, .int .i64 l6, .int .i64 l7, .int .i64 l8] 191 (0, 0)) := row_block (sz := 9) (n := 1) (HG5.out.rows.own _ (List.mem_cons_self))
          obtain ⟨a0, a1⟩ := obj_cells2 hXA
          clear hXA hXG r1 hG6 HG5
          go_upto_region 11 with (at_builtin; refine wpList_app _ rfl _ _ 31 rfl (fun v w3 => vN = v ∧ wN = w3) ⟨_, _, HR1.out, rfl, rfl⟩ ?_; rintro _ _ ⟨rfl, rfl⟩)
          clear a0 a1 HR1
          have hXA : wN.heap[ab]? = some (.cells #[A0, .int .i64 bl] 49 (0, 0)) := row_block (sz := 2) (n := 1) (HG6.out.rows.own _ (List.mem_cons_of_mem _ (List.mem_cons_self)))
          have hXG : wN.heap[gb]? = some (.cells #[.int .i64 l0, .int .i64 l1, .int .i64 l2, .int .i64 l3, .int .i64 l4, .int .i64 l5, .int .i64 l6, .int .i64 l7, .int .i64 l8] 191 (0, 0)) := row_block (sz := 9) (n := 1) (HG6.out.rows.own _ (List.mem_cons_self))
          obtain ⟨V, S, R, q1, q2, q3, q4, q5⟩ := GSt.q11 HG6.out (b := bl) HBW.out HBZ.out HBSL.out (Nat.le_trans (kbI_len K k _) (by omega)) [l0, l1, l2, l3, l4, l5, l6, l7, l8]
          have HCB : Hid (∀ W, Ext wN W → W.cell? ⟨ab, 1, none⟩ = some (.int .i64 bl)) := fun W e => (obj_cells2 hXA).2 W e
          have HCG : Hid (∀ W, Ext wN W → W.rangeAt gb 0 [.int .i64 l0, .int .i64 l1, .int .i64 l2, .int .i64 l3, .int .i64 l4, .int .i64 l5, .int .i64 l6, .int .i64 l7, .int .i64 l8]) := fun W e => range_block (e.block hXG)
          have HLK := Lib.hid q1
          have HAPP : Hid (∀ W, Ext wN W → ∀ g, W.heap[g]? = some (.cells #[.int .i64 l0, .int .i64 l1, .int .i64 l2, .int .i64 l3, .int .i64 l4, .int .i64 l5, .int .i64 l6, .int .i64 l7, .int .i64 l8] 191 (0, 0)) → ∃ v' w', (Builtin.append_ #[193, 193] 193 #[V, .slice (some ⟨g, 0, none⟩) 1 1]).run Tryz.prog W = .ok v' w' ∧ S w' v') := fun W e g hg => q2 W e g (by rw [grC_eq rfl]; exact hg)
          have HST := Lib.hid q3
          have HSB : Hid (∀ W v', S W v' → W.cell? ⟨ab, 1, none⟩ = some (.int .i64 bl)) := fun W v' hs => (obj_cells2 (row_block (sz := 2) (n := 1) (q4 W v' hs _ (List.mem_cons_of_mem _ (List.mem_cons_self))))).2 W (Ext.refl W)
          have HQ5 := Lib.hid q5
          clear q1 q2 q3 q4 q5 hXA hXG HG6
          go_upto_region 11 with fail
          refine or_law HCB HCG HLK HAPP HST HSB _ (by rfl) rfl rfl rfl ?_
          intro vs w9 ls9 hl9 hJ9 e0 e1 e2 e3 e4 e5 e6 e7 e8 e9
          simp only [Act.put, List.setIfInBounds_toArray, List.set_cons_zero, List.set_cons_succ]
          rw [e0, e1, e2, e3, e4, e5, e6, e7]
          obtain ⟨-, -, -, j4⟩ := hJ9
          obtain ⟨bs', hb', hG'⟩ := HQ5.out w9 (j4 (hl9 10 (by omega)))
          have HGN : Hid (GSt w1 w9 b7 b8 gs bs' vN (ddK (KB K) (k + 1)) (memI K k) (kbI K (k + 1)) [⟨191, 9, .slice (some ⟨gb, 0, none⟩) 1 1, 1, [.int .i64 l0, .int .i64 l1, .int .i64 l2, .int .i64 l3, .int .i64 l4, .int .i64 l5, .int .i64 l6, .int .i64 l7, .int .i64 l8]⟩, ⟨49, 2, .slice (some ⟨ab, 0, none⟩) 1 1, 1, [A0, .int .i64 bl]⟩]) := by
            rw [Hid, kbI_new HM.out, ← HBLK.out, HKEY.out]
            rw [show ddK (KB K) (k + 1) = ddK (KB K) k ++ [bl] from (by simp only [ddK]; rw [← HBLK.out, if_neg HNB.out])]
            exact hG'
          have HBN : Hid (bs'.map Prod.fst = ddK (KB K) (k + 1)) := by
            rw [Hid, hb', HBS.out]
            exact (by rw [if_neg HNB.out]; simp only [ddK]; rw [← HBLK.out, if_neg HNB.out])
          clear j4 hb' hG' HCB HCG HLK HAPP HST HSB HQ5 hl9 e0 e1 e2 e3 e4 e5 e6 e7
          have hXA : w9.heap[ab]? = some (.cells #[A0, .int .i64 bl] 49 (0, 0)) := row_block (sz := 2) (n := 1) (HGN.out.rows.own _ (List.mem_cons_of_mem _ (List.mem_cons_self)))
          have hXG : w9.heap[gb]? = some (.cells #[.int .i64 l0, .int .i64 l1, .int .i64 l2, .int .i64 l3, .int .i64 l4, .int .i64 l5, .int .i64 l6, .int .i64 l7, .int .i64 l8] 191 (0, 0)) := row_block (sz := 9) (n := 1) (HGN.out.rows.own _ (List.mem_cons_self))
          obtain ⟨v0, st, wA, r1, v1, wB, r2, wC, r3, gs', hg', hF⟩ := GSt.q12 (HGN.out.grow ((Ext.refl w9).alloc (.cells #[.int .i64 (k : Int)] 3))) (key := [l0, l1, l2, l3, l4, l5, l6, l7, l8]) rfl HKW.out (fun _ => by rw [← HKEY.out]; exact memI_none HM.out) HGL.out (Nat.le_trans (memI_len K k _) (by omega)) (k : Int) (heap_new _ _)
          have HF := Lib.hid (stB HM.out HGS.out HBN.out HKEY.out hg' hF)
          have r1' : Sem.run Tryz.prog (Instr.mapEntry 187 (.map (some b7)) (.agg #[.int .i64 l0, .int .i64 l1, .int .i64 l2, .int .i64 l3, .int .i64 l4, .int .i64 l5, .int .i64 l6, .int .i64 l7, .int .i64 l8])) (w9.alloc (.cells #[.int .i64 (k : Int)] 3)) = .ok (.tuple #[v0, .int .i64 (st : Nat)]) wA := r1
          have HR2 := Lib.hid r2
          obtain ⟨x0, x1, x2, x3, x4, x5, x6, x7, x8⟩ := obj_cells9 hXG
          have EW := Ext.refl w9
          clear hF hg' r1 r2 hXA hXG HGN
          go_wp2_with (at_builtin; refine wpList_app _ rfl _ _ 31 rfl (fun v w3 => v = v1 ∧ w3 = wB) ⟨_, _, HR2.out, rfl, rfl⟩ ?_; rintro _ _ ⟨rfl, rfl⟩)
          go_roundw
          case rel => exact ⟨k + 1, by omega, by go_num, HF⟩
          case measure => first | (simp [intOf]; done) | (simp [intOf]; omega)
    · obtain ⟨n, hnn⟩ : ∃ n, n = ss.length := ⟨_, rfl⟩
      obtain rfl : k = n := by omega
      have HNN := Lib.hid hnn
      rw [← hnn] at hlt hn ⊢
      have HKO2 : Hid (∀ p, p < k → (K p).length = 9 ∧ ∀ x ∈ K p, wf64 x) := fun p h => HKO.out p (by rw [HNN.out] at h; exact h)
      have hkk : Hid (∀ key ∈ ddK K k, key.length = 9 ∧ ∀ x ∈ key, wf64 x) := fun key h => by
        obtain ⟨p, hp, e⟩ := (mem_ddK K key k).1 h
        rw [← e]; exact HKO2.out p hp
      have hbb : Hid (∀ b ∈ ddK (KB K) k, wf64 b) := fun b h => by
        obtain ⟨p, hp, e⟩ := (mem_ddK (KB K) b k).1 h
        obtain ⟨h9, hw9⟩ := HKO2.out p hp
        rw [← e]; unfold KB
        rw [nth_eq _ _ (by omega)]
        exact hw9 _ (List.getElem_mem _)
      obtain ⟨nN, hnN⟩ : ∃ nN, nN = (ddK (KB K) k).length := ⟨_, rfl⟩
      have hnN2 : nN ≤ 2000 := by have := ddK_len (KB K) k; omega
      have hsl : ∃ na nc, u9 = .slice na nN nc := by
        obtain ⟨na, nc, e⟩ := slice_row (show (rwI u9 (ddK (KB K) k)).at wr w1.heap.size from hG.rows.mid)
        exact ⟨na, nc, by rw [hnN]; exact e⟩
      obtain ⟨na, nc, rfl⟩ := hsl
      have HSO : Hid (Calls Tryz.prog 109 #[.slice na nN nc] wr (fun e w' => e = .returned (.tuple #[]) ∧ GSt w1 w' b7 b8 gs bs (.slice na nN nc) (sNs K k) (memI K k) (kbI K k) [])) := hG.sort (by rw [← hnN]; omega)
      have HSL : Hid ((sNs K k).length = nN) := by rw [Hid, sNs_len, hnN]
      have HGS := Lib.hid hgs; have HBS := Lib.hid hbs
      clear hnn hlt hst hG hgs hbs hk hnN hr HS HKO HCO HKB HKO2
      go_wp2_with (go_at_call 109; (with_reducible refine HSO.out.mono ?_); rintro e wS ⟨rfl, hGS⟩; have HG0 := Lib.hid hGS; clear hGS HSO)
      have HG1 : Hid (GSt w1 wS b7 b8 gs bs (.slice na nN nc) (sNs K k) (mem2 K k sd (doneK K k sd 0 0)) (kb2 K k sd ((sNs K k).take 0)) [rwI (.slice none 0 0) ((doneK K k sd 0 0).flatMap (shM K k sd))]) := by
        rw [Hid, done_zero, List.take_zero, mem2_nil, kb2_nil]
        exact Ws.nilrow HG0.out 3 1
      clear HG0
      go_loopw [13, 70] (fun vo i wr => ∃ q : Nat, q ≤ nN ∧ i = .int .i64 q ∧ Hid (GSt w1 wr b7 b8 gs bs (.slice na nN nc) (sNs K k) (mem2 K k sd (doneK K k sd q 0)) (kb2 K k sd ((sNs K k).take q)) [rwI vo ((doneK K k sd q 0).flatMap (shM K k sd))])) (fun _ i _ => nN - (intOf i).toNat)
      case atStart => exact ⟨0, Nat.zero_le _, rfl, HG1⟩
      case round =>
        obtain ⟨q, hq, rfl, hG⟩ := hrel
        clear HG1
        obtain ⟨wo, rfl⟩ : ∃ wo : World, wo = wr := ⟨_, rfl⟩
        by_cases hlt : q < nN
        · have hi := (OwnI.ints (show OwnI wo w1.heap.size (.slice na nN nc) (sNs K k) from hG.out.rows.own (rwI (.slice na nN nc) (sNs K k)) (by simp))).1
          obtain ⟨xo, xp, rfl, d0⟩ := hi.at q (by rw [HSL.out]; exact hlt)
          have Eo := Ext.refl wo
          have HQL : Hid (q < (sNs K k).length) := by rw [Hid, HSL.out]; exact hlt
          obtain ⟨bl, hbl⟩ : ∃ bl, bl = nth (sNs K k) q := ⟨_, rfl⟩
          have HBM : Hid (bl ∈ ddK (KB K) k) := by rw [Hid, hbl, ← sNs_mem, nth_eq _ _ HQL.out]; exact List.getElem_mem _
          have HBL := Lib.hid hbl
          rw [← hbl] at d0
          have hkb : kb2 K k sd ((sNs K k).take q) bl = kbI K k bl := by unfold kb2; rw [hbl, if_neg (take_new q HQL.out)]
          obtain ⟨g8, c8, h8⟩ := hG.out.at8 (b := bl) (by rw [HBS.out]; exact HBM.out) (by rw [hkb]; exact kbI_some HBM.out)
          rw [hkb] at h8
          obtain ⟨m8, hm8⟩ : ∃ m8, m8 = (kbI K k bl).length := ⟨_, rfl⟩
          rw [← hm8] at h8
          have hm82 : m8 ≤ 2000 := by have := kbI_len K k bl; omega
          have hf8 := hG.out.find8 h8 (hbb.out _ HBM.out)
          have HCG : Hid (Calls Tryz.prog 127 #[.int .u64 (IntKind.u64.wrap (sd + IntKind.u64.wrap (IntKind.u64.wrap bl * 1000003))), .slice (some ⟨g8, 0, none⟩) m8 c8] wo (fun e w' => e = .returned (.tuple #[]) ∧ GSt w1 w' b7 b8 gs bs (.slice (some ⟨xo, xp, none⟩) nN nc) (sNs K k) (mem2 K k sd (doneK K k sd q 0)) (kb2 K k sd ((sNs K k).take (q + 1))) [rwI u13 ((doneK K k sd q 0).flatMap (shM K k sd))])) := by
            refine (hG.out.shufG h8 (by rw [hkb, hm8]) (by omega) _).mono ?_
            rintro e w' ⟨rfl, hg⟩
            refine ⟨rfl, ?_⟩
            rw [List.take_succ_eq_append_getElem HQL.out, ← nth_eq _ _ HQL.out, ← hbl, kb2_succ (by rw [hbl]; exact take_new q HQL.out)]
            rw [hkb] at hg
            exact hg
          have HM8 : Hid (m8 = (shB K k sd bl).length) := by rw [Hid, (shB_perm (by omega) bl).length_eq, hm8]
          have H8 := Lib.hid h8
          clear hi hbl hkb h8 hm8 hG
          go_upto_region 20 with (go_at_call 127; (with_reducible refine HCG.out.mono ?_); rintro e wG ⟨rfl, hg⟩; have HG2 := Lib.hid hg; clear hg)
          clear HCG hf8 d0 Eo
          have hf8 := HG2.out.find8 H8.out (hbb.out _ HBM.out)
          have Eg := Ext.refl wG
          go_wp2_with (fail)
          clear hf8 Eg
          go_loopw [13, 87] (fun vo i wr => ∃ j : Nat, j ≤ m8 ∧ i = .int .i64 j ∧ Hid (GSt w1 wr b7 b8 gs bs (.slice (some ⟨xo, xp, none⟩) nN nc) (sNs K k) (mem2 K k sd (doneK K k sd q j)) (kb2 K k sd ((sNs K k).take (q + 1))) [rwI vo ((doneK K k sd q j).flatMap (shM K k sd))])) (fun _ i _ => m8 - (intOf i).toNat)
          case atStart => exact ⟨0, Nat.zero_le _, rfl, HG2⟩
          case round =>
            obtain ⟨j, hj, rfl, hG⟩ := hrel
            clear HG2
            obtain ⟨wi, rfl⟩ : ∃ wi : World, wi = wr := ⟨_, rfl⟩
            by_cases hlt2 : j < m8
            · have HJL : Hid (j < (shB K k sd (nth (sNs K k) q)).length) := by rw [Hid, ← HBL.out, ← HM8.out]; exact hlt2
              obtain ⟨key, hkey⟩ : ∃ key, key = kth (shB K k sd bl) j := ⟨_, rfl⟩
              have hkm : key ∈ ddK K k := by
                have : key ∈ shB K k sd bl := by rw [hkey, kth_eq _ _ (by rw [← HM8.out]; exact hlt2)]; exact List.getElem_mem _
                exact (shB_mem (by omega) this).1
              have hnew : key ∉ doneK K k sd q j := by
                have := done_new (K := K) (n := k) (sd := sd) (by omega) q j HQL.out HJL.out
                rw [← HBL.out, ← hkey] at this; exact this
              have hds : doneK K k sd q (j + 1) = doneK K k sd q j ++ [key] := by rw [done_succ q j HJL.out, ← HBL.out, ← hkey]
              have hkb : kb2 K k sd ((sNs K k).take (q + 1)) bl = shB K k sd bl := by
                unfold kb2
                rw [if_pos (by rw [HBL.out, nth_eq _ _ HQL.out, List.take_succ_eq_append_getElem HQL.out]; exact List.mem_append_right _ (List.mem_singleton.2 rfl))]
              obtain ⟨hk9, hkw⟩ := hkk.out key hkm
              have hrg : wi.rangeAt g8 (j * 9) (rowI key) := by
                have hrow := hG.out.row8 H8.out
                have := OwnF.range grC_len (show OwnG wi w1.heap.size (.slice (some ⟨g8, 0, none⟩) m8 c8) (kb2 K k sd ((sNs K k).take (q + 1)) bl) from hrow) j (by rw [hkb, ← HM8.out]; exact hlt2)
                have e : (kb2 K k sd ((sNs K k).take (q + 1)) bl)[j]'(by rw [hkb, ← HM8.out]; exact hlt2) = key := by
                  rw [hkey, kth_eq _ _ (by rw [← HM8.out]; exact hlt2)]
                  simp only [hkb]
                rw [e, grC_eq hk9] at this
                exact this
              have hmm : mem2 K k sd (doneK K k sd q j) key = memI K k key := by unfold mem2; rw [if_neg hnew]
              obtain ⟨gm, cm, h7⟩ := hG.out.at7 (key := key) (by rw [HGS.out]; exact hkm) (by rw [hmm]; exact memI_some hkm)
              rw [hmm] at h7
              obtain ⟨mm, hm7⟩ : ∃ mm, mm = (memI K k key).length := ⟨_, rfl⟩
              rw [← hm7] at h7
              have hm72 : mm ≤ 2000 := by have := memI_len K k key; omega
              have hm70 : 0 < mm := by have := memI_some hkm; omega
              obtain ⟨x, hx⟩ : ∃ x, x = nth (memI K k key) 0 := ⟨_, rfl⟩
              have HCX : Hid (∀ W, Ext wi W → W.cell? ⟨gm, 0, none⟩ = some (.int .i64 x)) := fun W e => by
                have hrow := hG.out.row7 h7
                have ho : OwnI wi w1.heap.size (.slice (some ⟨gm, 0, none⟩) mm cm) (memI K k key) := by rw [← hmm]; exact hrow
                rw [hx]; exact ownI_cell hm7.symm (ho.ext e) 0 hm70
              have HF7 : Hid (∀ W, Ext wi W → Sem.run Tryz.prog (Instr.lookup 187 (.map (some b7)) (.agg (rowI key).toArray) false) W = .ok (.slice (some ⟨gm, 0, none⟩) mm cm) W) := hG.out.find7 h7 hk9 hkw
              have HCM : Hid (∀ W, Ext wi W → Calls Tryz.prog 80 #[.int .u64 (IntKind.u64.wrap (IntKind.u64.wrap (sd + 1) + IntKind.u64.wrap (IntKind.u64.wrap x * 7919))), .slice (some ⟨gm, 0, none⟩) mm cm] W (fun e w' => e = .returned (.tuple #[]) ∧
                  ∃ v' w'', (Builtin.append_ #[31, 31] 31 #[u13, .slice (some ⟨gm, 0, none⟩) mm cm]).run Tryz.prog w' = .ok v' w'' ∧ GSt w1 w'' b7 b8 gs bs (.slice (some ⟨xo, xp, none⟩) nN nc) (sNs K k) (mem2 K k sd (doneK K k sd q (j + 1))) (kb2 K k sd ((sNs K k).take (q + 1))) [rwI v' ((doneK K k sd q (j + 1)).flatMap (shM K k sd))])) := fun W e => by
                refine ((hG.out.grow e).shufM h7 (by rw [hmm, hm7]) (by omega) _).mono ?_
                rintro e w' ⟨rfl, hg⟩
                refine ⟨rfl, ?_⟩
                have e1 : shufL (IntKind.u64.wrap (IntKind.u64.wrap (sd + 1) + IntKind.u64.wrap (IntKind.u64.wrap x * 7919))) (mem2 K k sd (doneK K k sd q j) key) = shM K k sd key := by rw [hmm, hx]; rfl
                rw [e1, ← mem2_succ hnew, ← hds] at hg
                have e2 : mem2 K k sd (doneK K k sd q (j + 1)) key = shM K k sd key := by unfold mem2; rw [if_pos (by rw [hds]; simp)]
                obtain ⟨v', w'', r1, r2⟩ := hg.appO h7 (by rw [e2, (shM_perm (by omega) key).length_eq, hm7]) (by omega) (by
                  have := out_len K k sd (by omega) _ (done_nodup (K := K) (n := k) (sd := sd) (by omega) q j HQL.out (Nat.le_of_lt HJL.out))
                  omega)
                refine ⟨v', w'', r1, ?_⟩
                rw [e2] at r2
                have e3 : (doneK K k sd q (j + 1)).flatMap (shM K k sd) = (doneK K k sd q j).flatMap (shM K k sd) ++ shM K k sd key := by rw [hds, List.flatMap_append]; simp
                rw [e3]; exact r2
              clear hnew hds hkb hmm h7 hm7 hx hkey hkm hG hkw
              obtain ⟨l0, l1, l2, l3, l4, l5, l6, l7, l8, rfl⟩ := list9 hk9
              have hf7 : ∀ W, Ext wi W → Sem.run Tryz.prog (Instr.lookup 187 (.map (some b7)) (.agg #[.int .i64 l0, .int .i64 l1, .int .i64 l2, .int .i64 l3, .int .i64 l4, .int .i64 l5, .int .i64 l6, .int .i64 l7, .int .i64 l8]) false) W = .ok (.slice (some ⟨gm, 0, none⟩) mm cm) W := HF7.out
              have d0 : ∀ W, Ext wi W → W.cell? ⟨g8, j * 9, none⟩ = some (.int .i64 l0) := fun W e => e.cell (by simpa using hrg 0 _ rfl)
              have d1 : ∀ W, Ext wi W → W.cell? ⟨g8, j * 9 + 1, none⟩ = some (.int .i64 l1) := fun W e => e.cell (by simpa using hrg 1 _ rfl)
              have d2 : ∀ W, Ext wi W → W.cell? ⟨g8, j * 9 + 2, none⟩ = some (.int .i64 l2) := fun W e => e.cell (by simpa using hrg 2 _ rfl)
              have d3 : ∀ W, Ext wi W → W.cell? ⟨g8, j * 9 + 3, none⟩ = some (.int .i64 l3) := fun W e => e.cell (by simpa using hrg 3 _ rfl)
              have d4 : ∀ W, Ext wi W → W.cell? ⟨g8, j * 9 + 4, none⟩ = some (.int .i64 l4) := fun W e => e.cell (by simpa using hrg 4 _ rfl)
              have d5 : ∀ W, Ext wi W → W.cell? ⟨g8, j * 9 + 5, none⟩ = some (.int .i64 l5) := fun W e => e.cell (by simpa using hrg 5 _ rfl)
              have d6 : ∀ W, Ext wi W → W.cell? ⟨g8, j * 9 + 6, none⟩ = some (.int .i64 l6) := fun W e => e.cell (by simpa using hrg 6 _ rfl)
              have d7 : ∀ W, Ext wi W → W.cell? ⟨g8, j * 9 + 7, none⟩ = some (.int .i64 l7) := fun W e => e.cell (by simpa using hrg 7 _ rfl)
              have d8 : ∀ W, Ext wi W → W.cell? ⟨g8, j * 9 + 8, none⟩ = some (.int .i64 l8) := fun W e => e.cell (by simpa using hrg 8 _ rfl)
              have Ei := Ext.refl wi
              have hjz : (j : Int) < (m8 : Int) := by omega
              clear hrg HF7
              go_upto_region 23 with fail
              generalize hw3 : World.alloc wi _ = w3
              obtain ⟨he3, o3, hs3⟩ := alloc1 hw3
              obtain ⟨kb, hkb⟩ : ∃ kb, kb = wi.heap.size := ⟨_, rfl⟩
              rw [← hkb] at o3 ⊢
              obtain ⟨y0, y1, y2, y3, y4, y5, y6, y7, y8⟩ := obj_cells9 o3
              have f7 : ∀ W, Ext w3 W → Sem.run Tryz.prog (Instr.lookup 187 (.map (some b7)) (.agg #[.int .i64 l0, .int .i64 l1, .int .i64 l2, .int .i64 l3, .int .i64 l4, .int .i64 l5, .int .i64 l6, .int .i64 l7, .int .i64 l8]) false) W = .ok (.slice (some ⟨gm, 0, none⟩) mm cm) W := fun W e => hf7 W (he3.trans e)
              have cx : ∀ W, Ext w3 W → W.cell? ⟨gm, 0, none⟩ = some (.int .i64 x) := fun W e => HCX.out W (he3.trans e)
              have HCM3 : Hid (∀ W, Ext w3 W → _) := fun W e => HCM.out W (he3.trans e)
              have E3 := Ext.refl w3
              clear hw3 o3 hs3 hkb d0 d1 d2 d3 d4 d5 d6 d7 d8 hf7 Ei HCX HCM he3
              go_wp2_with (first | (go_at_call 80; (with_reducible refine (HCM3.out _ E3).mono ?_); rintro e wM ⟨rfl, v1, wB, r1, r2⟩; have HR1 := Lib.hid r1; have HR2 := Lib.hid r2; clear r1 r2 f7 cx y0 y1 y2 y3 y4 y5 y6 y7 y8 HCM3) | (at_builtin; refine wpList_app _ rfl _ _ 31 rfl (fun v w3 => v1 = v ∧ wB = w3) ⟨_, _, HR1.out, rfl, rfl⟩ ?_; rintro _ _ ⟨rfl, rfl⟩))
              go_roundw
              case rel => exact ⟨j + 1, by omega, by go_num, HR2⟩
              case measure => first | (simp [intOf]; done) | (simp [intOf]; omega)
            · obtain rfl : j = m8 := by omega
              have HGN : Hid (GSt w1 wi b7 b8 gs bs (.slice (some ⟨xo, xp, none⟩) nN nc) (sNs K k) (mem2 K k sd (doneK K k sd (q + 1) 0)) (kb2 K k sd ((sNs K k).take (q + 1))) [rwI u13 ((doneK K k sd (q + 1) 0).flatMap (shM K k sd))]) := by
                rw [Hid, done_next q HQL.out, ← HBL.out, ← HM8.out]; exact hG.out
              clear hG
              go_wp2_with (fail)
              go_roundw
              case rel => exact ⟨q + 1, by omega, by go_num, HGN⟩
              case measure => first | (simp [intOf]; done) | (simp [intOf]; omega)
        · obtain rfl : q = nN := by omega
          have HO : Hid (Ext w1 wo ∧ (rwI u13 (ordL K k sd)).at wo w1.heap.size) := by
            have := hG.out.rows.own (rwI u13 ((doneK K k sd q 0).flatMap (shM K k sd))) (by simp)
            rw [← HSL.out, done_all] at this
            exact ⟨hG.out.ext, this⟩
          clear hG
          obtain ⟨oa, oc, ho⟩ := slice_row HO.out.2
          have ho' : u13 = .slice oa (ordL K k sd).length oc := ho
          subst ho'
          go_wp2_with (fail)
          go_ret
          rw [← HNN.out]
          exact ⟨oa, oc, rfl, HE.out.trans HO.out.1, own_down HO.out.2 HE.out.size⟩
end Go.Proofs.YtplbofhgmflnlaaGreat
end
section
/-
  Walks: Order, and Least where it is refused.
-/
set_option linter.unusedVariables false
set_option linter.unusedSimpArgs false
namespace Go.Proofs.YtplbofhgmflnlaaGreat
open Go.RowKit
/-- The order of settings. -/
abbrev ordS (P : Pw) (ss : List Se) (sd : Int) : List Int := ordL (fun i => gL P.fs (eth ss i)) ss.length sd
set_option maxRecDepth 100000 in
set_option maxHeartbeats 2000000 in
theorem Order_no (P : Pw) (a : Option Addr) (ss : List Se) (sc : Nat) (sd : Int) (w : World) (hp : PlanAt w P) (hb : PlanB P) (hs : SetsAt w a ss) (hn : ss.length ≤ 9223372036854775807) (hl : ∀ i, i < ss.length → (eth ss i).lv.xs.length ≤ 9223372036854775807) (v : Int) (hv : checkE P ss = v) (h0 : v ≠ 0) :
    Calls Tryz.prog 47 #[planV P, .slice a ss.length sc, .int .u64 sd] w (Ret (.tuple #[.slice none 0 0, .int .i64 v]) w) := by
  have hck := fun W (e : Ext w W) => check_any P a ss sc W (hp.ext e) hb (hs.ext e) hn hl
  rw [hv] at hck
  obtain ⟨fs, fa, fc, fo, ga, gc⟩ := P
  have HCK := Lib.hid hck
  clear hck hp hb hs hl hv
  go_enter Tryz.func47, Tryz.ntmps47
  go_wp2_with (fail)
  generalize hw1 : World.alloc _ _ = w1
  obtain ⟨he, o1, -⟩ := alloc1 hw1
  obtain ⟨b0, b1⟩ := obj_cells2 o1
  have E1 := Ext.refl w1
  clear hw1 o1
  have HE := Lib.hid he
  clear he
  have hv0 : (v != 0) = true := by simpa using h0
  go_wp2_with (go_at_call 69; (with_reducible refine (HCK.out _ HE.out).mono ?_); rintro e w2 ⟨rfl, he2⟩)
  go_ret2
  exact ⟨rfl, HE.out.trans he2⟩
set_option maxRecDepth 100000 in
set_option maxHeartbeats 2000000 in
theorem Order_ok (P : Pw) (a : Option Addr) (ss : List Se) (sc : Nat) (sd : Int) (w : World) (hp : PlanAt w P) (hb : PlanB P) (hs : SetsAt w a ss) (hl : ∀ i, i < ss.length → (eth ss i).lv.xs.length ≤ 9223372036854775807) (hv : checkE P ss = 0) (hsd : 0 ≤ sd ∧ sd < 18446744073709551616) :
    Calls Tryz.prog 47 #[planV P, .slice a ss.length sc, .int .u64 sd] w (fun e w' => ∃ a' c', e = .returned (.tuple #[.slice a' (ordS P ss sd).length c', .int .i64 0]) ∧ Ext w w' ∧ OwnI w' w.heap.size (.slice a' (ordS P ss sd).length c') (ordS P ss sd)) := by
  have hn := (checkE_ok hv).2.1
  have hck := fun W (e : Ext w W) => check_any P a ss sc W (hp.ext e) hb (hs.ext e) (by omega) hl
  have hor := fun W (e : Ext w W) => order_any P a ss sc sd W (hp.ext e) hb (hs.ext e) hn hv hsd
  rw [hv] at hck
  obtain ⟨L, hL⟩ : ∃ L, L = ordS P ss sd := ⟨_, rfl⟩
  rw [show ordL (fun i => gL P.fs (eth ss i)) ss.length sd = L from hL.symm] at hor
  rw [← hL]
  obtain ⟨fs, fa, fc, fo, ga, gc⟩ := P
  have HCK := Lib.hid hck; have HOR := Lib.hid hor
  clear hck hor hp hb hs hl hv hL
  go_enter Tryz.func47, Tryz.ntmps47
  go_wp2_with (fail)
  generalize hw1 : World.alloc _ _ = w1
  obtain ⟨he, o1, -⟩ := alloc1 hw1
  obtain ⟨b0, b1⟩ := obj_cells2 o1
  have E1 := Ext.refl w1
  clear hw1 o1
  have HE := Lib.hid he
  clear he
  go_wp2_with (first | (go_at_call 69; (with_reducible refine (HCK.out _ HE.out).mono ?_); rintro e w2 ⟨rfl, he2⟩) | (go_at_call 93; (with_reducible refine (HOR.out _ (HE.out.trans he2)).mono ?_); rintro e w3 ⟨a3, c3, rfl, he3, ho3⟩; have HO := Lib.hid ho3; clear ho3))
  go_ret2
  exact ⟨a3, c3, rfl, HE.out.trans (he2.trans he3), own_down HO.out (HE.out.trans he2).size⟩
set_option maxRecDepth 100000 in
set_option maxHeartbeats 2000000 in
theorem least_no (P : Pw) (a : Option Addr) (ss : List Se) (sc : Nat) (w : World) (hp : PlanAt w P) (hb : PlanB P) (hs : SetsAt w a ss) (hn : ss.length ≤ 9223372036854775807) (hl : ∀ i, i < ss.length → (eth ss i).lv.xs.length ≤ 9223372036854775807) (v : Int) (hv : checkE P ss = v) (h0 : v ≠ 0) :
    Calls Tryz.prog 20 #[planV P, .slice a ss.length sc] w (Ret (.tuple #[.int .i64 0, .int .i64 v]) w) := by
  have hck := fun W (e : Ext w W) => check_any P a ss sc W (hp.ext e) hb (hs.ext e) hn hl
  rw [hv] at hck
  obtain ⟨fs, fa, fc, fo, ga, gc⟩ := P
  have HCK := Lib.hid hck
  clear hck hp hb hs hl hv
  go_enter Tryz.func20, Tryz.ntmps20
  go_wp2_with (fail)
  generalize hw1 : World.alloc _ _ = w1
  obtain ⟨he, o1, -⟩ := alloc1 hw1
  obtain ⟨b0, b1⟩ := obj_cells2 o1
  clear hw1 o1
  have HE := Lib.hid he
  clear he
  (with_reducible refine (HCK.out _ HE.out).mono ?_); rintro e w2 ⟨rfl, he2⟩
  have hv0 : (v != 0) = true := by simpa using h0
  go_wp2_with (fail)
  go_ret2
  exact ⟨rfl, HE.out.trans he2⟩
end Go.Proofs.YtplbofhgmflnlaaGreat
end
