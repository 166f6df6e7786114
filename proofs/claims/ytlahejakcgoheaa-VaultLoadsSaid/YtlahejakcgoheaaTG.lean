/-
  Walks of the reference: forged.
-/
import Derived.Test.YtlahejakcgoheaaTF
import Derived.Laws.BitsAllLaws
set_option linter.unusedVariables false
set_option linter.unusedSimpArgs false
namespace Go.Proofs.Ytlahejakcgoheaa
open Go.RowKit
abbrev fcells (a1 a2 : Option Addr) (n1 c1 n2 c2 : Nat) (f : Fg) : Array Value := #[.slice a1 n1 c1, .slice a2 n2 c2, .int .u8 (f.at0 : Int), .int .u8 (f.what : Int), .string f.tx, .int .i64 f.num, .bool f.right]
abbrev fval (a1 a2 : Option Addr) (n1 c1 n2 c2 : Nat) (f : Fg) : Value := .agg (fcells a1 a2 n1 c1 n2 c2 f)
structure FgOk (f : Fg) : Prop where
  at0 : f.at0 < 256
  what : f.what < 256
  tx : f.tx.size ≤ 60
  n0 : -9223372036854775808 ≤ f.num
  n1 : f.num ≤ 9223372036854775807
/-- What 'forged' leaves. -/
def RetForged (L : List Lk) (w : World) (e : Ending) (w' : World) : Prop := ∃ a c ys, e = .returned (.slice a ys.length c) ∧ RowB w w' (.slice a ys.length c) ys ∧ lks ys = L
theorem ownB_empty (w : World) : OwnB (w.alloc (.cells #[] 5)) w.heap.size (.slice (some ⟨w.heap.size, 0, none⟩) 0 0) [] :=
  .inr ⟨w.heap.size, 0, #[], (0, 0), rfl, Nat.le_refl _, heap_new _ _, by simp, by simp [maxLen], by simp, rfl, .inl rfl⟩
/-- The copy of a link with a Body of its own. -/
structure Copy (wr w : World) (g : Nat) (y : Lv) : Prop where
  x : Ext wr w
  g0 : wr.heap.size ≤ g
  blk : w.heap[g]? = some (.cells (lcells y) 59 (0, 0))
  own : OwnB w wr.heap.size (.slice y.ba y.l.bo.length y.bc) y.l.bo
  far : g ∉ ob y.ba
theorem Copy.ext {wr w w' : World} {g : Nat} {y : Lv} (h : Copy wr w g y) (e : Ext w w') : Copy wr w' g y := ⟨h.x.trans e, h.g0, e.block h.blk, h.own.ext e, h.far⟩
/-- A field of the copy is set. -/
theorem Copy.set {wr w : World} {g j : Nat} {y y' : Lv} {u : Value} (h : Copy wr w g y) (hy : lcells y' = (lcells y).setIfInBounds j u) (h1 : y'.ba = y.ba) (h2 : OwnB w wr.heap.size (.slice y.ba y'.l.bo.length y'.bc) y'.l.bo) : Copy wr (w.setCell ⟨g, j, none⟩ u) g y' := by
  refine ⟨h.x.set (p := ⟨g, j, none⟩) h.g0 _, h.g0, by rw [hy]; exact block_set h.blk j u, ?_, by rw [h1]; exact h.far⟩
  rw [h1]
  exact h2.of_block fun k hk => heap_set_ne _ fun e => h.far (by rw [← e]; exact (ob_own _ _ _ _).2 hk)
/-- A byte of the copy's Body is set. -/
theorem Copy.setB {wr w : World} {g gb j : Nat} {y : Lv} (h : Copy wr w g y) (hb : y.ba = some ⟨gb, 0, none⟩) (hj : j < y.l.bo.length) (b : UInt8) : Copy wr (w.setCell ⟨gb, j, none⟩ (u8 b.toNat)) g ⟨{ y.l with bo := y.l.bo.set j b }, y.ba, y.bc⟩ := by
  have ho := h.own
  have hin : gb ∈ ob y.ba := by rw [hb]; simp [ob]
  have hne : g ≠ gb := fun e => h.far (e ▸ hin)
  have hgb : wr.heap.size ≤ gb := by rw [hb] at ho; exact own_addr ho
  refine ⟨h.x.set (p := ⟨gb, j, none⟩) hgb _, h.g0, ?_, ?_, h.far⟩
  · rw [heap_set_ne _ hne, h.blk]
    simp [lcells]
  · rw [hb] at ho ⊢
    have := ho.set b hj
    simp only [List.length_set]
    exact this
theorem RowB.copyPut {w1 w : World} {v : Value} {ys : List Lv} (h : RowB w1 w v ys) (y : Lv) (hb : OwnB w w1.heap.size (.slice y.ba y.l.bo.length y.bc) y.l.bo) (hf : ∀ k, v.ownBlock = some k → k ∉ ob y.ba) (ho : LkOk y.l) (hn : ys.length ≤ 1000000) :
    ∃ v' w', (Builtin.append_ #[38, 38] 38 #[v, .slice (some ⟨w.heap.size, 0, none⟩) 1 1]).run Try.prog (w.alloc (.cells (lcells y) 59)) = .ok v' w' ∧ RowB w1 w' v' (ys ++ [y]) ∧ (∀ k, k < w.heap.size → v.ownBlock ≠ some k → w'.heap[k]? = w.heap[k]?) := by
  have e := (Ext.refl w).alloc (.cells (lcells y) 59)
  obtain ⟨v', w', r1, r2, r3, -⟩ := (h.ext e).put y w.heap.size (heap_new w _) (hb.ext e) hf ho hn
  exact ⟨v', w', r1, r2, fun k q1 q2 => (r3 k (by rw [heap_size]; omega) q2).trans (heap_old w _ k q1)⟩
theorem Copy.pre {w1 wr wc : World} {g : Nat} {y : Lv} {v : Value} {ys : List Lv} (h : Copy wr wc g y) (hr : RowB w1 wr v ys) : RowB w1 wc v ys ∧ OwnB wc w1.heap.size (.slice y.ba y.l.bo.length y.bc) y.l.bo ∧ (∀ k, v.ownBlock = some k → k ∉ ob y.ba) ∧ v.ownBlock ≠ some g := by
  refine ⟨hr.ext h.x, h.own.mono hr.old.size, fun k hk q => ?_, fun e => ?_⟩
  · have := (World.ownsRow.lt hr.row k hk).2
    have := (h.own.lt k ((ob_own _ _ _ _).1 q)).1
    omega
  · have := (World.ownsRow.lt hr.row g e).2
    have := h.g0
    omega
theorem xor_u8 (a b : UInt8) : bits .xor .u8 ((a.toNat : Nat) : Int) ((b.toNat : Nat) : Int) = (((a ^^^ b).toNat : Nat) : Int) := by
  rw [UInt8.toNat_xor]
  exact u8_xor_nat _ _ (UInt8.toNat_lt _) (UInt8.toNat_lt _)
/-- The list whose first k Chains are made right. -/
def rechT (ls : List Lk) (k : Nat) : List Lk := (rech 7 ls).take k ++ ls.drop k
theorem rechT_len (ls : List Lk) (k : Nat) (hk : k ≤ ls.length) : (rechT ls k).length = ls.length := by
  unfold rechT; rw [List.length_append, List.length_take, rech_len, List.length_drop]; omega
theorem rechT_at (ls : List Lk) (k : Nat) (hk : k < ls.length) : (rechT ls k)[k]'(by rw [rechT_len _ _ (by omega)]; exact hk) = ls[k] := by
  unfold rechT
  rw [List.getElem_append_right (by rw [List.length_take, rech_len]; omega)]
  simp [List.length_take, rech_len, Nat.min_eq_left (Nat.le_of_lt hk)]
/-- What the next Chain is made with. -/
def befT (ls : List Lk) (k : Nat) : Nat := lastB 7 ((rech 7 ls).take k)
theorem rechT_set (ls : List Lk) (k : Nat) (hk : k < ls.length) : (rechT ls k).set k (withCh ls[k] (chainN (befT ls k) ls[k])) = rechT ls (k + 1) ∧ befT ls (k + 1) = chainN (befT ls k) ls[k] := by
  have hr : k < (rech 7 ls).length := by rw [rech_len]; exact hk
  have ha := rech_at ls 7 k hk
  have ht : (rech 7 ls).take (k + 1) = (rech 7 ls).take k ++ [withCh ls[k] (chainN (befT ls k) ls[k])] := by
    rw [List.take_succ_eq_append_getElem hr, ha]; rfl
  constructor
  · unfold rechT
    rw [ht, List.set_append_right _ _ (by rw [List.length_take]; omega), List.length_take, Nat.min_eq_left (by omega), Nat.sub_self, List.drop_eq_getElem_cons hk, List.set_cons_zero, List.append_assoc]
    rfl
  · unfold befT
    rw [ht, lastB_snoc]; rfl
theorem befT_lt (ls : List Lk) : ∀ k, k ≤ ls.length → befT ls k < 18446744073709551616
  | 0, _ => by unfold befT; simp [lastB]
  | k + 1, h => by rw [(rechT_set ls k (by omega)).2]; exact p61_64 (chainN_lt _ _)
theorem chgL_sm {f : Fg} (hf : FgOk f) {l : Lk} (h : SmL l) : SmL (chgL f l) := by
  have ht := hf.tx
  obtain ⟨h1, h2, h3⟩ := h
  unfold chgL
  by_cases q1 : f.what = 1
  · rw [if_pos q1]; exact ⟨h1, h2, h3⟩
  rw [if_neg q1]
  by_cases q2 : f.what = 2
  · rw [if_pos q2]; exact ⟨by show f.tx.size ≤ _; omega, h2, h3⟩
  rw [if_neg q2]
  by_cases q3 : f.what = 3
  · rw [if_pos q3]; exact ⟨h1, by show f.tx.size ≤ _; omega, h3⟩
  rw [if_neg q3]
  by_cases q4 : f.what = 4
  · rw [if_pos q4]; exact ⟨h1, h2, h3⟩
  rw [if_neg q4]
  by_cases q5 : f.what = 5
  · rw [if_pos q5]; exact ⟨h1, h2, h3⟩
  rw [if_neg q5]
  by_cases q6 : f.what = 6
  · rw [if_pos q6]; exact ⟨h1, h2, h3⟩
  rw [if_neg q6]
  by_cases q7 : f.what = 7
  · rw [if_pos q7]; exact ⟨h1, h2, h3⟩
  rw [if_neg q7]
  by_cases q8 : f.what = 8
  · rw [if_pos q8]; exact ⟨h1, h2, by
    show (if 0 < l.bo.length then l.bo.set _ _ else l.bo).length ≤ 3000
    split
    · rw [List.length_set]; exact h3
    · exact h3⟩
  rw [if_neg q8]
  by_cases q9 : f.what = 9
  · rw [if_pos q9]; exact ⟨h1, h2, h3⟩
  rw [if_neg q9]
  by_cases q10 : f.what = 10
  · rw [if_pos q10]; exact ⟨h1, h2, h3⟩
  rw [if_neg q10]
  by_cases q11 : f.what = 11
  · rw [if_pos q11]; exact ⟨h1, h2, by show (l.bo.take _).length ≤ 3000; rw [List.length_take]; omega⟩
  rw [if_neg q11]
  exact ⟨h1, h2, h3⟩
theorem forgT_sm {f : Fg} (hf : FgOk f) {ls : List Lk} (h : ∀ l ∈ ls, SmL l) : ∀ k, k ≤ ls.length → ∀ l ∈ forgT f ls k, SmL l
  | 0, _ => fun l hl => by simp [forgT] at hl
  | k + 1, hk => fun l hl => by
    rw [forgT_succ] at hl
    rcases List.mem_append.1 hl with hl | hl
    · exact forgT_sm hf h k (by omega) l hl
    · have hx : SmL (ls.getD k Lk.nil) := by rw [getD_lt _ (show k < ls.length by omega)]; exact h _ (List.getElem_mem _)
      unfold itemF outF at hl
      repeat' split at hl
      · simp at hl
      · simp at hl; rw [hl]; exact hx
      · simp at hl; rw [hl]; exact chgL_sm hf hx
      · simp at hl; rw [hl]; exact hx
theorem rech_sm {ls : List Lk} : ∀ b, (∀ l ∈ ls, SmL l) → ∀ l ∈ rech b ls, SmL l := by
  induction ls with
  | nil => intro b _ l hl; cases hl
  | cons x ls ih =>
    intro b h l hl
    rcases List.mem_cons.1 hl with rfl | hl
    · have q := h x (by simp)
      exact ⟨q.cu, q.ki, q.bo⟩
    · exact ih _ (fun l hl => h l (by simp [hl])) l hl
theorem forgL_sm {f : Fg} (hf : FgOk f) {ls : List Lk} (h : ∀ l ∈ ls, SmL l) : ∀ l ∈ forgL f ls, SmL l := by
  unfold forgL
  split
  · exact rech_sm 7 (forgT_sm hf h _ (Nat.le_refl _))
  · exact forgT_sm hf h _ (Nat.le_refl _)
theorem forgL_len (f : Fg) (ls : List Lk) : (forgL f ls).length ≤ 2 * ls.length := by
  unfold forgL
  have := forgT_len f ls ls.length
  split
  · rw [rech_len]; exact this
  · exact this
theorem RowB.base {w w1 wr : World} {v : Value} {ys : List Lv} (h : RowB w1 wr v ys) (e : Ext w w1) : RowB w wr v ys :=
  ⟨ownL_mono h.row e.size, fun y hy => ⟨(h.bod y hy).1.mono e.size, (h.bod y hy).2⟩, e.trans h.old⟩
set_option maxRecDepth 100000 in
set_option maxHeartbeats 4000000 in
theorem l30_26 {fb g gb L bc uu at0 un idx z at1 : Nat} {num : Int} {w0 : World} {R : World → Prop} (h7 : ∀ W, (Ext w0 W ∨ R W) → W.cell? ⟨g, 7, none⟩ = some (.slice (some ⟨gb, 0, none⟩) L bc)) (h5 : ∀ W, (Ext w0 W ∨ R W) → W.cell? ⟨fb, 5, none⟩ = some (.int .i64 num)) (h2 : ∀ W, (Ext w0 W ∨ R W) → W.cell? ⟨fb, 2, none⟩ = some (.int .u8 (at0 : Int))) (HU : Hid (∀ W, Ext w0 W → W.cell? ⟨gb, idx, none⟩ = some (.int .u8 (uu : Int)))) (HFZ : Hid (∀ W, Ext w0 W → W.frozen? ⟨gb, idx, none⟩ = false)) (hw1 : IntKind.u64.wrap num = (un : Int)) (hLb : L ≤ 140737488355328) (hL0 : 0 < L) (hil : idx < L) (hrm : (un : Int).tmod (L : Int) = (idx : Int)) (hw2 : IntKind.u8.wrap (1 + (at0 : Int)) = (at1 : Int)) (HZ : Hid (bits .xor .u8 (uu : Int) (at1 : Int) = (z : Int))) (HR : Hid (∀ W, Ext w0 W → R (W.setCell ⟨gb, idx, none⟩ (.int .u8 (z : Int))))) {Q : Exit → Act → World → Prop} (aZ : Act) (hsz : aZ.tmps.size = 167) (o3 : aZ.tmps[3]?.getD undef = .pointer (some ⟨fb, 0, none⟩)) (o7 : aZ.tmps[7]?.getD undef = .pointer (some ⟨g, 0, none⟩))
    (hend : ∀ (vs : Nat → Value) (w9 : World) (ls9 : Nat → Bool), (∀ j : Nat, j < 18 → ls9 j = true) → ((Ext w0 w9 ∨ R w9) ∧ (ls9 17 = false → Ext w0 w9) ∧ (ls9 17 = true → ls9 15 = true ∧ R w9) ∧ (ls9 15 = true → ls9 11 = true)) → (vs 0 = .pointer (some ⟨g, 7, none⟩)) → (vs 1 = .slice (some ⟨gb, 0, none⟩) L bc) → (vs 2 = .pointer (some ⟨fb, 5, none⟩)) → (vs 3 = .int .i64 num) → (vs 4 = .int .u64 (un : Int)) → (vs 5 = .pointer (some ⟨g, 7, none⟩)) → (vs 6 = .slice (some ⟨gb, 0, none⟩) L bc) → (vs 7 = .int .i64 L) → (vs 8 = .int .u64 (L : Int)) → (vs 9 = .int .u64 (idx : Int)) → (vs 10 = .pointer (some ⟨gb, idx, none⟩)) → (vs 11 = .int .u8 (uu : Int)) → (vs 12 = .pointer (some ⟨fb, 2, none⟩)) → (vs 13 = .int .u8 (at0 : Int)) → (vs 14 = .int .u8 (at1 : Int)) → (vs 15 = .int .u8 (z : Int)) → (vs 16 = .pointer (some ⟨gb, idx, none⟩)) → Q .normal (((((((((((((((((aZ.put (some 82) (vs 0)).put (some 83) (vs 1)).put (some 84) (vs 2)).put (some 85) (vs 3)).put (some 86) (vs 4)).put (some 87) (vs 5)).put (some 88) (vs 6)).put (some 89) (vs 7)).put (some 90) (vs 8)).put (some 91) (vs 9)).put (some 92) (vs 10)).put (some 93) (vs 11)).put (some 94) (vs 12)).put (some 95) (vs 13)).put (some 96) (vs 14)).put (some 97) (vs 15)).put (some 98) (vs 16)) w9) : (regOf Try.f30 26).wp Try.prog Q aZ w0 := by
  conv => arg 2; whnf
  refine wp_region_said3 (fun i v wz => match i with
    | 0 => v = .pointer (some ⟨g, 7, none⟩)
    | 1 => v = .slice (some ⟨gb, 0, none⟩) L bc
    | 2 => v = .pointer (some ⟨fb, 5, none⟩)
    | 3 => v = .int .i64 num
    | 4 => v = .int .u64 (un : Int)
    | 5 => v = .pointer (some ⟨g, 7, none⟩)
    | 6 => v = .slice (some ⟨gb, 0, none⟩) L bc
    | 7 => v = .int .i64 L
    | 8 => v = .int .u64 (L : Int)
    | 9 => v = .int .u64 (idx : Int)
    | 10 => v = .pointer (some ⟨gb, idx, none⟩)
    | 11 => v = .int .u8 (uu : Int)
    | 12 => v = .pointer (some ⟨fb, 2, none⟩)
    | 13 => v = .int .u8 (at0 : Int)
    | 14 => v = .int .u8 (at1 : Int)
    | 15 => v = .int .u8 (z : Int)
    | 16 => v = .pointer (some ⟨gb, idx, none⟩)
    | _ => True) (fun ls vs wz => (Ext w0 wz ∨ R wz) ∧ (ls 17 = false → Ext w0 wz) ∧ (ls 17 = true → ls 15 = true ∧ R wz) ∧ (ls 15 = true → ls 11 = true)) (by kernel_rfl) (by kernel_rfl) (by rw [hsz]; kernel_rfl) ?_ ?_ ?_
  · exact ⟨.inl (Ext.refl _).drew, fun _ => (Ext.refl _).drew, fun e => (by cases e), fun e => (by cases e)⟩
  · refine ⟨?_, ?_, ?_, ?_, ?_, ?_, ?_, ?_, ?_, ?_, ?_, ?_, ?_, ?_, ?_, ?_, ?_, ?_, trivial⟩
    · intro ls vs a w1 hi hJ hold hdep K hK
      have q7 : a.tmps[7]?.getD undef = .pointer (some ⟨g, 0, none⟩) := (hold 7 (by kernel_rfl)).trans o7
      rw [if_pos (by rfl)]
      clear hold hdep hend o3 o7
      have HJ := Lib.hid hJ
      clear hJ
      go_simp
      exact hK _ _ (fun _ _ _ h => h) HJ.out rfl
    · intro ls vs a w1 hi hJ hold hdep K hK
      have q82 : a.tmps[82]?.getD undef = .pointer (some ⟨g, 7, none⟩) := (hdep 0 82 (by kernel_rfl) (by kernel_rfl)).2.1.trans (hdep 0 82 (by kernel_rfl) (by kernel_rfl)).2.2
      rw [if_pos (by rfl)]
      clear hold hdep hend o3 o7
      have HJ := Lib.hid hJ
      clear hJ
      have c7 := h7 w1 HJ.out.1
      go_simp
      exact hK _ _ (fun _ _ _ h => h) HJ.out rfl
    · intro ls vs a w1 hi hJ hold hdep K hK
      have q3 : a.tmps[3]?.getD undef = .pointer (some ⟨fb, 0, none⟩) := (hold 3 (by kernel_rfl)).trans o3
      rw [if_pos (by rfl)]
      clear hold hdep hend o3 o7
      have HJ := Lib.hid hJ
      clear hJ
      go_simp
      exact hK _ _ (fun _ _ _ h => h) HJ.out rfl
    · intro ls vs a w1 hi hJ hold hdep K hK
      have q84 : a.tmps[84]?.getD undef = .pointer (some ⟨fb, 5, none⟩) := (hdep 2 84 (by kernel_rfl) (by kernel_rfl)).2.1.trans (hdep 2 84 (by kernel_rfl) (by kernel_rfl)).2.2
      rw [if_pos (by rfl)]
      clear hold hdep hend o3 o7
      have HJ := Lib.hid hJ
      clear hJ
      have c5 := h5 w1 HJ.out.1
      go_simp
      exact hK _ _ (fun _ _ _ h => h) HJ.out rfl
    · intro ls vs a w1 hi hJ hold hdep K hK
      have q85 : a.tmps[85]?.getD undef = .int .i64 num := (hdep 3 85 (by kernel_rfl) (by kernel_rfl)).2.1.trans (hdep 3 85 (by kernel_rfl) (by kernel_rfl)).2.2
      rw [if_pos (by rfl)]
      clear hold hdep hend o3 o7
      have HJ := Lib.hid hJ
      clear hJ
      go_simp
      exact hK _ _ (fun _ _ _ h => h) HJ.out rfl
    · intro ls vs a w1 hi hJ hold hdep K hK
      have q7 : a.tmps[7]?.getD undef = .pointer (some ⟨g, 0, none⟩) := (hold 7 (by kernel_rfl)).trans o7
      rw [if_pos (by rfl)]
      clear hold hdep hend o3 o7
      have HJ := Lib.hid hJ
      clear hJ
      go_simp
      exact hK _ _ (fun _ _ _ h => h) HJ.out rfl
    · intro ls vs a w1 hi hJ hold hdep K hK
      have q87 : a.tmps[87]?.getD undef = .pointer (some ⟨g, 7, none⟩) := (hdep 5 87 (by kernel_rfl) (by kernel_rfl)).2.1.trans (hdep 5 87 (by kernel_rfl) (by kernel_rfl)).2.2
      rw [if_pos (by rfl)]
      clear hold hdep hend o3 o7
      have HJ := Lib.hid hJ
      clear hJ
      have c7 := h7 w1 HJ.out.1
      go_simp
      exact hK _ _ (fun _ _ _ h => h) HJ.out rfl
    · intro ls vs a w1 hi hJ hold hdep K hK
      have q88 : a.tmps[88]?.getD undef = .slice (some ⟨gb, 0, none⟩) L bc := (hdep 6 88 (by kernel_rfl) (by kernel_rfl)).2.1.trans (hdep 6 88 (by kernel_rfl) (by kernel_rfl)).2.2
      rw [if_pos (by rfl)]
      clear hold hdep hend o3 o7
      have HJ := Lib.hid hJ
      clear hJ
      go_simp
      exact hK _ _ (fun _ _ _ h => h) HJ.out rfl
    · intro ls vs a w1 hi hJ hold hdep K hK
      have q89 : a.tmps[89]?.getD undef = .int .i64 L := (hdep 7 89 (by kernel_rfl) (by kernel_rfl)).2.1.trans (hdep 7 89 (by kernel_rfl) (by kernel_rfl)).2.2
      rw [if_pos (by rfl)]
      clear hold hdep hend o3 o7
      have HJ := Lib.hid hJ
      clear hJ
      have hwl : IntKind.u64.wrap (L : Int) = (L : Int) := by rw [IntKind.wrap_u64]; omega
      go_simp
      exact hK _ _ (fun _ _ _ h => h) HJ.out rfl
    · intro ls vs a w1 hi hJ hold hdep K hK
      have q86 : a.tmps[86]?.getD undef = .int .u64 (un : Int) := (hdep 4 86 (by kernel_rfl) (by kernel_rfl)).2.1.trans (hdep 4 86 (by kernel_rfl) (by kernel_rfl)).2.2
      have q90 : a.tmps[90]?.getD undef = .int .u64 (L : Int) := (hdep 8 90 (by kernel_rfl) (by kernel_rfl)).2.1.trans (hdep 8 90 (by kernel_rfl) (by kernel_rfl)).2.2
      rw [if_pos (by rfl)]
      clear hold hdep hend o3 o7
      have HJ := Lib.hid hJ
      clear hJ
      have hl1 : (0 : Int) < (L : Int) := by omega
      have hl2 : ¬ L = 0 := by omega
      have hemod : (un : Int) % (L : Int) = (idx : Int) := by rw [← hrm, Int.tmod_eq_emod_of_nonneg (by omega)]
      have hwi : IntKind.u64.wrap (idx : Int) = (idx : Int) := by rw [IntKind.wrap_u64]; omega
      go_simp
      exact hK _ _ (fun _ _ _ h => h) HJ.out rfl
    · intro ls vs a w1 hi hJ hold hdep K hK
      have q83 : a.tmps[83]?.getD undef = .slice (some ⟨gb, 0, none⟩) L bc := (hdep 1 83 (by kernel_rfl) (by kernel_rfl)).2.1.trans (hdep 1 83 (by kernel_rfl) (by kernel_rfl)).2.2
      have q91 : a.tmps[91]?.getD undef = .int .u64 (idx : Int) := (hdep 9 91 (by kernel_rfl) (by kernel_rfl)).2.1.trans (hdep 9 91 (by kernel_rfl) (by kernel_rfl)).2.2
      rw [if_pos (by rfl)]
      clear hold hdep hend o3 o7
      have HJ := Lib.hid hJ
      clear hJ
      have hi2 : (idx : Int) < (L : Int) := by omega
      go_simp
      exact hK _ _ (fun _ _ _ h => h) HJ.out rfl
    · intro ls vs a w1 hi hJ hold hdep K hK
      have q92 : a.tmps[92]?.getD undef = .pointer (some ⟨gb, idx, none⟩) := (hdep 10 92 (by kernel_rfl) (by kernel_rfl)).2.1.trans (hdep 10 92 (by kernel_rfl) (by kernel_rfl)).2.2
      rw [if_pos (by rfl)]
      clear hold hdep hend o3 o7
      have HJ := Lib.hid hJ
      clear hJ
      obtain ⟨j1, j2, j3, j4⟩ := HJ.out
      have hi11 : ls 11 = false := hi
      have h17 : ls 17 = false := by
        cases e : ls 17 with
        | false => rfl
        | true => have := j4 (j3 e).1; rw [hi11] at this; cases this
      have cu := HU.out w1 (j2 h17)
      go_simp
      exact hK _ _ (fun _ _ _ h => h) ⟨j1, j2, j3, fun _ => rfl⟩ rfl
    · intro ls vs a w1 hi hJ hold hdep K hK
      have q3 : a.tmps[3]?.getD undef = .pointer (some ⟨fb, 0, none⟩) := (hold 3 (by kernel_rfl)).trans o3
      rw [if_pos (by rfl)]
      clear hold hdep hend o3 o7
      have HJ := Lib.hid hJ
      clear hJ
      go_simp
      exact hK _ _ (fun _ _ _ h => h) HJ.out rfl
    · intro ls vs a w1 hi hJ hold hdep K hK
      have q94 : a.tmps[94]?.getD undef = .pointer (some ⟨fb, 2, none⟩) := (hdep 12 94 (by kernel_rfl) (by kernel_rfl)).2.1.trans (hdep 12 94 (by kernel_rfl) (by kernel_rfl)).2.2
      rw [if_pos (by rfl)]
      clear hold hdep hend o3 o7
      have HJ := Lib.hid hJ
      clear hJ
      have c2 := h2 w1 HJ.out.1
      go_simp
      exact hK _ _ (fun _ _ _ h => h) HJ.out rfl
    · intro ls vs a w1 hi hJ hold hdep K hK
      have q95 : a.tmps[95]?.getD undef = .int .u8 (at0 : Int) := (hdep 13 95 (by kernel_rfl) (by kernel_rfl)).2.1.trans (hdep 13 95 (by kernel_rfl) (by kernel_rfl)).2.2
      rw [if_pos (by rfl)]
      clear hold hdep hend o3 o7
      have HJ := Lib.hid hJ
      clear hJ
      go_simp
      exact hK _ _ (fun _ _ _ h => h) HJ.out rfl
    · intro ls vs a w1 hi hJ hold hdep K hK
      have q93 : a.tmps[93]?.getD undef = .int .u8 (uu : Int) := (hdep 11 93 (by kernel_rfl) (by kernel_rfl)).2.1.trans (hdep 11 93 (by kernel_rfl) (by kernel_rfl)).2.2
      have q96 : a.tmps[96]?.getD undef = .int .u8 (at1 : Int) := (hdep 14 96 (by kernel_rfl) (by kernel_rfl)).2.1.trans (hdep 14 96 (by kernel_rfl) (by kernel_rfl)).2.2
      obtain ⟨hl11, -, -⟩ := hdep 11 93 (by kernel_rfl) (by kernel_rfl)
      rw [if_pos (by rfl)]
      clear hold hdep hend o3 o7
      have HJ := Lib.hid hJ
      clear hJ
      obtain ⟨j1, j2, j3, j4⟩ := HJ.out
      have hi15 : ls 15 = false := hi
      have h17 : ls 17 = false := by
        cases e : ls 17 with
        | false => rfl
        | true => have := (j3 e).1; rw [hi15] at this; cases this
      have hl11' : ls 11 = true := hl11
      go_simp
      exact hK _ _ (fun _ _ _ h => h) ⟨j1, j2, fun e => (by have e' : ls 17 = true := e; rw [h17] at e'; cases e'), fun _ => hl11'⟩ (congrArg (Value.int .u8) HZ.out)
    · intro ls vs a w1 hi hJ hold hdep K hK
      have q83 : a.tmps[83]?.getD undef = .slice (some ⟨gb, 0, none⟩) L bc := (hdep 1 83 (by kernel_rfl) (by kernel_rfl)).2.1.trans (hdep 1 83 (by kernel_rfl) (by kernel_rfl)).2.2
      have q91 : a.tmps[91]?.getD undef = .int .u64 (idx : Int) := (hdep 9 91 (by kernel_rfl) (by kernel_rfl)).2.1.trans (hdep 9 91 (by kernel_rfl) (by kernel_rfl)).2.2
      rw [if_pos (by rfl)]
      clear hold hdep hend o3 o7
      have HJ := Lib.hid hJ
      clear hJ
      have hi2 : (idx : Int) < (L : Int) := by omega
      go_simp
      exact hK _ _ (fun _ _ _ h => h) HJ.out rfl
    · intro ls vs a w1 hi hJ hold hdep K hK
      have q97 : a.tmps[97]?.getD undef = .int .u8 (z : Int) := (hdep 15 97 (by kernel_rfl) (by kernel_rfl)).2.1.trans (hdep 15 97 (by kernel_rfl) (by kernel_rfl)).2.2
      have q98 : a.tmps[98]?.getD undef = .pointer (some ⟨gb, idx, none⟩) := (hdep 16 98 (by kernel_rfl) (by kernel_rfl)).2.1.trans (hdep 16 98 (by kernel_rfl) (by kernel_rfl)).2.2
      obtain ⟨hl15, -, -⟩ := hdep 15 97 (by kernel_rfl) (by kernel_rfl)
      rw [if_pos (by rfl)]
      clear hold hdep hend o3 o7
      have HJ := Lib.hid hJ
      clear hJ
      obtain ⟨j1, j2, j3, j4⟩ := HJ.out
      have hi17 : ls 17 = false := hi
      have hl15' : ls 15 = true := hl15
      have hx := j2 hi17
      have cu := HU.out w1 hx
      have fz := HFZ.out w1 hx
      have hr := HR.out w1 hx
      have HRR := Lib.hid hr
      clear hr
      go_simp
      exact hK undef _ (fun _ _ _ h => h) ⟨.inr HRR.out, fun e => (by simp at e), fun _ => ⟨hl15', HRR.out⟩, j4⟩ trivial
  · intro vs w9 ls9 hl9 hJ9 hφ
    have e0 := hφ 0 (by kernel_rfl)
    have e1 := hφ 1 (by kernel_rfl)
    have e2 := hφ 2 (by kernel_rfl)
    have e3 := hφ 3 (by kernel_rfl)
    have e4 := hφ 4 (by kernel_rfl)
    have e5 := hφ 5 (by kernel_rfl)
    have e6 := hφ 6 (by kernel_rfl)
    have e7 := hφ 7 (by kernel_rfl)
    have e8 := hφ 8 (by kernel_rfl)
    have e9 := hφ 9 (by kernel_rfl)
    have e10 := hφ 10 (by kernel_rfl)
    have e11 := hφ 11 (by kernel_rfl)
    have e12 := hφ 12 (by kernel_rfl)
    have e13 := hφ 13 (by kernel_rfl)
    have e14 := hφ 14 (by kernel_rfl)
    have e15 := hφ 15 (by kernel_rfl)
    have e16 := hφ 16 (by kernel_rfl)
    have hq := hend vs w9 ls9 hl9 hJ9 e0 e1 e2 e3 e4 e5 e6 e7 e8 e9 e10 e11 e12 e13 e14 e15 e16
    simp only [Act.put] at hq
    simp only [putAll, Act.put]
    exact hq
set_option maxRecDepth 100000 in
set_option maxHeartbeats 8000000 in
theorem forged_any (a : Option Addr) (xs : List Lv) (c : Nat) (a1 a2 : Option Addr) (n1 c1 n2 c2 : Nat) (f : Fg) (w : World) (h : Links w a xs) (ho : LksOk xs) (hsm : ∀ l ∈ lks xs, SmL l) (hl : xs.length ≤ 20000) (hf : FgOk f) :
    Calls Try.prog 30 #[.slice a xs.length c, fval a1 a2 n1 c1 n2 c2 f] w (RetForged (forgL f (lks xs)) w) := by
  obtain ⟨n, hn⟩ : ∃ n, n = xs.length := ⟨_, rfl⟩
  have HX := Lib.hid h; have HO := Lib.hid ho; have HSM := Lib.hid hsm; have HN := Lib.hid hn; have HF := Lib.hid hf
  rw [← hn] at hl ⊢
  clear h ho hsm hn hf
  go_enter Try.func30, Try.ntmps30
  go_upto_region 1 with fail
  generalize hw1 : World.alloc _ _ = w1
  obtain ⟨he, o1, -⟩ := alloc1 hw1
  have HE := Lib.hid he
  obtain ⟨f0, f1, f2, f3, f4, f5, f6⟩ := obj_cells7 o1
  have F2 := Lib.hid f2; have F3 := Lib.hid f3; have F4 := Lib.hid f4; have F5 := Lib.hid f5; have F6 := Lib.hid f6
  clear hw1 o1 f0 f1 f2 f3 f4 f5 f6
  go_upto_region 2 with fail
  generalize hw2 : World.alloc w1 _ = w2
  have hst : RowB w1 w2 (.slice (some ⟨w1.heap.size, 0, none⟩) 0 0) [] := by
    subst hw2
    exact ⟨own_empty w1 59 10, fun y hy => by simp at hy, (Ext.refl w1).alloc _⟩
  have HST := Lib.hid hst
  clear hw2 hst
  go_wp2_with (fail)
  go_loopw [5, 6] (fun out i wr => ∃ k : Nat, k ≤ n ∧ i = .int .i64 k ∧ Hid (∃ ys, RowB w1 wr out ys ∧ lks ys = forgT f (lks xs) k)) (fun _ i _ => n - (intOf i).toNat)
  case atStart => exact ⟨0, Nat.zero_le _, rfl, [], HST.out, rfl⟩
  case round =>
    obtain ⟨k, hk, rfl, hys⟩ := hrel
    obtain ⟨ys, hrow, hlk⟩ := hys.out
    have her : Hid (Ext w1 wr) := hrow.old
    obtain ⟨oa, oc, rfl⟩ := hrow.slice
    obtain ⟨mo, hmo⟩ : ∃ m, m = ys.length := ⟨_, rfl⟩
    rw [← hmo] at hrow ⊢
    have HROW := Lib.hid hrow; have HLK := Lib.hid hlk; have HMO := Lib.hid hmo
    clear hrow hlk hys hmo
    by_cases hlt : k < n
    · have hlx : k < xs.length := by rw [← HN.out]; exact hlt
      have hbx := HX.out.2 k hlx
      have hox := HO.out k hlx
      have hsx : SmL (lth xs k).l := HSM.out _ (by rw [lth_eq _ _ hlx]; exact List.mem_map.2 ⟨_, List.getElem_mem hlx, rfl⟩)
      have hgx : (lks xs).getD k Lk.nil = (lth xs k).l := by rw [getD_lt _ (by rw [lks_len]; exact hlx), lth_eq _ _ hlx]; simp [lks]
      obtain ⟨b, o, rfl, hc⟩ := HX.out.at k hlx
      have hew := HE.out.trans her.out
      have hcl := hc wr hew
      have hts := forgT_succ f (lks xs) k
      obtain ⟨x, hx⟩ : ∃ x, x = lth xs k := ⟨_, rfl⟩
      rw [← hx] at hcl hbx hox hsx hgx
      have hbx := hbx.ext hew
      have hyl : ys.length ≤ 40000 := by
        have := forgT_len f (lks xs) k
        rw [← HLK.out, lks_len] at this
        omega
      obtain ⟨c0, c1', c2', c3, c4, c5, c6, c7, c8, c9⟩ := hcl
      have HBX := Lib.hid hbx; have HOX := Lib.hid hox; have HSX := Lib.hid hsx; have HGX := Lib.hid hgx; have HTS := Lib.hid hts; have HYL := Lib.hid hyl
      have hi0 : (0 : Int) ≤ (k : Int) := by omega
      have hi1 : (k : Int) < (n : Int) := by omega
      clear hc hts hx hbx hox hsx hgx hew hyl
      go_upto_region 6 with fail
      clear c0 c1' c2' c3 c4 c5 c6 c7 c8 c9
      generalize hwa : World.alloc wr _ = wa
      obtain ⟨hea, oa', hsa⟩ := alloc1 hwa
      obtain ⟨d0, d1, d2, d3, d4, d5, d6, d7, d8, d9⟩ := obj_cells10 oa'
      have fa := obj_free oa'
      have OA := Lib.hid oa'; have HEA := Lib.hid hea; have HSA := Lib.hid hsa
      have Ea := Ext.refl wa
      have hap := app_bytes (wa.alloc (.cells #[] 5)) wa.heap.size 23 _ [] x.l.bo x.ba x.bc (ownB_empty wa) (HBX.out.ext (hea.alloc _)) (by have := HSX.out.bo; simp; omega) (by rw [heap_size]; omega)
      have hxe : Ext wa (wa.alloc (.cells #[] 5)) := Ea.alloc _
      have HAPP := Lib.hid hap; have HXE := Lib.hid hxe
      have HLT := Lib.hid (ownB_empty wa).lt
      clear hwa oa' hea hsa hap hxe
      go_upto_region 7 with (first | (at_builtin; refine wpList_app _ rfl _ _ 23 rfl _ HAPP.out ?_; clear HAPP; rintro v' wb ⟨ho5, hg5, -⟩; have heb := grown_ext HXE.out hg5 (fun k hk => (HLT.out k hk).1); obtain ⟨ba, bc, rfl⟩ := ho5.slice; have hlen : ([] ++ x.l.bo).length = x.l.bo.length := rfl; rw [hlen] at ho5 ⊢; have HO5 := Lib.hid ho5; have HEB := Lib.hid heb; have fb := fa wb heb; have e7 := d7 wb heb; clear ho5 hg5 heb hlen) | fail)
      obtain ⟨g, hg⟩ : ∃ g, g = wr.heap.size := ⟨_, rfl⟩
      have hcp : Copy wr (wb.setCell ⟨wr.heap.size, 7, none⟩ (.slice ba x.l.bo.length bc)) wr.heap.size ⟨x.l, ba, bc⟩ := by
        have hlt := HO5.out.lt
        have hsa := HSA.out
        refine ⟨(HEA.out.trans HEB.out).set (p := ⟨wr.heap.size, 7, none⟩) (Nat.le_refl _) _, Nat.le_refl _, ?_, ?_, fun q => ?_⟩
        · have := block_set (HEB.out.block OA.out) 7 (.slice ba x.l.bo.length bc)
          simpa [lcells] using this
        · refine (HO5.out.mono (by omega)).of_block fun q hq => heap_set_ne _ fun e => ?_
          have := (hlt q hq).1; omega
        · have := (hlt _ ((ob_own _ _ _ _).1 q)).1; omega
      have HCP := Lib.hid hcp
      rw [← hg] at HCP ⊢
      obtain ⟨y, hy⟩ : ∃ y : Lv, y = ⟨x.l, ba, bc⟩ := ⟨_, rfl⟩
      have hyl : y.l = x.l := by rw [hy]
      have HYE := Lib.hid hyl
      rw [← hy] at HCP
      clear hcp HO5 HEB HXE HLT HSA HEA OA hy hyl fb e7 fa d0 d1 d2 d3 d4 d5 d6 d7 d8 d9 Ea hg HBX
      generalize World.setCell wb _ _ = wc at *
      have hec := her.out.trans HCP.out.x
      have HEC := Lib.hid hec
      have f2 := fun W (e : Ext wc W) => F2.out W (HEC.out.trans e)
      have Ec := Ext.refl wc
      have hn0 : (0 : Int) < (n : Int) := by omega
      clear hec
      have hyo : LkOk y.l := by rw [HYE.out]; exact HOX.out
      have HYO := Lib.hid hyo
      clear hyo
      have hat := HF.out.at0
      obtain ⟨r, hr⟩ : ∃ r : Nat, r = f.at0 % n := ⟨_, rfl⟩
      have hrm : ((f.at0 : Nat) : Int).tmod (n : Int) = (r : Int) := by rw [hr]; exact (Int.ofNat_tmod _ _).symm
      have hwa : wrap64 (f.at0 : Int) = (f.at0 : Int) := by unfold wrap64; omega
      have HRR := Lib.hid hr
      clear hr
      cases T : ((k : Int) != (r : Int))
      · have hkat : k = f.at0 % (lks xs).length := by
          rw [lks_len, ← HN.out, ← HRR.out]
          simp at T; omega
        have HKAT := Lib.hid hkat
        clear hkat
        have hcase : f.what = 1 ∨ f.what = 2 ∨ f.what = 3 ∨ f.what = 4 ∨ f.what = 5 ∨ f.what = 6 ∨ f.what = 7 ∨ f.what = 8 ∨ f.what = 9 ∨ f.what = 10 ∨ f.what = 11 ∨ f.what = 12 ∨ f.what = 13 ∨ (f.what ≠ 1 ∧ f.what ≠ 2 ∧ f.what ≠ 3 ∧ f.what ≠ 4 ∧ f.what ≠ 5 ∧ f.what ≠ 6 ∧ f.what ≠ 7 ∧ f.what ≠ 8 ∧ f.what ≠ 9 ∧ f.what ≠ 10 ∧ f.what ≠ 11 ∧ f.what ≠ 12 ∧ f.what ≠ 13) := by omega
        have f3 := fun W (e : Ext wc W) => F3.out W (HEC.out.trans e)
        have f4 := fun W (e : Ext wc W) => F4.out W (HEC.out.trans e)
        have f5 := fun W (e : Ext wc W) => F5.out W (HEC.out.trans e)
        obtain ⟨d0, d1, d2, d3, d4, d5, d6, d7, d8, d9⟩ := obj_cells10 HCP.out.blk
        have fg := obj_free HCP.out.blk
        have hyb := HYO.out
        have hsx := HSX.out
        rcases hcase with k1 | k2 | k3 | k4 | k5 | k6 | k7 | k8 | k9 | k10 | k11 | k12 | k13 | k0
        · have HK := Lib.hid k1
          have f3k := f3
          rw [k1] at f3k
          obtain ⟨oz, hoz⟩ : ∃ oz : Nat, oz = (f.num % 256).toNat := ⟨_, rfl⟩
          have hw1 : IntKind.u8.wrap f.num = (oz : Int) := by rw [IntKind.wrap_u8]; omega
          have hw2 : f.num % 256 = (oz : Int) := by omega
          have HOZ := Lib.hid hoz
          clear hoz
          obtain ⟨y2, hy2⟩ : ∃ y2 : Lv, y2 = ⟨{ y.l with op := oz }, y.ba, y.bc⟩ := ⟨_, rfl⟩
          have hc2 : Copy wr (wc.setCell ⟨g, 0, none⟩ (.int .u8 (oz : Int))) g y2 := HCP.out.set (by rw [hy2]; simp [lcells]) (by rw [hy2]) (by rw [hy2]; exact HCP.out.own)
          have hyc : y2.l = chgL f x.l := by rw [hy2]; unfold chgL; simp only [k1, ← HYE.out, HOZ.out]; rfl
          have hok2 : LkOk y2.l := by rw [hy2]; exact ⟨by show oz < 256; have := HOZ.out; omega, hyb.cu, hyb.ki, hyb.nu0, hyb.nu1, hyb.ve0, hyb.ve1, hyb.da0, hyb.da1, hyb.un0, hyb.un1, hyb.bo, hyb.tag, hyb.ch⟩
          have HC := Lib.hid hc2; have HYC := Lib.hid hyc; have HOK2 := Lib.hid hok2
          have f3 := f3k
          clear hy2 hc2 hyc hok2 f3k
          go_upto_region 33 with fail
          clear d0 d1 d2 d3 d4 d5 d6 d7 d8 d9 fg f2 f3 f4 f5 Ec
          obtain ⟨wd, hwd⟩ : ∃ wd, wd = wc.setCell ⟨g, 0, none⟩ (.int .u8 (oz : Int)) := ⟨_, rfl⟩
          rw [← hwd] at HC ⊢
          clear hwd
          obtain ⟨d0, d1, d2, d3, d4, d5, d6, d7, d8, d9⟩ := obj_cells10 HC.out.blk
          have f3 := fun W (e : Ext wd W) => F3.out W ((her.out.trans HC.out.x).trans e)
          rw [HK.out] at f3
          have Ed := Ext.refl wd
          obtain ⟨p1, p2, p3, -⟩ := HC.out.pre HROW.out
          have hap := p1.copyPut y2 p2 p3 HOK2.out (by have := HYL.out; omega)
          have HAPP := Lib.hid hap
          clear hap p1 p2 p3
          have hitem : itemF f (lks xs) k = [chgL f x.l] := by unfold itemF; rw [if_pos HKAT.out]; unfold outF; rw [if_neg (by rw [HK.out]; omega), if_neg (by rw [HK.out]; omega), HGX.out]
          have HIT := Lib.hid hitem
          clear hitem
          go_upto_region 35 with (first | (at_builtin; refine wpList_app _ rfl _ _ 38 rfl _ HAPP.out ?_; clear HAPP; rintro v' w5 ⟨hro, -⟩; have HRO := Lib.hid hro; clear hro) | fail)
          clear d0 d1 d2 d3 d4 d5 d6 d7 d8 d9 f3 Ed
          have f3 := fun W (e : Ext w5 W) => F3.out W (HRO.out.old.trans e)
          rw [HK.out] at f3
          have E5 := Ext.refl w5
          go_wp2_with (fail)
          go_roundw
          case rel => exact ⟨k + 1, by omega, by go_num, ys ++ [y2], HRO.out, by rw [HTS.out, HIT.out, ← HLK.out, ← HYC.out]; simp [lks]⟩
          case measure => simp [intOf]; omega
        · have HK := Lib.hid k2
          have f3k := f3
          rw [k2] at f3k
          obtain ⟨y2, hy2⟩ : ∃ y2 : Lv, y2 = ⟨{ y.l with cu := f.tx }, y.ba, y.bc⟩ := ⟨_, rfl⟩
          have hc2 : Copy wr (wc.setCell ⟨g, 1, none⟩ (.string f.tx)) g y2 := HCP.out.set (by rw [hy2]; simp [lcells]) (by rw [hy2]) (by rw [hy2]; exact HCP.out.own)
          have hyc : y2.l = chgL f x.l := by rw [hy2]; unfold chgL; simp only [k2, ← HYE.out]; rfl
          have hok2 : LkOk y2.l := by rw [hy2]; exact ⟨hyb.op, by have := HF.out.tx; show f.tx.size ≤ _; unfold maxLen; omega, hyb.ki, hyb.nu0, hyb.nu1, hyb.ve0, hyb.ve1, hyb.da0, hyb.da1, hyb.un0, hyb.un1, hyb.bo, hyb.tag, hyb.ch⟩
          have HC := Lib.hid hc2; have HYC := Lib.hid hyc; have HOK2 := Lib.hid hok2
          have f3 := f3k
          clear hy2 hc2 hyc hok2 f3k
          go_upto_region 33 with fail
          clear d0 d1 d2 d3 d4 d5 d6 d7 d8 d9 fg f2 f3 f4 f5 Ec
          obtain ⟨wd, hwd⟩ : ∃ wd, wd = wc.setCell ⟨g, 1, none⟩ (.string f.tx) := ⟨_, rfl⟩
          rw [← hwd] at HC ⊢
          clear hwd
          obtain ⟨d0, d1, d2, d3, d4, d5, d6, d7, d8, d9⟩ := obj_cells10 HC.out.blk
          have f3 := fun W (e : Ext wd W) => F3.out W ((her.out.trans HC.out.x).trans e)
          rw [HK.out] at f3
          have Ed := Ext.refl wd
          obtain ⟨p1, p2, p3, -⟩ := HC.out.pre HROW.out
          have hap := p1.copyPut y2 p2 p3 HOK2.out (by have := HYL.out; omega)
          have HAPP := Lib.hid hap
          clear hap p1 p2 p3
          have hitem : itemF f (lks xs) k = [chgL f x.l] := by unfold itemF; rw [if_pos HKAT.out]; unfold outF; rw [if_neg (by rw [HK.out]; omega), if_neg (by rw [HK.out]; omega), HGX.out]
          have HIT := Lib.hid hitem
          clear hitem
          go_upto_region 35 with (first | (at_builtin; refine wpList_app _ rfl _ _ 38 rfl _ HAPP.out ?_; clear HAPP; rintro v' w5 ⟨hro, -⟩; have HRO := Lib.hid hro; clear hro) | fail)
          clear d0 d1 d2 d3 d4 d5 d6 d7 d8 d9 f3 Ed
          have f3 := fun W (e : Ext w5 W) => F3.out W (HRO.out.old.trans e)
          rw [HK.out] at f3
          have E5 := Ext.refl w5
          go_wp2_with (fail)
          go_roundw
          case rel => exact ⟨k + 1, by omega, by go_num, ys ++ [y2], HRO.out, by rw [HTS.out, HIT.out, ← HLK.out, ← HYC.out]; simp [lks]⟩
          case measure => simp [intOf]; omega
        · have HK := Lib.hid k3
          have f3k := f3
          rw [k3] at f3k
          obtain ⟨y2, hy2⟩ : ∃ y2 : Lv, y2 = ⟨{ y.l with ki := f.tx }, y.ba, y.bc⟩ := ⟨_, rfl⟩
          have hc2 : Copy wr (wc.setCell ⟨g, 2, none⟩ (.string f.tx)) g y2 := HCP.out.set (by rw [hy2]; simp [lcells]) (by rw [hy2]) (by rw [hy2]; exact HCP.out.own)
          have hyc : y2.l = chgL f x.l := by rw [hy2]; unfold chgL; simp only [k3, ← HYE.out]; rfl
          have hok2 : LkOk y2.l := by rw [hy2]; exact ⟨hyb.op, hyb.cu, by have := HF.out.tx; show f.tx.size ≤ _; unfold maxLen; omega, hyb.nu0, hyb.nu1, hyb.ve0, hyb.ve1, hyb.da0, hyb.da1, hyb.un0, hyb.un1, hyb.bo, hyb.tag, hyb.ch⟩
          have HC := Lib.hid hc2; have HYC := Lib.hid hyc; have HOK2 := Lib.hid hok2
          have f3 := f3k
          clear hy2 hc2 hyc hok2 f3k
          go_upto_region 33 with fail
          clear d0 d1 d2 d3 d4 d5 d6 d7 d8 d9 fg f2 f3 f4 f5 Ec
          obtain ⟨wd, hwd⟩ : ∃ wd, wd = wc.setCell ⟨g, 2, none⟩ (.string f.tx) := ⟨_, rfl⟩
          rw [← hwd] at HC ⊢
          clear hwd
          obtain ⟨d0, d1, d2, d3, d4, d5, d6, d7, d8, d9⟩ := obj_cells10 HC.out.blk
          have f3 := fun W (e : Ext wd W) => F3.out W ((her.out.trans HC.out.x).trans e)
          rw [HK.out] at f3
          have Ed := Ext.refl wd
          obtain ⟨p1, p2, p3, -⟩ := HC.out.pre HROW.out
          have hap := p1.copyPut y2 p2 p3 HOK2.out (by have := HYL.out; omega)
          have HAPP := Lib.hid hap
          clear hap p1 p2 p3
          have hitem : itemF f (lks xs) k = [chgL f x.l] := by unfold itemF; rw [if_pos HKAT.out]; unfold outF; rw [if_neg (by rw [HK.out]; omega), if_neg (by rw [HK.out]; omega), HGX.out]
          have HIT := Lib.hid hitem
          clear hitem
          go_upto_region 35 with (first | (at_builtin; refine wpList_app _ rfl _ _ 38 rfl _ HAPP.out ?_; clear HAPP; rintro v' w5 ⟨hro, -⟩; have HRO := Lib.hid hro; clear hro) | fail)
          clear d0 d1 d2 d3 d4 d5 d6 d7 d8 d9 f3 Ed
          have f3 := fun W (e : Ext w5 W) => F3.out W (HRO.out.old.trans e)
          rw [HK.out] at f3
          have E5 := Ext.refl w5
          go_wp2_with (fail)
          go_roundw
          case rel => exact ⟨k + 1, by omega, by go_num, ys ++ [y2], HRO.out, by rw [HTS.out, HIT.out, ← HLK.out, ← HYC.out]; simp [lks]⟩
          case measure => simp [intOf]; omega
        · have HK := Lib.hid k4
          have f3k := f3
          rw [k4] at f3k
          obtain ⟨y2, hy2⟩ : ∃ y2 : Lv, y2 = ⟨{ y.l with nu := f.num }, y.ba, y.bc⟩ := ⟨_, rfl⟩
          have hc2 : Copy wr (wc.setCell ⟨g, 3, none⟩ (.int .i64 f.num)) g y2 := HCP.out.set (by rw [hy2]; simp [lcells]) (by rw [hy2]) (by rw [hy2]; exact HCP.out.own)
          have hyc : y2.l = chgL f x.l := by rw [hy2]; unfold chgL; simp only [k4, ← HYE.out]; rfl
          have hok2 : LkOk y2.l := by rw [hy2]; exact ⟨hyb.op, hyb.cu, hyb.ki, HF.out.n0, HF.out.n1, hyb.ve0, hyb.ve1, hyb.da0, hyb.da1, hyb.un0, hyb.un1, hyb.bo, hyb.tag, hyb.ch⟩
          have HC := Lib.hid hc2; have HYC := Lib.hid hyc; have HOK2 := Lib.hid hok2
          have f3 := f3k
          clear hy2 hc2 hyc hok2 f3k
          go_upto_region 33 with fail
          clear d0 d1 d2 d3 d4 d5 d6 d7 d8 d9 fg f2 f3 f4 f5 Ec
          obtain ⟨wd, hwd⟩ : ∃ wd, wd = wc.setCell ⟨g, 3, none⟩ (.int .i64 f.num) := ⟨_, rfl⟩
          rw [← hwd] at HC ⊢
          clear hwd
          obtain ⟨d0, d1, d2, d3, d4, d5, d6, d7, d8, d9⟩ := obj_cells10 HC.out.blk
          have f3 := fun W (e : Ext wd W) => F3.out W ((her.out.trans HC.out.x).trans e)
          rw [HK.out] at f3
          have Ed := Ext.refl wd
          obtain ⟨p1, p2, p3, -⟩ := HC.out.pre HROW.out
          have hap := p1.copyPut y2 p2 p3 HOK2.out (by have := HYL.out; omega)
          have HAPP := Lib.hid hap
          clear hap p1 p2 p3
          have hitem : itemF f (lks xs) k = [chgL f x.l] := by unfold itemF; rw [if_pos HKAT.out]; unfold outF; rw [if_neg (by rw [HK.out]; omega), if_neg (by rw [HK.out]; omega), HGX.out]
          have HIT := Lib.hid hitem
          clear hitem
          go_upto_region 35 with (first | (at_builtin; refine wpList_app _ rfl _ _ 38 rfl _ HAPP.out ?_; clear HAPP; rintro v' w5 ⟨hro, -⟩; have HRO := Lib.hid hro; clear hro) | fail)
          clear d0 d1 d2 d3 d4 d5 d6 d7 d8 d9 f3 Ed
          have f3 := fun W (e : Ext w5 W) => F3.out W (HRO.out.old.trans e)
          rw [HK.out] at f3
          have E5 := Ext.refl w5
          go_wp2_with (fail)
          go_roundw
          case rel => exact ⟨k + 1, by omega, by go_num, ys ++ [y2], HRO.out, by rw [HTS.out, HIT.out, ← HLK.out, ← HYC.out]; simp [lks]⟩
          case measure => simp [intOf]; omega
        · have HK := Lib.hid k5
          have f3k := f3
          rw [k5] at f3k
          obtain ⟨y2, hy2⟩ : ∃ y2 : Lv, y2 = ⟨{ y.l with ve := f.num }, y.ba, y.bc⟩ := ⟨_, rfl⟩
          have hc2 : Copy wr (wc.setCell ⟨g, 4, none⟩ (.int .i64 f.num)) g y2 := HCP.out.set (by rw [hy2]; simp [lcells]) (by rw [hy2]) (by rw [hy2]; exact HCP.out.own)
          have hyc : y2.l = chgL f x.l := by rw [hy2]; unfold chgL; simp only [k5, ← HYE.out]; rfl
          have hok2 : LkOk y2.l := by rw [hy2]; exact ⟨hyb.op, hyb.cu, hyb.ki, hyb.nu0, hyb.nu1, HF.out.n0, HF.out.n1, hyb.da0, hyb.da1, hyb.un0, hyb.un1, hyb.bo, hyb.tag, hyb.ch⟩
          have HC := Lib.hid hc2; have HYC := Lib.hid hyc; have HOK2 := Lib.hid hok2
          have f3 := f3k
          clear hy2 hc2 hyc hok2 f3k
          go_upto_region 33 with fail
          clear d0 d1 d2 d3 d4 d5 d6 d7 d8 d9 fg f2 f3 f4 f5 Ec
          obtain ⟨wd, hwd⟩ : ∃ wd, wd = wc.setCell ⟨g, 4, none⟩ (.int .i64 f.num) := ⟨_, rfl⟩
          rw [← hwd] at HC ⊢
          clear hwd
          obtain ⟨d0, d1, d2, d3, d4, d5, d6, d7, d8, d9⟩ := obj_cells10 HC.out.blk
          have f3 := fun W (e : Ext wd W) => F3.out W ((her.out.trans HC.out.x).trans e)
          rw [HK.out] at f3
          have Ed := Ext.refl wd
          obtain ⟨p1, p2, p3, -⟩ := HC.out.pre HROW.out
          have hap := p1.copyPut y2 p2 p3 HOK2.out (by have := HYL.out; omega)
          have HAPP := Lib.hid hap
          clear hap p1 p2 p3
          have hitem : itemF f (lks xs) k = [chgL f x.l] := by unfold itemF; rw [if_pos HKAT.out]; unfold outF; rw [if_neg (by rw [HK.out]; omega), if_neg (by rw [HK.out]; omega), HGX.out]
          have HIT := Lib.hid hitem
          clear hitem
          go_upto_region 35 with (first | (at_builtin; refine wpList_app _ rfl _ _ 38 rfl _ HAPP.out ?_; clear HAPP; rintro v' w5 ⟨hro, -⟩; have HRO := Lib.hid hro; clear hro) | fail)
          clear d0 d1 d2 d3 d4 d5 d6 d7 d8 d9 f3 Ed
          have f3 := fun W (e : Ext w5 W) => F3.out W (HRO.out.old.trans e)
          rw [HK.out] at f3
          have E5 := Ext.refl w5
          go_wp2_with (fail)
          go_roundw
          case rel => exact ⟨k + 1, by omega, by go_num, ys ++ [y2], HRO.out, by rw [HTS.out, HIT.out, ← HLK.out, ← HYC.out]; simp [lks]⟩
          case measure => simp [intOf]; omega
        · have HK := Lib.hid k6
          have f3k := f3
          rw [k6] at f3k
          obtain ⟨y2, hy2⟩ : ∃ y2 : Lv, y2 = ⟨{ y.l with da := f.num }, y.ba, y.bc⟩ := ⟨_, rfl⟩
          have hc2 : Copy wr (wc.setCell ⟨g, 5, none⟩ (.int .i64 f.num)) g y2 := HCP.out.set (by rw [hy2]; simp [lcells]) (by rw [hy2]) (by rw [hy2]; exact HCP.out.own)
          have hyc : y2.l = chgL f x.l := by rw [hy2]; unfold chgL; simp only [k6, ← HYE.out]; rfl
          have hok2 : LkOk y2.l := by rw [hy2]; exact ⟨hyb.op, hyb.cu, hyb.ki, hyb.nu0, hyb.nu1, hyb.ve0, hyb.ve1, HF.out.n0, HF.out.n1, hyb.un0, hyb.un1, hyb.bo, hyb.tag, hyb.ch⟩
          have HC := Lib.hid hc2; have HYC := Lib.hid hyc; have HOK2 := Lib.hid hok2
          have f3 := f3k
          clear hy2 hc2 hyc hok2 f3k
          go_upto_region 33 with fail
          clear d0 d1 d2 d3 d4 d5 d6 d7 d8 d9 fg f2 f3 f4 f5 Ec
          obtain ⟨wd, hwd⟩ : ∃ wd, wd = wc.setCell ⟨g, 5, none⟩ (.int .i64 f.num) := ⟨_, rfl⟩
          rw [← hwd] at HC ⊢
          clear hwd
          obtain ⟨d0, d1, d2, d3, d4, d5, d6, d7, d8, d9⟩ := obj_cells10 HC.out.blk
          have f3 := fun W (e : Ext wd W) => F3.out W ((her.out.trans HC.out.x).trans e)
          rw [HK.out] at f3
          have Ed := Ext.refl wd
          obtain ⟨p1, p2, p3, -⟩ := HC.out.pre HROW.out
          have hap := p1.copyPut y2 p2 p3 HOK2.out (by have := HYL.out; omega)
          have HAPP := Lib.hid hap
          clear hap p1 p2 p3
          have hitem : itemF f (lks xs) k = [chgL f x.l] := by unfold itemF; rw [if_pos HKAT.out]; unfold outF; rw [if_neg (by rw [HK.out]; omega), if_neg (by rw [HK.out]; omega), HGX.out]
          have HIT := Lib.hid hitem
          clear hitem
          go_upto_region 35 with (first | (at_builtin; refine wpList_app _ rfl _ _ 38 rfl _ HAPP.out ?_; clear HAPP; rintro v' w5 ⟨hro, -⟩; have HRO := Lib.hid hro; clear hro) | fail)
          clear d0 d1 d2 d3 d4 d5 d6 d7 d8 d9 f3 Ed
          have f3 := fun W (e : Ext w5 W) => F3.out W (HRO.out.old.trans e)
          rw [HK.out] at f3
          have E5 := Ext.refl w5
          go_wp2_with (fail)
          go_roundw
          case rel => exact ⟨k + 1, by omega, by go_num, ys ++ [y2], HRO.out, by rw [HTS.out, HIT.out, ← HLK.out, ← HYC.out]; simp [lks]⟩
          case measure => simp [intOf]; omega
        · have HK := Lib.hid k7
          have f3k := f3
          rw [k7] at f3k
          obtain ⟨y2, hy2⟩ : ∃ y2 : Lv, y2 = ⟨{ y.l with un := f.num }, y.ba, y.bc⟩ := ⟨_, rfl⟩
          have hc2 : Copy wr (wc.setCell ⟨g, 6, none⟩ (.int .i64 f.num)) g y2 := HCP.out.set (by rw [hy2]; simp [lcells]) (by rw [hy2]) (by rw [hy2]; exact HCP.out.own)
          have hyc : y2.l = chgL f x.l := by rw [hy2]; unfold chgL; simp only [k7, ← HYE.out]; rfl
          have hok2 : LkOk y2.l := by rw [hy2]; exact ⟨hyb.op, hyb.cu, hyb.ki, hyb.nu0, hyb.nu1, hyb.ve0, hyb.ve1, hyb.da0, hyb.da1, HF.out.n0, HF.out.n1, hyb.bo, hyb.tag, hyb.ch⟩
          have HC := Lib.hid hc2; have HYC := Lib.hid hyc; have HOK2 := Lib.hid hok2
          have f3 := f3k
          clear hy2 hc2 hyc hok2 f3k
          go_upto_region 33 with fail
          clear d0 d1 d2 d3 d4 d5 d6 d7 d8 d9 fg f2 f3 f4 f5 Ec
          obtain ⟨wd, hwd⟩ : ∃ wd, wd = wc.setCell ⟨g, 6, none⟩ (.int .i64 f.num) := ⟨_, rfl⟩
          rw [← hwd] at HC ⊢
          clear hwd
          obtain ⟨d0, d1, d2, d3, d4, d5, d6, d7, d8, d9⟩ := obj_cells10 HC.out.blk
          have f3 := fun W (e : Ext wd W) => F3.out W ((her.out.trans HC.out.x).trans e)
          rw [HK.out] at f3
          have Ed := Ext.refl wd
          obtain ⟨p1, p2, p3, -⟩ := HC.out.pre HROW.out
          have hap := p1.copyPut y2 p2 p3 HOK2.out (by have := HYL.out; omega)
          have HAPP := Lib.hid hap
          clear hap p1 p2 p3
          have hitem : itemF f (lks xs) k = [chgL f x.l] := by unfold itemF; rw [if_pos HKAT.out]; unfold outF; rw [if_neg (by rw [HK.out]; omega), if_neg (by rw [HK.out]; omega), HGX.out]
          have HIT := Lib.hid hitem
          clear hitem
          go_upto_region 35 with (first | (at_builtin; refine wpList_app _ rfl _ _ 38 rfl _ HAPP.out ?_; clear HAPP; rintro v' w5 ⟨hro, -⟩; have HRO := Lib.hid hro; clear hro) | fail)
          clear d0 d1 d2 d3 d4 d5 d6 d7 d8 d9 f3 Ed
          have f3 := fun W (e : Ext w5 W) => F3.out W (HRO.out.old.trans e)
          rw [HK.out] at f3
          have E5 := Ext.refl w5
          go_wp2_with (fail)
          go_roundw
          case rel => exact ⟨k + 1, by omega, by go_num, ys ++ [y2], HRO.out, by rw [HTS.out, HIT.out, ← HLK.out, ← HYC.out]; simp [lks]⟩
          case measure => simp [intOf]; omega
        · have HK := Lib.hid k8
          have f3k := f3
          rw [k8] at f3k
          obtain ⟨L, hL⟩ : ∃ L, L = y.l.bo.length := ⟨_, rfl⟩
          have hLb : L ≤ 140737488355328 := by rw [hL]; exact hyb.bo
          have HLL := Lib.hid hL
          rw [← hL] at d7
          clear hL
          have f3 := f3k
          clear f3k
          by_cases hL0 : 0 < L
          · obtain ⟨un, hun⟩ : ∃ un : Nat, un = uw f.num := ⟨_, rfl⟩
            obtain ⟨idx, hidx⟩ : ∃ idx : Nat, idx = un % L := ⟨_, rfl⟩
            have hil : idx < L := by rw [hidx]; exact Nat.mod_lt _ hL0
            have hrm : (un : Int).tmod (L : Int) = (idx : Int) := by rw [hidx]; exact (Int.ofNat_tmod _ _).symm
            have hw1 : IntKind.u64.wrap f.num = (un : Int) := by rw [hun]; exact wrap_uw _
            obtain ⟨ab, hab⟩ : ∃ ab : UInt8, ab = UInt8.ofNat (1 + f.at0) := ⟨_, rfl⟩
            have hw2 : IntKind.u8.wrap (1 + (f.at0 : Int)) = ((ab.toNat : Nat) : Int) := by rw [IntKind.wrap_u8, hab, UInt8.toNat_ofNat']; omega
            obtain ⟨zb, hzb⟩ : ∃ zb : UInt8, zb = y.l.bo.getD idx 0 ^^^ ab := ⟨_, rfl⟩
            have hzz : bits .xor .u8 (bth y.l.bo idx : Int) ((ab.toNat : Nat) : Int) = ((zb.toNat : Nat) : Int) := by rw [hzb]; exact xor_u8 _ _
            obtain ⟨gb, hgba, hgbB⟩ : ∃ gb, y.ba = some ⟨gb, 0, none⟩ ∧ wr.heap.size ≤ gb := by
              rcases HCP.out.own with ⟨-, e⟩ | ⟨g5, cap, cur, fz, hv, hg, -⟩
              · have := HLL.out; rw [e] at this; simp at this; omega
              · simp only [Value.slice.injEq] at hv; exact ⟨g5, hv.1, hg⟩
            obtain ⟨y2, hy2⟩ : ∃ y2 : Lv, y2 = ⟨{ y.l with bo := y.l.bo.set idx zb }, y.ba, y.bc⟩ := ⟨_, rfl⟩
            have hyc : y2.l = chgL f x.l := by
              rw [hy2]; unfold chgL
              simp only [k8, ← HYE.out, ← HLL.out, if_pos hL0, ← hun, ← hidx, ← hab, ← hzb]
              rfl
            have hok2 : LkOk y2.l := by rw [hy2]; exact ⟨hyb.op, hyb.cu, hyb.ki, hyb.nu0, hyb.nu1, hyb.ve0, hyb.ve1, hyb.da0, hyb.da1, hyb.un0, hyb.un1, by show (y.l.bo.set idx zb).length ≤ _; rw [List.length_set]; exact hyb.bo, hyb.tag, hyb.ch⟩
            have hbl2 : y2.l.bo.length = L := by rw [hy2]; show (y.l.bo.set idx zb).length = L; rw [List.length_set]; exact HLL.out.symm
            have hba2 : y2.ba = some ⟨gb, 0, none⟩ := by rw [hy2]; exact hgba
            have hbc2 : y2.bc = y.bc := by rw [hy2]
            have hR : ∀ W, Ext wc W → Copy wr (W.setCell ⟨gb, idx, none⟩ (.int .u8 ((zb.toNat : Nat) : Int))) g y2 := fun W e => by rw [hy2]; exact (HCP.out.ext e).setB hgba (by have := HLL.out; omega) zb
            have h7 : ∀ W, (Ext wc W ∨ Copy wr W g y2) → W.cell? ⟨g, 7, none⟩ = some (.slice (some ⟨gb, 0, none⟩) L y.bc) := fun W e => by
              rcases e with e | e
              · have := (obj_cells10 (HCP.out.ext e).blk).2.2.2.2.2.2.2.1 W (Ext.refl _); rw [hgba, ← HLL.out] at this; exact this
              · have := (obj_cells10 e.blk).2.2.2.2.2.2.2.1 W (Ext.refl _); rw [hba2, hbl2, hbc2] at this; exact this
            have h5 : ∀ W, (Ext wc W ∨ Copy wr W g y2) → W.cell? ⟨w.heap.size, 5, none⟩ = some (.int .i64 f.num) := fun W e => by
              rcases e with e | e
              · exact F5.out W (HEC.out.trans e)
              · exact F5.out W (her.out.trans e.x)
            have h2 : ∀ W, (Ext wc W ∨ Copy wr W g y2) → W.cell? ⟨w.heap.size, 2, none⟩ = some (.int .u8 (f.at0 : Int)) := fun W e => by
              rcases e with e | e
              · exact F2.out W (HEC.out.trans e)
              · exact F2.out W (her.out.trans e.x)
            have hown := HCP.out.own
            rw [hgba] at hown
            have HU : Hid (∀ W, Ext wc W → W.cell? ⟨gb, idx, none⟩ = some (.int .u8 (bth y.l.bo idx : Int))) := fun W e => (hown.ext e).cell idx (by have := HLL.out; omega)
            have HFZ : Hid (∀ W, Ext wc W → W.frozen? ⟨gb, idx, none⟩ = false) := fun W e => (hown.ext e).free idx (by have := HLL.out; omega)
            rw [hgba] at d7
            have HC0 := Lib.hid hyc; have HOK2 := Lib.hid hok2; have HZ := Lib.hid hzz; have HR := Lib.hid hR; have HYC := Lib.hid hyc
            clear hun hidx hab hzb hy2 hyc hok2 hzz hR hown hgba hgbB hbl2 hba2 hbc2 HC0
            go_upto_region 26 with fail
            clear d0 d1 d2 d3 d4 d5 d6 d7 d8 d9 fg f2 f3 f4 f5
            refine l30_26 h7 h5 h2 HU HFZ hw1 hLb hL0 hil hrm hw2 HZ HR _ (by rfl) rfl rfl ?_
            intro vs w9 ls9 hl9 hJ9 e0 e1 e2 e3 e4 e5 e6 e7 e8 e9 e10 e11 e12 e13 e14 e15 e16
            simp only [Act.put, List.setIfInBounds_toArray, List.set_cons_zero, List.set_cons_succ]
            rw [e0, e1, e2, e3, e4, e5, e6, e7, e8, e9, e10, e11, e12, e13, e14, e15, e16]
            have hc2 := (hJ9.2.2.1 (hl9 17 (by omega))).2
            have HC := Lib.hid hc2
            clear hJ9 hl9 e0 e1 e2 e3 e4 e5 e6 e7 e8 e9 e10 e11 e12 e13 e14 e15 e16 h7 h5 h2 HU HFZ hw1 hrm hw2 HZ HR Ec hc2
            obtain ⟨d0, d1, d2, d3, d4, d5, d6, d7, d8, d9⟩ := obj_cells10 HC.out.blk
            have f3 := fun W (e : Ext w9 W) => F3.out W ((her.out.trans HC.out.x).trans e)
            rw [HK.out] at f3
            have Ed := Ext.refl w9
            obtain ⟨p1, p2, p3, -⟩ := HC.out.pre HROW.out
            have hap := p1.copyPut y2 p2 p3 HOK2.out (by have := HYL.out; omega)
            have HAPP := Lib.hid hap
            clear hap p1 p2 p3
            have hitem : itemF f (lks xs) k = [chgL f x.l] := by unfold itemF; rw [if_pos HKAT.out]; unfold outF; rw [if_neg (by rw [HK.out]; omega), if_neg (by rw [HK.out]; omega), HGX.out]
            have HIT := Lib.hid hitem
            clear hitem
            go_upto_region 35 with (first | (at_builtin; refine wpList_app _ rfl _ _ 38 rfl _ HAPP.out ?_; clear HAPP; rintro v' w5 ⟨hro, -⟩; have HRO := Lib.hid hro; clear hro) | fail)
            clear d0 d1 d2 d3 d4 d5 d6 d7 d8 d9 f3 Ed
            have f3 := fun W (e : Ext w5 W) => F3.out W (HRO.out.old.trans e)
            rw [HK.out] at f3
            have E5 := Ext.refl w5
            go_wp2_with (fail)
            go_roundw
            case rel => exact ⟨k + 1, by omega, by go_num, ys ++ [y2], HRO.out, by rw [HTS.out, HIT.out, ← HLK.out, ← HYC.out]; simp [lks]⟩
            case measure => simp [intOf]; omega
          · have hyc : y.l = chgL f x.l := by
              unfold chgL
              simp only [k8, ← HYE.out, ← HLL.out, if_neg hL0]
              rfl
            have HC := HCP; have HOK2 := HYO; have HYC := Lib.hid hyc
            have hL00 : L = 0 := by omega
            subst hL00
            clear hyc
            go_upto_region 33 with fail
            clear d0 d1 d2 d3 d4 d5 d6 d7 d8 d9 fg f2 f3 f4 f5 Ec
            obtain ⟨d0, d1, d2, d3, d4, d5, d6, d7, d8, d9⟩ := obj_cells10 HC.out.blk
            have f3 := fun W (e : Ext wc W) => F3.out W ((her.out.trans HC.out.x).trans e)
            rw [HK.out] at f3
            have Ed := Ext.refl wc
            obtain ⟨p1, p2, p3, -⟩ := HC.out.pre HROW.out
            have hap := p1.copyPut y p2 p3 HOK2.out (by have := HYL.out; omega)
            have HAPP := Lib.hid hap
            clear hap p1 p2 p3
            have hitem : itemF f (lks xs) k = [chgL f x.l] := by unfold itemF; rw [if_pos HKAT.out]; unfold outF; rw [if_neg (by rw [HK.out]; omega), if_neg (by rw [HK.out]; omega), HGX.out]
            have HIT := Lib.hid hitem
            clear hitem
            go_upto_region 35 with (first | (at_builtin; refine wpList_app _ rfl _ _ 38 rfl _ HAPP.out ?_; clear HAPP; rintro v' w5 ⟨hro, -⟩; have HRO := Lib.hid hro; clear hro) | fail)
            clear d0 d1 d2 d3 d4 d5 d6 d7 d8 d9 f3 Ed
            have f3 := fun W (e : Ext w5 W) => F3.out W (HRO.out.old.trans e)
            rw [HK.out] at f3
            have E5 := Ext.refl w5
            go_wp2_with (fail)
            go_roundw
            case rel => exact ⟨k + 1, by omega, by go_num, ys ++ [y], HRO.out, by rw [HTS.out, HIT.out, ← HLK.out, ← HYC.out]; simp [lks]⟩
            case measure => simp [intOf]; omega
        · have HK := Lib.hid k9
          have f3k := f3
          rw [k9] at f3k
          obtain ⟨un, hun⟩ : ∃ un : Nat, un = uw f.num := ⟨_, rfl⟩
          obtain ⟨sn, hsn⟩ : ∃ sn : Nat, sn = (y.l.tag + un) % 18446744073709551616 := ⟨_, rfl⟩
          have hw1 : IntKind.u64.wrap f.num = (un : Int) := by rw [hun]; exact wrap_uw _
          have hw2 : IntKind.u64.wrap ((y.l.tag : Int) + (un : Int)) = (sn : Int) := by rw [IntKind.wrap_u64]; omega
          have HUN := Lib.hid hun; have HSN := Lib.hid hsn
          clear hun hsn
          obtain ⟨y2, hy2⟩ : ∃ y2 : Lv, y2 = ⟨{ y.l with tag := sn }, y.ba, y.bc⟩ := ⟨_, rfl⟩
          have hc2 : Copy wr (wc.setCell ⟨g, 8, none⟩ (.int .u64 (sn : Int))) g y2 := HCP.out.set (by rw [hy2]; simp [lcells]) (by rw [hy2]) (by rw [hy2]; exact HCP.out.own)
          have hyc : y2.l = chgL f x.l := by rw [hy2]; unfold chgL; simp only [k9, ← HYE.out, HSN.out, HUN.out]; rfl
          have hok2 : LkOk y2.l := by rw [hy2]; exact ⟨hyb.op, hyb.cu, hyb.ki, hyb.nu0, hyb.nu1, hyb.ve0, hyb.ve1, hyb.da0, hyb.da1, hyb.un0, hyb.un1, hyb.bo, by show sn < _; have := HSN.out; omega, hyb.ch⟩
          have HC := Lib.hid hc2; have HYC := Lib.hid hyc; have HOK2 := Lib.hid hok2
          have f3 := f3k
          clear hy2 hc2 hyc hok2 f3k
          go_upto_region 33 with fail
          clear d0 d1 d2 d3 d4 d5 d6 d7 d8 d9 fg f2 f3 f4 f5 Ec
          obtain ⟨wd, hwd⟩ : ∃ wd, wd = wc.setCell ⟨g, 8, none⟩ (.int .u64 (sn : Int)) := ⟨_, rfl⟩
          rw [← hwd] at HC ⊢
          clear hwd
          obtain ⟨d0, d1, d2, d3, d4, d5, d6, d7, d8, d9⟩ := obj_cells10 HC.out.blk
          have f3 := fun W (e : Ext wd W) => F3.out W ((her.out.trans HC.out.x).trans e)
          rw [HK.out] at f3
          have Ed := Ext.refl wd
          obtain ⟨p1, p2, p3, -⟩ := HC.out.pre HROW.out
          have hap := p1.copyPut y2 p2 p3 HOK2.out (by have := HYL.out; omega)
          have HAPP := Lib.hid hap
          clear hap p1 p2 p3
          have hitem : itemF f (lks xs) k = [chgL f x.l] := by unfold itemF; rw [if_pos HKAT.out]; unfold outF; rw [if_neg (by rw [HK.out]; omega), if_neg (by rw [HK.out]; omega), HGX.out]
          have HIT := Lib.hid hitem
          clear hitem
          go_upto_region 35 with (first | (at_builtin; refine wpList_app _ rfl _ _ 38 rfl _ HAPP.out ?_; clear HAPP; rintro v' w5 ⟨hro, -⟩; have HRO := Lib.hid hro; clear hro) | fail)
          clear d0 d1 d2 d3 d4 d5 d6 d7 d8 d9 f3 Ed
          have f3 := fun W (e : Ext w5 W) => F3.out W (HRO.out.old.trans e)
          rw [HK.out] at f3
          have E5 := Ext.refl w5
          go_wp2_with (fail)
          go_roundw
          case rel => exact ⟨k + 1, by omega, by go_num, ys ++ [y2], HRO.out, by rw [HTS.out, HIT.out, ← HLK.out, ← HYC.out]; simp [lks]⟩
          case measure => simp [intOf]; omega
        · have HK := Lib.hid k10
          have f3k := f3
          rw [k10] at f3k
          obtain ⟨un, hun⟩ : ∃ un : Nat, un = uw f.num := ⟨_, rfl⟩
          obtain ⟨sn, hsn⟩ : ∃ sn : Nat, sn = (y.l.ch + un) % 18446744073709551616 := ⟨_, rfl⟩
          have hw1 : IntKind.u64.wrap f.num = (un : Int) := by rw [hun]; exact wrap_uw _
          have hw2 : IntKind.u64.wrap ((y.l.ch : Int) + (un : Int)) = (sn : Int) := by rw [IntKind.wrap_u64]; omega
          have HUN := Lib.hid hun; have HSN := Lib.hid hsn
          clear hun hsn
          obtain ⟨y2, hy2⟩ : ∃ y2 : Lv, y2 = ⟨{ y.l with ch := sn }, y.ba, y.bc⟩ := ⟨_, rfl⟩
          have hc2 : Copy wr (wc.setCell ⟨g, 9, none⟩ (.int .u64 (sn : Int))) g y2 := HCP.out.set (by rw [hy2]; simp [lcells]) (by rw [hy2]) (by rw [hy2]; exact HCP.out.own)
          have hyc : y2.l = chgL f x.l := by rw [hy2]; unfold chgL; simp only [k10, ← HYE.out, HSN.out, HUN.out]; rfl
          have hok2 : LkOk y2.l := by rw [hy2]; exact ⟨hyb.op, hyb.cu, hyb.ki, hyb.nu0, hyb.nu1, hyb.ve0, hyb.ve1, hyb.da0, hyb.da1, hyb.un0, hyb.un1, hyb.bo, hyb.tag, by show sn < _; have := HSN.out; omega⟩
          have HC := Lib.hid hc2; have HYC := Lib.hid hyc; have HOK2 := Lib.hid hok2
          have f3 := f3k
          clear hy2 hc2 hyc hok2 f3k
          go_upto_region 33 with fail
          clear d0 d1 d2 d3 d4 d5 d6 d7 d8 d9 fg f2 f3 f4 f5 Ec
          obtain ⟨wd, hwd⟩ : ∃ wd, wd = wc.setCell ⟨g, 9, none⟩ (.int .u64 (sn : Int)) := ⟨_, rfl⟩
          rw [← hwd] at HC ⊢
          clear hwd
          obtain ⟨d0, d1, d2, d3, d4, d5, d6, d7, d8, d9⟩ := obj_cells10 HC.out.blk
          have f3 := fun W (e : Ext wd W) => F3.out W ((her.out.trans HC.out.x).trans e)
          rw [HK.out] at f3
          have Ed := Ext.refl wd
          obtain ⟨p1, p2, p3, -⟩ := HC.out.pre HROW.out
          have hap := p1.copyPut y2 p2 p3 HOK2.out (by have := HYL.out; omega)
          have HAPP := Lib.hid hap
          clear hap p1 p2 p3
          have hitem : itemF f (lks xs) k = [chgL f x.l] := by unfold itemF; rw [if_pos HKAT.out]; unfold outF; rw [if_neg (by rw [HK.out]; omega), if_neg (by rw [HK.out]; omega), HGX.out]
          have HIT := Lib.hid hitem
          clear hitem
          go_upto_region 35 with (first | (at_builtin; refine wpList_app _ rfl _ _ 38 rfl _ HAPP.out ?_; clear HAPP; rintro v' w5 ⟨hro, -⟩; have HRO := Lib.hid hro; clear hro) | fail)
          clear d0 d1 d2 d3 d4 d5 d6 d7 d8 d9 f3 Ed
          have f3 := fun W (e : Ext w5 W) => F3.out W (HRO.out.old.trans e)
          rw [HK.out] at f3
          have E5 := Ext.refl w5
          go_wp2_with (fail)
          go_roundw
          case rel => exact ⟨k + 1, by omega, by go_num, ys ++ [y2], HRO.out, by rw [HTS.out, HIT.out, ← HLK.out, ← HYC.out]; simp [lks]⟩
          case measure => simp [intOf]; omega
        · have HK := Lib.hid k11
          have f3k := f3
          rw [k11] at f3k
          obtain ⟨L, hL⟩ : ∃ L, L = y.l.bo.length := ⟨_, rfl⟩
          have hLb : L ≤ 140737488355328 := by rw [hL]; exact hyb.bo
          have hcap : L ≤ y.bc := by rw [hL]; exact HCP.out.own.byts.2.2
          rw [← hL] at d7
          have hq2 : (L : Int).tdiv 2 = ((L / 2 : Nat) : Int) := by rw [Int.tdiv_eq_ediv_of_nonneg (by omega)]; omega
          have hq0 : (0 : Int) ≤ ((L / 2 : Nat) : Int) := by omega
          have hq1 : ((L / 2 : Nat) : Int) ≤ (y.bc : Int) := by omega
          have HLL := Lib.hid hL
          obtain ⟨M, hM⟩ : ∃ M, M = L / 2 := ⟨_, rfl⟩
          rw [← hM] at hq2 hq0 hq1
          have hq3 : (L : Int) / 2 = (M : Int) := by omega
          have HM := Lib.hid hM
          clear hL hM
          obtain ⟨y2, hy2⟩ : ∃ y2 : Lv, y2 = ⟨{ y.l with bo := y.l.bo.take M }, y.ba, y.bc⟩ := ⟨_, rfl⟩
          have hMl : (y.l.bo.take M).length = M := by rw [List.length_take]; have := HLL.out; have := HM.out; omega
          have hc2 : Copy wr (wc.setCell ⟨g, 7, none⟩ (.slice y.ba M y.bc)) g y2 := HCP.out.set (by rw [hy2]; simp [lcells, hMl]) (by rw [hy2]) (by rw [hy2]; show OwnB wc wr.heap.size (.slice y.ba (y.l.bo.take M).length y.bc) (y.l.bo.take M); rw [hMl]; exact HCP.out.own.take M (by have := HLL.out; have := HM.out; omega))
          have hyc : y2.l = chgL f x.l := by rw [hy2]; unfold chgL; simp only [k11, ← HYE.out, HM.out, HLL.out]; rfl
          have hok2 : LkOk y2.l := by rw [hy2]; exact ⟨hyb.op, hyb.cu, hyb.ki, hyb.nu0, hyb.nu1, hyb.ve0, hyb.ve1, hyb.da0, hyb.da1, hyb.un0, hyb.un1, by show (y.l.bo.take M).length ≤ _; rw [hMl]; have := HM.out; omega, hyb.tag, hyb.ch⟩
          have HC := Lib.hid hc2; have HYC := Lib.hid hyc; have HOK2 := Lib.hid hok2
          have f3 := f3k
          clear hy2 hc2 hyc hok2 f3k
          go_upto_region 33 with fail
          clear d0 d1 d2 d3 d4 d5 d6 d7 d8 d9 fg f2 f3 f4 f5 Ec
          obtain ⟨wd, hwd⟩ : ∃ wd, wd = wc.setCell ⟨g, 7, none⟩ (.slice y.ba M y.bc) := ⟨_, rfl⟩
          rw [← hwd] at HC ⊢
          clear hwd
          obtain ⟨d0, d1, d2, d3, d4, d5, d6, d7, d8, d9⟩ := obj_cells10 HC.out.blk
          have f3 := fun W (e : Ext wd W) => F3.out W ((her.out.trans HC.out.x).trans e)
          rw [HK.out] at f3
          have Ed := Ext.refl wd
          obtain ⟨p1, p2, p3, -⟩ := HC.out.pre HROW.out
          have hap := p1.copyPut y2 p2 p3 HOK2.out (by have := HYL.out; omega)
          have HAPP := Lib.hid hap
          clear hap p1 p2 p3
          have hitem : itemF f (lks xs) k = [chgL f x.l] := by unfold itemF; rw [if_pos HKAT.out]; unfold outF; rw [if_neg (by rw [HK.out]; omega), if_neg (by rw [HK.out]; omega), HGX.out]
          have HIT := Lib.hid hitem
          clear hitem
          go_upto_region 35 with (first | (at_builtin; refine wpList_app _ rfl _ _ 38 rfl _ HAPP.out ?_; clear HAPP; rintro v' w5 ⟨hro, -⟩; have HRO := Lib.hid hro; clear hro) | fail)
          clear d0 d1 d2 d3 d4 d5 d6 d7 d8 d9 f3 Ed
          have f3 := fun W (e : Ext w5 W) => F3.out W (HRO.out.old.trans e)
          rw [HK.out] at f3
          have E5 := Ext.refl w5
          go_wp2_with (fail)
          go_roundw
          case rel => exact ⟨k + 1, by omega, by go_num, ys ++ [y2], HRO.out, by rw [HTS.out, HIT.out, ← HLK.out, ← HYC.out]; simp [lks]⟩
          case measure => simp [intOf]; omega
        · have HK := Lib.hid k12
          have f3k := f3
          rw [k12] at f3k
          have HC := HCP; have HOK2 := HYO
          have f3 := f3k
          clear f3k
          go_upto_region 33 with fail
          clear d0 d1 d2 d3 d4 d5 d6 d7 d8 d9 fg f2 f3 f4 f5 Ec
          have f3 := fun W (e : Ext wc W) => F3.out W ((her.out.trans HC.out.x).trans e)
          rw [HK.out] at f3
          have Ed := Ext.refl wc
          obtain ⟨p1, -⟩ := HC.out.pre HROW.out
          have HP1 := Lib.hid p1
          clear p1
          have hitem : itemF f (lks xs) k = [] := by unfold itemF; rw [if_pos HKAT.out]; unfold outF; rw [if_pos HK.out]
          have HIT := Lib.hid hitem
          clear hitem
          go_wp2_with (fail)
          go_roundw
          case rel => exact ⟨k + 1, by omega, by go_num, ys, HP1.out, by rw [HTS.out, HIT.out, HLK.out]; simp⟩
          case measure => simp [intOf]; omega
        · have HK := Lib.hid k13
          have f3k := f3
          rw [k13] at f3k
          have HC := HCP; have HOK2 := HYO
          have f3 := f3k
          clear f3k
          go_upto_region 33 with fail
          clear d0 d1 d2 d3 d4 d5 d6 d7 d8 d9 fg f2 f3 f4 f5 Ec
          obtain ⟨d0, d1, d2, d3, d4, d5, d6, d7, d8, d9⟩ := obj_cells10 HC.out.blk
          have f3 := fun W (e : Ext wc W) => F3.out W ((her.out.trans HC.out.x).trans e)
          rw [HK.out] at f3
          have Ed := Ext.refl wc
          obtain ⟨p1, p2, p3, -⟩ := HC.out.pre HROW.out
          have hap := p1.copyPut y p2 p3 HOK2.out (by have := HYL.out; omega)
          have HAPP := Lib.hid hap
          clear hap p1 p2 p3
          have hitem : itemF f (lks xs) k = [x.l, x.l] := by unfold itemF; rw [if_pos HKAT.out]; unfold outF; rw [if_neg (by rw [HK.out]; omega), if_pos HK.out, HGX.out]
          have HIT := Lib.hid hitem
          clear hitem
          have hgb := HC.out.blk; have hg0 := HC.out.g0
          have hne := (HC.out.pre HROW.out).2.2.2
          have HGB := Lib.hid hgb; have HNE := Lib.hid hne
          clear hgb hg0 hne
          go_upto_region 35 with (first | (at_builtin; refine wpList_app _ rfl _ _ 38 rfl _ HAPP.out ?_; clear HAPP; rintro v' w5 ⟨hro, hblk⟩; have HRO := Lib.hid hro; have HBL := Lib.hid hblk; clear hro hblk) | fail)
          have hg5 := (HBL.out g (lt_of_block HGB.out) HNE.out).trans HGB.out
          have hy5 := HRO.out.bod y (List.mem_append.2 (.inr (List.mem_singleton.2 rfl)))
          have hap2 := HRO.out.copyPut y hy5.1 hy5.2.1 hy5.2.2 (by have := HYL.out; simp; omega)
          have HAPP := Lib.hid hap2
          clear d0 d1 d2 d3 d4 d5 d6 d7 d8 d9 f3 Ed
          obtain ⟨d0, d1, d2, d3, d4, d5, d6, d7, d8, d9⟩ := obj_cells10 hg5
          have f3 := fun W (e : Ext w5 W) => F3.out W (HRO.out.old.trans e)
          rw [HK.out] at f3
          have E5 := Ext.refl w5
          clear hg5 hy5 hap2
          go_wp2_with (first | (at_builtin; refine wpList_app _ rfl _ _ 38 rfl _ HAPP.out ?_; clear HAPP; rintro v2 w6 ⟨hro, -⟩; have HRO2 := Lib.hid hro; clear hro) | fail)
          exact ⟨⟨k + 1, by omega, by go_num, ys ++ [y] ++ [y], HRO2.out, by rw [HTS.out, HIT.out, ← HLK.out]; simp [lks, HYE.out]⟩, by simp [intOf]; omega⟩
        · obtain ⟨m1, m2, m3, m4, m5, m6, m7, m8, m9, m10, m11, m12, m13⟩ := k0
          have hyc : y.l = chgL f x.l := by unfold chgL; simp only [m1, m2, m3, m4, m5, m6, m7, m8, m9, m10, m11, if_false]; exact HYE.out
          have hitem : itemF f (lks xs) k = [chgL f x.l] := by unfold itemF; rw [if_pos HKAT.out]; unfold outF; rw [if_neg m12, if_neg m13, HGX.out]
          have HIT := Lib.hid hitem
          have HC := HCP; have HOK2 := HYO; have HYC := Lib.hid hyc
          replace m1 : ¬ (f.what : Int) = 1 := by omega
          replace m2 : ¬ (f.what : Int) = 2 := by omega
          replace m3 : ¬ (f.what : Int) = 3 := by omega
          replace m4 : ¬ (f.what : Int) = 4 := by omega
          replace m5 : ¬ (f.what : Int) = 5 := by omega
          replace m6 : ¬ (f.what : Int) = 6 := by omega
          replace m7 : ¬ (f.what : Int) = 7 := by omega
          replace m8 : ¬ (f.what : Int) = 8 := by omega
          replace m9 : ¬ (f.what : Int) = 9 := by omega
          replace m10 : ¬ (f.what : Int) = 10 := by omega
          replace m11 : ¬ (f.what : Int) = 11 := by omega
          replace m12 : ¬ (f.what : Int) = 12 := by omega
          replace m13 : ¬ (f.what : Int) = 13 := by omega
          clear hyc hitem
          go_upto_region 33 with fail
          clear d0 d1 d2 d3 d4 d5 d6 d7 d8 d9 fg f2 f3 f4 f5 Ec
          obtain ⟨d0, d1, d2, d3, d4, d5, d6, d7, d8, d9⟩ := obj_cells10 HC.out.blk
          have f3 := fun W (e : Ext wc W) => F3.out W ((her.out.trans HC.out.x).trans e)
          have Ed := Ext.refl wc
          obtain ⟨p1, p2, p3, -⟩ := HC.out.pre HROW.out
          have hap := p1.copyPut y p2 p3 HOK2.out (by have := HYL.out; omega)
          have HAPP := Lib.hid hap
          clear hap p1 p2 p3
          go_upto_region 35 with (first | (at_builtin; refine wpList_app _ rfl _ _ 38 rfl _ HAPP.out ?_; clear HAPP; rintro v' w5 ⟨hro, -⟩; have HRO := Lib.hid hro; clear hro) | fail)
          clear d0 d1 d2 d3 d4 d5 d6 d7 d8 d9 f3 Ed
          have f3 := fun W (e : Ext w5 W) => F3.out W (HRO.out.old.trans e)
          have E5 := Ext.refl w5
          go_wp2_with (fail)
          go_roundw
          case rel => exact ⟨k + 1, by omega, by go_num, ys ++ [y], HRO.out, by rw [HTS.out, HIT.out, ← HLK.out, ← HYC.out]; simp [lks]⟩
          case measure => simp [intOf]; omega
      · have hitem : itemF f (lks xs) k = [x.l] := by
          unfold itemF
          rw [if_neg, HGX.out]
          rw [lks_len, ← HN.out, ← HRR.out]
          simp at T; omega
        obtain ⟨d0, d1, d2, d3, d4, d5, d6, d7, d8, d9⟩ := obj_cells10 HCP.out.blk
        obtain ⟨p1, p2, p3, -⟩ := HCP.out.pre HROW.out
        have hap := p1.copyPut y p2 p3 HYO.out (by have := HYL.out; omega)
        have HAPP := Lib.hid hap; have HIT := Lib.hid hitem
        clear hap p1 p2 p3 hitem
        go_wp2_with (first | (at_builtin; refine wpList_app _ rfl _ _ 38 rfl _ HAPP.out ?_; clear HAPP; rintro v' w5 ⟨hro, -⟩; have HRO := Lib.hid hro; clear hro) | fail)
        exact ⟨⟨k + 1, by omega, by go_num, ys ++ [y], HRO.out, by rw [HTS.out, HIT.out, ← HLK.out]; simp [lks, HYE.out]⟩, by simp [intOf]; omega⟩
    · obtain rfl : k = n := by omega
      obtain ⟨ls, hls⟩ : ∃ ls, ls = forgT f (lks xs) (lks xs).length := ⟨_, rfl⟩
      have hkl : k = (lks xs).length := by rw [lks_len, HN.out]
      have hlk : lks ys = ls := by rw [HLK.out, hls, ← hkl]
      have hlsm : ∀ l ∈ ls, SmL l := by rw [hls]; exact forgT_sm HF.out HSM.out _ (Nat.le_refl _)
      have hml : mo = ls.length := by rw [HMO.out, ← hlk, lks_len]
      have hlen : ls.length ≤ 40000 := by
        have := forgT_len f (lks xs) (lks xs).length
        rw [← hls, ← hkl] at this; omega
      have hfl : forgL f (lks xs) = if f.right = true then rech 7 ls else ls := by unfold forgL; rw [← hls]
      obtain ⟨ri, hri⟩ : ∃ ri, ri = f.right := ⟨_, rfl⟩
      rw [← hri] at hfl
      have f6 := F6.out
      rw [← hri] at f6
      have HLS := Lib.hid hlsm; have HFL := Lib.hid hfl; have HLL := Lib.hid hml; have F6 := Lib.hid f6
      have hst : Hid (∃ zs, RowB w1 wr (.slice oa mo oc) zs ∧ lks zs = rechT ls 0) := ⟨ys, HROW.out, by rw [hlk]; simp [rechT]⟩
      have hmo : mo ≤ 40000 := by omega
      clear hls hkl hlk hlsm hml hlen hfl hri f6 HROW HLK HMO HSM HX HO HST
      go_wp2_with (fail)
      go_loopw [8, 9] (fun s i wz => ∃ q : Nat, q ≤ mo ∧ i = .int .i64 q ∧ s = .int .u64 ((befT ls q : Nat) : Int) ∧ Hid (ri = false → q = 0) ∧ Hid (∃ zs, RowB w1 wz (.slice oa mo oc) zs ∧ lks zs = rechT ls q)) (fun _ i _ => mo - (intOf i).toNat)
      case atStart => exact ⟨0, Nat.zero_le _, rfl, rfl, fun _ => rfl, hst.out⟩
      case round =>
        obtain ⟨q, hq, rfl, rfl, hri, hz⟩ := hrel
        obtain ⟨zs, hr1, hr2⟩ := hz.out
        have f6 := fun W (e : Ext wr W) => F6.out W (hr1.old.trans e)
        have E0 := Ext.refl wr
        have hml := HLL.out
        have hzl : zs.length = mo := by rw [hml, ← lks_len, hr2, rechT_len _ _ (by omega)]
        have HZL := Lib.hid hzl
        clear hml hzl
        by_cases hlt2 : q < mo
        · cases ri
          · have hq0 : q = 0 := hri.out (by simp)
            have hfin : Hid (RetForged (forgL f (lks xs)) w (.returned (.slice oa mo oc)) wr) := by
              have hfl := HFL.out
              rw [if_neg (by simp)] at hfl
              refine ⟨oa, oc, zs, by rw [HZL.out], by rw [HZL.out]; exact hr1.base HE.out, ?_⟩
              rw [hr2, hq0, hfl]; simp [rechT]
            clear hr1 hr2 hz hri hq0
            go_wp2_with (fail)
            go_ret
            exact hfin.out
          · obtain ⟨gd, hoa⟩ : ∃ gd, oa = some ⟨gd, 0, none⟩ := by
              obtain ⟨g, ha, -⟩ := OwnF.cell lcl_len hr1.row 0 (by have := HZL.out; omega)
              exact ⟨g, ha⟩
            subst hoa
            have hqz : q < zs.length := by have := HZL.out; omega
            have hql : q < ls.length := by have := HLL.out; omega
            obtain ⟨hrl, hro⟩ := hr1.links
            obtain ⟨b5, o5, hbo, hc⟩ := hrl.at q hqz
            simp only [Option.some.injEq, Addr.mk.injEq, and_true] at hbo
            obtain ⟨rfl, rfl⟩ := hbo
            have hby := hrl.2 q hqz
            have hxo := hro q hqz
            rw [lth_eq _ _ hqz] at hc hby hxo
            have hzq : zs[q].l = ls[q] := by
              have h1 := rechT_at ls q hql
              have h2 : (lks zs)[q]'(by rw [lks_len]; exact hqz) = zs[q].l := by simp [lks]
              rw [← h2, ← h1]
              congr 1
            obtain ⟨hs1, hs2⟩ := rechT_set ls q hql
            have hsmx : SmL zs[q].l := by rw [hzq]; exact HLS.out _ (List.getElem_mem hql)
            rw [← hzq] at hs1 hs2
            have hch := rchain_any (befT ls q) zs[q] wr (befT_lt _ _ (by have := HLL.out; omega)) hxo hsmx hby
            obtain ⟨d, hd⟩ : ∃ d, d = chainN (befT ls q) zs[q].l := ⟨_, rfl⟩
            rw [← hd] at hs1 hs2 hch
            have hd2 : d < 18446744073709551616 := by rw [hd]; exact p61_64 (chainN_lt _ _)
            obtain ⟨x, hx⟩ : ∃ x, x = zs[q] := ⟨_, rfl⟩
            rw [← hx] at hc hch hs1
            have c0 := fun W (e : Ext wr W) => (hc W e).1
            have c1 := fun W (e : Ext wr W) => (hc W e).2.1
            have c2 := fun W (e : Ext wr W) => (hc W e).2.2.1
            have c3 := fun W (e : Ext wr W) => (hc W e).2.2.2.1
            have c4 := fun W (e : Ext wr W) => (hc W e).2.2.2.2.1
            have c5 := fun W (e : Ext wr W) => (hc W e).2.2.2.2.2.1
            have c6 := fun W (e : Ext wr W) => (hc W e).2.2.2.2.2.2.1
            have c7 := fun W (e : Ext wr W) => (hc W e).2.2.2.2.2.2.2.1
            have c8 := fun W (e : Ext wr W) => (hc W e).2.2.2.2.2.2.2.2.1
            have c9 := fun W (e : Ext wr W) => (hc W e).2.2.2.2.2.2.2.2.2
            have HCH := Lib.hid hch; have HS1 := Lib.hid hs1; have HS2 := Lib.hid hs2; have HR1 := Lib.hid hr1; have HR2 := Lib.hid hr2; have HXX := Lib.hid hx
            have hi0 : (0 : Int) ≤ (q : Int) := by omega
            have hi1 : (q : Int) < (mo : Int) := by omega
            simp only [Nat.zero_add] at c0 c1 c2 c3 c4 c5 c6 c7 c8 c9
            clear hc hch hs1 hs2 hr1 hr2 hx hd hrl hro hby hxo hzq hsmx hz
            go_upto_region 41 with fail
            go_wp2_with (fail)
            (with_reducible refine HCH.out.mono ?_); rintro e w5 ⟨rfl, he5⟩
            have hr5 := HR1.out.ext he5
            rw [← HZL.out] at hr5
            have hqz2 : q < zs.length := by have := HZL.out; omega
            have hst2 := hr5.setC hqz2 hd2
            have fz := hr5.free (q * 10 + 9)
            have c9' := c9 w5 he5
            have hlk2 : (rechT ls q).set q (withCh x.l d) = rechT ls (q + 1) := HS1.out
            have hnew : ∃ zs', RowB w1 (w5.setCell ⟨gd, q * 10 + 9, none⟩ (.int .u64 (d : Int))) (.slice (some ⟨gd, 0, none⟩) mo oc) zs' ∧ lks zs' = rechT ls (q + 1) ∧ zs'.length = mo ∧ ∀ W, Ext (w5.setCell ⟨gd, q * 10 + 9, none⟩ (.int .u64 (d : Int))) W → W.cell? ⟨gd, q * 10 + 9, none⟩ = some (.int .u64 (d : Int)) := by
              refine ⟨_, by rw [← HZL.out]; exact hst2, ?_, by rw [List.length_set]; exact HZL.out, fun W e => ?_⟩
              · rw [← hlk2, ← HR2.out, HXX.out]; simp [lks, List.map_set]
              · have hl := (RowB.links (n := zs.length) hst2).1
                obtain ⟨b6, o6, hb6, hc6⟩ := hl.at q (by rw [List.length_set]; exact hqz2)
                simp only [Option.some.injEq, Addr.mk.injEq, and_true] at hb6
                obtain ⟨rfl, rfl⟩ := hb6
                have := (hc6 W e).2.2.2.2.2.2.2.2.2
                rw [lth_eq _ _ (by rw [List.length_set]; exact hqz2), List.getElem_set_self, Nat.zero_add] at this
                exact this
            have HNEW := Lib.hid hnew
            clear hr5 hqz2 hst2 hlk2 hnew he5 f6 c0 c1 c2 c3 c4 c5 c6 c7 c8 c9 E0
            go_upto_region 42 with fail
            clear c9' fz
            generalize World.setCell w5 _ _ = w6 at *
            obtain ⟨zs', g1, g2, g3, g4⟩ := HNEW.out
            have G := Lib.hid (show ∃ zs', RowB w1 w6 (.slice (some ⟨gd, 0, none⟩) mo oc) zs' ∧ lks zs' = rechT ls (q + 1) from ⟨zs', g1, g2⟩)
            have E6 := Ext.refl w6
            clear g1 g2 g3 HNEW
            go_wp2_with (fail)
            go_roundw
            case rel => exact ⟨q + 1, by omega, by go_num, by rw [HS2.out], fun h => (by cases h), G.out⟩
            case measure => simp [intOf]; omega
        · obtain rfl : q = mo := by omega
          have hfin : Hid (RetForged (forgL f (lks xs)) w (.returned (.slice oa q oc)) wr) := by
            have hfl := HFL.out
            refine ⟨oa, oc, zs, by rw [HZL.out], by rw [HZL.out]; exact hr1.base HE.out, ?_⟩
            rw [hr2, hfl]
            unfold rechT
            rw [HLL.out, List.take_of_length_le (by rw [rech_len]; exact Nat.le_refl _), List.drop_length, List.append_nil]
            cases ri
            · have h0 := hri.out rfl
              have : ls = [] := List.length_eq_zero_iff.1 (by have := HLL.out; omega)
              rw [this]; rfl
            · rfl
          clear hr1 hr2 hz hri
          go_wp2_with (fail)
          go_ret
          exact hfin.out
end Go.Proofs.Ytlahejakcgoheaa
