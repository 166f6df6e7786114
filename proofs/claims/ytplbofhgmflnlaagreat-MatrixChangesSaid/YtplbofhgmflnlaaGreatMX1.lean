/-
  Walk: the law MatrixMixes: less, and what it needs.
-/
import Derived.Test.YtplbofhgmflnlaaGreatNC
import Derived.Test.YtplbofhgmflnlaaGreatPS
set_option linter.unusedVariables false
set_option linter.unusedSimpArgs false
namespace Go.Proofs.YtplbofhgmflnlaaGreat
open Go.RowKit
set_option maxHeartbeats 1000000 in
theorem less_any (xs ys : List Int) (a b : Option Addr) (n c d : Nat) (w : World) (hx : Ints w a xs) (hy : Ints w b ys) (hn : xs.length = n) (hm : ys.length = n) (hn1 : n ≤ 1000000) (h : lexN n xs ys) :
    Calls Tryz.prog 24 #[.slice a n c, .slice b n d] w (Ret (.bool true) w) := by
  obtain ⟨i, hi, hlt, heq⟩ := h
  have HLT := Lib.hid hlt; have HEQ := Lib.hid heq
  have HN := Lib.hid hn; have HM := Lib.hid hm
  have HX := Lib.hid hx; have HY := Lib.hid hy
  have E1 := Ext.refl w
  clear hx hy hn hm hlt heq
  go_enter Tryz.func24, Tryz.ntmps24
  go_wp2_with (fail)
  go_loopw [5] (fun v wr => ∃ k : Nat, k ≤ i ∧ v = .int .i64 k ∧ Ext w wr) (fun v _ => i + 1 - (intOf v).toNat)
  case atStart => exact ⟨0, Nat.zero_le _, rfl, Ext.refl _⟩
  case round =>
    obtain ⟨k, hk, rfl, hr⟩ := hrel
    have hkn : k < n := by omega
    obtain ⟨b', o', rfl, c0⟩ := (HX.out.ext hr).at k (by rw [HN.out]; exact hkn)
    obtain ⟨b'', o'', rfl, d0⟩ := (HY.out.ext hr).at k (by rw [HM.out]; exact hkn)
    have hE := Ext.refl wr
    by_cases hki : k < i
    · have he := HEQ.out k hki
      have T2 : (nth xs k != nth ys k) = false := by rw [he]; simp
      go_wp2_with (fail)
      refine wp_region_ext (by kernel_rfl) (by kernel_rfl) hE ?_
      repeat (first | go_big_quiet_step (fail) | quiet_step (fail))
      refine wpQuiet_nil ?_
      rintro _ ⟨nq, rfl⟩
      have hq := nq.ok
      go_wp2_with (fail)
      go_roundw
      case rel => exact ⟨k + 1, by omega, by go_num, hr.trans hq⟩
      case measure => simp [intOf]; omega
    · obtain rfl : k = i := by omega
      have hl := HLT.out
      have T2 : (nth xs k != nth ys k) = true := by simp; omega
      go_wp2_with (fail)
      refine wp_region_ext (by kernel_rfl) (by kernel_rfl) hE ?_
      repeat (first | go_big_quiet_step (fail) | quiet_step (fail))
      refine wpQuiet_nil ?_
      rintro _ ⟨nq, rfl⟩
      have hq := nq.ok
      have c1 := fun W (e : Ext nq.val W) => c0 W (hq.trans e)
      have d1 := fun W (e : Ext nq.val W) => d0 W (hq.trans e)
      go_wp2_with (fail)
      refine wp_region_ext (by kernel_rfl) (by kernel_rfl) (Ext.refl _) ?_
      repeat (first | go_big_quiet_step (fail) | quiet_step (fail))
      refine wpQuiet_nil ?_
      rintro _ ⟨nq2, rfl⟩
      have hq2 := nq2.ok
      go_wp2_with (fail)
      go_ret
      exact ⟨by simp [hl], hr.trans (hq.trans hq2)⟩
/-! ### Rows of booleans, of settings -/
def bitC (b : Bool) : List Value := [.bool b]
theorem bitC_len (b : Bool) : (bitC b).length = 1 := rfl
abbrev OwnT (w : World) (B : Nat) (v : Value) (bs : List Bool) : Prop := OwnF 4 1 bitC w B v bs
theorem info4 : (Tryz.prog.info? 4).map (fun i => (i.zero, i.size, i.bytes)) = some (some (.bool false), 1, 1) := by kernel_rfl
def madeT (W : World) (n : Nat) : World := W.alloc (.cells (madeCells #[.bool false] n) 4)
theorem run_madeT (t : TypeId) (ht : Tryz.prog.underlying t = some (.slice 4)) (n : Nat) (hn : n ≤ 1000000) (W : World) : (Instr.makeSlice t (.int .i64 (n : Int)) (.int .i64 (n : Int))).run Tryz.prog W = .ok (.slice (some ⟨W.heap.size, 0, none⟩) n n) (madeT W n) := by
  obtain ⟨i0, hi, hz0, hz1, hz2⟩ := info_parts info4
  have := run_make (P := Tryz.prog) W t 4 i0 (.bool false) ht hi hz0 .i64 .i64 n n
  rw [hz1, hz2] at this
  have h := this (by omega) (by omega) (by omega) (by omega)
  rw [Int.toNat_natCast, Nat.mul_one] at h
  exact h
theorem madeT_facts {W w1 : World} {n : Nat} (hn : n ≤ 1000000) (h : madeT W n = w1) : Ext W w1 ∧ OwnT w1 W.heap.size (.slice (some ⟨W.heap.size, 0, none⟩) n n) (List.replicate n false) ∧ w1.heap.size = W.heap.size + 1 := by
  subst h
  refine ⟨(Ext.refl W).alloc _, ?_, heap_size _ _⟩
  have e : (madeCells #[Value.bool false] n).toList = rowF bitC (List.replicate n false) := by
    rw [toList_madeCells_one]
    unfold rowF
    rw [List.flatMap_replicate]
    simp [bitC, List.flatten_replicate_singleton]
  refine ⟨by rw [← e, Array.length_toList, size_madeCells, List.length_replicate, Nat.mul_one], .inr ⟨W.heap.size, n, _, by rw [List.length_replicate], Nat.le_refl _, heap_new _ _, by rw [List.length_replicate]; exact Nat.le_refl _, by unfold maxLen; omega, by rw [size_madeCells, Nat.mul_one], ?_⟩⟩
  rw [← e, List.length_replicate, Nat.mul_one]
  exact List.take_of_length_le (by rw [Array.length_toList, size_madeCells]; exact Nat.le_refl _)
abbrev OwnS (w : World) (B : Nat) (v : Value) (ss : List Se) : Prop := OwnF 49 2 setC w B v ss
theorem info49 : (Tryz.prog.info? 49).map (fun i => (i.zero, i.size, i.bytes)) = some (some (.agg #[.slice none 0 0, .int .i64 0]), 2, 32) := by kernel_rfl
theorem app_set (w : World) (B : Nat) (ty : TypeId) (v : Value) (xs ys : List Se) (a : Option Addr) (c : Nat) (hv : OwnS w B v xs) (hx : Sets w a ys) (hn : xs.length + ys.length ≤ 1000000) (hB : B ≤ w.heap.size) :
    ∃ v' w', (Builtin.append_ #[26, 26] ty #[v, .slice a ys.length c]).run Tryz.prog w = .ok v' w' ∧ OwnS w' B v' (xs ++ ys) ∧ w.grownBy w' v.ownBlock := by
  obtain ⟨i0, hi, hz0, hz1, hz2⟩ := info_parts info49
  exact app_row setC_len setC_one Tryz.underlying26 hi hz0 hz1 hz2 rfl (by omega) (by omega) w B ty v xs ys a c hv hx hn hB
theorem set_one {w : World} {b : Nat} {x : Se} {T : TypeId} {fz : Nat × Nat} (h : w.heap[b]? = some (.cells #[.slice x.lv.a x.lv.xs.length x.lv.c, .int .i64 x.blk] T fz)) : Sets w (some ⟨b, 0, none⟩) [x] := by
  obtain ⟨c0, c1⟩ := obj_cells2 h
  refine .inr ⟨b, 0, rfl, fun i hi j hj => ?_⟩
  obtain rfl : i = 0 := by simp at hi; omega
  match j, hj with
  | 0, _ => exact c0 w (Ext.refl w)
  | 1, _ => exact c1 w (Ext.refl w)
theorem ownS_block {w : World} {B : Nat} {v : Value} {ss : List Se} (h : OwnS w B v ss) : ∀ k, v.ownBlock = some k → B ≤ k := fun k hk => (h.lt k hk).1
theorem ownS_slice {w : World} {B : Nat} {v : Value} {ss : List Se} (h : OwnS w B v ss) : ∃ a n c, v = .slice a n c := by
  rcases h.2 with ⟨h, _⟩ | ⟨g, cap, cur, h, _⟩
  · exact ⟨_, _, _, h⟩
  · exact ⟨_, _, _, h⟩
/-- The settings with given levels, all in block 0. -/
def seOf (vs : List (Sl Int)) : List Se := vs.map fun v => ⟨v, 0⟩
theorem seOf_len (vs : List (Sl Int)) : (seOf vs).length = vs.length := by simp [seOf]
theorem seOf_at (vs : List (Sl Int)) (i : Nat) (hi : i < vs.length) : eth (seOf vs) i = ⟨vth vs i, 0⟩ := by
  rw [eth_eq _ _ (by rw [seOf_len]; exact hi), vth_eq _ _ hi]; simp [seOf]
theorem seOf_take (vs : List (Sl Int)) (k : Nat) (hk : k < vs.length) : seOf (vs.take (k + 1)) = seOf (vs.take k) ++ [⟨vth vs k, 0⟩] := by
  unfold seOf
  rw [List.take_succ_eq_append_getElem hk, List.map_append, vth_eq _ _ hk]; rfl
/-- Which numbers below n a list holds. -/
def BIT (n : Nat) (l : List Int) : List Bool := (List.range n).map fun i : Nat => decide ((i : Int) ∈ l)
theorem BIT_len (n : Nat) (l : List Int) : (BIT n l).length = n := by simp [BIT]
theorem BIT_nil (n : Nat) : BIT n [] = List.replicate n false := by
  apply List.ext_getElem
  · simp [BIT]
  · intro i h1 h2; simp [BIT]
theorem BIT_at (n : Nat) (l : List Int) (p : Nat) (hp : p < n) : (BIT n l)[p]'(by rw [BIT_len]; exact hp) = decide ((p : Int) ∈ l) := by simp [BIT]
theorem BIT_set (n : Nat) (l : List Int) (p : Nat) : (BIT n l).set p true = BIT n (l ++ [(p : Int)]) := by
  apply List.ext_getElem
  · simp [BIT]
  · intro i h1 h2
    rw [List.getElem_set]
    by_cases h : p = i
    · subst h; simp [BIT]
    · rw [if_neg h]
      have : ¬ i = p := fun e => h e.symm
      simp only [BIT, List.getElem_map, List.getElem_range, List.mem_append, List.mem_singleton, decide_eq_decide]
      exact ⟨.inl, fun h => h.resolve_right (fun e => this (by omega))⟩
end Go.Proofs.YtplbofhgmflnlaaGreat
