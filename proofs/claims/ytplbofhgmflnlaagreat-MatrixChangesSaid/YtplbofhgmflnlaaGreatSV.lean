/-
  slices.Values over numbers, its iterator, slices.AppendSeq, slices.Collect, slices.Sorted; slices.Equal.
-/
import Derived.Test.YtplbofhgmflnlaaGreatMO5
set_option linter.unusedVariables false
set_option linter.unusedSimpArgs false
namespace Go.Proofs.YtplbofhgmflnlaaGreat
open Go.RowKit Go.Shelf
attribute [local go_sem] Oper.semAt_some
/-- Numbers in blocks below n₀. -/
def IntsB (n₀ : Nat) (w : World) (a : Option Addr) (xs : List Int) : Prop :=
  xs = [] ∨ ∃ b o, a = some ⟨b, o, none⟩ ∧ b < n₀ ∧ ∀ i, i < xs.length → w.cell? ⟨b, o + i, none⟩ = some (.int .i64 (nth xs i))
theorem IntsB.below {n₀ : Nat} {w w' : World} {a : Option Addr} {xs : List Int} (h : IntsB n₀ w a xs) (k : Below n₀ w w') : IntsB n₀ w' a xs := by
  rcases h with h | ⟨b, o, h1, h2, h3⟩
  · exact .inl h
  · exact .inr ⟨b, o, h1, h2, fun i hi => (k.cell (p := ⟨b, o + i, none⟩) h2).trans (h3 i hi)⟩
theorem IntsB.of {w : World} {a : Option Addr} {xs : List Int} (h : Ints w a xs) : IntsB w.heap.size w a xs := by
  rcases h with h | ⟨b, o, h1, h2⟩
  · exact .inl h
  · by_cases hx : xs = []
    · exact .inl hx
    · exact .inr ⟨b, o, h1, lt_of_cell (h2 0 (List.length_pos_iff.2 hx)), h2⟩
theorem take_nth {xs : List Int} {k : Nat} (hk : k < xs.length) : xs.take (k + 1) = xs.take k ++ [nth xs k] := by rw [List.take_succ_eq_append_getElem hk, nth_eq _ _ hk]
set_option maxRecDepth 100000 in
set_option maxHeartbeats 1000000 in
theorem svals1_in (n : Nat) (hn : 1 ≤ n) (l Bn n₀ : Nat) (a : Option Addr) (c : Nat) (xs : List Int) (hl : xs.length ≤ 1000000) (J Jx : List Int → World → Prop)
    (hY : ∀ pre x W, J pre W → pre.length < xs.length → YieldAt Fence.wide (n - 1) Tryz.prog l #[.int .i64 x] W fun e W' =>
      (e = .returned (.bool true) ∧ J (pre ++ [x]) W' ∧ Below n₀ W W') ∨ (e = .returned (.bool false) ∧ Jx (pre ++ [x]) W'))
    (W : World) (hBn : W.cell? ⟨Bn, 0, none⟩ = some (.slice a xs.length c)) (hI : IntsB n₀ W a xs) (h0 : J [] W) :
    CallsIn Fence.wide n Tryz.prog 110 #[.func (.yield l) #[] #[], .pointer (some ⟨Bn, 0, none⟩)] W fun e W' => (∃ v, e = .returned v) ∧
      ((∃ ys, ys = xs ∧ J ys W') ∨ (∃ pre, Jx pre W')) := by
  refine callsIn_of_wp Tryz.func110 rfl trivial ?_ rfl
  simp only [Tryz.ntmps110, List.size_toArray, List.length_cons, List.length_nil, Nat.reduceAdd, Nat.reduceSub, Array.replicate_succ, Array.replicate_zero, List.push_toArray, List.append_toArray, List.nil_append, List.cons_append]
  obtain ⟨m, hm⟩ : ∃ m, m = xs.length := ⟨_, rfl⟩
  rw [← hm] at hBn hl
  have HM := Lib.hid hm
  clear hm
  gi_wp2
  gi_loopw [4, 7] (fun _ i wr => ∃ k : Nat, k ≤ m ∧ i = .int .i64 k ∧ Hid (IntsB n₀ wr a xs) ∧ J (xs.take k) wr) (fun _ i _ => m - (intOf i).toNat)
  case atStart => exact ⟨0, Nat.zero_le _, rfl, hI, h0⟩
  case round =>
    obtain ⟨k, hk, rfl, HI, hJs⟩ := hrel
    by_cases hlt : k < m
    · have hkx : k < xs.length := by rw [← HM.out]; exact hlt
      obtain ⟨b, o, rfl, hb, hc⟩ : ∃ b o, a = some ⟨b, o, none⟩ ∧ b < n₀ ∧ ∀ i, i < xs.length → wr.cell? ⟨b, o + i, none⟩ = some (.int .i64 (nth xs i)) := by
        rcases HI.out with h | h
        · rw [h] at hkx; simp at hkx
        · exact h
      have hck := hc k hkx
      obtain ⟨x, hx⟩ : ∃ x, x = nth xs k := ⟨_, rfl⟩
      rw [← hx] at hck
      obtain ⟨fn, tmps, assign, body, hy, hR⟩ := hY (xs.take k) x wr hJs (by rw [List.length_take]; omega)
      have HS : Hid (xs.take (k + 1) = xs.take k ++ [x]) := by rw [Hid, take_nth hkx, hx]
      clear hc hx hkx hI hBn
      gi_wp2
      refine hR.mono ?_
      rintro e W3 (⟨rfl, hJ3, hk3⟩ | ⟨rfl, hJx3⟩)
      · gi_wp2
        go_roundw
        case rel => exact ⟨k + 1, by omega, by go_num, HI.out.below hk3, by rw [HS.out]; exact hJ3⟩
        case measure => simp [intOf]; omega
      · gi_wp2
        refine bodyPost_ret (results_none rfl _ _ _) rfl ?_
        exact ⟨⟨_, rfl⟩, .inr ⟨_, hJx3⟩⟩
    · obtain rfl : k = m := by omega
      have HS : Hid (xs.take k = xs) := by rw [Hid, HM.out, List.take_length]
      gi_wp2
      go_end0
      exact ⟨⟨_, rfl⟩, .inl ⟨xs, rfl, by rw [HS.out] at hJs; exact hJs⟩⟩
theorem svals_stops (n : Nat) (hn : 1 ≤ n) (Bn n₀ : Nat) (a : Option Addr) (c : Nat) (xs : List Int) (hl : xs.length ≤ 1000000) (w : World) (hBn : Bn < w.heap.size) (hn₀ : n₀ ≤ w.heap.size) (hc : w.cell? ⟨Bn, 0, none⟩ = some (.slice a xs.length c)) (hI : IntsB n₀ w a xs) :
    SeqStopsK Fence.wide n Tryz.prog 110 #[.pointer (some ⟨Bn, 0, none⟩)] (fun x : Int => #[.int .i64 x]) (Below n₀) (fun ys => ys = xs) (fun _ => True) xs.length w := fun l J Jx W hW _ _ hY h0 => by
  refine (svals1_in n hn l Bn n₀ a c xs hl J Jx hY W ((hW.cell (p := ⟨Bn, 0, none⟩) hBn).trans hc) (hI.below (hW.mono hn₀)) h0).mono ?_
  rintro e W' ⟨h1, h2 | ⟨pre, h2⟩⟩
  · exact ⟨h1, .inl h2⟩
  · exact ⟨h1, .inr ⟨pre, trivial, h2⟩⟩
set_option maxHeartbeats 1000000 in
theorem svalues_any (a : Option Addr) (n c : Nat) (w : World) : Calls Tryz.prog 73 #[.slice a n c] w fun e w' => e = .returned (.func (.func 110) #[] #[.pointer (some ⟨w.heap.size, 0, none⟩)]) ∧ w' = w.alloc (.cells #[.slice a n c] 31) := by
  go_enter Tryz.func73, Tryz.ntmps73
  go_wp2_with (fail)
  go_ret
  exact ⟨rfl, rfl⟩
set_option maxRecDepth 100000 in
set_option maxHeartbeats 2000000 in
theorem sAppendSeq_any (Bn : Nat) (a : Option Addr) (c : Nat) (xs : List Int) (w : World) (hl : xs.length ≤ 1000000) (hBn : Bn < w.heap.size) (hc : w.cell? ⟨Bn, 0, none⟩ = some (.slice a xs.length c)) (hx : Ints w a xs) :
    Calls Tryz.prog 133 #[.slice none 0 0, .func (.func 110) #[] #[.pointer (some ⟨Bn, 0, none⟩)]] w fun e w' => ∃ v : Value, e = .returned v ∧ OwnI w' w.heap.size v xs ∧ Ext w w' := by
  obtain ⟨i0, hi, hz0, hz1, hz2⟩ := info_parts info3
  refine (callsIn_wide (n := 3)).1 ?_
  have h1 : 1 ≤ 3 := by omega
  refine callsIn_of_wp_marks Tryz.func133 rfl trivial ?_ rfl
  simp only [Tryz.ntmps133, List.size_toArray, List.length_cons, List.length_nil, Nat.reduceAdd, Nat.reduceSub, Array.replicate_succ, Array.replicate_zero, List.push_toArray, List.append_toArray, List.nil_append, List.cons_append]
  gi_wp2
  have bS := Boxed.new w 31 (.slice none 0 0)
  have hB0 : Below w.heap.size w (w.alloc (.cells #[.slice none 0 0] 31)) := (Below.refl _ w).alloc (Nat.le_refl _) _
  have hsz : (w.alloc (.cells #[.slice none 0 0] 31)).heap.size = w.heap.size + 1 := heap_size _ _
  obtain ⟨W0, hW0⟩ : ∃ W0, w.alloc (.cells #[.slice none 0 0] 31) = W0 := ⟨_, rfl⟩
  rw [hW0] at bS hB0 hsz ⊢
  clear hW0
  have hst := svals_stops 2 (by omega) Bn w.heap.size a c xs hl W0 (by omega) (by omega) ((hB0.cell (p := ⟨Bn, 0, none⟩) hBn).trans hc) ((IntsB.of hx).below hB0)
  refine wpIn_rangeFunc_ownG rfl h1 (gf := 110) (lb := #[.pointer (some ⟨Bn, 0, none⟩)]) rfl trivial (enters_of Tryz.func110 (by kernel_rfl) rfl)
    hst belowK_t (belowK_b (by omega)) (Below.refl _ _) (fun _ => rfl)
    (fun pre W => (∃ v, Boxed W w.heap.size 31 v ∧ W.ownsRow w.heap.size 3 1 v pre.length (rowI pre) ∧ True) ∧ Below w.heap.size w W)
    (fun _ _ _ => False)
    (OwnFrom.and (Own.from (holdsRow_own w.heap.size w.heap.size 31 3 1 (fun pre => pre.length) (fun pre => rowI pre) (fun _ _ => True)) _) (ownFrom_below (Nat.le_refl _) (by omega)))
    (fun _ _ _ _ _ hs _ _ => hs)
    ⟨⟨_, bS, World.ownsRow_nil _ _ _ _, trivial⟩, hB0⟩
    (fun x => { tmps := #[.slice none 0 0, .func (.func 110) #[] #[.pointer (some ⟨Bn, 0, none⟩)], .pointer (some ⟨w.heap.size, 0, none⟩), undef, .slice none 0 0, .int .i64 x, .func (.func 110) #[] #[.pointer (some ⟨Bn, 0, none⟩)], .int .i64 x, undef, undef, undef, undef, undef], defers := [] })
    ?assign ?body ?done ?stop
  case assign =>
    intro l x W K hK
    gi_wp2
    exact hK
  case body =>
    rintro l pre x W ⟨⟨v, hv, hrow, -⟩, hB⟩ hlt
    have hc := hv.cell
    gi_wp2_with (gi_at_builtin; refine wpListIn_append_own _ rfl _ _ 31 rfl w.heap.size 3 i0 (.int .i64 0) 1 8 Tryz.underlying31 hi hz0 hz1 hz2 rfl (by decide) _ _ _ rfl (hrow.alloc _) ⟨W.heap.size, 0, none⟩ 1 1 [.int .i64 x] rfl rfl (cell_one_new _ _ _) (by simp [Value.oneCell']) (by unfold maxLen; omega) (by omega) (by have := hB.size; simp; omega) ?_; intro v' w1 hown' hgrow _; obtain ⟨g', cap', rfl⟩ := ownsRow_succ hown'; obtain ⟨hv1, hv2, hr2, hk2, hb2⟩ := hv.appended (by decide) hrow hB.size (Nat.le_refl _) hown' hgrow; have hc1 := hv1.cell; have hf1 := hv1.frozen)
    refine ⟨hk2.from _, hb2, ⟨_, hv2, ?_, trivial⟩, hB.trans hb2⟩
    rw [List.length_append]
    unfold rowI at hr2 ⊢
    rw [List.map_append]
    exact hr2
  case done =>
    rintro D ys W hD rfl ⟨⟨v, hv, hrow, -⟩, hB⟩ hK
    have hc := hv.cell
    gi_wp2
    refine ⟨by simp, .inl ⟨_, _, rfl, run_takeDeferred hK, ?_⟩⟩
    exact ⟨_, results_tmp rfl _ _ _, v, rfl, ownsRow_putObj hrow _ hK rfl, hB.trans (belowK_b (w := w) (Nat.le_refl _) W D _ _ (by omega) hK rfl rfl)⟩
  case stop =>
    rintro D c pre W _ _ h _
    exact h.elim
set_option maxHeartbeats 1000000 in
theorem sCollect_any (Bn : Nat) (a : Option Addr) (c : Nat) (xs : List Int) (w : World) (hl : xs.length ≤ 1000000) (hBn : Bn < w.heap.size) (hc : w.cell? ⟨Bn, 0, none⟩ = some (.slice a xs.length c)) (hx : Ints w a xs) :
    Calls Tryz.prog 108 #[.func (.func 110) #[] #[.pointer (some ⟨Bn, 0, none⟩)]] w fun e w' => ∃ v : Value, e = .returned v ∧ OwnI w' w.heap.size v xs ∧ Ext w w' := by
  have H := Lib.hid (sAppendSeq_any Bn a c xs w hl hBn hc hx)
  clear hc hx
  go_enter Tryz.func108, Tryz.ntmps108
  go_wp2_with (go_at_call 133; refine H.out.mono ?_; rintro e w1 ⟨v, rfl, ho, he⟩)
  refine bodyPost_ret (v := v) (by simp [results, Tryz.results108, go_sem]) rfl ⟨v, rfl, ho, he⟩
set_option maxHeartbeats 1000000 in
theorem sorted_any (Bn : Nat) (a : Option Addr) (c : Nat) (xs : List Int) (w : World) (hl : xs.length ≤ 1000000) (hBn : Bn < w.heap.size) (hc : w.cell? ⟨Bn, 0, none⟩ = some (.slice a xs.length c)) (hx : Ints w a xs) :
    Calls Tryz.prog 72 #[.func (.func 110) #[] #[.pointer (some ⟨Bn, 0, none⟩)]] w (RetI (srt xs) w) := by
  have H := Lib.hid (sCollect_any Bn a c xs w hl hBn hc hx)
  clear hc hx
  have HS : Hid (∀ v w1, Ext w w1 → OwnI w1 w.heap.size v xs → Calls Tryz.prog 109 #[v] w1 (fun e w' => e = .returned (.tuple #[]) ∧ ∃ a c, v = .slice a (srt xs).length c ∧ Ext w w' ∧ OwnI w' w.heap.size v (srt xs))) := fun v w1 he ho => by
    rcases ho.2 with ⟨rfl, h0⟩ | ⟨g, cap, cur, rfl, hg, -⟩
    · obtain rfl : xs = [] := List.length_eq_zero_iff.1 h0
      refine (sort_none none 0 w1).mono ?_
      rintro e w' ⟨rfl, rfl⟩
      have hs0 : srt [] = [] := by simp [srt]
      rw [hs0]
      exact ⟨rfl, none, 0, rfl, he, ho⟩
    · refine (sort_ints w.heap.size g cap xs w1 ho hl).mono ?_
      rintro e w' ⟨rfl, hx, ho'⟩
      exact ⟨rfl, some ⟨g, 0, none⟩, cap, by rw [srt_len], (he.x.trans hx).ext hg, ho'⟩
  go_enter Tryz.func72, Tryz.ntmps72
  go_wp2_with (first
    | (go_at_call 108; refine H.out.mono ?_; rintro e w1 ⟨v, rfl, ho, he⟩; have HV := Lib.hid ho)
    | (go_at_call 109; refine (HS.out _ _ he HV.out).mono ?_; rintro e w2 ⟨rfl, a', c', rfl, he2, ho2⟩))
  go_ret
  exact ⟨a', c', rfl, he2, ho2⟩
theorem srt_eq {xs : List Int} {n : Nat} : srt xs = rngI n ↔ xs.Perm (rngI n) := by
  constructor
  · intro h; rw [← h]; exact (srt_perm xs).symm
  · intro h
    have h1 : (srt xs).Perm (rngI n) := (srt_perm xs).trans h
    have h2 : (srt xs).Pairwise (fun x y => decide (x ≤ y) = true) := by
      unfold srt
      exact List.pairwise_mergeSort (fun a b c h1 h2 => by simp at *; omega) (fun a b => by simp; omega) _
    have h3 : (rngI n).Pairwise (fun x y => decide (x ≤ y) = true) := by
      unfold rngI fl
      rw [List.pairwise_map]
      exact List.pairwise_lt_range.imp fun h => by simp; omega
    exact h1.eq_of_pairwise (fun a b _ _ h1 h2 => by simp at h1 h2; omega) h2 h3
set_option maxHeartbeats 1000000 in
theorem equal_any (xs ys : List Int) (a b : Option Addr) (n m c d : Nat) (w : World) (hx : Ints w a xs) (hy : Ints w b ys) (hn : xs.length = n) (hm : ys.length = m) (hn1 : n ≤ 1000000) (hm1 : m ≤ 1000000) :
    Calls Tryz.prog 71 #[.slice a n c, .slice b m d] w (Ret (.bool (sameB xs ys)) w) := by
  have HN := Lib.hid hn; have HM := Lib.hid hm
  have hns : n ≤ xs.length := by omega
  have hms : m ≤ ys.length := by omega
  clear hn hm
  cases T : ((n : Int) != (m : Int))
  · have hnm : n ≤ m := by simp at T; omega
    have hmn : m ≤ n := by simp at T; omega
    go_enter Tryz.func71, Tryz.ntmps71
    go_wp2_with (fail)
    go_loopw [5, 13] (fun _ i wr => ∃ k : Nat, k ≤ n ∧ i = .int .i64 k ∧ Ext w wr ∧ Hid (∀ j, j < k → nth xs j = nth ys j)) (fun _ i _ => n - (intOf i).toNat)
    case atStart => exact ⟨0, Nat.zero_le _, rfl, Ext.refl _, fun j hj => by omega⟩
    case round =>
      obtain ⟨k, hk, rfl, hr, hf⟩ := hrel
      by_cases hlt : k < n
      · obtain ⟨b', o', rfl, c0⟩ := hx.at k (by omega)
        obtain ⟨b'', o'', rfl, d0⟩ := hy.at k (by omega)
        have hkm : k < m := by omega
        go_wp2_with (fail)
        refine wp_region_ext (by kernel_rfl) (by kernel_rfl) hr ?_
        repeat (first | go_big_quiet_step (fail) | quiet_step (fail))
        refine wpQuiet_nil ?_
        rintro _ ⟨nq, rfl⟩
        have hq := nq.ok
        cases T2 : (nth xs k != nth ys k)
        · have hf2 : Hid (∀ j, j < k + 1 → nth xs j = nth ys j) := fun j hj => by
            rcases Nat.lt_succ_iff_lt_or_eq.1 hj with h | h
            · exact hf.out j h
            · rw [h]; simpa using T2
          go_wp2_with (fail)
          go_roundw
          case rel => exact ⟨k + 1, by omega, by go_num, hq, hf2⟩
          case measure => simp [intOf]; omega
        · have H2 : Hid (sameB xs ys = false) := by
            have : ¬ nth xs k = nth ys k := by simpa using T2
            refine decide_eq_false fun e => this (by rw [e])
          go_wp2_with (fail)
          go_ret
          exact ⟨by rw [H2.out]; rfl, hq⟩
      · obtain rfl : k = n := by omega
        have H2 : Hid (sameB xs ys = true) := decide_eq_true (ext_nth _ _ (by rw [HN.out, HM.out]; omega) fun i hi => hf.out i (by rw [HN.out] at hi; exact hi))
        go_wp2_with (fail)
        go_ret
        exact ⟨by rw [H2.out]; rfl, hr⟩
  · have H2 : Hid (sameB xs ys = false) := by
      have : ¬ n = m := by simp at T; omega
      exact decide_eq_false fun e => this (by rw [← HN.out, ← HM.out, e])
    go_enter Tryz.func71, Tryz.ntmps71
    go_wp2_with (fail)
    go_ret
    exact ⟨by rw [H2.out]; rfl, Ext.refl _⟩
end Go.Proofs.YtplbofhgmflnlaaGreat
