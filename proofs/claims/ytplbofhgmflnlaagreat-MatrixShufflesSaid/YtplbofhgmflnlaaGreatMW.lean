/-
  The values of a map of words, collected: maps.Values, its iterator, slices.AppendSeq, slices.Collect.
-/
import Derived.Test.YtplbofhgmflnlaaGreatMV
import Derived.RangeFuncNested
import Derived.RangeFuncBound
import Derived.RangeFuncCalls
import Derived.RangeFuncLeaves
import Derived.Shelf.Abstract
import Derived.Shelf.RegionOpen
import Derived.OwnWalkIn
import Derived.TacticsInMore
import Derived.LoopNIn
import Derived.LoopIn
import Derived.Sort.MapsRangeIn
set_option linter.unusedVariables false
set_option linter.unusedSimpArgs false
namespace Go.Proofs.YtplbofhgmflnlaaGreat
open Go.RowKit Go.Maps Go.MapKept Go.Shelf
attribute [local go_sem] Oper.semAt_some
section
variable {F : Fence} {n : Nat} {P : Program} (w : World) {ops : Array Oper} {rest : List Oper} {o : Oper} {a : Act} {Q : Exit → Act → World → Prop}
theorem wpListIn_range_run (hg : o.guard = none) (m : Operand) (t : TypeId) (hop : o.op = Op.range t m) (v : Value) (w' : World) (hrun : (Instr.range t (a.eval m)).run P w = .ok v w')
    (hK : wpListIn F n P ops Q rest (a.put o.dst v) w') : wpListIn F n P ops Q (o :: rest) a w := by
  refine wpListIn_plain hg fun K' hK' => ?_
  unfold Oper.wpIn
  refine ⟨?_, ?_⟩
  · simp [Oper.about, hop]
  · rw [Oper.semAt_plain F _ _ (by rw [hop]; intro c hc'; cases hc')]
    simp [execOp, hop, hrun, Result.andThen]
    exact hK' _ _ hK
theorem wpListIn_next_run (hg : o.guard = none) (it : Operand) (hop : o.op = Op.next it false) (A : Prop) (B : Value → World → Prop)
    (hrun : (A ∧ (Instr.next (a.eval it) false o.type).run P w = .ok (.tuple #[.bool false]) w) ∨ ∃ v w', (Instr.next (a.eval it) false o.type).run P w = .ok v w' ∧ B v w')
    (hDone : A → wpListIn F n P ops Q rest (a.put o.dst (.tuple #[.bool false])) w) (hMore : ∀ v w', B v w' → wpListIn F n P ops Q rest (a.put o.dst v) w') : wpListIn F n P ops Q (o :: rest) a w := by
  refine wpListIn_plain hg fun K' hK' => ?_
  unfold Oper.wpIn
  refine ⟨by simp [Oper.about, hop], ?_⟩
  rw [Oper.semAt_plain F _ _ (by rw [hop]; intro c hc'; cases hc')]
  rcases hrun with ⟨hA, hr⟩ | ⟨v, w', hr, hB⟩
  · simp [execOp, hop, hr, Result.andThen]
    exact hK' _ _ (hDone hA)
  · simp [execOp, hop, hr, Result.andThen]
    exact hK' _ _ (hMore v w' hB)
end
/-- A word as an entry of a map by masks. -/
def entW (x : Wd) : Value × Value := (.int .u16 (x.mask : Int), wdV x)
theorem Stepped.keep {w w' : World} {r : Nat} (h : Stepped w w' r) (i : Nat) (hi : i < w.heap.size) (hr : i ≠ r) : w'.heap[i]? = w.heap[i]? := h.grown.block i hi (fun e => hr (by cases e; rfl))
theorem RngAt.of_walks {k : TypeId} {w w' : World} {b r : Nat} {m done : List (Value × Value)} (h : RngAt k w b r m done) (hk : KeepsWalks w w') : RngAt k w' b r m done := by
  obtain ⟨es, clock, since, seen, c0, ds, h1, h2, h3, h4⟩ := h
  exact ⟨es, clock, since, seen, c0, ds, hk.same b _ h1 rfl, h2, hk.same r _ h3 rfl, h4⟩
def decW (p : Value × Value) : Wd := match p with
  | (.int _ k, .agg cs) => ⟨k.toNat, match cs[1]? with | some (Value.bool o) => o | _ => false⟩
  | _ => ⟨0, false⟩
theorem dec_ent (x : Wd) : decW (entW x) = x := by
  obtain ⟨k, o⟩ := x
  simp [decW, entW]
theorem perm_ent {xs ys : List Wd} (h : (xs.map entW).Perm (ys.map entW)) : xs.Perm ys := by
  have := h.map decW
  rw [List.map_map, List.map_map] at this
  simpa [Function.comp_def, dec_ent] using this
theorem RngAt.nextW {w : World} {b r : Nat} {xs done : List Wd} (h : RngAt 59 w b r (xs.map entW) (done.map entW)) (ty : TypeId) :
    (done.Perm xs ∧ (Instr.next (.pointer (some ⟨r, 0, none⟩)) false ty).run Tryz.prog w = .ok (.tuple #[.bool false]) w) ∨
    ∃ v w', (Instr.next (.pointer (some ⟨r, 0, none⟩)) false ty).run Tryz.prog w = .ok v w' ∧ Hid (∃ x : Wd, x ∈ xs ∧ v = .tuple #[.bool true, .int .u16 (x.mask : Int), wdV x] ∧ done.length < xs.length ∧
      RngAt 59 w' b r (xs.map entW) ((done ++ [x]).map entW) ∧ Stepped w w' r ∧ (Instr.entry (.pointer (some ⟨r, 0, none⟩))).run Tryz.prog w' = .ok (.tuple #[.int .u16 (x.mask : Int), wdV x]) w') := by
  rcases h.next ty with ⟨hp, hr⟩ | ⟨key, v, w', hm, hl, hr, hg, hs, he⟩
  · exact .inl ⟨perm_ent hp, hr⟩
  · obtain ⟨x, hx, e⟩ := List.mem_map.1 hm
    simp only [entW, Prod.mk.injEq] at e
    obtain ⟨rfl, rfl⟩ := e
    refine .inr ⟨_, w', hr, Lib.hid ⟨x, hx, rfl, by simpa using hl, ?_, hs, he⟩⟩
    rw [List.map_append]
    exact hg
set_option maxRecDepth 100000 in
set_option maxHeartbeats 1000000 in
theorem vals1_in (n : Nat) (hn : 1 ≤ n) (l Bm b : Nat) (xs : List Wd) (J Jx : List Wd → World → Prop)
    (hY : ∀ pre x W, J pre W → pre.length < xs.length → YieldAt Fence.wide (n - 1) Tryz.prog l #[wdV x] W fun e W' =>
      (e = .returned (.bool true) ∧ J (pre ++ [x]) W' ∧ KeepsWalks W W') ∨ (e = .returned (.bool false) ∧ Jx (pre ++ [x]) W'))
    (W : World) (hJ : AbidesFrom W.heap.size J) (hm : W.cell? ⟨Bm, 0, none⟩ = some (.map (some b))) (hown : MapAt 59 W b (xs.map entW)) (h0 : J [] W) :
    CallsIn Fence.wide n Tryz.prog 167 #[.func (.yield l) #[] #[], .pointer (some ⟨Bm, 0, none⟩)] W fun e W' => (∃ v, e = .returned v) ∧
      ((∃ ys, ys.Perm xs ∧ J ys W') ∨ (∃ pre, Jx pre W')) := by
  obtain ⟨s, c, hrun, hrg0⟩ := hown.range Tryz.underlying179
  refine callsIn_of_wp Tryz.func167 rfl trivial ?_ rfl
  simp only [Tryz.ntmps167, List.size_toArray, List.length_cons, List.length_nil, Nat.reduceAdd, Nat.reduceSub, Array.replicate_succ, Array.replicate_zero, List.push_toArray, List.append_toArray, List.nil_append, List.cons_append]
  gi_wp2_with (first
    | (gi_at_range; refine wpListIn_range_run _ rfl _ 179 rfl _ _ hrun ?_)
    | gi_in)
  generalize hw0 : W.alloc (.mapIter (some b) s #[] c) = w0 at hrg0 ⊢
  have hg0 : W.grownBy w0 none := by rw [← hw0]; exact World.grownBy_alloc W _ none
  go_frame
  gi_loopw [4] (fun _ wr => ∃ done : List Wd, RngAt 59 wr b W.heap.size (xs.map entW) (done.map entW) ∧ J done wr) (fun _ wr => rngLeft wr b W.heap.size)
  case atStart =>
    exact ⟨[], hrg0, hJ [] W w0 none h0 hg0 (fun r e => by cases e)⟩
  case round =>
    obtain ⟨done, hrg, hJs⟩ := hrel
    gi_wp2_with (first
      | (gi_at_next; refine wpListIn_next_run _ rfl _ rfl _ _ (hrg.nextW _) ?_ ?_)
      | gi_in)
    · intro hp
      gi_wp2
      go_end0
      exact ⟨⟨_, rfl⟩, .inl ⟨done, hp, hJs⟩⟩
    · intro v w2 hB
      obtain ⟨x, hx, rfl, hlen, hrg2, hst, hen⟩ := hB.out
      have hJ2 : J done w2 := hJ done wr w2 (some W.heap.size) hJs hst.grown (fun r e => by cases e; obtain ⟨o, ho, a1, a2, a3, a4, rfl⟩ := hrg.iter_walk; exact ⟨Nat.le_refl _, _, ho, rfl⟩)
      have hJ4 : J done (w2.alloc (.cells #[.int .u16 (x.mask : Int), .bool x.odd] 75)) := hJ done w2 _ none hJ2 (World.grownBy_alloc w2 _ none) (fun r e => by cases e)
      obtain ⟨fn, tmps, assign, body, hy, hR⟩ := hY done x _ hJ4 hlen
      dsimp only [wdV] at hy
      have hrg4 : RngAt 59 (w2.alloc (.cells #[.int .u16 (x.mask : Int), .bool x.odd] 75)) b W.heap.size (xs.map entW) ((done ++ [x]).map entW) := by rw [List.map_append]; exact hrg2.of_walks (KeepsWalks.alloc _ _)
      clear hB hrg2 hst hJ2
      gi_wp2
      refine hR.mono ?_
      rintro e W3 (⟨rfl, hJ3, hk3⟩ | ⟨rfl, hJx3⟩)
      · gi_wp2
        have hrg3 := hrg4.of_walks hk3
        go_roundw
        case rel => exact ⟨done ++ [x], hrg3, hJ3⟩
        case measure =>
          rw [hrg3.left, hrg.left]
          simp only [List.length_map, List.length_append, List.length_singleton]
          omega
      · gi_wp2
        refine bodyPost_ret (results_none rfl _ _ _) rfl ?_
        exact ⟨⟨_, rfl⟩, .inr ⟨done ++ [x], hJx3⟩⟩
/-- What the iterator gives. -/
theorem vals_stops (n : Nat) (hn : 1 ≤ n) (Bm b : Nat) (xs : List Wd) (w : World) (hBm : Bm < w.heap.size) (hm : w.cell? ⟨Bm, 0, none⟩ = some (.map (some b))) (hown : MapAt 59 w b (xs.map entW)) :
    SeqStopsK Fence.wide n Tryz.prog 167 #[.pointer (some ⟨Bm, 0, none⟩)] (fun x : Wd => #[wdV x]) KeepsWalks (fun ys => ys.Perm xs) (fun _ => True) xs.length w := fun l J Jx W hW hJ _ hY h0 => by
  refine (vals1_in n hn l Bm b xs J Jx hY W hJ ((hW.cell (p := ⟨Bm, 0, none⟩) hBm).trans hm) (hown.ext hW) h0).mono ?_
  rintro e W' ⟨h1, h2 | ⟨pre, h2⟩⟩
  · exact ⟨h1, .inl h2⟩
  · exact ⟨h1, .inr ⟨pre, trivial, h2⟩⟩
set_option maxHeartbeats 1000000 in
/-- maps.Values. -/
theorem values_any (b : Nat) (w : World) : Calls Tryz.prog 148 #[.map (some b)] w fun e w' => e = .returned (.func (.func 167) #[] #[.pointer (some ⟨w.heap.size, 0, none⟩)]) ∧ w' = w.alloc (.cells #[.map (some b)] 179) := by
  go_enter Tryz.func148, Tryz.ntmps148
  go_wp2_with (fail)
  go_ret
  exact ⟨rfl, rfl⟩
theorem info75 : (Tryz.prog.info? 75).map (fun i => (i.zero, i.size, i.bytes)) = some (some (.agg #[.int .u16 0, .bool false]), 2, 4) := by kernel_rfl
theorem cell_two_new (w : World) (x y : Value) (t : TypeId) : ∀ j u, [x, y][j]? = some u → (w.alloc (.cells #[x, y] t)).cell? ((⟨w.heap.size, 0, none⟩ : Addr).add j) = some u := by
  intro j u hj
  have hb := heap_new w (.cells #[x, y] t)
  match j, hj with
  | 0, hj => simp only [List.getElem?_cons_zero, Option.some.injEq] at hj; subst hj; exact (obj_cells2 hb).1 _ (Ext.refl _)
  | 1, hj => simp only [List.getElem?_cons_succ, List.getElem?_cons_zero, Option.some.injEq] at hj; subst hj; exact (obj_cells2 hb).2 _ (Ext.refl _)
theorem walks_of_others {W W' : World} (h : KeepsOthers W W') : KeepsWalks W W' := ⟨h.size, fun k o hk hw => h.same k o hk (Obj.not_cells_of_walk hw)⟩
theorem block_own {β : Type} (B : Nat) (o : Obj) (ho : o.isCells = true) : Own (fun (_ : β) W => W.heap[B]? = some o) := fun s X Y row hs hg hrow =>
  (hg.block B (lt_of_block hs) (fun e' => by obtain ⟨o', h1, h2⟩ := hrow B e'.symm; rw [hs] at h1; cases h1; rw [ho] at h2; cases h2)).trans hs
set_option maxRecDepth 100000 in
set_option maxHeartbeats 2000000 in
theorem appendSeq_any (Bm b : Nat) (xs : List Wd) (w : World) (hxs : xs.length ≤ 1000000) (hBm : Bm < w.heap.size) (hm : w.cell? ⟨Bm, 0, none⟩ = some (.map (some b))) (hown : MapAt 59 w b (xs.map entW)) :
    Calls Tryz.prog 166 #[.slice none 0 0, .func (.func 167) #[] #[.pointer (some ⟨Bm, 0, none⟩)]] w fun e w' => ∃ (v : Value) (ys : List Wd), e = .returned v ∧ ys.Perm xs ∧ OwnF 75 2 wdC w' w.heap.size v ys ∧ Ext w w' := by
  obtain ⟨i0, hi, hz0, hz1, hz2⟩ := info_parts info75
  refine (callsIn_wide (n := 3)).1 ?_
  have h1 : 1 ≤ 3 := by omega
  refine callsIn_of_wp_marks Tryz.func166 rfl trivial ?_ rfl
  simp only [Tryz.ntmps166, List.size_toArray, List.length_cons, List.length_nil, Nat.reduceAdd, Nat.reduceSub, Array.replicate_succ, Array.replicate_zero, List.push_toArray, List.append_toArray, List.nil_append, List.cons_append]
  gi_wp2
  have bS := Boxed.new w 56 (.slice none 0 0)
  have hB0 : Below w.heap.size w (w.alloc (.cells #[.slice none 0 0] 56)) := (Below.refl _ w).alloc (Nat.le_refl _) _
  have hsz : (w.alloc (.cells #[.slice none 0 0] 56)).heap.size = w.heap.size + 1 := heap_size _ _
  obtain ⟨W0, hW0⟩ : ∃ W0, w.alloc (.cells #[.slice none 0 0] 56) = W0 := ⟨_, rfl⟩
  rw [hW0] at bS hB0 hsz ⊢
  clear hW0
  have hst := vals_stops 2 (by omega) Bm b xs W0 (by omega) ((hB0.cell (p := ⟨Bm, 0, none⟩) hBm).trans hm) (hown.ext hB0)
  refine wpIn_rangeFunc_ownH rfl h1 (gf := 167) (lb := #[.pointer (some ⟨Bm, 0, none⟩)]) rfl trivial (enters_of Tryz.func167 (by kernel_rfl) rfl)
    hst walksK_t (fun W l o o' h2 h3 h4 h5 => walksK_b (w := W0) W l o o' h2 h3 h4 h5) (Below.refl _ _) (fun _ => rfl)
    (fun pre W => (∃ v, Boxed W w.heap.size 56 v ∧ W.ownsRow w.heap.size 75 2 v pre.length (rowF wdC pre) ∧ True) ∧ Below w.heap.size w W)
    (fun _ _ _ => False)
    (OwnFrom.and (Own.from (holdsRow_own w.heap.size w.heap.size 56 75 2 (fun pre => pre.length) (fun pre => rowF wdC pre) (fun _ _ => True)) _) (ownFrom_below (Nat.le_refl _) (by omega)))
    (fun _ _ _ _ _ hs _ _ => hs)
    ⟨⟨_, bS, World.ownsRow_nil _ _ _ _, trivial⟩, hB0⟩
    (fun x a' W => ∃ Bx, w.heap.size < Bx ∧ W.heap[Bx]? = some (.cells #[.int .u16 (x.mask : Int), .bool x.odd] 75 (0, 0)) ∧ a' = { tmps := #[.slice none 0 0, .func (.func 167) #[] #[.pointer (some ⟨Bm, 0, none⟩)], .pointer (some ⟨w.heap.size, 0, none⟩), undef, .slice none 0 0, .pointer (some ⟨Bx, 0, none⟩), .func (.func 167) #[] #[.pointer (some ⟨Bm, 0, none⟩)], wdV x, undef, undef, undef, undef, undef], defers := [] })
    (fun x a' u X Y row hs hg hr => by obtain ⟨Bx, h1, h2, h3⟩ := hs; exact ⟨Bx, h1, block_own (β := Unit) Bx _ rfl () X Y row h2 hg (fun r e => (hr r e).2), h3⟩)
    ?assign ?body ?done ?stop
  case assign =>
    rintro l pre x W K ⟨⟨v, hv, hrow, -⟩, hB⟩ hK
    gi_wp2
    exact hK _ _ ((KeepsOthers.alloc _ _).from _) (KeepsWalks.alloc _ _) ⟨⟨v, hv.alloc _, hrow.alloc _, trivial⟩, hB.alloc hB.size _⟩ ⟨W.heap.size, hv.lt, heap_new _ _, rfl⟩
  case body =>
    rintro l pre x a' W hl ⟨r, hr⟩ ⟨⟨v, hv, hrow, -⟩, hB⟩ ⟨Bx, hBx, bX, rfl⟩ hlt
    have hc := hv.cell
    obtain ⟨c0, c1⟩ := obj_cells2 bX
    have d0 := c0 W (Ext.refl W)
    have d1 := c1 W (Ext.refl W)
    gi_wp2_with (gi_at_builtin; refine wpListIn_append_own _ rfl _ _ 56 rfl w.heap.size 75 i0 (.agg #[.int .u16 0, .bool false]) 2 4 Tryz.underlying56 hi hz0 hz1 hz2 rfl (by decide) _ _ _ rfl (hrow.alloc _) ⟨W.heap.size, 0, none⟩ 1 1 [.int .u16 (x.mask : Int), .bool x.odd] rfl rfl (cell_two_new _ _ _ _) (by simp [Value.oneCell']) (by unfold maxLen; omega) (by omega) (by have := hB.size; simp; omega) ?_; intro v' w1 hown' hgrow _; obtain ⟨g', cap', rfl⟩ := ownsRow_succ hown'; obtain ⟨hv1, hv2, hr2, hk2, hb2⟩ := hv.appended (by decide) hrow hB.size (Nat.le_refl _) hown' hgrow; have hc1 := hv1.cell; have hf1 := hv1.frozen)
    refine ⟨hk2.from _, walks_of_others hk2, ⟨_, hv2, ?_, trivial⟩, hB.trans hb2⟩
    rw [rowF_append, List.length_append]
    exact hr2
  case done =>
    rintro D ys W hD hp ⟨⟨v, hv, hrow, -⟩, hB⟩ hK
    have hc := hv.cell
    gi_wp2
    refine ⟨by simp, .inl ⟨_, _, rfl, run_takeDeferred hK, ?_⟩⟩
    exact ⟨_, results_tmp rfl _ _ _, v, ys, rfl, hp, ownsRow_putObj hrow _ hK rfl, hB.trans (belowK_b (w := w) (Nat.le_refl _) W D _ _ (by omega) hK rfl rfl)⟩
  case stop =>
    rintro D c pre W _ _ h _
    exact h.elim
set_option maxHeartbeats 1000000 in
/-- slices.Collect over maps.Values of a map of words: its words, in some order, in a row of their own. -/
theorem collect_any (Bm b : Nat) (xs : List Wd) (w : World) (hxs : xs.length ≤ 1000000) (hBm : Bm < w.heap.size) (hm : w.cell? ⟨Bm, 0, none⟩ = some (.map (some b))) (hown : MapAt 59 w b (xs.map entW)) :
    Calls Tryz.prog 147 #[.func (.func 167) #[] #[.pointer (some ⟨Bm, 0, none⟩)]] w fun e w' => ∃ (v : Value) (ys : List Wd), e = .returned v ∧ ys.Perm xs ∧ OwnF 75 2 wdC w' w.heap.size v ys ∧ Ext w w' := by
  have H := Lib.hid (appendSeq_any Bm b xs w hxs hBm hm hown)
  go_enter Tryz.func147, Tryz.ntmps147
  go_wp2_with (go_at_call 166; refine H.out.mono ?_; rintro e w1 ⟨v, ys, rfl, hp, ho, he⟩)
  refine bodyPost_ret (v := v) (by simp [results, Tryz.results147, go_sem]) rfl ⟨v, ys, rfl, hp, ho, he⟩
end Go.Proofs.YtplbofhgmflnlaaGreat
