/-
  More base words: append onto a slice of no element, and where the new one lies; campaigns as a row of cells; a law for append at a step of a region that draws its order.
-/
import Derived.Test.YtjpgignbjkgjiaaA15
import Derived.Maps.AppendAt
import Derived.Deep.RegionLaw
set_option linter.unusedVariables false
set_option linter.unusedSimpArgs false
namespace Go.Proofs.Ytjpgignbjkgjiaa
open Go.RowKit
theorem step_app {P : Program} {ops : Array Oper} {o : Oper} {a : Act} {w : World} {K : Act → World → Prop} {Q : Exit → Act → World → Prop} {E : Prop} (hgd : o.guard = none) (s x : Operand) (t : TypeId)
    (ho : o.op = .call { callee := .builtin .append, args := #[s, x], argTypes := #[t, t] }) (v y : Value) (hs : a.eval s = v) (hx : a.eval x = y)
    (R : Value → World → Prop) (hrun : ∃ v' w', (Builtin.append_ #[t, t] o.type #[v, y]).run P w = .ok v' w' ∧ R v' w')
    (h : ∀ v' w', R v' w' → K (a.put o.dst v') w') : if Region.wanted o (yielded ops a.tmps) = true then Oper.wp P o a w K Q else E := by
  have hw : Region.wanted o (yielded ops a.tmps) = true := by simp [Region.wanted, hgd]
  rw [if_pos hw]
  obtain ⟨v', w', hr, hR⟩ := hrun
  unfold Oper.wp execOp
  simp only [ho, resolve, invoke, builtin, Sem.run_bind, Sem.run_pure, Result.andThen_ok, List.map_toArray, List.map_cons, List.map_nil, hs, hx, hr]
  exact h _ _ hR
theorem ownsRow_empty {W : World} {g B : Nat} {e : TypeId} {size : Nat} (hb : W.heap[g]? = some (.cells #[] e (0, 0))) (hB : B ≤ g) : W.ownsRow B e size (.slice (some ⟨g, 0, none⟩) 0 0) 0 [] :=
  ⟨by simp, .inr ⟨g, 0, #[], rfl, hB, hb, Nat.le_refl _, by unfold maxLen; omega, by simp, by simp⟩⟩
/-- Where a slice lies that was appended to one of no element in the block g. -/
def Lies (W : World) (g : Nat) (v : Value) (n : Nat) : Prop := ∃ g' c', v = .slice (some ⟨g', 0, none⟩) n c' ∧ (g' = g ∨ g' = W.heap.size)
theorem run_app0 (W : World) (g B : Nat) (t ty e : TypeId) (i : TypeInfo) (z : Value) (size bytes : Nat) (ht : Try.prog.underlying t = some (.slice e)) (hi : Try.prog.info? e = some i) (hz : i.zero = some z)
    (hsize : i.size = size) (hby : i.bytes = bytes) (hzs : z.cells.size = size) (hsz : 0 < size) (hb : W.heap[g]? = some (.cells #[] e (0, 0))) (hB : B ≤ g)
    (a : Option Addr) (m c : Nat) (news : List Value) (hl : news.length = m * size) (hnews : Src W a news) (h1 : ∀ u ∈ news, u.oneCell' = true)
    (h63 : m ≤ maxLen) (hbytes : m * bytes ≤ 140737488355328) :
    ∃ v' w', (Builtin.append_ #[t, t] ty #[.slice (some ⟨g, 0, none⟩) 0 0, .slice a m c]).run Try.prog W = .ok v' w' ∧ Lies W g v' m ∧ w'.ownsRow B e size v' m news ∧ W.grownBy w' (some g) := by
  have hown := ownsRow_empty (size := size) hb hB
  have hg := lt_of_block hb
  have hgen : ∀ (ad : Addr), a = some ad → (∀ j u, news[j]? = some u → W.cell? (ad.add j) = some u) →
      ∃ v' w', (Builtin.append_ #[t, t] ty #[.slice (some ⟨g, 0, none⟩) 0 0, .slice a m c]).run Try.prog W = .ok v' w' ∧ Lies W g v' m ∧ w'.ownsRow B e size v' m news ∧ W.grownBy w' (some g) := by
    rintro ad rfl hc
    obtain ⟨v', w', r1, r2, r3, r4, r5⟩ := run_append_own_at (P := Try.prog) W B t ty e i z size bytes ht hi hz hsize hby hzs hsz _ 0 [] hown ad m c news hl hc h1 (by omega) (by rw [Nat.zero_add]; exact hbytes) (by omega)
    rw [Nat.zero_add, List.nil_append] at r2
    refine ⟨v', w', r1, ?_, r2, r3⟩
    rcases r2.2 with ⟨hv, _⟩ | ⟨g', cap, cur, hv, _⟩
    · exact absurd (r4.1 hv).1 (by simp)
    · refine ⟨g', cap, hv, ?_⟩
      subst hv
      simpa [Value.ownBlock] using r5
  rcases hnews with rfl | ⟨ad, ha, hc⟩
  · cases a with
    | some ad => exact hgen ad rfl (fun j u h => by simp at h)
    | none =>
      have hm : m = 0 := by
        have : m * size = 0 := by simpa using hl.symm
        rcases Nat.mul_eq_zero.1 this with h | h
        · exact h
        · omega
      subst hm
      refine ⟨_, W, ?_, ⟨g, 0, rfl, .inl rfl⟩, hown, ⟨rfl, rfl, rfl, Nat.le_refl _, fun _ _ _ => rfl⟩⟩
      simp [Builtin.append_, run_underlying ht, sizeOf, typeInfo, hi, Builtin.lenOf, Builtin.firstCells, storeCells]
  · exact hgen ad ha hc
theorem app_ints0 (W : World) (g B : Nat) (ty : TypeId) (ys : List Int) (a : Option Addr) (c : Nat) (hb : W.heap[g]? = some (.cells #[] 3 (0, 0))) (hB : B ≤ g) (hx : Ints W a ys) (hn : ys.length ≤ 1000000) :
    ∃ v' w', (Builtin.append_ #[22, 22] ty #[.slice (some ⟨g, 0, none⟩) 0 0, .slice a ys.length c]).run Try.prog W = .ok v' w' ∧ Lies W g v' ys.length ∧ OwnI w' B v' ys ∧ W.grownBy w' (some g) := by
  obtain ⟨i0, hi, hz0, hz1, hz2⟩ := info_parts info3
  exact run_app0 W g B 22 ty 3 i0 (.int .i64 0) 1 8 Try.underlying22 hi hz0 hz1 hz2 rfl (by omega) hb hB a ys.length c (rowI ys) (by rw [rowI_len]; omega) hx.src (rowI_one ys) (by unfold maxLen; omega) (by omega)
/-- A campaign's cells. -/
def ccell (c : Camp) : Nat → Value
  | 0 => .int .i64 c.cu
  | 1 => .int .i64 c.pr
  | 2 => .int .i64 c.ho
  | 3 => .int .i64 c.en
  | 4 => .int .i64 c.ea
  | 5 => .int .i64 c.la
  | _ => .int .i64 c.we
def rowC (cs : List Camp) : List Value := (List.range (cs.length * 7)).map fun q => ccell (cth cs (q / 7)) (q % 7)
theorem rowC_len (cs : List Camp) : (rowC cs).length = cs.length * 7 := by simp [rowC]
theorem rowC_get (cs : List Camp) (q : Nat) (h : q < cs.length * 7) : (rowC cs)[q]? = some (ccell (cth cs (q / 7)) (q % 7)) := by simp [rowC, h]
theorem rowC_at (cs : List Camp) (i j : Nat) (h : i < cs.length) (hj : j < 7) : (rowC cs)[i * 7 + j]? = some (ccell (cth cs i) j) := by
  rw [rowC_get _ _ (by omega), show (i * 7 + j) / 7 = i by omega, show (i * 7 + j) % 7 = j by omega]
theorem cth_left (xs ys : List Camp) (i : Nat) (h : i < xs.length) : cth (xs ++ ys) i = cth xs i := by simp [cth, List.getElem?_append_left h]
theorem cth_right (xs ys : List Camp) (i : Nat) (h : xs.length ≤ i) : cth (xs ++ ys) i = cth ys (i - xs.length) := by simp [cth, List.getElem?_append_right h]
theorem rowC_append (xs ys : List Camp) : rowC (xs ++ ys) = rowC xs ++ rowC ys := by
  apply List.ext_getElem?
  intro q
  rcases Nat.lt_or_ge q (xs.length * 7) with h | h
  · rw [rowC_get _ _ (by rw [List.length_append]; omega), List.getElem?_append_left (by rw [rowC_len]; exact h), rowC_get _ _ h, cth_left _ _ _ (by omega)]
  · rw [List.getElem?_append_right (by rw [rowC_len]; exact h), rowC_len]
    rcases Nat.lt_or_ge q ((xs.length + ys.length) * 7) with h2 | h2
    · rw [rowC_get _ _ (by rw [List.length_append]; exact h2), rowC_get _ _ (by omega), cth_right _ _ _ (by omega), show (q - xs.length * 7) / 7 = q / 7 - xs.length by omega, show (q - xs.length * 7) % 7 = q % 7 by omega]
    · rw [List.getElem?_eq_none (by rw [rowC_len, List.length_append]; exact h2), List.getElem?_eq_none (by rw [rowC_len]; omega)]
theorem ccell_one (c : Camp) (j : Nat) : (ccell c j).oneCell' = true := by unfold ccell; split <;> rfl
theorem rowC_one (cs : List Camp) : ∀ u ∈ rowC cs, u.oneCell' = true := by
  intro u hu
  simp only [rowC, List.mem_map] at hu
  obtain ⟨q, _, rfl⟩ := hu
  exact ccell_one _ _
theorem Camps.src {w : World} {a : Option Addr} {cs : List Camp} (h : Camps w a cs) : Src w a (rowC cs) := by
  rcases h with rfl | ⟨b, o, h1, h2⟩
  · exact .inl rfl
  · refine .inr ⟨_, h1, fun q u hq => ?_⟩
    have hlt : q < cs.length * 7 := by
      rcases Nat.lt_or_ge q (cs.length * 7) with h | h
      · exact h
      · rw [List.getElem?_eq_none (by rw [rowC_len]; exact h)] at hq; cases hq
    rw [rowC_get cs q hlt] at hq
    simp only [Option.some.injEq] at hq
    rw [← hq, Addr.add_lit]
    obtain ⟨c0, c1, c2, c3, c4, c5, c6⟩ := h2 (q / 7) (by omega)
    have hr : q % 7 < 7 := by omega
    have hoq : o + q = o + q / 7 * 7 + q % 7 := by omega
    rw [hoq]
    generalize q % 7 = r at *
    match r, hr with
    | 0, _ => exact c0
    | 1, _ => exact c1
    | 2, _ => exact c2
    | 3, _ => exact c3
    | 4, _ => exact c4
    | 5, _ => exact c5
    | 6, _ => exact c6
def OwnC (w : World) (B : Nat) (v : Value) (cs : List Camp) : Prop := w.ownsRow B 45 7 v cs.length (rowC cs)
theorem OwnC.ext {w w' : World} {B : Nat} {v : Value} {cs : List Camp} (h : OwnC w B v cs) (e : Ext w w') : OwnC w' B v cs := by
  obtain ⟨h1, h2⟩ := h
  refine ⟨h1, ?_⟩
  rcases h2 with h2 | ⟨g, cap, cur, hv, hg, hh, r⟩
  · exact .inl h2
  · exact .inr ⟨g, cap, cur, hv, hg, e.block hh, r⟩
theorem OwnC.camps {w : World} {B : Nat} {a : Option Addr} {n c : Nat} {cs : List Camp} (h : OwnC w B (.slice a n c) cs) : Camps w a cs ∧ n = cs.length ∧ n ≤ c := by
  obtain ⟨h1, h2⟩ := h
  rcases h2 with ⟨hv, hn⟩ | ⟨g, cap, cur, hv, hg, hh, hnc, hcm, hs, ht⟩
  · simp only [Value.slice.injEq] at hv
    have : cs = [] := List.length_eq_zero_iff.1 hn
    exact ⟨.inl this, by omega, by omega⟩
  · simp only [Value.slice.injEq] at hv
    obtain ⟨rfl, rfl, rfl⟩ := hv
    have key : ∀ i j, i < cs.length → j < 7 → w.cell? ⟨g, 0 + i * 7 + j, none⟩ = some (ccell (cth cs i) j) := fun i j hi hj => by
      have h3 : (cur.toList.take (cs.length * 7))[i * 7 + j]? = cur.toList[i * 7 + j]? := by rw [List.getElem?_take, if_pos (by omega)]
      rw [ht, rowC_at cs i j hi hj] at h3
      simp only [World.cell?, hh, Option.isSome_none, Bool.false_eq_true, if_false, Nat.zero_add]
      rw [← Array.getElem?_toList, ← h3]
    exact ⟨.inr ⟨g, 0, rfl, fun i hi => ⟨key i 0 hi (by omega), key i 1 hi (by omega), key i 2 hi (by omega), key i 3 hi (by omega), key i 4 hi (by omega), key i 5 hi (by omega), key i 6 hi (by omega)⟩⟩, rfl, hnc⟩
theorem info45 : (Try.prog.info? 45).map (fun i => (i.zero, i.size, i.bytes)) = some (some (.agg #[.int .i64 0, .int .i64 0, .int .i64 0, .int .i64 0, .int .i64 0, .int .i64 0, .int .i64 0]), 7, 56) := by kernel_rfl
/-- 'append(v, x...)' at []api.Campaign, v the call's own. -/
theorem app_camps (w : World) (B : Nat) (ty : TypeId) (v : Value) (xs ys : List Camp) (a : Option Addr) (c : Nat) (hv : OwnC w B v xs) (hx : Camps w a ys) (hn : xs.length + ys.length ≤ 1000000) (hB : B ≤ w.heap.size) :
    ∃ v' w', (Builtin.append_ #[25, 25] ty #[v, .slice a ys.length c]).run Try.prog w = .ok v' w' ∧ OwnC w' B v' (xs ++ ys) ∧ w.grownBy w' v.ownBlock := by
  obtain ⟨i0, hi, hz0, hz1, hz2⟩ := info_parts info45
  obtain ⟨v', w', h1, h2, h3⟩ := run_app w B 25 ty 45 i0 _ 7 56 Try.underlying25 hi hz0 hz1 hz2 rfl (by omega) v xs.length (rowC xs) hv a ys.length c (rowC ys) (by rw [rowC_len]) hx.src (rowC_one ys) (by unfold maxLen; omega) (by omega) hB
  refine ⟨v', w', h1, ?_, h3⟩
  unfold OwnC
  rw [List.length_append, rowC_append]
  exact h2
theorem ownC_slice {w : World} {B : Nat} {v : Value} {xs : List Camp} (h : OwnC w B v xs) : ∃ a n c, v = .slice a n c := by
  rcases h.2 with ⟨h, _⟩ | ⟨g, cap, cur, h, _⟩
  · exact ⟨_, _, _, h⟩
  · exact ⟨_, _, _, h⟩
/-- The post of a call that returns new campaigns. -/
def RetC (xs : List Camp) (w : World) (e : Ending) (w' : World) : Prop := ∃ a c, e = .returned (.slice a xs.length c) ∧ Ext w w' ∧ OwnC w' w.heap.size (.slice a xs.length c) xs
end Go.Proofs.Ytjpgignbjkgjiaa
