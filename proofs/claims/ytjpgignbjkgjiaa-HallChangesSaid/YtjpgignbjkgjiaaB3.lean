/-
  More base words: append, copies.
-/
import Derived.Test.YtjpgignbjkgjiaaB2
set_option linter.unusedVariables false
set_option linter.unusedSimpArgs false
namespace Go.Proofs.Ytjpgignbjkgjiaa
open Go.RowKit
@[go_sem ↓] theorem fld55_0 (v0 v1 v2 v3 : Value) (w : World) : (Instr.field 55 (.agg #[v0, v1, v2, v3]) 0).run Try.prog w = .ok v0 w := by kernel_rfl
@[go_sem ↓] theorem fld55_1 (v0 v1 v2 v3 : Value) (w : World) : (Instr.field 55 (.agg #[v0, v1, v2, v3]) 1).run Try.prog w = .ok v1 w := by kernel_rfl
@[go_sem ↓] theorem fld55_2 (v0 v1 v2 v3 : Value) (w : World) : (Instr.field 55 (.agg #[v0, v1, v2, v3]) 2).run Try.prog w = .ok v2 w := by kernel_rfl
@[go_sem ↓] theorem fld55_3 (v0 v1 v2 v3 : Value) (w : World) : (Instr.field 55 (.agg #[v0, v1, v2, v3]) 3).run Try.prog w = .ok v3 w := by kernel_rfl
/-- Under this head (nil too) lie these cells. -/
def Src (w : World) (a : Option Addr) (news : List Value) : Prop := news = [] ∨ ∃ ad, a = some ad ∧ ∀ j u, news[j]? = some u → w.cell? (ad.add j) = some u
theorem run_app (w : World) (base : Nat) (t ty e : TypeId) (i : TypeInfo) (z : Value) (size bytes : Nat) (ht : Try.prog.underlying t = some (.slice e)) (hi : Try.prog.info? e = some i) (hz : i.zero = some z)
    (hsize : i.size = size) (hby : i.bytes = bytes) (hzs : z.cells.size = size) (hsz : 0 < size) (v : Value) (n : Nat) (xs : List Value) (hown : w.ownsRow base e size v n xs)
    (a : Option Addr) (m c : Nat) (news : List Value) (hl : news.length = m * size) (hnews : Src w a news) (h1 : ∀ u ∈ news, u.oneCell' = true)
    (h63 : n + m ≤ maxLen) (hbytes : (n + m) * bytes ≤ 140737488355328) (hbase : base ≤ w.heap.size) :
    ∃ v' w', (Builtin.append_ #[t, t] ty #[v, .slice a m c]).run Try.prog w = .ok v' w' ∧ w'.ownsRow base e size v' (n + m) (xs ++ news) ∧ w.grownBy w' v.ownBlock := by
  have hgen : ∀ (ad : Addr), a = some ad → (∀ j u, news[j]? = some u → w.cell? (ad.add j) = some u) →
      ∃ v' w', (Builtin.append_ #[t, t] ty #[v, .slice a m c]).run Try.prog w = .ok v' w' ∧ w'.ownsRow base e size v' (n + m) (xs ++ news) ∧ w.grownBy w' v.ownBlock := by
    rintro ad rfl hc
    obtain ⟨v', w', r1, r2, r3, -⟩ := run_append_own (P := Try.prog) w base t ty e i z size bytes ht hi hz hsize hby hzs hsz v n xs hown ad m c news hl hc h1 h63 hbytes hbase
    exact ⟨v', w', r1, r2, r3⟩
  rcases hnews with rfl | ⟨ad, ha, hc⟩
  · cases a with
    | some ad => exact hgen ad rfl (fun j u h => by simp at h)
    | none =>
      have hm : m = 0 := by
        have : m * size = 0 := by simpa using hl.symm
        rcases Nat.mul_eq_zero.1 this with h | h
        · exact h
        · omega
      subst hm
      refine ⟨v, w, ?_, by simpa using hown, ⟨rfl, rfl, rfl, Nat.le_refl _, fun _ _ _ => rfl⟩⟩
      rcases hown.2 with ⟨rfl, rfl⟩ | ⟨g, cap, cur, rfl, _, _, hnc, _⟩
      · simp [Builtin.append_, run_underlying ht, sizeOf, typeInfo, hi, Builtin.lenOf, Builtin.firstCells]
      · simp [Builtin.append_, run_underlying ht, sizeOf, typeInfo, hi, Builtin.lenOf, Builtin.firstCells, hnc, storeCells]
  · exact hgen ad ha hc
theorem wpList_app {P : Program} {ops : Array Oper} {rest : List Oper} {o : Oper} {a : Act} {Q : Exit → Act → World → Prop} (w : World) (hgd : o.guard = none) (s x : Operand) (t : TypeId)
    (ho : o.op = .call { callee := .builtin .append, args := #[s, x], argTypes := #[t, t] })
    (R : Value → World → Prop) (hrun : ∃ v' w', (Builtin.append_ #[t, t] o.type #[a.eval s, a.eval x]).run P w = .ok v' w' ∧ R v' w')
    (h : ∀ v' w', R v' w' → wpList P ops Q rest (a.put o.dst v') w') : wpList P ops Q (o :: rest) a w := by
  obtain ⟨v', w', hr, hR⟩ := hrun
  refine wpList_plain hgd fun K hK => ?_
  unfold Oper.wp execOp
  simp only [ho, resolve, invoke, builtin, Sem.run_bind, Sem.run_pure, Result.andThen_ok, List.map_toArray, List.map_cons, List.map_nil, hr]
  exact hK _ _ (h v' w' hR)
theorem rowI_one (xs : List Int) : ∀ u ∈ rowI xs, u.oneCell' = true := by
  intro u hu
  simp only [rowI, List.mem_map] at hu
  obtain ⟨x, _, rfl⟩ := hu
  rfl
theorem Ints.src {w : World} {a : Option Addr} {xs : List Int} (h : Ints w a xs) : Src w a (rowI xs) := by
  rcases h with rfl | ⟨b, o, h1, h2⟩
  · exact .inl rfl
  · refine .inr ⟨_, h1, fun j u hj => ?_⟩
    have hlt : j < xs.length := by
      rcases Nat.lt_or_ge j xs.length with h | h
      · exact h
      · rw [List.getElem?_eq_none (by rw [rowI_len]; exact h)] at hj; cases hj
    rw [rowI_get xs j hlt] at hj
    simp only [Option.some.injEq] at hj
    rw [← hj, Addr.add_lit]
    exact h2 j hlt
/-- 'append(v, x...)' at []int, v the call's own. -/
theorem app_ints (w : World) (B : Nat) (ty : TypeId) (v : Value) (xs ys : List Int) (a : Option Addr) (c : Nat) (hv : OwnI w B v xs) (hx : Ints w a ys) (hn : xs.length + ys.length ≤ 17000000000000) (hB : B ≤ w.heap.size) :
    ∃ v' w', (Builtin.append_ #[22, 22] ty #[v, .slice a ys.length c]).run Try.prog w = .ok v' w' ∧ OwnI w' B v' (xs ++ ys) ∧ w.grownBy w' v.ownBlock := by
  obtain ⟨i0, hi, hz0, hz1, hz2⟩ := info_parts info3
  obtain ⟨v', w', h1, h2, h3⟩ := run_app w B 22 ty 3 i0 (.int .i64 0) 1 8 Try.underlying22 hi hz0 hz1 hz2 rfl (by omega) v xs.length (rowI xs) hv a ys.length c (rowI ys) (by rw [rowI_len]; omega) hx.src (rowI_one ys) (by unfold maxLen; omega) (by omega) hB
  refine ⟨v', w', h1, ?_, h3⟩
  unfold OwnI
  rw [List.length_append]
  have e : rowI (xs ++ ys) = rowI xs ++ rowI ys := by simp [rowI]
  rw [e]
  exact h2
/-- 'T{}' of no element. -/
theorem own_empty (w : World) (e : TypeId) (size : Nat) : (w.alloc (.cells #[] e)).ownsRow w.heap.size e size (.slice (some ⟨w.heap.size, 0, none⟩) 0 0) 0 [] := by
  have := World.ownsRow_lit (size := size) (e := e) (base := w.heap.size) w #[] 0 (Nat.le_refl _) (by unfold maxLen; omega) (by simp)
  exact this
end Go.Proofs.Ytjpgignbjkgjiaa
