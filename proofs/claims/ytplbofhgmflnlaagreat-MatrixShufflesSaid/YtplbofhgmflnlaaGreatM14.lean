/-
  Base words: groups as keys; own rows of structs read and written in the middle.
-/
import Derived.Test.YtplbofhgmflnlaaGreatM13
import Derived.Deep.MidRow
set_option linter.unusedVariables false
set_option linter.unusedSimpArgs false
namespace Go.Proofs.YtplbofhgmflnlaaGreat
open Go.RowKit Go.Maps Go.Sort
theorem laidOut0 : laidOutB Tryz.prog = true := by kernel_rfl
theorem row191 : (191 : TypeId) < Tryz.prog.types.size := of_decide_eq_true (by kernel_rfl)
theorem wide191 : (match Tryz.prog.underlying 191 with | some (.array _ _) | some (.struct _) => true | _ => false) = true := by rw [Tryz.underlying191]
set_option maxRecDepth 100000 in
theorem keyed191 : Keyed Tryz.prog 191 := Keyed.of_law (deep_law_laid laidOut0 (m := 3) (by decide) row191 (by kernel_rfl) wide191)
theorem keyed3 : Keyed Tryz.prog 3 := int_keyed Tryz.underlying3
theorem keyed59 : Keyed Tryz.prog 59 := int_keyed Tryz.underlying59
abbrev wf64 (x : Int) : Prop := -9223372036854775808 ≤ x ∧ x ≤ 9223372036854775807
theorem lit_wf {x : Int} (h : wf64 x) : (Lit.int .i64 x).wf = true := by
  simp [Lit.wf, IntKind.min, IntKind.max, IntKind.signed, IntKind.bits]; omega
theorem cells189 : Tryz.prog.cellsOf 189 = 8 := by kernel_rfl
theorem cells191 : Tryz.prog.cellsOf 191 = 9 := by kernel_rfl
theorem cells3 : Tryz.prog.cellsOf 3 = 1 := by kernel_rfl
theorem kt191 : Tryz.prog.keyType 191 = true := by kernel_rfl
theorem key191 {L : List Int} (hl : L.length = 9) (h : ∀ x ∈ L, wf64 x) : ∃ l, keyOf Tryz.prog 191 (grV L) = some l := by
  obtain ⟨l0, l1, l2, l3, l4, l5, l6, l7, l8, rfl⟩ := list9 hl
  have hw : ∀ x ∈ [l0, l1, l2, l3, l4, l5, l6, l7, l8], (Lit.int .i64 x).wf = true := fun x hx => lit_wf (h x hx)
  simp only [List.mem_cons, List.mem_nil_iff, or_false, forall_eq_or_imp, forall_eq] at hw
  obtain ⟨w0, w1, w2, w3, w4, w5, w6, w7, w8⟩ := hw
  obtain ⟨m, hm⟩ : ∃ m, Tryz.prog.types.size = m + 2 := ⟨Tryz.prog.types.size - 2, by have : 191 < Tryz.prog.types.size := row191; omega⟩
  unfold keyOf
  simp only [Tryz.underlying191]
  rw [if_pos (by simp [kt191, Value.formed, Tryz.underlying191, cells191, rowI]), hm]
  simp [Program.keyLits, Tryz.underlying191, Tryz.underlying189, Tryz.underlying3, Value.cells, cells191, cells189, cells3, List.range, List.range.loop, rowI, w0, w1, w2, w3, w4, w5, w6, w7, w8]
theorem key3 {x : Int} (h : wf64 x) : ∃ l, keyOf Tryz.prog 3 (.int .i64 x) = some l := ⟨_, keyOf_int_mk Tryz.underlying3 (lit_wf h)⟩
theorem rowI_inj {xs ys : List Int} (h : rowI xs = rowI ys) : xs = ys := by
  unfold rowI at h
  exact (List.map_inj_right (fun a b e => by cases e; rfl)).1 h
theorem grV_inj {xs ys : List Int} (h : grV xs = grV ys) : xs = ys := by
  unfold grV at h
  simp only [Value.agg.injEq] at h
  exact rowI_inj (by have := congrArg Array.toList h; simpa using this)
/-! ### own rows of structs, in the middle -/
section
variable {α : Type} {e sz : Nat} {f : α → List Value}
theorem OwnF.range (hf : ∀ x, (f x).length = sz) {w : World} {B g n c : Nat} {xs : List α} (h : OwnF e sz f w B (.slice (some ⟨g, 0, none⟩) n c) xs) (i : Nat) (hi : i < xs.length) : w.rangeAt g (i * sz) (f xs[i]) := by
  obtain ⟨g', h1, -, -, h4⟩ := h.cell hf i hi
  cases h1
  intro j v hv
  have hj : j < sz := by rw [← hf xs[i]]; exact (List.getElem?_eq_some_iff.1 hv).1
  rw [h4 j hj, hv]
theorem OwnF.there (hf : ∀ x, (f x).length = sz) {w : World} {B g n c : Nat} {xs : List α} (h : OwnF e sz f w B (.slice (some ⟨g, 0, none⟩) n c) xs) (i : Nat) (hi : i < xs.length) : w.there g (i * sz) sz := by
  intro j hj
  refine ⟨?_, ?_⟩
  · obtain ⟨g', h1, -, -, h4⟩ := h.cell hf i hi
    cases h1
    rw [h4 j hj, List.getElem?_eq_getElem (by rw [hf]; exact hj)]; rfl
  · rcases h.2 with ⟨hv, -⟩ | ⟨g', cap, cur, hv, -, hh, -⟩
    · cases hv
    · cases hv
      simp [World.frozen?, hh]
theorem heap_setCells {b : Nat} {T : TypeId} {fz : Nat × Nat} : ∀ (vs : List Value) (o : Nat) (w : World) (cs : Array Value), w.heap[b]? = some (.cells cs T fz) → (w.setCells b o vs).heap[b]? = some (.cells (setMany cs o vs) T fz)
  | [], _, _, _, h => h
  | v :: r, o, w, cs, h => by
    rw [World.setCells, setMany]
    exact heap_setCells r (o + 1) _ _ (block_set h o v)
theorem heap_setCells_ne {b k : Nat} (hk : k ≠ b) : ∀ (vs : List Value) (o : Nat) (w : World), (w.setCells b o vs).heap[k]? = w.heap[k]?
  | [], _, _ => rfl
  | v :: r, o, w => by rw [World.setCells, heap_setCells_ne hk r (o + 1) _, heap_set_ne v hk]
theorem extX_setCells {X b : Nat} : ∀ (vs : List Value) (o : Nat) {w W : World}, ExtX X w W → b = X → ExtX X w (W.setCells b o vs)
  | [], _, _, _, h, _ => h
  | v :: r, o, w, W, h, e => by
    rw [World.setCells]
    exact extX_setCells r (o + 1) (by rw [e]; exact h.set o v) e
theorem OwnF.setRow (hf : ∀ x, (f x).length = sz) {w : World} {B g n c : Nat} {xs : List α} (h : OwnF e sz f w B (.slice (some ⟨g, 0, none⟩) n c) xs) (i : Nat) (hi : i < xs.length) (x : α) :
    OwnF e sz f (w.setCells g (i * sz) (f x)) B (.slice (some ⟨g, 0, none⟩) n c) (xs.set i x) := by
  obtain ⟨h0, h1⟩ := h
  unfold OwnF
  rw [List.length_set]
  refine ⟨by rw [rowF_len hf, List.length_set], ?_⟩
  rcases h1 with ⟨hv, -⟩ | ⟨g', cap, cur, hv, hg, hh, hnc, hcm, hs, ht⟩
  · cases hv
  · simp only [Value.slice.injEq, Option.some.injEq, Addr.mk.injEq, and_true] at hv
    obtain ⟨rfl, rfl, rfl⟩ := hv
    refine .inr ⟨g, _, _, rfl, hg, heap_setCells _ _ _ _ hh, hnc, hcm, by simp [hs], ?_⟩
    have hle : xs.length * sz ≤ c * sz := Nat.mul_le_mul_right _ hnc
    have hi2 : i * sz + sz ≤ xs.length * sz := by
      have : (i + 1) * sz ≤ xs.length * sz := Nat.mul_le_mul_right _ hi
      rw [Nat.add_mul, Nat.one_mul] at this; exact this
    apply List.ext_getElem?
    intro t
    by_cases htl : t < xs.length * sz
    · have k0 : 0 < sz := by
        rcases Nat.eq_zero_or_pos sz with h | h
        · subst h; simp at htl
        · exact h
      have hq : t / sz < xs.length := (Nat.div_lt_iff_lt_mul k0).2 htl
      have hm : t % sz < sz := Nat.mod_lt _ k0
      have e0 : t / sz * sz + t % sz = t := by rw [Nat.mul_comm]; exact Nat.div_add_mod t sz
      have htc : t < cur.size := by omega
      rw [List.getElem?_take_of_lt htl, Array.getElem?_toList]
      have hset := get_setMany (f x) (i * sz) cur t htc
      have hr := rowF_at hf (xs.set i x) (t / sz) (t % sz) (by rw [List.length_set]; exact hq) hm
      rw [e0] at hr
      rw [hr]
      have hsz2 : t < (setMany cur (i * sz) (f x)).size := by rw [size_setMany]; exact htc
      rw [getElem!_pos (setMany cur (i * sz) (f x)) t hsz2] at hset
      rw [Array.getElem?_eq_getElem hsz2, hset, List.getElem_set]
      by_cases hti : t / sz = i
      · rw [if_pos (by rw [hf]; subst hti; omega), if_pos hti.symm]
        have : t - i * sz = t % sz := by subst hti; omega
        rw [this, getElem!_pos (f x) (t % sz) (by rw [hf]; exact hm), List.getElem?_eq_getElem (by rw [hf]; exact hm)]
      · have hni : ¬ (i * sz ≤ t ∧ t < i * sz + (f x).length) := by
          rw [hf]
          intro h'
          exact hti ((blk_iff sz i t k0).1 h')
        rw [if_neg hni, if_neg (fun e => hti e.symm)]
        have h2 := rowF_at hf xs (t / sz) (t % sz) hq hm
        rw [e0] at h2
        rw [← h2, ← ht, List.getElem?_take_of_lt htl, Array.getElem?_toList, getElem!_pos cur t htc, Array.getElem?_eq_getElem htc]
    · rw [List.getElem?_take_eq_none (by omega), List.getElem?_eq_none (by rw [rowF_len hf, List.length_set]; omega)]
end
/-- The cells of a group in a row. -/
def grC (L : List Int) : List Value := rowI (fl 9 (nth L))
theorem grC_len (L : List Int) : (grC L).length = 9 := by simp [grC, rowI, fl]
theorem grC_eq {L : List Int} (h : L.length = 9) : grC L = rowI L := by
  unfold grC
  congr 1
  exact ext_nth _ _ (by rw [fl_len, h]) fun i hi => nth_fl _ _ _ (by rw [fl_len] at hi; exact hi)
theorem grC_one (L : List Int) : ∀ u ∈ grC L, u.oneCell' = true := rowI_one _
abbrev OwnG (w : World) (B : Nat) (v : Value) (xs : List (List Int)) : Prop := OwnF 191 9 grC w B v xs
theorem info191 : (Tryz.prog.info? 191).map (fun i => (i.zero, i.size, i.bytes)) = some (some (.agg #[.int .i64 0, .int .i64 0, .int .i64 0, .int .i64 0, .int .i64 0, .int .i64 0, .int .i64 0, .int .i64 0, .int .i64 0]), 9, 72) := by kernel_rfl
theorem size191 (cs : List Value) (h : cs.length = 9) : (Tryz.prog.info? 191).map (·.size) = some cs.length := by
  rw [h]
  obtain ⟨i0, hi, -, hz1, -⟩ := info_parts info191
  rw [hi]; simp [hz1]
end Go.Proofs.YtplbofhgmflnlaaGreat
