/-
  Texts merged: B8, R0, V8, V9.
-/
import Derived.Test.YtlahejakcgoheaaWH
import Derived.Test.YtlahejakcgoheaaWB
import Derived.RegionTactic
import Derived.Deep.DeepCutAuto
section
/-
  Base words: slices of structs (links, entries, results).
-/
set_option linter.unusedVariables false
set_option linter.unusedSimpArgs false
namespace Go.Proofs.Ytlahejakcgoheaa
open Go.RowKit
section
variable {α : Type}
/-- The cells of structs in a row. -/
def rowF (f : α → List Value) (xs : List α) : List Value := xs.flatMap f
theorem rowF_nil (f : α → List Value) : rowF f [] = [] := rfl
theorem rowF_append (f : α → List Value) (xs ys : List α) : rowF f (xs ++ ys) = rowF f xs ++ rowF f ys := by simp [rowF]
theorem rowF_len {f : α → List Value} {sz : Nat} (hf : ∀ x, (f x).length = sz) : ∀ xs : List α, (rowF f xs).length = xs.length * sz
  | [] => by simp [rowF]
  | x :: xs => by
    have := rowF_len hf xs
    simp only [rowF, List.flatMap_cons, List.length_append, List.length_cons, Nat.add_mul, Nat.one_mul, hf] at this ⊢
    omega
theorem rowF_at {f : α → List Value} {sz : Nat} (hf : ∀ x, (f x).length = sz) : ∀ (xs : List α) (i j : Nat) (hi : i < xs.length), j < sz → (rowF f xs)[i * sz + j]? = (f xs[i])[j]?
  | x :: xs, 0, j, _, hj => by
    simp only [rowF, List.flatMap_cons, Nat.zero_mul, Nat.zero_add, List.getElem_cons_zero]
    rw [List.getElem?_append_left (by rw [hf]; exact hj)]
  | x :: xs, i + 1, j, hi, hj => by
    have := rowF_at hf xs i j (by simpa using hi) hj
    simp only [rowF, List.flatMap_cons, List.getElem_cons_succ] at this ⊢
    rw [List.getElem?_append_right (by rw [hf, Nat.add_mul]; omega), hf, ← this]
    congr 1
    rw [Nat.add_mul]; omega
theorem rowF_one {f : α → List Value} (h : ∀ x, ∀ u ∈ f x, u.oneCell' = true) (xs : List α) : ∀ u ∈ rowF f xs, u.oneCell' = true := by
  intro u hu
  obtain ⟨x, -, hx⟩ := List.mem_flatMap.1 hu
  exact h x u hx
/-- A call's own slice of structs. -/
def OwnF (e sz : Nat) (f : α → List Value) (w : World) (B : Nat) (v : Value) (xs : List α) : Prop := w.ownsRow B e sz v xs.length (rowF f xs)
theorem own_ext {w w' : World} {B e sz : Nat} {v : Value} {n : Nat} {xs : List Value} (h : w.ownsRow B e sz v n xs) (k : Ext w w') : w'.ownsRow B e sz v n xs :=
  own_of_block h fun g hg => Below.block k g (h.lt g hg).2
theorem OwnF.ext {e sz : Nat} {f : α → List Value} {w w' : World} {B : Nat} {v : Value} {xs : List α} (h : OwnF e sz f w B v xs) (k : Ext w w') : OwnF e sz f w' B v xs := own_ext h k
theorem OwnF.cell {e sz : Nat} {f : α → List Value} (hf : ∀ x, (f x).length = sz) {w : World} {B : Nat} {a : Option Addr} {n c : Nat} {xs : List α} (h : OwnF e sz f w B (.slice a n c) xs) (i : Nat) (hi : i < xs.length) :
    ∃ g, a = some ⟨g, 0, none⟩ ∧ B ≤ g ∧ g < w.heap.size ∧ ∀ j, j < sz → w.cell? ⟨g, i * sz + j, none⟩ = (f xs[i])[j]? := by
  have h0 := h
  obtain ⟨h1, h2⟩ := h
  rcases h2 with ⟨hv, hn⟩ | ⟨g, cap, cur, hv, hg, hh, hnc, hcm, hs, ht⟩
  · omega
  · simp only [Value.slice.injEq] at hv
    obtain ⟨rfl, rfl, rfl⟩ := hv
    refine ⟨g, rfl, hg, lt_of_block hh, fun j hj => ?_⟩
    have hlt : i * sz + j < xs.length * sz := by
      have : (i + 1) * sz ≤ xs.length * sz := Nat.mul_le_mul_right _ hi
      rw [Nat.add_mul] at this; omega
    have h3 : (cur.toList.take (xs.length * sz))[i * sz + j]? = cur.toList[i * sz + j]? := by rw [List.getElem?_take, if_pos hlt]
    rw [ht, rowF_at hf xs i j hi hj] at h3
    simp only [World.cell?, hh, Option.isSome_none, Bool.false_eq_true, if_false]
    rw [← Array.getElem?_toList, ← h3]
theorem OwnF.lens {e sz : Nat} {f : α → List Value} {w : World} {B : Nat} {a : Option Addr} {n c : Nat} {xs : List α} (h : OwnF e sz f w B (.slice a n c) xs) : n = xs.length ∧ n ≤ c := by
  rcases h.2 with ⟨hv, hn⟩ | ⟨g, cap, cur, hv, hg, hh, hnc, hcm, hs, ht⟩
  · simp only [Value.slice.injEq] at hv
    exact ⟨by omega, by omega⟩
  · simp only [Value.slice.injEq] at hv
    exact ⟨by omega, by omega⟩
theorem OwnF.nil (e sz : Nat) (f : α → List Value) (w : World) (B : Nat) : OwnF e sz f w B (.slice none 0 0) ([] : List α) := ⟨by simp [rowF], .inl ⟨by simp, by simp⟩⟩
/-- 'append(v, x)' of one struct that lies in a block of its own. -/
theorem app_struct (t ty e : TypeId) {i0 : TypeInfo} {z : Value} {sz bytes : Nat} (f : α → List Value) (hf : ∀ x, (f x).length = sz) (hone : ∀ x, ∀ u ∈ f x, u.oneCell' = true) (hsz : 0 < sz)
    (ht : Try.prog.underlying t = some (.slice e)) (hi : Try.prog.info? e = some i0) (hz0 : i0.zero = some z) (hz1 : i0.size = sz) (hz2 : i0.bytes = bytes) (hzs : z.cells.size = sz) (hby : bytes ≤ 1000)
    (w : World) (B : Nat) (v : Value) (xs : List α) (hv : OwnF e sz f w B v xs) (x : α) (g : Nat) (hg : w.heap[g]? = some (.cells (f x).toArray e (0, 0))) (hn : xs.length ≤ 1000000) (hB : B ≤ w.heap.size) :
    ∃ v' w', (Builtin.append_ #[t, t] ty #[v, .slice (some ⟨g, 0, none⟩) 1 1]).run Try.prog w = .ok v' w' ∧ OwnF e sz f w' B v' (xs ++ [x]) ∧ w.grownBy w' v.ownBlock ∧ (v'.ownBlock = v.ownBlock ∨ v'.ownBlock = some w.heap.size) := by
  obtain ⟨v', w', r1, r2, r3, r4, r5⟩ := run_append_own_at (P := Try.prog) w B t ty e i0 z sz bytes ht hi hz0 hz1 hz2 hzs hsz v xs.length (rowF f xs) hv ⟨g, 0, none⟩ 1 1 (f x) (by rw [hf]; omega)
    (fun j u hj => by
      rw [Addr.add_lit]
      simp only [World.cell?, hg, Option.isSome_none, Bool.false_eq_true, if_false, Nat.zero_add]
      rw [← hj]; simp) (hone x) (by unfold maxLen; omega) (Nat.le_trans (Nat.mul_le_mul (show xs.length + 1 ≤ 1000001 by omega) hby) (by omega)) hB
  refine ⟨v', w', r1, ?_, r3, r5⟩
  unfold OwnF
  rw [rowF_append, List.length_append]
  have : rowF f [x] = f x := by simp [rowF]
  rw [this]
  exact r2
end
end Go.Proofs.Ytlahejakcgoheaa
end
section
/-
  The laws for drawn regions (as in this repo's wip/hall/B10).
-/
section
/-
  A region that draws its order, whose operations leave what was there: whatever its order, each operation's value is what is said of it.
-/
set_option linter.unusedVariables false
set_option linter.unusedSimpArgs false
namespace Go.Proofs.Ytlahejakcgoheaa
open Go Go.RowKit
def howMany (q : Nat → Bool) : Nat → Nat
  | 0 => 0
  | n + 1 => howMany q n + if q n then 1 else 0
theorem howMany_same (q : Nat → Bool) (k : Nat) : ∀ n, n ≤ k → howMany (fun i => q i && !(i == k)) n = howMany q n
  | 0, _ => rfl
  | n + 1, h => by
    simp only [howMany, howMany_same q k n (by omega)]
    have : (n == k) = false := by simp; omega
    simp [this]
theorem howMany_less (q : Nat → Bool) (k : Nat) (hq : q k = true) : ∀ n, k < n → howMany q n = howMany (fun i => q i && !(i == k)) n + 1
  | 0, h => by omega
  | n + 1, h => by
    by_cases e : k = n
    · subst e
      have := howMany_same q k k (Nat.le_refl _)
      simp [howMany, this, hq]
    · have := howMany_less q k hq n (by omega)
      simp only [howMany, this]
      have h2 : (n == k) = false := by simp; omega
      simp [h2]; omega
/-- The values of a region's operations, put in their order. -/
def putAll : List Oper → Nat → (Nat → Value) → Act → Act
  | [], _, _, a => a
  | o :: os, k, vs, a => putAll os (k + 1) vs (a.put o.dst (vs k))
/-- Each waits only for those ahead of it. -/
def topoB (ops : Array Oper) : Bool := (List.range ops.size).all fun j => ((ops[j]?).map fun o => o.after.all fun e => !Region.binds .any e || decide (e.on < j)).getD true
/-- No two write the same slot, and each slot is one of n. -/
def dstB (n : Nat) (ops : Array Oper) : Bool :=
  (List.range ops.size).all fun j => match (ops[j]?).bind (·.dst) with
    | none => true
    | some d => decide (d < n) && (List.range ops.size).all fun k => decide (k = j) || !((ops[k]?).bind (·.dst) == some d)
structure MInv (ops : Array Oper) (φ : Nat → Value → World → Prop) (a0 : Act) (w0 : World) (listed : Array Bool) (a : Act) (w : World) : Prop where
  ext : Ext w0 w
  lsz : listed.size = ops.size
  size : a.tmps.size = a0.tmps.size
  defers : a.defers = a0.defers
  closed : ∀ j o, ops[j]? = some o → listed.getD j false = true → ∀ e ∈ o.after, Region.binds .any e = true → listed.getD e.on false = true
  old : ∀ t, (∀ j o, ops[j]? = some o → listed.getD j false = true → o.dst ≠ some t) → a.tmps[t]? = a0.tmps[t]?
  new : ∀ j o d, ops[j]? = some o → listed.getD j false = true → o.dst = some d → φ j (a.tmps.getD d undef) w
theorem getD_set' (l : Array Bool) (i j : Nat) (b : Bool) (hi : i < l.size) : (l.setIfInBounds i true).getD j b = if j = i then true else l.getD j b := by
  by_cases h : j = i
  · subst h
    simp [hi]
  · rw [if_neg h]
    simp only [Array.getD_eq_getD_getElem?]
    rw [Array.getElem?_setIfInBounds_ne (fun e => h e.symm)]
theorem ready_iff {ops : Array Oper} {listed : Array Bool} {i : Nat} : i ∈ Region.ready .any ops listed ↔ i < ops.size ∧ listed.getD i true = false ∧ ∀ o, ops[i]? = some o → ∀ e ∈ o.after, Region.binds .any e = true → listed.getD e.on false = true := by
  unfold Region.ready
  rw [List.mem_filter, List.mem_range]
  simp only [Bool.and_eq_true, Bool.not_eq_true']
  constructor
  · rintro ⟨h1, h2, h3⟩
    refine ⟨h1, h2, fun o ho e he hb => ?_⟩
    rw [ho] at h3
    simp only [Option.map_some, Option.getD_some, Array.all_eq_true_iff_forall_mem] at h3
    have := h3 e he
    simp only [hb, Bool.not_true, Bool.false_or] at this
    exact this
  · rintro ⟨h1, h2, h3⟩
    refine ⟨h1, h2, ?_⟩
    have ho : ops[i]? = some ops[i] := Array.getElem?_eq_getElem h1
    rw [ho]
    simp only [Option.map_some, Option.getD_some, Array.all_eq_true_iff_forall_mem]
    intro e he
    cases hb : Region.binds .any e with
    | false => rfl
    | true => simpa using h3 _ ho e he hb
section
variable {P : Program} {Q : Exit → Act → World → Prop} {ops : Array Oper} {φ : Nat → Value → World → Prop} {a0 : Act} {w0 : World}
theorem topo_lt (ht : topoB ops = true) {j : Nat} {o : Oper} (ho : ops[j]? = some o) {e : Edge} (he : e ∈ o.after) (hb : Region.binds .any e = true) : e.on < j := by
  unfold topoB at ht
  rw [List.all_eq_true] at ht
  have hj : j < ops.size := (Array.getElem?_eq_some_iff.1 ho).1
  have := ht j (List.mem_range.2 hj)
  rw [ho] at this
  simp only [Option.map_some, Option.getD_some, Array.all_eq_true_iff_forall_mem] at this
  have := this e he
  rw [hb] at this
  simpa using this
theorem dst_of (n : Nat) (hd : dstB n ops = true) {j : Nat} {o : Oper} {d : Tmp} (ho : ops[j]? = some o) (hod : o.dst = some d) : d < n ∧ ∀ k o', ops[k]? = some o' → o'.dst = some d → k = j := by
  unfold dstB at hd
  rw [List.all_eq_true] at hd
  have hj : j < ops.size := (Array.getElem?_eq_some_iff.1 ho).1
  have h1 := hd j (List.mem_range.2 hj)
  simp only [ho, Option.bind_some, hod, Bool.and_eq_true, decide_eq_true_eq, List.all_eq_true] at h1
  refine ⟨h1.1, fun k o' hk hkd => ?_⟩
  have hkj : k < ops.size := (Array.getElem?_eq_some_iff.1 hk).1
  have h2 := h1.2 k (List.mem_range.2 hkj)
  simp only [hk, Option.bind_some, hkd, Bool.or_eq_true, decide_eq_true_eq] at h2
  rcases h2 with h2 | h2
  · exact h2
  · simp at h2
theorem put_tmps_ne (a : Act) (o : Option Tmp) (v : Value) (t : Nat) (h : o ≠ some t) : (a.put o v).tmps[t]? = a.tmps[t]? := by
  cases o with
  | none => rfl
  | some d =>
    show (a.tmps.setIfInBounds d v)[t]? = _
    exact Array.getElem?_setIfInBounds_ne (fun e => h (by rw [e]))
theorem put_tmps_eq (a : Act) (d : Nat) (v : Value) (h : d < a.tmps.size) : (a.put (some d) v).tmps[d]? = some v := by
  show (a.tmps.setIfInBounds d v)[d]? = _
  simp [h]
theorem put_size (a : Act) (o : Option Tmp) (v : Value) : (a.put o v).tmps.size = a.tmps.size := by
  cases o <;> simp [Act.put]
theorem put_defers (a : Act) (o : Option Tmp) (v : Value) : (a.put o v).defers = a.defers := by
  cases o <;> rfl
theorem MInv.step (hd : dstB a0.tmps.size ops = true) (hmono : ∀ j v w w', Ext w w' → φ j v w → φ j v w') {listed : Array Bool} {a : Act} {w : World} (h : MInv ops φ a0 w0 listed a w) {i : Nat} {o : Oper} (ho : ops[i]? = some o)
    (hi : i ∈ Region.ready .any ops listed) {v : Value} {w' : World} (he : Ext w w') (hv : φ i v w') : MInv ops φ a0 w0 (listed.setIfInBounds i true) (a.put o.dst v) w' := by
  obtain ⟨r1, r2, r3⟩ := ready_iff.1 hi
  have hil : i < listed.size := by rw [h.lsz]; exact r1
  refine ⟨h.ext.trans he, by simp [h.lsz], by rw [put_size]; exact h.size, by rw [put_defers]; exact h.defers, fun j o' hj hl e he' hb => ?_, fun t ht => ?_, fun j o' d hj hl hjd => ?_⟩
  · rw [getD_set' _ _ _ _ hil] at hl ⊢
    split
    · rfl
    · by_cases hji : j = i
      · subst hji
        exact r3 o' hj e he' hb
      · rw [if_neg hji] at hl
        exact h.closed j o' hj hl e he' hb
  · have h1 : o.dst ≠ some t := ht i o ho (by rw [getD_set' _ _ _ _ hil, if_pos rfl])
    rw [put_tmps_ne _ _ _ _ h1]
    refine h.old t fun j o' hj hl => ht j o' hj ?_
    rw [getD_set' _ _ _ _ hil]
    split
    · rfl
    · exact hl
  · by_cases hji : j = i
    · subst hji
      rw [ho] at hj
      obtain rfl : o = o' := by simpa using hj
      have hlt : d < a.tmps.size := by rw [h.size]; exact (dst_of _ hd ho hjd).1
      rw [hjd, Array.getD_eq_getD_getElem?, put_tmps_eq _ _ _ hlt]
      exact hv
    · rw [getD_set' _ _ _ _ hil, if_neg hji] at hl
      have hne : o.dst ≠ some d := fun e => hji ((dst_of _ hd ho e).2 j o' hj hjd)
      rw [Array.getD_eq_getD_getElem?, put_tmps_ne _ _ _ _ hne, ← Array.getD_eq_getD_getElem?]
      exact hmono _ _ _ _ he (h.new j o' d hj hl hjd)
theorem all_listed (ht : topoB ops = true) {listed : Array Bool} (hsz : listed.size = ops.size) (hr : Region.ready .any ops listed = []) : ∀ n j, j < n → j < ops.size → listed.getD j false = true
  | 0, j, h, _ => by omega
  | n + 1, j, h, hj => by
    have ih := all_listed ht hsz hr n
    refine Classical.byContradiction fun hn => ?_
    have hmem : j ∈ Region.ready .any ops listed := by
      rw [ready_iff]
      refine ⟨hj, ?_, fun o ho e he hb => ?_⟩
      · have hjl : j < listed.size := by omega
        have : listed.getD j true = listed.getD j false := by simp [Array.getD_eq_getD_getElem?, hjl]
        rw [this]; simpa using hn
      · have := topo_lt ht ho he hb
        have hjs : j < ops.size := hj
        exact ih e.on (by omega) (by omega)
    rw [hr] at hmem
    cases hmem
theorem putAll_size : ∀ (os : List Oper) (k : Nat) (vs : Nat → Value) (a : Act), (putAll os k vs a).tmps.size = a.tmps.size ∧ (putAll os k vs a).defers = a.defers
  | [], _, _, _ => ⟨rfl, rfl⟩
  | o :: os, k, vs, a => by
    have := putAll_size os (k + 1) vs (a.put o.dst (vs k))
    rw [put_size, put_defers] at this
    exact this
theorem putAll_ne : ∀ (os : List Oper) (k : Nat) (vs : Nat → Value) (a : Act) (t : Nat), (∀ o ∈ os, o.dst ≠ some t) → (putAll os k vs a).tmps[t]? = a.tmps[t]?
  | [], _, _, _, _, _ => rfl
  | o :: os, k, vs, a, t, h => by
    show (putAll os (k + 1) vs (a.put o.dst (vs k))).tmps[t]? = _
    rw [putAll_ne os (k + 1) vs _ t (fun o' ho' => h o' (by simp [ho'])), put_tmps_ne _ _ _ _ (h o (by simp))]
theorem putAll_at : ∀ (os : List Oper) (k : Nat) (vs : Nat → Value) (a : Act) (i : Nat) (o : Oper) (d : Nat), os[i]? = some o → o.dst = some d → d < a.tmps.size → (∀ j o', os[j]? = some o' → o'.dst = some d → j = i) → (putAll os k vs a).tmps[d]? = some (vs (k + i))
  | [], _, _, _, _, _, _, h, _, _, _ => by simp at h
  | o :: os, k, vs, a, 0, o1, d, h, hd, hlt, hu => by
    simp only [List.getElem?_cons_zero, Option.some.injEq] at h
    subst h
    show (putAll os (k + 1) vs (a.put o.dst (vs k))).tmps[d]? = _
    rw [putAll_ne os (k + 1) vs _ d (fun o' ho' e => ?_), hd, put_tmps_eq _ _ _ hlt]
    · simp
    · obtain ⟨j, hj, rfl⟩ := List.getElem_of_mem ho'
      have := hu (j + 1) os[j] (by simp [hj]) e
      omega
  | o :: os, k, vs, a, i + 1, o1, d, h, hd, hlt, hu => by
    simp only [List.getElem?_cons_succ] at h
    show (putAll os (k + 1) vs (a.put o.dst (vs k))).tmps[d]? = _
    rw [putAll_at os (k + 1) vs _ i o1 d h hd (by rw [put_size]; exact hlt) (fun j o' hj e => by have := hu (j + 1) o' (by simpa using hj) e; omega)]
    congr 2; omega
theorem act_ext {a b : Act} (h1 : a.tmps = b.tmps) (h2 : a.defers = b.defers) : a = b := by
  cases a; cases b; simp only at h1 h2; subst h1; subst h2; rfl
theorem MInv.fin (hd : dstB a0.tmps.size ops = true) {listed : Array Bool} {a : Act} {w : World} (h : MInv ops φ a0 w0 listed a w) (hall : ∀ j, j < ops.size → listed.getD j false = true) :
    ∃ vs : Nat → Value, a = putAll ops.toList 0 vs a0 ∧ ∀ (j : Nat) (o : Oper), ops[j]? = some o → o.dst ≠ none → φ j (vs j) w := by
  refine ⟨fun j => match (ops[j]?).bind (·.dst) with | some d => a.tmps.getD d undef | none => undef, act_ext ?_ ?_, fun j o hj hn => ?_⟩
  · apply Array.ext_getElem?
    intro t
    by_cases hex : ∃ (j : Nat) (o : Oper), ops[j]? = some o ∧ o.dst = some t
    · obtain ⟨j, o, hj, hjd⟩ := hex
      have hdd := dst_of _ hd hj hjd
      have hjs : j < ops.size := (Array.getElem?_eq_some_iff.1 hj).1
      rw [putAll_at ops.toList 0 _ a0 j o t (by simpa using hj) hjd hdd.1 (fun k o' hk e => hdd.2 k o' (by simpa using hk) e)]
      simp only [Nat.zero_add, hj, Option.bind_some, hjd]
      have hlt : t < a.tmps.size := by rw [h.size]; exact hdd.1
      simp [Array.getD_eq_getD_getElem?, hlt]
    · rw [putAll_ne ops.toList 0 _ a0 t (fun o ho e => hex ?_)]
      · exact h.old t fun j o hj _ e => hex ⟨j, o, hj, e⟩
      · obtain ⟨j, hj, rfl⟩ := List.getElem_of_mem ho
        exact ⟨j, _, by simp, e⟩
  · rw [(putAll_size _ _ _ _).2]; exact h.defers
  · have hjs : j < ops.size := (Array.getElem?_eq_some_iff.1 hj).1
    cases hjd : o.dst with
    | none => exact absurd hjd hn
    | some d =>
      simp only [hj, Option.bind_some, hjd]
      exact h.new j o d hj (hall j hjs) hjd
theorem wpAny_mono (ht : topoB ops = true) (hd : dstB a0.tmps.size ops = true) (hmono : ∀ j v w w', Ext w w' → φ j v w → φ j v w')
    (hstep : ∀ (i : Nat) (o : Oper), ops[i]? = some o → ∀ (a : Act) (w : World), Ext w0 w → (∀ t : Nat, (∀ (j : Nat) (o' : Oper), ops[j]? = some o' → o'.dst = some t → ∃ e ∈ o'.after, Region.binds .any e = true ∧ e.on = i) → a.tmps[t]? = a0.tmps[t]?) →
      (∀ e ∈ o.after, Region.binds .any e = true → ∀ (o' : Oper) (d : Nat), ops[e.on]? = some o' → o'.dst = some d → φ e.on (a.tmps.getD d undef) w) →
      ∀ K : Act → World → Prop, (∀ v w', Ext w w' → φ i v w' → K (a.put o.dst v) w') → if Region.wanted o (yielded ops a.tmps) = true then Oper.wp P o a w K Q else K (a.put o.dst undef) w)
    (hend : ∀ (vs : Nat → Value) (w : World), Ext w0 w → (∀ (j : Nat) (o : Oper), ops[j]? = some o → o.dst ≠ none → φ j (vs j) w) → Q .normal (putAll ops.toList 0 vs a0) w) :
    ∀ (fuel : Nat) (listed : Array Bool) (a : Act) (w : World), MInv ops φ a0 w0 listed a w → howMany (fun i => !listed.getD i true) ops.size ≤ fuel → wpAny P .any ops Q fuel listed a w
  | fuel, listed, a, w, h, hf => by
    have hfin : Region.ready .any ops listed = [] → Q .normal a w := fun hr => by
      obtain ⟨vs, e1, e2⟩ := h.fin hd (fun j hj => all_listed ht h.lsz hr (j + 1) j (by omega) hj)
      rw [e1]
      exact hend vs w h.ext e2
    match fuel, hf with
    | 0, hf =>
      have hr : Region.ready .any ops listed = [] := by
        cases hrr : Region.ready .any ops listed with
        | nil => rfl
        | cons i rs =>
          have hi : i ∈ Region.ready .any ops listed := by rw [hrr]; simp
          obtain ⟨r1, r2, r3⟩ := ready_iff.1 hi
          have := howMany_less (fun i => !listed.getD i true) i (by simp [r2]) ops.size r1
          omega
      exact ⟨hr, hfin hr⟩
    | fuel + 1, hf =>
      refine ⟨hfin, fun i hi => ?_⟩
      obtain ⟨r1, r2, r3⟩ := ready_iff.1 hi
      have ho : ops[i]? = some ops[i] := Array.getElem?_eq_getElem r1
      have hil : i < listed.size := by rw [h.lsz]; exact r1
      have hcount : howMany (fun j => !(listed.setIfInBounds i true).getD j true) ops.size ≤ fuel := by
        have h1 := howMany_less (fun i => !listed.getD i true) i (by simp [r2]) ops.size r1
        have h2 : (fun j => !(listed.setIfInBounds i true).getD j true) = fun j => (!listed.getD j true) && !(j == i) := by
          funext j
          rw [getD_set' _ _ _ _ hil]
          by_cases hji : j = i
          · simp [hji]
          · simp [hji]
        rw [h2]; omega
      refine wpOp_mono (K := fun a' w' => MInv ops φ a0 w0 (listed.setIfInBounds i true) a' w') (fun a' w' hI => wpAny_mono ht hd hmono hstep hend fuel _ a' w' hI hcount) ?_
      refine wpOp_step ho fun K hK => hstep i _ ho a w h.ext (fun t htt => h.old t fun j o' hj hl e => ?_) (fun e he hb o' d hoo hdd => h.new e.on o' d hoo (r3 _ ho e he hb) hdd) K (fun v w' he hv => hK _ _ (h.step hd hmono ho hi he hv))
      obtain ⟨e', he', hb', hei⟩ := htt j o' hj e
      have := h.closed j o' hj hl e' he' hb'
      rw [hei] at this
      have h3 : listed.getD i true = true := by simp [Array.getD_eq_getD_getElem?, hil] at this ⊢; exact this
      rw [h3] at r2; cases r2
/-- THE LAW: each operation's value is what is said of it, whatever the order. -/
theorem wp_region_said {id : Nat} (φ : Nat → Value → World → Prop) (hm : P.follows .mixedOrders = true) (ht : topoB ops = true) (hd : dstB a0.tmps.size ops = true) (hmono : ∀ j v w w', Ext w w' → φ j v w → φ j v w')
    (hstep : ∀ (i : Nat) (o : Oper), ops[i]? = some o → ∀ (a : Act) (w : World), Ext w0 w → (∀ t : Nat, (∀ (j : Nat) (o' : Oper), ops[j]? = some o' → o'.dst = some t → ∃ e ∈ o'.after, Region.binds .any e = true ∧ e.on = i) → a.tmps[t]? = a0.tmps[t]?) →
      (∀ e ∈ o.after, Region.binds .any e = true → ∀ (o' : Oper) (d : Nat), ops[e.on]? = some o' → o'.dst = some d → φ e.on (a.tmps.getD d undef) w) →
      ∀ K : Act → World → Prop, (∀ v w', Ext w w' → φ i v w' → K (a.put o.dst v) w') → if Region.wanted o (yielded ops a.tmps) = true then Oper.wp P o a w K Q else K (a.put o.dst undef) w)
    (hend : ∀ (vs : Nat → Value) (w : World), Ext w0 w → (∀ (j : Nat) (o : Oper), ops[j]? = some o → o.dst ≠ none → φ j (vs j) w) → Q .normal (putAll ops.toList 0 vs a0) w) : (Code.region id ops true).wp P Q a0 w0 := by
  refine wp_region_any hm (wpAny_mono ht hd hmono hstep hend _ _ _ _ ⟨(Ext.refl w0).drew, by simp, rfl, rfl, fun j o hj hl => ?_, fun t _ => rfl, fun j o d hj hl => ?_⟩ ?_)
  · have hj' : j < ops.size := (Array.getElem?_eq_some_iff.1 hj).1
    simp [hj'] at hl
  · have hj' : j < ops.size := (Array.getElem?_eq_some_iff.1 hj).1
    simp [hj'] at hl
  · have : ∀ n (q : Nat → Bool), howMany q n ≤ n := fun n q => by
      induction n with
      | zero => exact Nat.le_refl _
      | succ n ih => simp only [howMany]; split <;> omega
    exact this _ _
/-- Whoever writes the slot t waits for the operation i. -/
def oldB (ops : Array Oper) (i t : Nat) : Bool := (List.range ops.size).all fun j => match ops[j]? with
  | some o => !(o.dst == some t) || o.after.any fun e => Region.binds .any e && e.on == i
  | none => true
/-- What is asked of one operation. -/
def StepOK (P : Program) (Q : Exit → Act → World → Prop) (ops : Array Oper) (φ : Nat → Value → World → Prop) (a0 : Act) (w0 : World) (i : Nat) (o : Oper) : Prop :=
  ∀ (a : Act) (w : World), Ext w0 w → (∀ t : Nat, oldB ops i t = true → a.tmps[t]?.getD undef = a0.tmps[t]?.getD undef) →
    (∀ (j : Nat) (d : Nat), (o.after.any fun e => Region.binds .any e && e.on == j) = true → (ops[j]?).bind (·.dst) = some d → φ j (a.tmps[d]?.getD undef) w) →
    ∀ K : Act → World → Prop, (∀ v w', Ext w w' → φ i v w' → K (a.put o.dst v) w') → if Region.wanted o (yielded ops a.tmps) = true then Oper.wp P o a w K Q else K (a.put o.dst undef) w
def StepsOK (P : Program) (Q : Exit → Act → World → Prop) (ops : Array Oper) (φ : Nat → Value → World → Prop) (a0 : Act) (w0 : World) : List Oper → Nat → Prop
  | [], _ => True
  | o :: os, i => StepOK P Q ops φ a0 w0 i o ∧ StepsOK P Q ops φ a0 w0 os (i + 1)
theorem steps_at : ∀ (os : List Oper) (k : Nat), StepsOK P Q ops φ a0 w0 os k → ∀ (i : Nat) (o : Oper), os[i]? = some o → StepOK P Q ops φ a0 w0 (k + i) o
  | [], _, _, i, o, h => by simp at h
  | o1 :: os, k, h, 0, o, ho => by
    simp only [List.getElem?_cons_zero, Option.some.injEq] at ho
    subst ho; exact h.1
  | o1 :: os, k, h, i + 1, o, ho => by
    simp only [List.getElem?_cons_succ] at ho
    have := steps_at os (k + 1) h.2 i o ho
    rwa [show k + 1 + i = k + (i + 1) by omega] at this
/-- THE LAW, its operations one after another. -/
theorem wp_region_said2 {id : Nat} (φ : Nat → Value → World → Prop) {l : List Oper} (hm : P.follows .mixedOrders = true) (ht : topoB l.toArray = true) (hd : dstB a0.tmps.size l.toArray = true) (hmono : ∀ j v w w', Ext w w' → φ j v w → φ j v w')
    (hstep : StepsOK P Q l.toArray φ a0 w0 l 0)
    (hend : ∀ (vs : Nat → Value) (w : World), Ext w0 w → (∀ j : Nat, (((l.toArray)[j]?).bind (·.dst)).isSome = true → φ j (vs j) w) → Q .normal (putAll l 0 vs a0) w) : (Code.region id l.toArray true).wp P Q a0 w0 := by
  refine wp_region_said φ hm ht hd hmono (fun i o ho a w hw hold hdep K hK => ?_) (fun vs w hw hφ => ?_)
  · have hs := steps_at l 0 hstep i o (by simpa using ho)
    rw [Nat.zero_add] at hs
    refine hs a w hw (fun t htB => ?_) (fun j d hj hjd => ?_) K hK
    · have := hold t fun j o' hj e => by
        unfold oldB at htB
        rw [List.all_eq_true] at htB
        have hjs : j < l.toArray.size := (Array.getElem?_eq_some_iff.1 hj).1
        have h1 := htB j (List.mem_range.2 hjs)
        simp only [hj, e, beq_self_eq_true, Bool.not_true, Bool.false_or] at h1
        rw [Array.any_eq_true'] at h1
        obtain ⟨e', he', hb⟩ := h1
        simp only [Bool.and_eq_true, beq_iff_eq] at hb
        exact ⟨e', he', hb.1, hb.2⟩
      rw [this]
    · rw [Array.any_eq_true'] at hj
      obtain ⟨e', he', hb⟩ := hj
      simp only [Bool.and_eq_true, beq_iff_eq] at hb
      obtain ⟨hb1, rfl⟩ := hb
      cases ho' : l.toArray[e'.on]? with
      | none => rw [ho'] at hjd; cases hjd
      | some o' =>
        rw [ho'] at hjd
        have := hdep e' he' hb1 o' d ho' hjd
        rwa [Array.getD_eq_getD_getElem?] at this
  · refine hend vs w hw fun j hj => ?_
    cases ho : l.toArray[j]? with
    | none => rw [ho] at hj; cases hj
    | some o =>
      refine hφ j o ho fun e => ?_
      rw [ho, Option.bind_some, e] at hj
      cases hj
end
end Go.Proofs.Ytlahejakcgoheaa
end
section
/-
  A region that draws its order and stores: a word about the world that each operation keeps, turns, or needs.
-/
set_option linter.unusedVariables false
set_option linter.unusedSimpArgs false
namespace Go.Proofs.Ytlahejakcgoheaa
open Go Go.RowKit
structure NInv (ops : Array Oper) (φ : Nat → Value → World → Prop) (J : (Nat → Bool) → (Nat → Value) → World → Prop) (a0 : Act) (listed : Array Bool) (vs : Nat → Value) (a : Act) (w : World) : Prop where
  inv : J (fun j => listed.getD j false) vs w
  lsz : listed.size = ops.size
  size : a.tmps.size = a0.tmps.size
  defers : a.defers = a0.defers
  closed : ∀ j o, ops[j]? = some o → listed.getD j false = true → ∀ e ∈ o.after, Region.binds .any e = true → listed.getD e.on false = true
  old : ∀ t, (∀ j o, ops[j]? = some o → listed.getD j false = true → o.dst ≠ some t) → a.tmps[t]? = a0.tmps[t]?
  new : ∀ j o d, ops[j]? = some o → listed.getD j false = true → o.dst = some d → a.tmps.getD d undef = vs j ∧ φ j (vs j) w
/-- What is asked of one operation: 'ls' tells which are done. -/
def StepOK3 (P : Program) (Q : Exit → Act → World → Prop) (ops : Array Oper) (φ : Nat → Value → World → Prop) (J : (Nat → Bool) → (Nat → Value) → World → Prop) (a0 : Act) (i : Nat) (o : Oper) : Prop :=
  ∀ (ls : Nat → Bool) (vs : Nat → Value) (a : Act) (w : World), ls i = false → J ls vs w → (∀ t : Nat, oldB ops i t = true → a.tmps[t]?.getD undef = a0.tmps[t]?.getD undef) →
    (∀ (j : Nat) (d : Nat), (o.after.any fun e => Region.binds .any e && e.on == j) = true → (ops[j]?).bind (·.dst) = some d → ls j = true ∧ a.tmps[d]?.getD undef = vs j ∧ φ j (vs j) w) →
    ∀ K : Act → World → Prop, (∀ v w', (∀ j u, ls j = true → φ j u w → φ j u w') → J (fun j => if j = i then true else ls j) (fun j => if j = i then v else vs j) w' → φ i v w' → K (a.put o.dst v) w') → if Region.wanted o (yielded ops a.tmps) = true then Oper.wp P o a w K Q else K (a.put o.dst undef) w
def StepsOK3 (P : Program) (Q : Exit → Act → World → Prop) (ops : Array Oper) (φ : Nat → Value → World → Prop) (J : (Nat → Bool) → (Nat → Value) → World → Prop) (a0 : Act) : List Oper → Nat → Prop
  | [], _ => True
  | o :: os, i => StepOK3 P Q ops φ J a0 i o ∧ StepsOK3 P Q ops φ J a0 os (i + 1)
section
variable {P : Program} {Q : Exit → Act → World → Prop} {ops : Array Oper} {φ : Nat → Value → World → Prop} {J : (Nat → Bool) → (Nat → Value) → World → Prop} {a0 : Act} {w0 : World}
theorem steps_at3 : ∀ (os : List Oper) (k : Nat), StepsOK3 P Q ops φ J a0 os k → ∀ (i : Nat) (o : Oper), os[i]? = some o → StepOK3 P Q ops φ J a0 (k + i) o
  | [], _, _, i, o, h => by simp at h
  | o1 :: os, k, h, 0, o, ho => by
    simp only [List.getElem?_cons_zero, Option.some.injEq] at ho
    subst ho; exact h.1
  | o1 :: os, k, h, i + 1, o, ho => by
    simp only [List.getElem?_cons_succ] at ho
    have := steps_at3 os (k + 1) h.2 i o ho
    rwa [show k + 1 + i = k + (i + 1) by omega] at this
theorem NInv.step (hd : dstB a0.tmps.size ops = true) {listed : Array Bool} {vs : Nat → Value} {a : Act} {w : World} (h : NInv ops φ J a0 listed vs a w) {i : Nat} {o : Oper} (ho : ops[i]? = some o)
    (hi : i ∈ Region.ready .any ops listed) {v : Value} {w' : World} (hk : ∀ j u, listed.getD j false = true → φ j u w → φ j u w') (hJJ : J (fun j => if j = i then true else listed.getD j false) (fun j => if j = i then v else vs j) w') (hv : φ i v w') : NInv ops φ J a0 (listed.setIfInBounds i true) (fun j => if j = i then v else vs j) (a.put o.dst v) w' := by
  obtain ⟨r1, r2, r3⟩ := ready_iff.1 hi
  have hil : i < listed.size := by rw [h.lsz]; exact r1
  refine ⟨?_, by simp [h.lsz], by rw [put_size]; exact h.size, by rw [put_defers]; exact h.defers, fun j o' hj hl e he' hb => ?_, fun t ht => ?_, fun j o' d hj hl hjd => ?_⟩
  · have : (fun j => (listed.setIfInBounds i true).getD j false) = fun j => if j = i then true else listed.getD j false := by
      funext j; exact getD_set' _ _ _ _ hil
    rw [this]; exact hJJ
  · rw [getD_set' _ _ _ _ hil] at hl ⊢
    split
    · rfl
    · by_cases hji : j = i
      · subst hji
        exact r3 o' hj e he' hb
      · rw [if_neg hji] at hl
        exact h.closed j o' hj hl e he' hb
  · have h1 : o.dst ≠ some t := ht i o ho (by rw [getD_set' _ _ _ _ hil, if_pos rfl])
    rw [put_tmps_ne _ _ _ _ h1]
    refine h.old t fun j o' hj hl => ht j o' hj ?_
    rw [getD_set' _ _ _ _ hil]
    split
    · rfl
    · exact hl
  · by_cases hji : j = i
    · subst hji
      rw [ho] at hj
      obtain rfl : o = o' := by simpa using hj
      have hlt : d < a.tmps.size := by rw [h.size]; exact (dst_of _ hd ho hjd).1
      rw [hjd, Array.getD_eq_getD_getElem?, put_tmps_eq _ _ _ hlt]
      refine ⟨?_, ?_⟩
      · simp
      · simpa using hv
    · rw [getD_set' _ _ _ _ hil, if_neg hji] at hl
      have hne : o.dst ≠ some d := fun e => hji ((dst_of _ hd ho e).2 j o' hj hjd)
      rw [Array.getD_eq_getD_getElem?, put_tmps_ne _ _ _ _ hne, ← Array.getD_eq_getD_getElem?]
      have hn := h.new j o' d hj hl hjd
      simp only [if_neg hji]
      exact ⟨hn.1, hk _ _ hl hn.2⟩
theorem NInv.fin (hd : dstB a0.tmps.size ops = true) {listed : Array Bool} {vs : Nat → Value} {a : Act} {w : World} (h : NInv ops φ J a0 listed vs a w) (hall : ∀ j, j < ops.size → listed.getD j false = true) :
    a = putAll ops.toList 0 vs a0 ∧ ∀ (j : Nat) (o : Oper), ops[j]? = some o → o.dst ≠ none → φ j (vs j) w := by
  refine ⟨act_ext ?_ ?_, fun j o hj hn => ?_⟩
  · apply Array.ext_getElem?
    intro t
    by_cases hex : ∃ (j : Nat) (o : Oper), ops[j]? = some o ∧ o.dst = some t
    · obtain ⟨j, o, hj, hjd⟩ := hex
      have hdd := dst_of _ hd hj hjd
      have hjs : j < ops.size := (Array.getElem?_eq_some_iff.1 hj).1
      rw [putAll_at ops.toList 0 _ a0 j o t (by simpa using hj) hjd hdd.1 (fun k o' hk e => hdd.2 k o' (by simpa using hk) e)]
      have hn := (h.new j o t hj (hall j hjs) hjd).1
      have hlt : t < a.tmps.size := by rw [h.size]; exact hdd.1
      rw [Nat.zero_add, ← hn]
      simp [Array.getD_eq_getD_getElem?, hlt]
    · rw [putAll_ne ops.toList 0 _ a0 t (fun o ho e => hex ?_)]
      · exact h.old t fun j o hj _ e => hex ⟨j, o, hj, e⟩
      · obtain ⟨j, hj, rfl⟩ := List.getElem_of_mem ho
        exact ⟨j, _, by simp [hj], e⟩
  · rw [(putAll_size _ _ _ _).2]; exact h.defers
  · have hjs : j < ops.size := (Array.getElem?_eq_some_iff.1 hj).1
    cases hjd : o.dst with
    | none => exact absurd hjd hn
    | some d => exact (h.new j o d hj (hall j hjs) hjd).2
theorem wpAny_mono3 (ht : topoB ops = true) (hd : dstB a0.tmps.size ops = true)
    (hstep : ∀ (i : Nat) (o : Oper), ops[i]? = some o → StepOK3 P Q ops φ J a0 i o)
    (hend : ∀ (vs : Nat → Value) (w : World) (ls : Nat → Bool), (∀ j, j < ops.size → ls j = true) → J ls vs w → (∀ (j : Nat) (o : Oper), ops[j]? = some o → o.dst ≠ none → φ j (vs j) w) → Q .normal (putAll ops.toList 0 vs a0) w) :
    ∀ (fuel : Nat) (listed : Array Bool) (vs : Nat → Value) (a : Act) (w : World), NInv ops φ J a0 listed vs a w → howMany (fun i => !listed.getD i true) ops.size ≤ fuel → wpAny P .any ops Q fuel listed a w
  | fuel, listed, vs, a, w, h, hf => by
    have hfin : Region.ready .any ops listed = [] → Q .normal a w := fun hr => by
      have hall : ∀ j, j < ops.size → listed.getD j false = true := fun j hj => all_listed ht h.lsz hr (j + 1) j (by omega) hj
      obtain ⟨e1, e2⟩ := h.fin hd hall
      rw [e1]
      exact hend vs w _ hall h.inv e2
    match fuel, hf with
    | 0, hf =>
      have hr : Region.ready .any ops listed = [] := by
        cases hrr : Region.ready .any ops listed with
        | nil => rfl
        | cons i rs =>
          have hi : i ∈ Region.ready .any ops listed := by rw [hrr]; simp
          obtain ⟨r1, r2, r3⟩ := ready_iff.1 hi
          have := howMany_less (fun i => !listed.getD i true) i (by simp [r2]) ops.size r1
          omega
      exact ⟨hr, hfin hr⟩
    | fuel + 1, hf =>
      refine ⟨hfin, fun i hi => ?_⟩
      obtain ⟨r1, r2, r3⟩ := ready_iff.1 hi
      have ho : ops[i]? = some ops[i] := Array.getElem?_eq_getElem r1
      have hil : i < listed.size := by rw [h.lsz]; exact r1
      have hcount : howMany (fun j => !(listed.setIfInBounds i true).getD j true) ops.size ≤ fuel := by
        have h1 := howMany_less (fun i => !listed.getD i true) i (by simp [r2]) ops.size r1
        have h2 : (fun j => !(listed.setIfInBounds i true).getD j true) = fun j => (!listed.getD j true) && !(j == i) := by
          funext j
          rw [getD_set' _ _ _ _ hil]
          by_cases hji : j = i
          · simp [hji]
          · simp [hji]
        rw [h2]; omega
      refine wpOp_mono (K := fun a' w' => ∃ vs', NInv ops φ J a0 (listed.setIfInBounds i true) vs' a' w') (fun a' w' hI => let ⟨vs', hI⟩ := hI; wpAny_mono3 ht hd hstep hend fuel _ vs' a' w' hI hcount) ?_
      have hif : listed.getD i false = false := by
        have : listed.getD i false = listed.getD i true := by simp [Array.getD_eq_getD_getElem?, hil]
        rw [this]; exact r2
      refine wpOp_step ho fun K hK => hstep i _ ho (fun j => listed.getD j false) vs a w hif h.inv (fun t htB => ?_) (fun j d hj hjd => ?_) K (fun v w' hk hJ hv => hK _ _ ⟨_, h.step hd ho hi hk hJ hv⟩)
      · have := h.old t fun j o' hj hl e => by
          unfold oldB at htB
          rw [List.all_eq_true] at htB
          have hjs : j < ops.size := (Array.getElem?_eq_some_iff.1 hj).1
          have h1 := htB j (List.mem_range.2 hjs)
          simp only [hj, e, beq_self_eq_true, Bool.not_true, Bool.false_or] at h1
          rw [Array.any_eq_true'] at h1
          obtain ⟨e', he', hb⟩ := h1
          simp only [Bool.and_eq_true, beq_iff_eq] at hb
          have h3 := h.closed j o' hj hl e' he' hb.1
          rw [hb.2] at h3
          have h4 : listed.getD i true = true := by simp [Array.getD_eq_getD_getElem?, hil] at h3 ⊢; exact h3
          rw [h4] at r2; cases r2
        rw [this]
      · rw [Array.any_eq_true'] at hj
        obtain ⟨e', he', hb⟩ := hj
        simp only [Bool.and_eq_true, beq_iff_eq] at hb
        obtain ⟨hb1, rfl⟩ := hb
        have hl := r3 _ ho e' he' hb1
        refine ⟨hl, ?_⟩
        cases ho' : ops[e'.on]? with
        | none => rw [ho'] at hjd; cases hjd
        | some o' =>
          rw [ho'] at hjd
          have := h.new e'.on o' d ho' hl hjd
          rwa [Array.getD_eq_getD_getElem?] at this
/-- THE LAW. -/
theorem wp_region_said3 {id : Nat} (φ : Nat → Value → World → Prop) (J : (Nat → Bool) → (Nat → Value) → World → Prop) {l : List Oper} (hm : P.follows .mixedOrders = true) (ht : topoB l.toArray = true) (hd : dstB a0.tmps.size l.toArray = true)
    (h0 : J (fun _ => false) (fun _ => undef) w0.drew)
    (hstep : StepsOK3 P Q l.toArray φ J a0 l 0)
    (hend : ∀ (vs : Nat → Value) (w : World) (ls : Nat → Bool), (∀ j, j < l.length → ls j = true) → J ls vs w → (∀ j : Nat, (((l.toArray)[j]?).bind (·.dst)).isSome = true → φ j (vs j) w) → Q .normal (putAll l 0 vs a0) w) : (Code.region id l.toArray true).wp P Q a0 w0 := by
  refine wp_region_any hm (wpAny_mono3 (φ := φ) (J := J) (a0 := a0) ht hd (fun i o ho => ?_) (fun vs w ls hls hJ hφ => ?_) _ _ (fun _ => undef) _ _ ⟨?_, by simp, rfl, rfl, fun j o hj hl => ?_, fun t _ => rfl, fun j o d hj hl => ?_⟩ ?_)
  · have hs := steps_at3 l 0 hstep i o (by simpa using ho)
    rwa [Nat.zero_add] at hs
  · refine hend vs w ls (by simpa using hls) hJ fun j hj => ?_
    cases ho : l.toArray[j]? with
    | none => rw [ho] at hj; cases hj
    | some o =>
      refine hφ j o ho fun e => ?_
      rw [ho, Option.bind_some, e] at hj
      cases hj
  · have : (fun j => (Array.replicate l.toArray.size false).getD j false) = fun _ => false := by
      funext j
      simp only [Array.getD_eq_getD_getElem?, Array.getElem?_replicate]
      split <;> rfl
    rw [this]; exact h0
  · have hj' : j < l.toArray.size := (Array.getElem?_eq_some_iff.1 hj).1
    simp at hj'
    simp [hj'] at hl
  · have hj' : j < l.toArray.size := (Array.getElem?_eq_some_iff.1 hj).1
    simp at hj'
    simp [hj'] at hl
  · have : ∀ n (q : Nat → Bool), howMany q n ≤ n := fun n q => by
      induction n with
      | zero => exact Nat.le_refl _
      | succ n ih => simp only [howMany]; split <;> omega
    exact this _ _
end
end Go.Proofs.Ytlahejakcgoheaa
end
section
/-
  A function's region by its number: so that the walk of one region can be a theorem of its own, over any frame with the few slots that it reads.
-/
set_option linter.unusedVariables false
set_option linter.unusedSimpArgs false
namespace Go.Proofs.Ytlahejakcgoheaa
open Go Go.RowKit
def findReg (n : Nat) : Code → Option Code
  | .region m ops d => if m = n then some (.region m ops d) else none
  | .seq a b => match findReg n a with
    | some c => some c
    | none => findReg n b
  | .cond _ a b => match findReg n a with
    | some c => some c
    | none => findReg n b
  | .block _ c => findReg n c
  | .loop c => findReg n c
  | .scope c => findReg n c
  | _ => none
noncomputable def regOf (f : Func) (n : Nat) : Code := (f.body.bind (findReg n)).getD .skip
def findCond (n : Nat) : Code → Option Code
  | .seq a b => match findCond n a with
    | some c => some c
    | none => findCond n b
  | .cond (.tmp m) a b => if m = n then some (.cond (.tmp m) a b) else match findCond n a with
    | some c => some c
    | none => findCond n b
  | .block _ c => findCond n c
  | .loop c => findCond n c
  | .scope c => findCond n c
  | _ => none
noncomputable def condOf (f : Func) (n : Nat) : Code := (f.body.bind (findCond n)).getD .skip
def putsL (sl : List Nat) (u : Nat → Value) (a : Act) : Act := sl.foldl (fun a i => a.put (some i) (u i)) a
theorem put_self (a : Act) (i : Nat) : a.put (some i) (a.tmps[i]?.getD undef) = a := by
  obtain ⟨t, d⟩ := a
  simp only [Act.put, Act.mk.injEq, and_true]
  apply Array.ext_getElem?
  intro j
  rw [Array.getElem?_setIfInBounds]
  split
  · rename_i h
    subst h
    split
    · rename_i h2; simp [h2]
    · rename_i h2; simp [h2]
  · rfl
section
variable {P : Program} {Q : Exit → Act → World → Prop} {ops : Array Oper} {φ : Nat → Value → World → Prop} {J : (Nat → Bool) → (Nat → Value) → World → Prop} {a0 : Act} {w0 : World}
theorem wpOps_said3 (ht : topoB ops = true) (hd : dstB a0.tmps.size ops = true)
    (hstep : ∀ (i : Nat) (o : Oper), ops[i]? = some o → StepOK3 P Q ops φ J a0 i o)
    (hend : ∀ (vs : Nat → Value) (w : World) (ls : Nat → Bool), (∀ j, j < ops.size → ls j = true) → J ls vs w → (∀ (j : Nat) (o : Oper), ops[j]? = some o → o.dst ≠ none → φ j (vs j) w) → Q .normal (putAll ops.toList 0 vs a0) w) :
    ∀ (m i : Nat) (listed : Array Bool) (vs : Nat → Value) (a : Act) (w : World), i + m = ops.size → NInv ops φ J a0 listed vs a w → (∀ j, j < ops.size → listed.getD j false = decide (j < i)) → wpOps P ops Q (List.range' i m) a w
  | 0, i, listed, vs, a, w, him, h, hl => by
    have hall : ∀ j, j < ops.size → listed.getD j false = true := fun j hj => by rw [hl j hj]; simp; omega
    obtain ⟨e1, e2⟩ := h.fin hd hall
    show Q .normal a w
    rw [e1]
    exact hend vs w _ hall h.inv e2
  | m + 1, i, listed, vs, a, w, him, h, hl => by
    have r1 : i < ops.size := by omega
    have ho : ops[i]? = some ops[i] := Array.getElem?_eq_getElem r1
    have hil : i < listed.size := by rw [h.lsz]; exact r1
    have hif : listed.getD i false = false := by rw [hl i r1]; simp
    have r2 : listed.getD i true = false := by
      have : listed.getD i false = listed.getD i true := by simp [Array.getD_eq_getD_getElem?, hil]
      rw [← this]; exact hif
    have htop : ∀ j o, ops[j]? = some o → ∀ e ∈ o.after, Region.binds .any e = true → e.on < j := fun j o hj e he hb => by
      have hjs : j < ops.size := (Array.getElem?_eq_some_iff.1 hj).1
      unfold topoB at ht
      rw [List.all_eq_true] at ht
      have h1 := ht j (List.mem_range.2 hjs)
      rw [hj] at h1
      simp only [Option.map_some, Option.getD_some, Array.all_eq_true'] at h1
      have h2 := h1 e he
      simp only [hb, Bool.not_true, Bool.false_or, decide_eq_true_eq] at h2
      exact h2
    have r3 : ∀ o, ops[i]? = some o → ∀ e ∈ o.after, Region.binds .any e = true → listed.getD e.on false = true := fun o hj e he hb => by
      have h2 := htop i o hj e he hb
      rw [hl _ (by omega)]; simpa using h2
    have hi : i ∈ Region.ready .any ops listed := ready_iff.2 ⟨r1, r2, r3⟩
    have hnext : ∀ (listed' : Array Bool), listed' = listed.setIfInBounds i true → ∀ j, j < ops.size → listed'.getD j false = decide (j < i + 1) := fun listed' e j hj => by
      rw [e, getD_set' _ _ _ _ hil]
      by_cases hji : j = i
      · subst hji; simp
      · rw [if_neg hji, hl j hj]
        have : (j < i) ↔ (j < i + 1) := by omega
        simp [this]
    have key := hstep i _ ho (fun j => listed.getD j false) vs a w hif h.inv (fun t htB => ?_) (fun j d hj hjd => ?_) (wpOps P ops Q (List.range' (i + 1) m))
      (fun v w' hk hJ hv => wpOps_said3 ht hd hstep hend m (i + 1) _ _ _ _ (by omega) (h.step hd ho hi hk hJ hv) (hnext _ rfl))
    · simp only [List.range'_succ, wpOps, ho]
      split at key
      · rename_i hw; rw [if_pos hw]; exact .inl key
      · rename_i hw; rw [if_neg hw]; exact key
    · have := h.old t fun j o' hj hl2 e => by
        unfold oldB at htB
        rw [List.all_eq_true] at htB
        have hjs : j < ops.size := (Array.getElem?_eq_some_iff.1 hj).1
        have h1 := htB j (List.mem_range.2 hjs)
        simp only [hj, e, beq_self_eq_true, Bool.not_true, Bool.false_or] at h1
        rw [Array.any_eq_true'] at h1
        obtain ⟨e', he', hb⟩ := h1
        simp only [Bool.and_eq_true, beq_iff_eq] at hb
        have h3 := h.closed j o' hj hl2 e' he' hb.1
        rw [hb.2] at h3
        rw [hif] at h3; cases h3
      rw [this]
    · rw [Array.any_eq_true'] at hj
      obtain ⟨e', he', hb⟩ := hj
      simp only [Bool.and_eq_true, beq_iff_eq] at hb
      obtain ⟨hb1, rfl⟩ := hb
      have hl2 := r3 _ ho e' he' hb1
      refine ⟨hl2, ?_⟩
      cases ho' : ops[e'.on]? with
      | none => rw [ho'] at hjd; cases hjd
      | some o' =>
        rw [ho'] at hjd
        have := h.new e'.on o' d ho' hl2 hjd
        rwa [Array.getD_eq_getD_getElem?] at this
/-- THE LAW, for a region in its own order. -/
theorem wp_region_seq3 {id : Nat} (φ : Nat → Value → World → Prop) (J : (Nat → Bool) → (Nat → Value) → World → Prop) {l : List Oper} (ht : topoB l.toArray = true) (hd : dstB a0.tmps.size l.toArray = true)
    (h0 : J (fun _ => false) (fun _ => undef) w0)
    (hstep : StepsOK3 P Q l.toArray φ J a0 l 0)
    (hend : ∀ (vs : Nat → Value) (w : World) (ls : Nat → Bool), (∀ j, j < l.length → ls j = true) → J ls vs w → (∀ j : Nat, (((l.toArray)[j]?).bind (·.dst)).isSome = true → φ j (vs j) w) → Q .normal (putAll l 0 vs a0) w) : (Code.region id l.toArray false).wp P Q a0 w0 := by
  refine wp_region ?_
  rw [List.range_eq_range']
  refine wpOps_said3 (φ := φ) (J := J) (a0 := a0) ht hd (fun i o ho => ?_) (fun vs w ls hls hJ hφ => ?_) l.toArray.size 0 (Array.replicate l.toArray.size false) (fun _ => undef) a0 w0 (by omega) ⟨?_, by simp, rfl, rfl, fun j o hj hl => ?_, fun t _ => rfl, fun j o d hj hl => ?_⟩ (fun j hj => ?_)
  · have hs := steps_at3 l 0 hstep i o (by simpa using ho)
    rwa [Nat.zero_add] at hs
  · refine hend vs w ls (by simpa using hls) hJ fun j hj => ?_
    cases ho : l.toArray[j]? with
    | none => rw [ho] at hj; cases hj
    | some o =>
      refine hφ j o ho fun e => ?_
      rw [ho, Option.bind_some, e] at hj
      cases hj
  · have : (fun j => (Array.replicate l.toArray.size false).getD j false) = fun _ => false := by
      funext j
      simp only [Array.getD_eq_getD_getElem?, Array.getElem?_replicate]
      split <;> rfl
    rw [this]; exact h0
  · have hj' : j < l.toArray.size := (Array.getElem?_eq_some_iff.1 hj).1
    simp at hj'
    simp [hj'] at hl
  · have hj' : j < l.toArray.size := (Array.getElem?_eq_some_iff.1 hj).1
    simp at hj'
    simp [hj'] at hl
  · have hj' : j < l.length := by simpa using hj
    simp [hj']
end
/-- A cut that forgets 5 slots. -/
theorem wp_cut5 {P : Program} {s : Code} {K : Act → World → Prop} {Q' : Exit → Act → World → Prop} {a : Act} {w : World} (s1 s2 s3 s4 s5 : Nat) (R : Value → Value → Value → Value → Value → World → Prop)
    (rest : ∀ (v1 v2 v3 v4 v5 : Value) w', R v1 v2 v3 v4 v5 w' → K (((((a.put (some s1) v1).put (some s2) v2).put (some s3) v3).put (some s4) v4).put (some s5) v5) w')
    (first : ∀ (J K' : Act → World → Prop), (∀ (v1 v2 v3 v4 v5 : Value) w', R v1 v2 v3 v4 v5 w' → J (((((a.put (some s1) v1).put (some s2) v2).put (some s3) v3).put (some s4) v4).put (some s5) v5) w') → (∀ a' w', Met J a' w' → K' a' w') → s.wp P (Exit.then K' Q') a w) : s.wp P (Exit.then K Q') a w :=
  wp_cut (fun a' w' => ∃ v1 v2 v3 v4 v5 : Value, R v1 v2 v3 v4 v5 w' ∧ a' = (((((a.put (some s1) v1).put (some s2) v2).put (some s3) v3).put (some s4) v4).put (some s5) v5)) (fun a' w' h => by obtain ⟨v1, v2, v3, v4, v5, h1, rfl⟩ := h; exact rest v1 v2 v3 v4 v5 w' h1)
    (fun J K' hJ hK => first J K' (fun v1 v2 v3 v4 v5 w' h => hJ _ _ ⟨v1, v2, v3, v4, v5, h, rfl⟩) hK)
/-- A cut that forgets 9 slots. -/
theorem wp_cut9 {P : Program} {s : Code} {K : Act → World → Prop} {Q' : Exit → Act → World → Prop} {a : Act} {w : World} (s1 s2 s3 s4 s5 s6 s7 s8 s9 : Nat) (R : Value → Value → Value → Value → Value → Value → Value → Value → Value → World → Prop)
    (rest : ∀ (v1 v2 v3 v4 v5 v6 v7 v8 v9 : Value) w', R v1 v2 v3 v4 v5 v6 v7 v8 v9 w' → K (((((((((a.put (some s1) v1).put (some s2) v2).put (some s3) v3).put (some s4) v4).put (some s5) v5).put (some s6) v6).put (some s7) v7).put (some s8) v8).put (some s9) v9) w')
    (first : ∀ (J K' : Act → World → Prop), (∀ (v1 v2 v3 v4 v5 v6 v7 v8 v9 : Value) w', R v1 v2 v3 v4 v5 v6 v7 v8 v9 w' → J (((((((((a.put (some s1) v1).put (some s2) v2).put (some s3) v3).put (some s4) v4).put (some s5) v5).put (some s6) v6).put (some s7) v7).put (some s8) v8).put (some s9) v9) w') → (∀ a' w', Met J a' w' → K' a' w') → s.wp P (Exit.then K' Q') a w) : s.wp P (Exit.then K Q') a w :=
  wp_cut (fun a' w' => ∃ v1 v2 v3 v4 v5 v6 v7 v8 v9 : Value, R v1 v2 v3 v4 v5 v6 v7 v8 v9 w' ∧ a' = (((((((((a.put (some s1) v1).put (some s2) v2).put (some s3) v3).put (some s4) v4).put (some s5) v5).put (some s6) v6).put (some s7) v7).put (some s8) v8).put (some s9) v9)) (fun a' w' h => by obtain ⟨v1, v2, v3, v4, v5, v6, v7, v8, v9, h1, rfl⟩ := h; exact rest v1 v2 v3 v4 v5 v6 v7 v8 v9 w' h1)
    (fun J K' hJ hK => first J K' (fun v1 v2 v3 v4 v5 v6 v7 v8 v9 w' h => hJ _ _ ⟨v1, v2, v3, v4, v5, v6, v7, v8, v9, h, rfl⟩) hK)
/-- Whether a guarded operation is wanted, by the test's slot. -/
theorem wanted_of {ops : Array Oper} {o : Oper} {a : Act} {j t : Nat} {b want : Bool} (hg : o.guard = some (j, want)) (hd : (ops[j]?).bind (·.dst) = some t) (hv : a.tmps[t]?.getD undef = .bool b) : Region.wanted o (yielded ops a.tmps) = (b == want) := by
  have h1 : a.tmps[t]? = some (.bool b) := by
    cases h : a.tmps[t]? with
    | none => rw [h] at hv; cases hv
    | some v => rw [h] at hv; simpa using hv
  have h2 : yielded ops a.tmps j = some b := by
    simp only [yielded, hd, Option.bind_some, h1]
  simp only [Region.wanted, hg, h2]
  cases b <;> cases want <;> rfl
end Go.Proofs.Ytlahejakcgoheaa
end
section
/-
  Guarded operations of a drawn region: a value that is there only if its guard says so.
-/
set_option linter.unusedVariables false
set_option linter.unusedSimpArgs false
namespace Go.Proofs.Ytlahejakcgoheaa
open Go Go.RowKit
/-- What stands in a guarded operation's slot. -/
def gv : Bool → Value → Value
  | true, v => v
  | false, _ => undef
theorem gv_true (v : Value) : gv true v = v := rfl
theorem gv_false (v : Value) : gv false v = undef := rfl
theorem wanted_none {ops : Array Oper} {o : Oper} {a : Act} {j t : Nat} {want : Bool} (hg : o.guard = some (j, want)) (hd : (ops[j]?).bind (·.dst) = some t) (hv : a.tmps[t]?.getD undef = undef) : Region.wanted o (yielded ops a.tmps) = false := by
  have h2 : yielded ops a.tmps j = none := by
    simp only [yielded, hd, Option.bind_some]
    cases h : a.tmps[t]? with
    | none => rfl
    | some v =>
      rw [h] at hv
      obtain rfl : v = undef := by simpa using hv
      rfl
  simp only [Region.wanted, hg, h2]
  cases want <;> rfl
/-- A cut that forgets the slots of a list. -/
theorem wp_cutL {P : Program} {s : Code} {K : Act → World → Prop} {Q' : Exit → Act → World → Prop} {a : Act} {w : World} (sl : List Nat) (R : (Nat → Value) → World → Prop)
    (rest : ∀ (u : Nat → Value) w', R u w' → K (putsL sl u a) w')
    (first : ∀ (J K' : Act → World → Prop), (∀ (u : Nat → Value) w', R u w' → J (putsL sl u a) w') → (∀ a' w', Met J a' w' → K' a' w') → s.wp P (Exit.then K' Q') a w) : s.wp P (Exit.then K Q') a w :=
  wp_cut (fun a' w' => ∃ u : Nat → Value, R u w' ∧ a' = putsL sl u a) (fun a' w' h => by obtain ⟨u, h1, rfl⟩ := h; exact rest u w' h1)
    (fun J K' hJ hK => first J K' (fun u w' h => hJ _ _ ⟨u, h, rfl⟩) hK)
theorem met_puts {J : Act → World → Prop} {sl : List Nat} {a F : Act} {w' : World} {R : (Nat → Value) → World → Prop} (hJ : ∀ (u : Nat → Value) w', R u w' → J (putsL sl u a) w')
    (hF : putsL sl (fun i => (F.tmps[i]?).getD undef) a = F) (hR : R (fun i => (F.tmps[i]?).getD undef) w') : Met J F w' := Met.intro (hF ▸ hJ _ _ hR)
end Go.Proofs.Ytlahejakcgoheaa
end
end
section
/-
  Walk: List's drawn region.
-/
set_option linter.unusedVariables false
set_option linter.unusedSimpArgs false
namespace Go.Proofs.Ytlahejakcgoheaa
open Go.RowKit
/-- An entry of a list. -/
structure En where
  num : Int
  ver : Int
  day : Int
  un : Int
  kind : ByteArray
  gone : Bool
def encs (x : En) : List Value := [.int .i64 x.num, .int .i64 x.ver, .int .i64 x.day, .int .i64 x.un, .string x.kind, .bool x.gone]
theorem encs_len (x : En) : (encs x).length = 6 := rfl
theorem encs_one (x : En) : ∀ u ∈ encs x, u.oneCell' = true := by
  intro u hu
  simp only [encs, List.mem_cons, List.not_mem_nil, or_false] at hu
  rcases hu with rfl | rfl | rfl | rfl | rfl | rfl <;> rfl
abbrev OwnE := OwnF 94 6 encs
theorem info94 : (Try.prog.info? 94).map (fun i => (i.zero, i.size, i.bytes)) = some (some (.agg #[.int .i64 0, .int .i64 0, .int .i64 0, .int .i64 0, .string ⟨#[]⟩, .bool false]), 6, 56) := by kernel_rfl
theorem app_entry (w : World) (B : Nat) (ty : TypeId) (v : Value) (xs : List En) (hv : OwnE w B v xs) (x : En) (g : Nat) (hg : w.heap[g]? = some (.cells (encs x).toArray 94 (0, 0))) (hn : xs.length ≤ 1000000) (hB : B ≤ w.heap.size) :
    ∃ v' w', (Builtin.append_ #[41, 41] ty #[v, .slice (some ⟨g, 0, none⟩) 1 1]).run Try.prog w = .ok v' w' ∧ OwnE w' B v' (xs ++ [x]) ∧ w.grownBy w' v.ownBlock ∧ (v'.ownBlock = v.ownBlock ∨ v'.ownBlock = some w.heap.size) := by
  obtain ⟨i0, hi, hz0, hz1, hz2⟩ := info_parts info94
  exact app_struct 41 ty 94 encs encs_len encs_one (by omega) Try.underlying41 hi hz0 hz1 hz2 rfl (by omega) w B v xs hv x g hg hn hB
def entryOf (day : Int) (i : Nat) (r : List Lk) : En := ⟨(i : Int) + 1, r.length, (r.getD 0 Lk.nil).da, untilR r, (r.getD 0 Lk.nil).ki, decide (untilR r < day)⟩
def entries (day : Int) (rs : List (List Lk)) : List En := (List.range rs.length).map fun i => entryOf day i (rs.getD i [])
/-- What 'List' gives. -/
def listR (S : PV) (n p : ByteArray) : List En × Int := if enterR S n p ≠ 0 then ([], enterR S n p) else (match S.find n with | none => [] | some c => entries S.day c.recs, 0)
theorem entries_len (day : Int) (rs : List (List Lk)) : (entries day rs).length = rs.length := by simp [entries]
theorem entries_take (day : Int) (rs : List (List Lk)) (k : Nat) (h : k < rs.length) : (entries day rs).take (k + 1) = (entries day rs).take k ++ [entryOf day k (rs.getD k [])] := by
  rw [List.take_succ_eq_append_getElem (by rw [entries_len]; exact h)]
  congr 2
  simp [entries]
/-- What 'List' leaves. -/
def RetList (S : PV) (n p : ByteArray) (w : World) (e : Ending) (w' : World) : Prop :=
  ∃ a c, e = .returned (.tuple #[.slice a (listR S n p).1.length c, .int .i64 (listR S n p).2]) ∧ Ext w w' ∧ OwnE w' w.heap.size (.slice a (listR S n p).1.length c) (listR S n p).1
theorem until_eq (r : Rv) (F : List Nat) (L : List Cl) (w : World) (hr : w.ownsRow 0 74 1 r.val r.ls.length (rowP r.ls)) (hl : LinksIn w L F) (hs : ∀ y ∈ r.ls, y ∈ L) (hn : 0 < r.ls.length) : Calls Try.prog 71 #[r.val] w fun e w' => e = .returned (.int .i64 (untilR r.p)) ∧ w' = w := by
  unfold Rv.val at hr
  obtain ⟨g, hg, hc⟩ := row_at hr 0 hn
  obtain ⟨hl, -⟩ := hl _ (hs _ (List.getElem_mem hn))
  obtain ⟨d0, d1, d2, d3, d4, d5, d6, d7, d8, d9⟩ := obj_cells10 hl.1
  have hq := Lib.hid (untilR_eq r hn)
  obtain ⟨y, hy⟩ : ∃ y, y = r.ls[0] := ⟨_, rfl⟩
  rw [← hy] at hc hq d6
  replace hc := hc w (Ext.refl _)
  replace d6 := d6 w (Ext.refl _)
  unfold Rv.val
  rw [hg]
  have hi : (0 : Int) < (r.ls.length : Int) := by omega
  clear d0 d1 d2 d3 d4 d5 d7 d8 d9 hl hr hs hy hg
  go_enter Try.func71, Try.ntmps71
  go_wp2_with (fail)
  go_ret
  exact ⟨by rw [hq.out]; rfl, rfl⟩
set_option maxRecDepth 100000 in
set_option maxHeartbeats 4000000 in
theorem l42_law {xs : List En} {x : En} {u : Value} {kd : ByteArray} {da un dv : Int} {B vb gr yb m rc k : Nat} {wb wr : World} (hr : Ext wb wr) (hB : B = wb.heap.size) (hk30 : k ≤ 30) (hm0 : 0 < m) (hm20 : m ≤ 20) (hxl : xs.length ≤ 30) (HX : Hid (encs x = [.int .i64 ((k : Int) + 1), .int .i64 m, .int .i64 da, .int .i64 un, .string kd, .bool (decide (un < dv))])) (HOW : Hid (OwnE wr B u xs)) (HUN : Hid (∀ W, Ext wb W → Calls Try.prog 71 #[.slice (some ⟨gr, 0, none⟩) m rc] W fun e w' => e = .returned (.int .i64 un) ∧ w' = W)) (c1 : ∀ W, Ext wb W → W.cell? ⟨vb, 1, none⟩ = some (.int .i64 dv)) (r1 : ∀ W, Ext wb W → W.cell? ⟨gr, 0, none⟩ = some (.pointer (some ⟨yb, 0, none⟩))) (y5 : ∀ W, Ext wb W → W.cell? ⟨yb, 5, none⟩ = some (.int .i64 da)) (y2 : ∀ W, Ext wb W → W.cell? ⟨yb, 2, none⟩ = some (.string kd)) {Q : Exit → Act → World → Prop} (aZ : Act) (hsz : aZ.tmps.size = 66) (o0 : aZ.tmps[0]?.getD undef = .pointer (some ⟨vb, 0, none⟩)) (o11 : aZ.tmps[11]?.getD undef = u) (o12 : aZ.tmps[12]?.getD undef = .int .i64 k) (o13 : aZ.tmps[13]?.getD undef = .slice (some ⟨gr, 0, none⟩) m rc)
    (hend : ∀ (vs : Nat → Value) (w9 : World) (ls9 : Nat → Bool), (∀ j : Nat, j < 30 → ls9 j = true) → (Ext wb w9 ∧ (ls9 28 = false → OwnE w9 B u xs) ∧ (ls9 28 = true → OwnE w9 B (vs 28) (xs ++ [x])) ∧ (ls9 29 = true → ls9 28 = true ∧ vs 29 = vs 28) ∧ (ls9 27 = true → ls9 28 = false → ∃ g, vs 27 = .slice (some ⟨g, 0, none⟩) 1 1 ∧ w9.heap[g]? = some (.cells (encs x).toArray 94 (0, 0)))) → (vs 0 = u) → (vs 1 = .int .i64 k) → (vs 2 = .int .i64 (k + 1)) → (vs 3 = .slice (some ⟨gr, 0, none⟩) m rc) → (vs 4 = .int .i64 m) → (vs 5 = .slice (some ⟨gr, 0, none⟩) m rc) → (vs 6 = .pointer (some ⟨gr, 0, none⟩)) → (vs 7 = .pointer (some ⟨yb, 0, none⟩)) → (vs 8 = .pointer (some ⟨yb, 0, none⟩)) → (vs 9 = .pointer (some ⟨yb, 5, none⟩)) → (vs 10 = .int .i64 da) → (vs 11 = .slice (some ⟨gr, 0, none⟩) m rc) → (vs 12 = .int .i64 un) → (vs 13 = .slice (some ⟨gr, 0, none⟩) m rc) → (vs 14 = .pointer (some ⟨gr, 0, none⟩)) → (vs 15 = .pointer (some ⟨yb, 0, none⟩)) → (vs 16 = .pointer (some ⟨yb, 0, none⟩)) → (vs 17 = .pointer (some ⟨yb, 2, none⟩)) → (vs 18 = .string kd) → (vs 19 = .pointer (some ⟨vb, 0, none⟩)) → (vs 20 = .pointer (some ⟨vb, 0, none⟩)) → (vs 21 = .pointer (some ⟨vb, 1, none⟩)) → (vs 22 = .int .i64 dv) → (vs 23 = .slice (some ⟨gr, 0, none⟩) m rc) → (vs 24 = .int .i64 un) → (vs 25 = .bool (decide (un < dv))) → (vs 26 = .agg #[.int .i64 ((k : Int) + 1), .int .i64 m, .int .i64 da, .int .i64 un, .string kd, .bool (decide (un < dv))]) → (True) → (True) → (True) → Q .normal ((((((((((((((((((((((((((((((aZ.put (some 35) (vs 0)).put (some 36) (vs 1)).put (some 37) (vs 2)).put (some 38) (vs 3)).put (some 39) (vs 4)).put (some 40) (vs 5)).put (some 41) (vs 6)).put (some 42) (vs 7)).put (some 43) (vs 8)).put (some 44) (vs 9)).put (some 45) (vs 10)).put (some 46) (vs 11)).put (some 47) (vs 12)).put (some 48) (vs 13)).put (some 49) (vs 14)).put (some 50) (vs 15)).put (some 51) (vs 16)).put (some 52) (vs 17)).put (some 53) (vs 18)).put (some 54) (vs 19)).put (some 55) (vs 20)).put (some 56) (vs 21)).put (some 57) (vs 22)).put (some 58) (vs 23)).put (some 59) (vs 24)).put (some 60) (vs 25)).put (some 61) (vs 26)).put (some 62) (vs 27)).put (some 63) (vs 28)).put (some 11) (vs 29)) w9) : (regOf Try.f42 8).wp Try.prog Q aZ wr := by
  conv => arg 2; whnf
  refine wp_region_said3 (fun i v wz => match i with
    | 0 => v = u
    | 1 => v = .int .i64 k
    | 2 => v = .int .i64 (k + 1)
    | 3 => v = .slice (some ⟨gr, 0, none⟩) m rc
    | 4 => v = .int .i64 m
    | 5 => v = .slice (some ⟨gr, 0, none⟩) m rc
    | 6 => v = .pointer (some ⟨gr, 0, none⟩)
    | 7 => v = .pointer (some ⟨yb, 0, none⟩)
    | 8 => v = .pointer (some ⟨yb, 0, none⟩)
    | 9 => v = .pointer (some ⟨yb, 5, none⟩)
    | 10 => v = .int .i64 da
    | 11 => v = .slice (some ⟨gr, 0, none⟩) m rc
    | 12 => v = .int .i64 un
    | 13 => v = .slice (some ⟨gr, 0, none⟩) m rc
    | 14 => v = .pointer (some ⟨gr, 0, none⟩)
    | 15 => v = .pointer (some ⟨yb, 0, none⟩)
    | 16 => v = .pointer (some ⟨yb, 0, none⟩)
    | 17 => v = .pointer (some ⟨yb, 2, none⟩)
    | 18 => v = .string kd
    | 19 => v = .pointer (some ⟨vb, 0, none⟩)
    | 20 => v = .pointer (some ⟨vb, 0, none⟩)
    | 21 => v = .pointer (some ⟨vb, 1, none⟩)
    | 22 => v = .int .i64 dv
    | 23 => v = .slice (some ⟨gr, 0, none⟩) m rc
    | 24 => v = .int .i64 un
    | 25 => v = .bool (decide (un < dv))
    | 26 => v = .agg #[.int .i64 ((k : Int) + 1), .int .i64 m, .int .i64 da, .int .i64 un, .string kd, .bool (decide (un < dv))]
    | 27 => True
    | 28 => True
    | _ => True) (fun ls vs wz => Ext wb wz ∧ (ls 28 = false → OwnE wz B u xs) ∧ (ls 28 = true → OwnE wz B (vs 28) (xs ++ [x])) ∧ (ls 29 = true → ls 28 = true ∧ vs 29 = vs 28) ∧ (ls 27 = true → ls 28 = false → ∃ g, vs 27 = .slice (some ⟨g, 0, none⟩) 1 1 ∧ wz.heap[g]? = some (.cells (encs x).toArray 94 (0, 0)))) (by kernel_rfl) (by kernel_rfl) (by rw [hsz]; kernel_rfl) ?_ ?_ ?_
  · exact ⟨hr.drew, fun _ => HOW.out.ext (Ext.refl _).drew, fun e => (by cases e), fun e => (by cases e), fun e => (by cases e)⟩
  · refine ⟨?_, ?_, ?_, ?_, ?_, ?_, ?_, ?_, ?_, ?_, ?_, ?_, ?_, ?_, ?_, ?_, ?_, ?_, ?_, ?_, ?_, ?_, ?_, ?_, ?_, ?_, ?_, ?_, ?_, ?_, trivial⟩
    · intro ls vs a w1 hi hJ hold hdep K hK
      have q11 : a.tmps[11]?.getD undef = u := (hold 11 (by kernel_rfl)).trans o11
      rw [if_pos (by rfl)]
      clear hold hdep hend o0 o11 o12 o13
      have HJ := Lib.hid hJ
      clear hJ
      go_simp
      exact hK _ _ (fun _ _ _ h => h) HJ.out rfl
    · intro ls vs a w1 hi hJ hold hdep K hK
      have q12 : a.tmps[12]?.getD undef = .int .i64 k := (hold 12 (by kernel_rfl)).trans o12
      rw [if_pos (by rfl)]
      clear hold hdep hend o0 o11 o12 o13
      have HJ := Lib.hid hJ
      clear hJ
      go_simp
      exact hK _ _ (fun _ _ _ h => h) HJ.out rfl
    · intro ls vs a w1 hi hJ hold hdep K hK
      have q36 : a.tmps[36]?.getD undef = .int .i64 k := (hdep 1 36 (by kernel_rfl) (by kernel_rfl)).2.1.trans (hdep 1 36 (by kernel_rfl) (by kernel_rfl)).2.2
      rw [if_pos (by rfl)]
      clear hold hdep hend o0 o11 o12 o13
      have HJ := Lib.hid hJ
      clear hJ
      go_simp
      rw [IntWalk.i64_in _ (by omega)]
      exact hK _ _ (fun _ _ _ h => h) HJ.out rfl
    · intro ls vs a w1 hi hJ hold hdep K hK
      have q13 : a.tmps[13]?.getD undef = .slice (some ⟨gr, 0, none⟩) m rc := (hold 13 (by kernel_rfl)).trans o13
      rw [if_pos (by rfl)]
      clear hold hdep hend o0 o11 o12 o13
      have HJ := Lib.hid hJ
      clear hJ
      go_simp
      exact hK _ _ (fun _ _ _ h => h) HJ.out rfl
    · intro ls vs a w1 hi hJ hold hdep K hK
      have q38 : a.tmps[38]?.getD undef = .slice (some ⟨gr, 0, none⟩) m rc := (hdep 3 38 (by kernel_rfl) (by kernel_rfl)).2.1.trans (hdep 3 38 (by kernel_rfl) (by kernel_rfl)).2.2
      rw [if_pos (by rfl)]
      clear hold hdep hend o0 o11 o12 o13
      have HJ := Lib.hid hJ
      clear hJ
      go_simp
      exact hK _ _ (fun _ _ _ h => h) HJ.out rfl
    · intro ls vs a w1 hi hJ hold hdep K hK
      have q13 : a.tmps[13]?.getD undef = .slice (some ⟨gr, 0, none⟩) m rc := (hold 13 (by kernel_rfl)).trans o13
      rw [if_pos (by rfl)]
      clear hold hdep hend o0 o11 o12 o13
      have HJ := Lib.hid hJ
      clear hJ
      go_simp
      exact hK _ _ (fun _ _ _ h => h) HJ.out rfl
    · intro ls vs a w1 hi hJ hold hdep K hK
      have q40 : a.tmps[40]?.getD undef = .slice (some ⟨gr, 0, none⟩) m rc := (hdep 5 40 (by kernel_rfl) (by kernel_rfl)).2.1.trans (hdep 5 40 (by kernel_rfl) (by kernel_rfl)).2.2
      rw [if_pos (by rfl)]
      clear hold hdep hend o0 o11 o12 o13
      have HJ := Lib.hid hJ
      clear hJ
      have hi2 : (0 : Int) < (m : Int) := by omega
      go_simp
      exact hK _ _ (fun _ _ _ h => h) HJ.out rfl
    · intro ls vs a w1 hi hJ hold hdep K hK
      have q41 : a.tmps[41]?.getD undef = .pointer (some ⟨gr, 0, none⟩) := (hdep 6 41 (by kernel_rfl) (by kernel_rfl)).2.1.trans (hdep 6 41 (by kernel_rfl) (by kernel_rfl)).2.2
      rw [if_pos (by rfl)]
      clear hold hdep hend o0 o11 o12 o13
      have HJ := Lib.hid hJ
      clear hJ
      have hz1 := HJ.out.1
      go_simp
      exact hK _ _ (fun _ _ _ h => h) HJ.out rfl
    · intro ls vs a w1 hi hJ hold hdep K hK
      have q42 : a.tmps[42]?.getD undef = .pointer (some ⟨yb, 0, none⟩) := (hdep 7 42 (by kernel_rfl) (by kernel_rfl)).2.1.trans (hdep 7 42 (by kernel_rfl) (by kernel_rfl)).2.2
      rw [if_pos (by rfl)]
      clear hold hdep hend o0 o11 o12 o13
      have HJ := Lib.hid hJ
      clear hJ
      go_simp
      exact hK _ _ (fun _ _ _ h => h) HJ.out rfl
    · intro ls vs a w1 hi hJ hold hdep K hK
      have q43 : a.tmps[43]?.getD undef = .pointer (some ⟨yb, 0, none⟩) := (hdep 8 43 (by kernel_rfl) (by kernel_rfl)).2.1.trans (hdep 8 43 (by kernel_rfl) (by kernel_rfl)).2.2
      rw [if_pos (by rfl)]
      clear hold hdep hend o0 o11 o12 o13
      have HJ := Lib.hid hJ
      clear hJ
      go_simp
      exact hK _ _ (fun _ _ _ h => h) HJ.out rfl
    · intro ls vs a w1 hi hJ hold hdep K hK
      have q44 : a.tmps[44]?.getD undef = .pointer (some ⟨yb, 5, none⟩) := (hdep 9 44 (by kernel_rfl) (by kernel_rfl)).2.1.trans (hdep 9 44 (by kernel_rfl) (by kernel_rfl)).2.2
      rw [if_pos (by rfl)]
      clear hold hdep hend o0 o11 o12 o13
      have HJ := Lib.hid hJ
      clear hJ
      have hz1 := HJ.out.1
      go_simp
      exact hK _ _ (fun _ _ _ h => h) HJ.out rfl
    · intro ls vs a w1 hi hJ hold hdep K hK
      have q13 : a.tmps[13]?.getD undef = .slice (some ⟨gr, 0, none⟩) m rc := (hold 13 (by kernel_rfl)).trans o13
      rw [if_pos (by rfl)]
      clear hold hdep hend o0 o11 o12 o13
      have HJ := Lib.hid hJ
      clear hJ
      go_simp
      exact hK _ _ (fun _ _ _ h => h) HJ.out rfl
    · intro ls vs a w1 hi hJ hold hdep K hK
      have q46 : a.tmps[46]?.getD undef = .slice (some ⟨gr, 0, none⟩) m rc := (hdep 11 46 (by kernel_rfl) (by kernel_rfl)).2.1.trans (hdep 11 46 (by kernel_rfl) (by kernel_rfl)).2.2
      rw [if_pos (by rfl)]
      clear hold hdep hend o0 o11 o12 o13
      have HJ := Lib.hid hJ
      clear hJ
      have hz1 := HJ.out.1
      go_simp
      go_at_call 71
      (with_reducible refine (HUN.out _ hz1).mono ?_); rintro e w20 ⟨rfl, rfl⟩
      exact hK _ _ (fun _ _ _ h => h) HJ.out rfl
    · intro ls vs a w1 hi hJ hold hdep K hK
      have q13 : a.tmps[13]?.getD undef = .slice (some ⟨gr, 0, none⟩) m rc := (hold 13 (by kernel_rfl)).trans o13
      rw [if_pos (by rfl)]
      clear hold hdep hend o0 o11 o12 o13
      have HJ := Lib.hid hJ
      clear hJ
      go_simp
      exact hK _ _ (fun _ _ _ h => h) HJ.out rfl
    · intro ls vs a w1 hi hJ hold hdep K hK
      have q48 : a.tmps[48]?.getD undef = .slice (some ⟨gr, 0, none⟩) m rc := (hdep 13 48 (by kernel_rfl) (by kernel_rfl)).2.1.trans (hdep 13 48 (by kernel_rfl) (by kernel_rfl)).2.2
      rw [if_pos (by rfl)]
      clear hold hdep hend o0 o11 o12 o13
      have HJ := Lib.hid hJ
      clear hJ
      have hi2 : (0 : Int) < (m : Int) := by omega
      go_simp
      exact hK _ _ (fun _ _ _ h => h) HJ.out rfl
    · intro ls vs a w1 hi hJ hold hdep K hK
      have q49 : a.tmps[49]?.getD undef = .pointer (some ⟨gr, 0, none⟩) := (hdep 14 49 (by kernel_rfl) (by kernel_rfl)).2.1.trans (hdep 14 49 (by kernel_rfl) (by kernel_rfl)).2.2
      rw [if_pos (by rfl)]
      clear hold hdep hend o0 o11 o12 o13
      have HJ := Lib.hid hJ
      clear hJ
      have hz1 := HJ.out.1
      go_simp
      exact hK _ _ (fun _ _ _ h => h) HJ.out rfl
    · intro ls vs a w1 hi hJ hold hdep K hK
      have q50 : a.tmps[50]?.getD undef = .pointer (some ⟨yb, 0, none⟩) := (hdep 15 50 (by kernel_rfl) (by kernel_rfl)).2.1.trans (hdep 15 50 (by kernel_rfl) (by kernel_rfl)).2.2
      rw [if_pos (by rfl)]
      clear hold hdep hend o0 o11 o12 o13
      have HJ := Lib.hid hJ
      clear hJ
      go_simp
      exact hK _ _ (fun _ _ _ h => h) HJ.out rfl
    · intro ls vs a w1 hi hJ hold hdep K hK
      have q51 : a.tmps[51]?.getD undef = .pointer (some ⟨yb, 0, none⟩) := (hdep 16 51 (by kernel_rfl) (by kernel_rfl)).2.1.trans (hdep 16 51 (by kernel_rfl) (by kernel_rfl)).2.2
      rw [if_pos (by rfl)]
      clear hold hdep hend o0 o11 o12 o13
      have HJ := Lib.hid hJ
      clear hJ
      go_simp
      exact hK _ _ (fun _ _ _ h => h) HJ.out rfl
    · intro ls vs a w1 hi hJ hold hdep K hK
      have q52 : a.tmps[52]?.getD undef = .pointer (some ⟨yb, 2, none⟩) := (hdep 17 52 (by kernel_rfl) (by kernel_rfl)).2.1.trans (hdep 17 52 (by kernel_rfl) (by kernel_rfl)).2.2
      rw [if_pos (by rfl)]
      clear hold hdep hend o0 o11 o12 o13
      have HJ := Lib.hid hJ
      clear hJ
      have hz1 := HJ.out.1
      go_simp
      exact hK _ _ (fun _ _ _ h => h) HJ.out rfl
    · intro ls vs a w1 hi hJ hold hdep K hK
      have q0 : a.tmps[0]?.getD undef = .pointer (some ⟨vb, 0, none⟩) := (hold 0 (by kernel_rfl)).trans o0
      rw [if_pos (by rfl)]
      clear hold hdep hend o0 o11 o12 o13
      have HJ := Lib.hid hJ
      clear hJ
      go_simp
      exact hK _ _ (fun _ _ _ h => h) HJ.out rfl
    · intro ls vs a w1 hi hJ hold hdep K hK
      have q54 : a.tmps[54]?.getD undef = .pointer (some ⟨vb, 0, none⟩) := (hdep 19 54 (by kernel_rfl) (by kernel_rfl)).2.1.trans (hdep 19 54 (by kernel_rfl) (by kernel_rfl)).2.2
      rw [if_pos (by rfl)]
      clear hold hdep hend o0 o11 o12 o13
      have HJ := Lib.hid hJ
      clear hJ
      go_simp
      exact hK _ _ (fun _ _ _ h => h) HJ.out rfl
    · intro ls vs a w1 hi hJ hold hdep K hK
      have q55 : a.tmps[55]?.getD undef = .pointer (some ⟨vb, 0, none⟩) := (hdep 20 55 (by kernel_rfl) (by kernel_rfl)).2.1.trans (hdep 20 55 (by kernel_rfl) (by kernel_rfl)).2.2
      rw [if_pos (by rfl)]
      clear hold hdep hend o0 o11 o12 o13
      have HJ := Lib.hid hJ
      clear hJ
      go_simp
      exact hK _ _ (fun _ _ _ h => h) HJ.out rfl
    · intro ls vs a w1 hi hJ hold hdep K hK
      have q56 : a.tmps[56]?.getD undef = .pointer (some ⟨vb, 1, none⟩) := (hdep 21 56 (by kernel_rfl) (by kernel_rfl)).2.1.trans (hdep 21 56 (by kernel_rfl) (by kernel_rfl)).2.2
      rw [if_pos (by rfl)]
      clear hold hdep hend o0 o11 o12 o13
      have HJ := Lib.hid hJ
      clear hJ
      have hz1 := HJ.out.1
      go_simp
      exact hK _ _ (fun _ _ _ h => h) HJ.out rfl
    · intro ls vs a w1 hi hJ hold hdep K hK
      have q13 : a.tmps[13]?.getD undef = .slice (some ⟨gr, 0, none⟩) m rc := (hold 13 (by kernel_rfl)).trans o13
      rw [if_pos (by rfl)]
      clear hold hdep hend o0 o11 o12 o13
      have HJ := Lib.hid hJ
      clear hJ
      go_simp
      exact hK _ _ (fun _ _ _ h => h) HJ.out rfl
    · intro ls vs a w1 hi hJ hold hdep K hK
      have q58 : a.tmps[58]?.getD undef = .slice (some ⟨gr, 0, none⟩) m rc := (hdep 23 58 (by kernel_rfl) (by kernel_rfl)).2.1.trans (hdep 23 58 (by kernel_rfl) (by kernel_rfl)).2.2
      rw [if_pos (by rfl)]
      clear hold hdep hend o0 o11 o12 o13
      have HJ := Lib.hid hJ
      clear hJ
      have hz1 := HJ.out.1
      go_simp
      go_at_call 71
      (with_reducible refine (HUN.out _ hz1).mono ?_); rintro e w20 ⟨rfl, rfl⟩
      exact hK _ _ (fun _ _ _ h => h) HJ.out rfl
    · intro ls vs a w1 hi hJ hold hdep K hK
      have q57 : a.tmps[57]?.getD undef = .int .i64 dv := (hdep 22 57 (by kernel_rfl) (by kernel_rfl)).2.1.trans (hdep 22 57 (by kernel_rfl) (by kernel_rfl)).2.2
      have q59 : a.tmps[59]?.getD undef = .int .i64 un := (hdep 24 59 (by kernel_rfl) (by kernel_rfl)).2.1.trans (hdep 24 59 (by kernel_rfl) (by kernel_rfl)).2.2
      rw [if_pos (by rfl)]
      clear hold hdep hend o0 o11 o12 o13
      have HJ := Lib.hid hJ
      clear hJ
      go_simp
      exact hK _ _ (fun _ _ _ h => h) HJ.out rfl
    · intro ls vs a w1 hi hJ hold hdep K hK
      have q37 : a.tmps[37]?.getD undef = .int .i64 (k + 1) := (hdep 2 37 (by kernel_rfl) (by kernel_rfl)).2.1.trans (hdep 2 37 (by kernel_rfl) (by kernel_rfl)).2.2
      have q39 : a.tmps[39]?.getD undef = .int .i64 m := (hdep 4 39 (by kernel_rfl) (by kernel_rfl)).2.1.trans (hdep 4 39 (by kernel_rfl) (by kernel_rfl)).2.2
      have q45 : a.tmps[45]?.getD undef = .int .i64 da := (hdep 10 45 (by kernel_rfl) (by kernel_rfl)).2.1.trans (hdep 10 45 (by kernel_rfl) (by kernel_rfl)).2.2
      have q47 : a.tmps[47]?.getD undef = .int .i64 un := (hdep 12 47 (by kernel_rfl) (by kernel_rfl)).2.1.trans (hdep 12 47 (by kernel_rfl) (by kernel_rfl)).2.2
      have q53 : a.tmps[53]?.getD undef = .string kd := (hdep 18 53 (by kernel_rfl) (by kernel_rfl)).2.1.trans (hdep 18 53 (by kernel_rfl) (by kernel_rfl)).2.2
      have q60 : a.tmps[60]?.getD undef = .bool (decide (un < dv)) := (hdep 25 60 (by kernel_rfl) (by kernel_rfl)).2.1.trans (hdep 25 60 (by kernel_rfl) (by kernel_rfl)).2.2
      rw [if_pos (by rfl)]
      clear hold hdep hend o0 o11 o12 o13
      have HJ := Lib.hid hJ
      clear hJ
      go_simp
      exact hK _ _ (fun _ _ _ h => h) HJ.out rfl
    · intro ls vs a w1 hi hJ hold hdep K hK
      have q61 : a.tmps[61]?.getD undef = .agg #[.int .i64 ((k : Int) + 1), .int .i64 m, .int .i64 da, .int .i64 un, .string kd, .bool (decide (un < dv))] := (hdep 26 61 (by kernel_rfl) (by kernel_rfl)).2.1.trans (hdep 26 61 (by kernel_rfl) (by kernel_rfl)).2.2
      rw [if_pos (by rfl)]
      clear hold hdep hend o0 o11 o12 o13
      have HJ := Lib.hid hJ
      clear hJ
      go_simp
      obtain ⟨j1, j2, j3, j4, j5⟩ := HJ.out
      have hx := (Ext.refl w1).alloc (.cells #[.int .i64 ((k : Int) + 1), .int .i64 m, .int .i64 da, .int .i64 un, .string kd, .bool (decide (un < dv))] 94)
      exact hK _ _ (fun _ _ _ h => h) ⟨j1.trans hx, fun e => (j2 e).ext hx, fun e => (j3 e).ext hx, j4, fun _ _ => ⟨_, rfl, by rw [HX.out]; exact heap_new _ _⟩⟩ trivial
    · intro ls vs a w1 hi hJ hold hdep K hK
      have q35 : a.tmps[35]?.getD undef = u := (hdep 0 35 (by kernel_rfl) (by kernel_rfl)).2.1.trans (hdep 0 35 (by kernel_rfl) (by kernel_rfl)).2.2
      obtain ⟨hl27, q62, p62⟩ := hdep 27 62 (by kernel_rfl) (by kernel_rfl)
      clear hold hdep hend o0 o11 o12 o13
      have HJ := Lib.hid hJ
      clear hJ
      obtain ⟨j1, j2, j3, j4, j5⟩ := HJ.out
      obtain ⟨g, hv, hb⟩ := j5 hl27 hi
      rw [hv] at q62
      obtain ⟨v', w', r1', r2', r3', r4'⟩ := app_entry w1 B 41 u xs (j2 hi) x g hb (by omega) (by rw [hB]; exact j1.size)
      refine step_app (by rfl) (.tmp 35) (.tmp 62) 41 (by rfl) _ _ (by simpa [Act.eval, Array.getD_eq_getD_getElem?] using q35) (by simpa [Act.eval, Array.getD_eq_getD_getElem?] using q62) (fun v3 w3 => v3 = v' ∧ w3 = w') ⟨_, _, r1', rfl, rfl⟩ ?_
      rintro v3 w3 ⟨rfl, rfl⟩
      have hbb : ∀ q, u.ownBlock = some q → wb.heap.size ≤ q := fun q hq => by have := ((j2 hi).lt q hq).1; omega
      exact hK _ _ (fun _ _ _ h => h) ⟨grown_ext j1 r3' hbb, fun e => (by simp at e), fun _ => r2', fun e => ⟨by simp, by have := (j4 (by simpa using e)).1; rw [hi] at this; cases this⟩, fun _ e => (by simp at e)⟩ trivial
    · intro ls vs a w1 hi hJ hold hdep K hK
      obtain ⟨hl28, q63, p63⟩ := hdep 28 63 (by kernel_rfl) (by kernel_rfl)
      rw [if_pos (by rfl)]
      clear hold hdep hend o0 o11 o12 o13
      have HJ := Lib.hid hJ
      clear hJ
      obtain ⟨j1, j2, j3, j4, j5⟩ := HJ.out
      go_simp
      exact hK _ _ (fun _ _ _ h => h) ⟨j1, j2, j3, fun _ => ⟨hl28, rfl⟩, j5⟩ trivial
  · intro vs w9 ls9 hl9 hJ9 hφ
    have e0 := hφ 0 (by kernel_rfl)
    have e1 := hφ 1 (by kernel_rfl)
    have e2 := hφ 2 (by kernel_rfl)
    have e3 := hφ 3 (by kernel_rfl)
    have e4 := hφ 4 (by kernel_rfl)
    have e5 := hφ 5 (by kernel_rfl)
    have e6 := hφ 6 (by kernel_rfl)
    have e7 := hφ 7 (by kernel_rfl)
    have e8 := hφ 8 (by kernel_rfl)
    have e9 := hφ 9 (by kernel_rfl)
    have e10 := hφ 10 (by kernel_rfl)
    have e11 := hφ 11 (by kernel_rfl)
    have e12 := hφ 12 (by kernel_rfl)
    have e13 := hφ 13 (by kernel_rfl)
    have e14 := hφ 14 (by kernel_rfl)
    have e15 := hφ 15 (by kernel_rfl)
    have e16 := hφ 16 (by kernel_rfl)
    have e17 := hφ 17 (by kernel_rfl)
    have e18 := hφ 18 (by kernel_rfl)
    have e19 := hφ 19 (by kernel_rfl)
    have e20 := hφ 20 (by kernel_rfl)
    have e21 := hφ 21 (by kernel_rfl)
    have e22 := hφ 22 (by kernel_rfl)
    have e23 := hφ 23 (by kernel_rfl)
    have e24 := hφ 24 (by kernel_rfl)
    have e25 := hφ 25 (by kernel_rfl)
    have e26 := hφ 26 (by kernel_rfl)
    have e27 := hφ 27 (by kernel_rfl)
    have e28 := hφ 28 (by kernel_rfl)
    have e29 := hφ 29 (by kernel_rfl)
    have hq := hend vs w9 ls9 hl9 hJ9 e0 e1 e2 e3 e4 e5 e6 e7 e8 e9 e10 e11 e12 e13 e14 e15 e16 e17 e18 e19 e20 e21 e22 e23 e24 e25 e26 e27 e28 e29
    simp only [Act.put] at hq
    simp only [putAll, Act.put]
    exact hq
end Go.Proofs.Ytlahejakcgoheaa
end
section
/-
  Walk: List.
-/
set_option linter.unusedVariables false
set_option linter.unusedSimpArgs false
namespace Go.Proofs.Ytlahejakcgoheaa
open Go.RowKit
theorem own_base {w : World} {B B' e sz : Nat} {v : Value} {n : Nat} {xs : List Value} (h : w.ownsRow B e sz v n xs) (hb : B' ≤ B) : w.ownsRow B' e sz v n xs := by
  obtain ⟨h1, h2⟩ := h
  refine ⟨h1, ?_⟩
  rcases h2 with h2 | ⟨g, cap, cur, hv, hg, r⟩
  · exact .inl h2
  · exact .inr ⟨g, cap, cur, hv, Nat.le_trans hb hg, r⟩
set_option maxRecDepth 100000 in
set_option maxHeartbeats 4000000 in
theorem list_any (V : Vw) (w : World) (h : VwAt w V V.chain) (hg : Good V.p) (n p : ByteArray) (hn : n.size ≤ maxLen) (hp : p.size ≤ maxLen) :
    Calls Try.prog 42 #[ptr V.vb, .string n, .string p] w (RetList V.p n p w) := by
  have hen := enter_any V V.chain n p w h hn hp
  obtain ⟨c0, c1, c2, c3⟩ := obj_cells4 h.blk
  have HH := Lib.hid h; have HG := Lib.hid hg
  have HEN := Lib.hid hen; have HN := Lib.hid hn
  have d1 := hg.ok.d1; have d0 := hg.ok.d0
  simp only [Vw.p] at d1 d0
  clear h hg c0 c2 c3 hen
  go_enter Try.func42, Try.ntmps42
  go_wp2_with (fail)
  (with_reducible refine HEN.out.mono ?_); rintro e w1 ⟨rfl, he1⟩
  by_cases T0 : enterR V.p n p = 0
  · obtain ⟨c, hf, hev⟩ := enterV_good T0
    rw [hev]
    obtain ⟨hcm, hcn⟩ := findW_mem hf
    have hli : listR V.p n p = (entries V.day c.p.recs, 0) := by
      unfold listR; rw [if_neg (by simpa using T0), findW_p, hf]; rfl
    have HLI := Lib.hid hli; have HCM := Lib.hid hcm
    clear hev hf T0 hcn hcm hli
    have hcw := (HH.out.ext he1).cus c HCM.out
    obtain ⟨g0, g1, g2, g3, g4⟩ := obj_cells5 hcw.blk
    have hpc := HG.out.ok.cs c.p (List.mem_map.2 ⟨c, HCM.out, rfl⟩)
    have hrl : c.recs.length ≤ 30 := by have := hpc.rl; simpa [Cw.p] using this
    have HPC := Lib.hid hpc
    clear hcw g0 g1 g3 g4 hpc
    replace g2 := g2 w1 (Ext.refl _)
    obtain ⟨xs, hxs⟩ : ∃ xs, xs = entries V.day c.p.recs := ⟨_, rfl⟩
    have HXS := Lib.hid hxs
    have hxl : xs.length = c.recs.length := by rw [hxs, entries_len]; simp [Cw.p]
    have HXL := Lib.hid hxl
    clear hxs hxl
    go_wp2_with (fail)
    go_loopw [11, 30] (fun s i wr => ∃ (k : Nat) (v : Value), k ≤ c.recs.length ∧ i = .int .i64 k ∧ s = v ∧ Hid (OwnE wr w1.heap.size v (xs.take k)) ∧ Hid (Ext w1 wr)) (fun _ i _ => c.recs.length - (intOf i).toNat)
    case atStart => exact ⟨0, _, Nat.zero_le _, rfl, rfl, OwnF.nil _ _ _ _ _, Ext.refl w1⟩
    case round =>
      obtain ⟨k, v, hk, rfl, rfl, hv, he⟩ := hrel
      by_cases hlt : k < c.recs.length
      · have hew := he1.trans he.out
        have hcw := (HH.out.ext hew).cus c HCM.out
        obtain ⟨g, rv, hg1, hg2, hg3⟩ := own_at hcw.row k hlt
        obtain ⟨r, hr⟩ : ∃ r, r = c.recs[k] := ⟨_, rfl⟩
        have hrv : rv = r.val := by
          have : (rowR c.recs)[k]? = some r.val := by simp [rowR, hlt, hr]
          rw [this] at hg2; simpa using hg2.symm
        subst hrv
        have hrm : r ∈ c.recs := by rw [hr]; exact List.getElem_mem hlt
        have hrr := HPC.out.rr r.p (List.mem_map.2 ⟨r, hrm, rfl⟩)
        have hrpl : r.p.length = r.ls.length := by simp [Rv.p]
        have hr0 : 0 < r.ls.length := by have := List.length_pos_iff.2 hrr.1; omega
        have hr20 : r.ls.length ≤ 20 := by omega
        have hrow := hcw.recs r hrm
        have hrs := HH.out.recs c HCM.out r hrm
        have hrow1 := ((HH.out.ext he1).cus c HCM.out).recs r hrm
        have hun : ∀ W, Ext w1 W → Calls Try.prog 71 #[r.val] W fun e w' => e = .returned (.int .i64 (untilR r.p)) ∧ w' = W := fun W e =>
          until_eq r (foot V) V.chain W (own_ext hrow1 e) (HH.out.ext (he1.trans e)).links hrs hr0
        have hrow2 := hrow1
        unfold Rv.val at hrow2 hun hg3
        obtain ⟨gr, hgr1, hgr2⟩ := row_at hrow2 0 hr0
        obtain ⟨y, hy⟩ : ∃ y, y = r.ls[0] := ⟨_, rfl⟩
        rw [← hy] at hgr2
        have hym : y ∈ V.chain := hrs y (by rw [hy]; exact List.getElem_mem hr0)
        obtain ⟨q1, q2, -⟩ := (HH.out.ext he1).links y hym
        obtain ⟨y0, y1, y2, y3, y4, y5, y6, y7, y8, y9⟩ := obj_cells10 q1.1
        have hgd : r.p.getD 0 Lk.nil = y.l := by rw [hy]; simp [Rv.p, List.getD_eq_getElem?_getD, hr0]
        have hen : entries V.day c.p.recs = xs := HXS.out.symm
        have htk : xs.take (k + 1) = xs.take k ++ [entryOf V.day k r.p] := by
          rw [← hen, entries_take _ _ _ (by simp [Cw.p]; exact hlt)]
          congr 3
          simp [Cw.p, List.getD_eq_getElem?_getD, hlt, hr]
        have hen2 : encs (entryOf V.day k r.p) = [.int .i64 ((k : Int) + 1), .int .i64 r.ls.length, .int .i64 y.x.l.da, .int .i64 (untilR r.p), .string y.x.l.ki, .bool (decide (untilR r.p < V.day))] := by
          simp only [encs, entryOf, hgd, hrpl]
        replace hg3 := hg3 wr (Ext.refl _)
        rw [hgr1] at hun hg3
        rw [hg1]
        have HUN := Lib.hid hun; have HEN2 := Lib.hid hen2; have HTK := Lib.hid htk
        clear hcw hg1 hg2 hr hrr hrm hrpl hrow hrow1 hrow2 hrs hun hy hym q1 q2 y0 y1 y3 y4 y6 y7 y8 y9 hgd hen hen2 htk hgr1 g2
        have hi0 : (0 : Int) ≤ (k : Int) := by omega
        have hi1 : (k : Int) < (c.recs.length : Int) := by omega
        have hi2 : (0 : Int) < (r.ls.length : Int) := by omega
        go_upto_region 8 with fail
        have hX1 := he.out
        have c1q := fun W (e : Ext w1 W) => c1 W (he1.trans e)
        refine l42_law hX1 rfl (by omega) hr0 hr20 (by simp only [List.length_take]; omega) HEN2 hv HUN c1q hgr2 y5 y2 _ (by rfl) rfl rfl rfl rfl ?_
        intro vs w9 ls9 hl9 hJ9 e0 e1 e2 e3 e4 e5 e6 e7 e8 e9 e10 e11 e12 e13 e14 e15 e16 e17 e18 e19 e20 e21 e22 e23 e24 e25 e26 e27 e28 e29
        simp only [Act.put, List.setIfInBounds_toArray, List.set_cons_zero, List.set_cons_succ]
        rw [e0, e1, e2, e3, e4, e5, e6, e7, e8, e9, e10, e11, e12, e13, e14, e15, e16, e17, e18, e19, e20, e21, e22, e23, e24, e25, e26]
        have hfin : Hid (OwnE w9 w1.heap.size (vs 29) (xs.take (k + 1)) ∧ Ext w1 w9) := by
          have q29 := hJ9.2.2.2.1 (hl9 29 (by omega))
          rw [q29.2, HTK.out]
          exact ⟨hJ9.2.2.1 q29.1, hJ9.1⟩
        clear hJ9 hl9 c1q hX1 hgr2 y5 y2 hg3 HUN HEN2 HTK e0 e1 e2 e3 e4 e5 e6 e7 e8 e9 e10 e11 e12 e13 e14 e15 e16 e17 e18 e19 e20 e21 e22 e23 e24 e25 e26 e27 e28 e29
        generalize vs 29 = v29 at *
        generalize vs 28 = v28 at *
        generalize vs 27 = v27 at *
        clear vs ls9
        go_wp2_with fail
        go_roundw
        case rel => exact ⟨k + 1, v29, by omega, by go_num, rfl, hfin.out.1, hfin.out.2⟩
        case measure => simp [intOf]; omega
      · obtain rfl : k = c.recs.length := by omega
        clear g2
        go_wp2_with (fail)
        go_ret2
        have hvo : OwnE wr w1.heap.size u11 xs := by have := hv.out; rwa [List.take_of_length_le (by rw [HXL.out]; exact Nat.le_refl _)] at this
        obtain ⟨a', c', hv'⟩ := own_slice hvo
        refine ⟨a', c', ?_, he1.trans he.out, ?_⟩
        · rw [HLI.out, ← HXS.out, hv']; rfl
        · rw [HLI.out, ← HXS.out, ← hv']
          exact own_base hvo he1.size
  · have hq : Hid (listR V.p n p = ([], enterR V.p n p)) := by rw [Hid, listR, if_pos T0]
    rw [enterV_bad T0]
    have T : (enterR V.p n p != 0) = true := by simpa using T0
    clear T0
    generalize enterR V.p n p = r0 at *
    go_wp2_with (fail)
    go_ret2
    unfold RetList
    rw [hq.out]
    exact ⟨none, 0, rfl, he1, OwnF.nil _ _ _ _ _⟩
end Go.Proofs.Ytlahejakcgoheaa
end
