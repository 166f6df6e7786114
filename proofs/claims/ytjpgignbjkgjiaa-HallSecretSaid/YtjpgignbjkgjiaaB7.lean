/-
  A region that draws its order, whose operations leave what was there: whatever its order, each operation's value is what is said of it.
-/
import Derived.Test.YtjpgignbjkgjiaaBase
import Derived.Test.YtjpgignbjkgjiaaP20
import Derived.RegionTactic
set_option linter.unusedVariables false
set_option linter.unusedSimpArgs false
namespace Go.Proofs.Ytjpgignbjkgjiaa
open Go Go.RowKit
/-- The values of a region's operations, put in their order. -/
def putAll : List Oper → Nat → (Nat → Value) → Act → Act
  | [], _, _, a => a
  | o :: os, k, vs, a => putAll os (k + 1) vs (a.put o.dst (vs k))
/-- Each waits only for those ahead of it. -/
def topoB (ops : Array Oper) : Bool := (List.range ops.size).all fun j => ((ops[j]?).map fun o => o.after.all fun e => !Region.binds .any e || decide (e.on < j)).getD true
/-- No two write the same slot, and each slot is one of n. -/
def dstB (n : Nat) (ops : Array Oper) : Bool :=
  (List.range ops.size).all fun j => match (ops[j]?).bind (·.dst) with
    | none => true
    | some d => decide (d < n) && (List.range ops.size).all fun k => decide (k = j) || !((ops[k]?).bind (·.dst) == some d)
structure MInv (ops : Array Oper) (φ : Nat → Value → World → Prop) (a0 : Act) (w0 : World) (listed : Array Bool) (a : Act) (w : World) : Prop where
  ext : Ext w0 w
  lsz : listed.size = ops.size
  size : a.tmps.size = a0.tmps.size
  defers : a.defers = a0.defers
  closed : ∀ j o, ops[j]? = some o → listed.getD j false = true → ∀ e ∈ o.after, Region.binds .any e = true → listed.getD e.on false = true
  old : ∀ t, (∀ j o, ops[j]? = some o → listed.getD j false = true → o.dst ≠ some t) → a.tmps[t]? = a0.tmps[t]?
  new : ∀ j o d, ops[j]? = some o → listed.getD j false = true → o.dst = some d → φ j (a.tmps.getD d undef) w
theorem getD_set' (l : Array Bool) (i j : Nat) (b : Bool) (hi : i < l.size) : (l.setIfInBounds i true).getD j b = if j = i then true else l.getD j b := by
  by_cases h : j = i
  · subst h
    simp [hi]
  · rw [if_neg h]
    simp only [Array.getD_eq_getD_getElem?]
    rw [Array.getElem?_setIfInBounds_ne (fun e => h e.symm)]
theorem ready_iff {ops : Array Oper} {listed : Array Bool} {i : Nat} : i ∈ Region.ready .any ops listed ↔ i < ops.size ∧ listed.getD i true = false ∧ ∀ o, ops[i]? = some o → ∀ e ∈ o.after, Region.binds .any e = true → listed.getD e.on false = true := by
  unfold Region.ready
  rw [List.mem_filter, List.mem_range]
  simp only [Bool.and_eq_true, Bool.not_eq_true']
  constructor
  · rintro ⟨h1, h2, h3⟩
    refine ⟨h1, h2, fun o ho e he hb => ?_⟩
    rw [ho] at h3
    simp only [Option.map_some, Option.getD_some, Array.all_eq_true_iff_forall_mem] at h3
    have := h3 e he
    simp only [hb, Bool.not_true, Bool.false_or] at this
    exact this
  · rintro ⟨h1, h2, h3⟩
    refine ⟨h1, h2, ?_⟩
    have ho : ops[i]? = some ops[i] := Array.getElem?_eq_getElem h1
    rw [ho]
    simp only [Option.map_some, Option.getD_some, Array.all_eq_true_iff_forall_mem]
    intro e he
    cases hb : Region.binds .any e with
    | false => rfl
    | true => simpa using h3 _ ho e he hb
section
variable {P : Program} {Q : Exit → Act → World → Prop} {ops : Array Oper} {φ : Nat → Value → World → Prop} {a0 : Act} {w0 : World}
theorem topo_lt (ht : topoB ops = true) {j : Nat} {o : Oper} (ho : ops[j]? = some o) {e : Edge} (he : e ∈ o.after) (hb : Region.binds .any e = true) : e.on < j := by
  unfold topoB at ht
  rw [List.all_eq_true] at ht
  have hj : j < ops.size := (Array.getElem?_eq_some_iff.1 ho).1
  have := ht j (List.mem_range.2 hj)
  rw [ho] at this
  simp only [Option.map_some, Option.getD_some, Array.all_eq_true_iff_forall_mem] at this
  have := this e he
  rw [hb] at this
  simpa using this
theorem dst_of (n : Nat) (hd : dstB n ops = true) {j : Nat} {o : Oper} {d : Tmp} (ho : ops[j]? = some o) (hod : o.dst = some d) : d < n ∧ ∀ k o', ops[k]? = some o' → o'.dst = some d → k = j := by
  unfold dstB at hd
  rw [List.all_eq_true] at hd
  have hj : j < ops.size := (Array.getElem?_eq_some_iff.1 ho).1
  have h1 := hd j (List.mem_range.2 hj)
  simp only [ho, Option.bind_some, hod, Bool.and_eq_true, decide_eq_true_eq, List.all_eq_true] at h1
  refine ⟨h1.1, fun k o' hk hkd => ?_⟩
  have hkj : k < ops.size := (Array.getElem?_eq_some_iff.1 hk).1
  have h2 := h1.2 k (List.mem_range.2 hkj)
  simp only [hk, Option.bind_some, hkd, Bool.or_eq_true, decide_eq_true_eq] at h2
  rcases h2 with h2 | h2
  · exact h2
  · simp at h2
theorem put_tmps_ne (a : Act) (o : Option Tmp) (v : Value) (t : Nat) (h : o ≠ some t) : (a.put o v).tmps[t]? = a.tmps[t]? := by
  cases o with
  | none => rfl
  | some d =>
    show (a.tmps.setIfInBounds d v)[t]? = _
    exact Array.getElem?_setIfInBounds_ne (fun e => h (by rw [e]))
theorem put_tmps_eq (a : Act) (d : Nat) (v : Value) (h : d < a.tmps.size) : (a.put (some d) v).tmps[d]? = some v := by
  show (a.tmps.setIfInBounds d v)[d]? = _
  simp [h]
theorem put_size (a : Act) (o : Option Tmp) (v : Value) : (a.put o v).tmps.size = a.tmps.size := by
  cases o <;> simp [Act.put]
theorem put_defers (a : Act) (o : Option Tmp) (v : Value) : (a.put o v).defers = a.defers := by
  cases o <;> rfl
theorem MInv.step (hd : dstB a0.tmps.size ops = true) (hmono : ∀ j v w w', Ext w w' → φ j v w → φ j v w') {listed : Array Bool} {a : Act} {w : World} (h : MInv ops φ a0 w0 listed a w) {i : Nat} {o : Oper} (ho : ops[i]? = some o)
    (hi : i ∈ Region.ready .any ops listed) {v : Value} {w' : World} (he : Ext w w') (hv : φ i v w') : MInv ops φ a0 w0 (listed.setIfInBounds i true) (a.put o.dst v) w' := by
  obtain ⟨r1, r2, r3⟩ := ready_iff.1 hi
  have hil : i < listed.size := by rw [h.lsz]; exact r1
  refine ⟨h.ext.trans he, by simp [h.lsz], by rw [put_size]; exact h.size, by rw [put_defers]; exact h.defers, fun j o' hj hl e he' hb => ?_, fun t ht => ?_, fun j o' d hj hl hjd => ?_⟩
  · rw [getD_set' _ _ _ _ hil] at hl ⊢
    split
    · rfl
    · by_cases hji : j = i
      · subst hji
        exact r3 o' hj e he' hb
      · rw [if_neg hji] at hl
        exact h.closed j o' hj hl e he' hb
  · have h1 : o.dst ≠ some t := ht i o ho (by rw [getD_set' _ _ _ _ hil, if_pos rfl])
    rw [put_tmps_ne _ _ _ _ h1]
    refine h.old t fun j o' hj hl => ht j o' hj ?_
    rw [getD_set' _ _ _ _ hil]
    split
    · rfl
    · exact hl
  · by_cases hji : j = i
    · subst hji
      rw [ho] at hj
      obtain rfl : o = o' := by simpa using hj
      have hlt : d < a.tmps.size := by rw [h.size]; exact (dst_of _ hd ho hjd).1
      rw [hjd, Array.getD_eq_getD_getElem?, put_tmps_eq _ _ _ hlt]
      exact hv
    · rw [getD_set' _ _ _ _ hil, if_neg hji] at hl
      have hne : o.dst ≠ some d := fun e => hji ((dst_of _ hd ho e).2 j o' hj hjd)
      rw [Array.getD_eq_getD_getElem?, put_tmps_ne _ _ _ _ hne, ← Array.getD_eq_getD_getElem?]
      exact hmono _ _ _ _ he (h.new j o' d hj hl hjd)
theorem all_listed (ht : topoB ops = true) {listed : Array Bool} (hsz : listed.size = ops.size) (hr : Region.ready .any ops listed = []) : ∀ n j, j < n → j < ops.size → listed.getD j false = true
  | 0, j, h, _ => by omega
  | n + 1, j, h, hj => by
    have ih := all_listed ht hsz hr n
    refine Classical.byContradiction fun hn => ?_
    have hmem : j ∈ Region.ready .any ops listed := by
      rw [ready_iff]
      refine ⟨hj, ?_, fun o ho e he hb => ?_⟩
      · have hjl : j < listed.size := by omega
        have : listed.getD j true = listed.getD j false := by simp [Array.getD_eq_getD_getElem?, hjl]
        rw [this]; simpa using hn
      · have := topo_lt ht ho he hb
        have hjs : j < ops.size := hj
        exact ih e.on (by omega) (by omega)
    rw [hr] at hmem
    cases hmem
theorem putAll_size : ∀ (os : List Oper) (k : Nat) (vs : Nat → Value) (a : Act), (putAll os k vs a).tmps.size = a.tmps.size ∧ (putAll os k vs a).defers = a.defers
  | [], _, _, _ => ⟨rfl, rfl⟩
  | o :: os, k, vs, a => by
    have := putAll_size os (k + 1) vs (a.put o.dst (vs k))
    rw [put_size, put_defers] at this
    exact this
theorem putAll_ne : ∀ (os : List Oper) (k : Nat) (vs : Nat → Value) (a : Act) (t : Nat), (∀ o ∈ os, o.dst ≠ some t) → (putAll os k vs a).tmps[t]? = a.tmps[t]?
  | [], _, _, _, _, _ => rfl
  | o :: os, k, vs, a, t, h => by
    show (putAll os (k + 1) vs (a.put o.dst (vs k))).tmps[t]? = _
    rw [putAll_ne os (k + 1) vs _ t (fun o' ho' => h o' (by simp [ho'])), put_tmps_ne _ _ _ _ (h o (by simp))]
theorem putAll_at : ∀ (os : List Oper) (k : Nat) (vs : Nat → Value) (a : Act) (i : Nat) (o : Oper) (d : Nat), os[i]? = some o → o.dst = some d → d < a.tmps.size → (∀ j o', os[j]? = some o' → o'.dst = some d → j = i) → (putAll os k vs a).tmps[d]? = some (vs (k + i))
  | [], _, _, _, _, _, _, h, _, _, _ => by simp at h
  | o :: os, k, vs, a, 0, o1, d, h, hd, hlt, hu => by
    simp only [List.getElem?_cons_zero, Option.some.injEq] at h
    subst h
    show (putAll os (k + 1) vs (a.put o.dst (vs k))).tmps[d]? = _
    rw [putAll_ne os (k + 1) vs _ d (fun o' ho' e => ?_), hd, put_tmps_eq _ _ _ hlt]
    · simp
    · obtain ⟨j, hj, rfl⟩ := List.getElem_of_mem ho'
      have := hu (j + 1) os[j] (by simp [hj]) e
      omega
  | o :: os, k, vs, a, i + 1, o1, d, h, hd, hlt, hu => by
    simp only [List.getElem?_cons_succ] at h
    show (putAll os (k + 1) vs (a.put o.dst (vs k))).tmps[d]? = _
    rw [putAll_at os (k + 1) vs _ i o1 d h hd (by rw [put_size]; exact hlt) (fun j o' hj e => by have := hu (j + 1) o' (by simpa using hj) e; omega)]
    congr 2; omega
theorem act_ext {a b : Act} (h1 : a.tmps = b.tmps) (h2 : a.defers = b.defers) : a = b := by
  cases a; cases b; simp only at h1 h2; subst h1; subst h2; rfl
theorem MInv.fin (hd : dstB a0.tmps.size ops = true) {listed : Array Bool} {a : Act} {w : World} (h : MInv ops φ a0 w0 listed a w) (hall : ∀ j, j < ops.size → listed.getD j false = true) :
    ∃ vs : Nat → Value, a = putAll ops.toList 0 vs a0 ∧ ∀ (j : Nat) (o : Oper), ops[j]? = some o → o.dst ≠ none → φ j (vs j) w := by
  refine ⟨fun j => match (ops[j]?).bind (·.dst) with | some d => a.tmps.getD d undef | none => undef, act_ext ?_ ?_, fun j o hj hn => ?_⟩
  · apply Array.ext_getElem?
    intro t
    by_cases hex : ∃ (j : Nat) (o : Oper), ops[j]? = some o ∧ o.dst = some t
    · obtain ⟨j, o, hj, hjd⟩ := hex
      have hdd := dst_of _ hd hj hjd
      have hjs : j < ops.size := (Array.getElem?_eq_some_iff.1 hj).1
      rw [putAll_at ops.toList 0 _ a0 j o t (by simpa using hj) hjd hdd.1 (fun k o' hk e => hdd.2 k o' (by simpa using hk) e)]
      simp only [Nat.zero_add, hj, Option.bind_some, hjd]
      have hlt : t < a.tmps.size := by rw [h.size]; exact hdd.1
      simp [Array.getD_eq_getD_getElem?, hlt]
    · rw [putAll_ne ops.toList 0 _ a0 t (fun o ho e => hex ?_)]
      · exact h.old t fun j o hj _ e => hex ⟨j, o, hj, e⟩
      · obtain ⟨j, hj, rfl⟩ := List.getElem_of_mem ho
        exact ⟨j, _, by simp, e⟩
  · rw [(putAll_size _ _ _ _).2]; exact h.defers
  · have hjs : j < ops.size := (Array.getElem?_eq_some_iff.1 hj).1
    cases hjd : o.dst with
    | none => exact absurd hjd hn
    | some d =>
      simp only [hj, Option.bind_some, hjd]
      exact h.new j o d hj (hall j hjs) hjd
theorem wpAny_mono (ht : topoB ops = true) (hd : dstB a0.tmps.size ops = true) (hmono : ∀ j v w w', Ext w w' → φ j v w → φ j v w')
    (hstep : ∀ (i : Nat) (o : Oper), ops[i]? = some o → ∀ (a : Act) (w : World), Ext w0 w → (∀ t : Nat, (∀ (j : Nat) (o' : Oper), ops[j]? = some o' → o'.dst = some t → ∃ e ∈ o'.after, Region.binds .any e = true ∧ e.on = i) → a.tmps[t]? = a0.tmps[t]?) →
      (∀ e ∈ o.after, Region.binds .any e = true → ∀ (o' : Oper) (d : Nat), ops[e.on]? = some o' → o'.dst = some d → φ e.on (a.tmps.getD d undef) w) →
      ∀ K : Act → World → Prop, (∀ v w', Ext w w' → φ i v w' → K (a.put o.dst v) w') → if Region.wanted o (yielded ops a.tmps) = true then Oper.wp P o a w K Q else K (a.put o.dst undef) w)
    (hend : ∀ (vs : Nat → Value) (w : World), Ext w0 w → (∀ (j : Nat) (o : Oper), ops[j]? = some o → o.dst ≠ none → φ j (vs j) w) → Q .normal (putAll ops.toList 0 vs a0) w) :
    ∀ (fuel : Nat) (listed : Array Bool) (a : Act) (w : World), MInv ops φ a0 w0 listed a w → howMany (fun i => !listed.getD i true) ops.size ≤ fuel → wpAny P .any ops Q fuel listed a w
  | fuel, listed, a, w, h, hf => by
    have hfin : Region.ready .any ops listed = [] → Q .normal a w := fun hr => by
      obtain ⟨vs, e1, e2⟩ := h.fin hd (fun j hj => all_listed ht h.lsz hr (j + 1) j (by omega) hj)
      rw [e1]
      exact hend vs w h.ext e2
    match fuel, hf with
    | 0, hf =>
      have hr : Region.ready .any ops listed = [] := by
        cases hrr : Region.ready .any ops listed with
        | nil => rfl
        | cons i rs =>
          have hi : i ∈ Region.ready .any ops listed := by rw [hrr]; simp
          obtain ⟨r1, r2, r3⟩ := ready_iff.1 hi
          have := howMany_less (fun i => !listed.getD i true) i (by simp [r2]) ops.size r1
          omega
      exact ⟨hr, hfin hr⟩
    | fuel + 1, hf =>
      refine ⟨hfin, fun i hi => ?_⟩
      obtain ⟨r1, r2, r3⟩ := ready_iff.1 hi
      have ho : ops[i]? = some ops[i] := Array.getElem?_eq_getElem r1
      have hil : i < listed.size := by rw [h.lsz]; exact r1
      have hcount : howMany (fun j => !(listed.setIfInBounds i true).getD j true) ops.size ≤ fuel := by
        have h1 := howMany_less (fun i => !listed.getD i true) i (by simp [r2]) ops.size r1
        have h2 : (fun j => !(listed.setIfInBounds i true).getD j true) = fun j => (!listed.getD j true) && !(j == i) := by
          funext j
          rw [getD_set' _ _ _ _ hil]
          by_cases hji : j = i
          · simp [hji]
          · simp [hji]
        rw [h2]; omega
      refine wpOp_mono (K := fun a' w' => MInv ops φ a0 w0 (listed.setIfInBounds i true) a' w') (fun a' w' hI => wpAny_mono ht hd hmono hstep hend fuel _ a' w' hI hcount) ?_
      refine wpOp_step ho fun K hK => hstep i _ ho a w h.ext (fun t htt => h.old t fun j o' hj hl e => ?_) (fun e he hb o' d hoo hdd => h.new e.on o' d hoo (r3 _ ho e he hb) hdd) K (fun v w' he hv => hK _ _ (h.step hd hmono ho hi he hv))
      obtain ⟨e', he', hb', hei⟩ := htt j o' hj e
      have := h.closed j o' hj hl e' he' hb'
      rw [hei] at this
      have h3 : listed.getD i true = true := by simp [Array.getD_eq_getD_getElem?, hil] at this ⊢; exact this
      rw [h3] at r2; cases r2
/-- THE LAW: each operation's value is what is said of it, whatever the order. -/
theorem wp_region_said {id : Nat} (φ : Nat → Value → World → Prop) (hm : P.follows .mixedOrders = true) (ht : topoB ops = true) (hd : dstB a0.tmps.size ops = true) (hmono : ∀ j v w w', Ext w w' → φ j v w → φ j v w')
    (hstep : ∀ (i : Nat) (o : Oper), ops[i]? = some o → ∀ (a : Act) (w : World), Ext w0 w → (∀ t : Nat, (∀ (j : Nat) (o' : Oper), ops[j]? = some o' → o'.dst = some t → ∃ e ∈ o'.after, Region.binds .any e = true ∧ e.on = i) → a.tmps[t]? = a0.tmps[t]?) →
      (∀ e ∈ o.after, Region.binds .any e = true → ∀ (o' : Oper) (d : Nat), ops[e.on]? = some o' → o'.dst = some d → φ e.on (a.tmps.getD d undef) w) →
      ∀ K : Act → World → Prop, (∀ v w', Ext w w' → φ i v w' → K (a.put o.dst v) w') → if Region.wanted o (yielded ops a.tmps) = true then Oper.wp P o a w K Q else K (a.put o.dst undef) w)
    (hend : ∀ (vs : Nat → Value) (w : World), Ext w0 w → (∀ (j : Nat) (o : Oper), ops[j]? = some o → o.dst ≠ none → φ j (vs j) w) → Q .normal (putAll ops.toList 0 vs a0) w) : (Code.region id ops true).wp P Q a0 w0 := by
  refine wp_region_any hm (wpAny_mono ht hd hmono hstep hend _ _ _ _ ⟨(Ext.refl w0).drew, by simp, rfl, rfl, fun j o hj hl => ?_, fun t _ => rfl, fun j o d hj hl => ?_⟩ ?_)
  · have hj' : j < ops.size := (Array.getElem?_eq_some_iff.1 hj).1
    simp [hj'] at hl
  · have hj' : j < ops.size := (Array.getElem?_eq_some_iff.1 hj).1
    simp [hj'] at hl
  · have : ∀ n (q : Nat → Bool), howMany q n ≤ n := fun n q => by
      induction n with
      | zero => exact Nat.le_refl _
      | succ n ih => simp only [howMany]; split <;> omega
    exact this _ _
/-- Whoever writes the slot t waits for the operation i. -/
def oldB (ops : Array Oper) (i t : Nat) : Bool := (List.range ops.size).all fun j => match ops[j]? with
  | some o => !(o.dst == some t) || o.after.any fun e => Region.binds .any e && e.on == i
  | none => true
/-- What is asked of one operation. -/
def StepOK (P : Program) (Q : Exit → Act → World → Prop) (ops : Array Oper) (φ : Nat → Value → World → Prop) (a0 : Act) (w0 : World) (i : Nat) (o : Oper) : Prop :=
  ∀ (a : Act) (w : World), Ext w0 w → (∀ t : Nat, oldB ops i t = true → a.tmps[t]?.getD undef = a0.tmps[t]?.getD undef) →
    (∀ (j : Nat) (d : Nat), (o.after.any fun e => Region.binds .any e && e.on == j) = true → (ops[j]?).bind (·.dst) = some d → φ j (a.tmps[d]?.getD undef) w) →
    ∀ K : Act → World → Prop, (∀ v w', Ext w w' → φ i v w' → K (a.put o.dst v) w') → if Region.wanted o (yielded ops a.tmps) = true then Oper.wp P o a w K Q else K (a.put o.dst undef) w
def StepsOK (P : Program) (Q : Exit → Act → World → Prop) (ops : Array Oper) (φ : Nat → Value → World → Prop) (a0 : Act) (w0 : World) : List Oper → Nat → Prop
  | [], _ => True
  | o :: os, i => StepOK P Q ops φ a0 w0 i o ∧ StepsOK P Q ops φ a0 w0 os (i + 1)
theorem steps_at : ∀ (os : List Oper) (k : Nat), StepsOK P Q ops φ a0 w0 os k → ∀ (i : Nat) (o : Oper), os[i]? = some o → StepOK P Q ops φ a0 w0 (k + i) o
  | [], _, _, i, o, h => by simp at h
  | o1 :: os, k, h, 0, o, ho => by
    simp only [List.getElem?_cons_zero, Option.some.injEq] at ho
    subst ho; exact h.1
  | o1 :: os, k, h, i + 1, o, ho => by
    simp only [List.getElem?_cons_succ] at ho
    have := steps_at os (k + 1) h.2 i o ho
    rwa [show k + 1 + i = k + (i + 1) by omega] at this
/-- THE LAW, its operations one after another. -/
theorem wp_region_said2 {id : Nat} (φ : Nat → Value → World → Prop) {l : List Oper} (hm : P.follows .mixedOrders = true) (ht : topoB l.toArray = true) (hd : dstB a0.tmps.size l.toArray = true) (hmono : ∀ j v w w', Ext w w' → φ j v w → φ j v w')
    (hstep : StepsOK P Q l.toArray φ a0 w0 l 0)
    (hend : ∀ (vs : Nat → Value) (w : World), Ext w0 w → (∀ j : Nat, (((l.toArray)[j]?).bind (·.dst)).isSome = true → φ j (vs j) w) → Q .normal (putAll l 0 vs a0) w) : (Code.region id l.toArray true).wp P Q a0 w0 := by
  refine wp_region_said φ hm ht hd hmono (fun i o ho a w hw hold hdep K hK => ?_) (fun vs w hw hφ => ?_)
  · have hs := steps_at l 0 hstep i o (by simpa using ho)
    rw [Nat.zero_add] at hs
    refine hs a w hw (fun t htB => ?_) (fun j d hj hjd => ?_) K hK
    · have := hold t fun j o' hj e => by
        unfold oldB at htB
        rw [List.all_eq_true] at htB
        have hjs : j < l.toArray.size := (Array.getElem?_eq_some_iff.1 hj).1
        have h1 := htB j (List.mem_range.2 hjs)
        simp only [hj, e, beq_self_eq_true, Bool.not_true, Bool.false_or] at h1
        rw [Array.any_eq_true'] at h1
        obtain ⟨e', he', hb⟩ := h1
        simp only [Bool.and_eq_true, beq_iff_eq] at hb
        exact ⟨e', he', hb.1, hb.2⟩
      rw [this]
    · rw [Array.any_eq_true'] at hj
      obtain ⟨e', he', hb⟩ := hj
      simp only [Bool.and_eq_true, beq_iff_eq] at hb
      obtain ⟨hb1, rfl⟩ := hb
      cases ho' : l.toArray[e'.on]? with
      | none => rw [ho'] at hjd; cases hjd
      | some o' =>
        rw [ho'] at hjd
        have := hdep e' he' hb1 o' d ho' hjd
        rwa [Array.getD_eq_getD_getElem?] at this
  · refine hend vs w hw fun j hj => ?_
    cases ho : l.toArray[j]? with
    | none => rw [ho] at hj; cases hj
    | some o =>
      refine hφ j o ho fun e => ?_
      rw [ho, Option.bind_some, e] at hj
      cases hj
end
end Go.Proofs.Ytjpgignbjkgjiaa
