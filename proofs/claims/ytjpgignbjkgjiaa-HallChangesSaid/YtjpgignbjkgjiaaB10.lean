/-
  Texts merged: B7, B8, B9, B10.
-/
import Derived.Test.YtjpgignbjkgjiaaBase
import Derived.Test.YtjpgignbjkgjiaaP20
import Derived.RegionTactic
import Derived.Deep.DeepCutAuto
section
/-
  A region that draws its order, whose operations leave what was there: whatever its order, each operation's value is what is said of it.
-/
set_option linter.unusedVariables false
set_option linter.unusedSimpArgs false
namespace Go.Proofs.Ytjpgignbjkgjiaa
open Go Go.RowKit
/-- The values of a region's operations, put in their order. -/
def putAll : List Oper → Nat → (Nat → Value) → Act → Act
  | [], _, _, a => a
  | o :: os, k, vs, a => putAll os (k + 1) vs (a.put o.dst (vs k))
/-- Each waits only for those ahead of it. -/
def topoB (ops : Array Oper) : Bool := (List.range ops.size).all fun j => ((ops[j]?).map fun o => o.after.all fun e => !Region.binds .any e || decide (e.on < j)).getD true
/-- No two write the same slot, and each slot is one of n. -/
def dstB (n : Nat) (ops : Array Oper) : Bool :=
  (List.range ops.size).all fun j => match (ops[j]?).bind (·.dst) with
    | none => true
    | some d => decide (d < n) && (List.range ops.size).all fun k => decide (k = j) || !((ops[k]?).bind (·.dst) == some d)
structure MInv (ops : Array Oper) (φ : Nat → Value → World → Prop) (a0 : Act) (w0 : World) (listed : Array Bool) (a : Act) (w : World) : Prop where
  ext : Ext w0 w
  lsz : listed.size = ops.size
  size : a.tmps.size = a0.tmps.size
  defers : a.defers = a0.defers
  closed : ∀ j o, ops[j]? = some o → listed.getD j false = true → ∀ e ∈ o.after, Region.binds .any e = true → listed.getD e.on false = true
  old : ∀ t, (∀ j o, ops[j]? = some o → listed.getD j false = true → o.dst ≠ some t) → a.tmps[t]? = a0.tmps[t]?
  new : ∀ j o d, ops[j]? = some o → listed.getD j false = true → o.dst = some d → φ j (a.tmps.getD d undef) w
theorem getD_set' (l : Array Bool) (i j : Nat) (b : Bool) (hi : i < l.size) : (l.setIfInBounds i true).getD j b = if j = i then true else l.getD j b := by
  by_cases h : j = i
  · subst h
    simp [hi]
  · rw [if_neg h]
    simp only [Array.getD_eq_getD_getElem?]
    rw [Array.getElem?_setIfInBounds_ne (fun e => h e.symm)]
theorem ready_iff {ops : Array Oper} {listed : Array Bool} {i : Nat} : i ∈ Region.ready .any ops listed ↔ i < ops.size ∧ listed.getD i true = false ∧ ∀ o, ops[i]? = some o → ∀ e ∈ o.after, Region.binds .any e = true → listed.getD e.on false = true := by
  unfold Region.ready
  rw [List.mem_filter, List.mem_range]
  simp only [Bool.and_eq_true, Bool.not_eq_true']
  constructor
  · rintro ⟨h1, h2, h3⟩
    refine ⟨h1, h2, fun o ho e he hb => ?_⟩
    rw [ho] at h3
    simp only [Option.map_some, Option.getD_some, Array.all_eq_true_iff_forall_mem] at h3
    have := h3 e he
    simp only [hb, Bool.not_true, Bool.false_or] at this
    exact this
  · rintro ⟨h1, h2, h3⟩
    refine ⟨h1, h2, ?_⟩
    have ho : ops[i]? = some ops[i] := Array.getElem?_eq_getElem h1
    rw [ho]
    simp only [Option.map_some, Option.getD_some, Array.all_eq_true_iff_forall_mem]
    intro e he
    cases hb : Region.binds .any e with
    | false => rfl
    | true => simpa using h3 _ ho e he hb
section
variable {P : Program} {Q : Exit → Act → World → Prop} {ops : Array Oper} {φ : Nat → Value → World → Prop} {a0 : Act} {w0 : World}
theorem topo_lt (ht : topoB ops = true) {j : Nat} {o : Oper} (ho : ops[j]? = some o) {e : Edge} (he : e ∈ o.after) (hb : Region.binds .any e = true) : e.on < j := by
  unfold topoB at ht
  rw [List.all_eq_true] at ht
  have hj : j < ops.size := (Array.getElem?_eq_some_iff.1 ho).1
  have := ht j (List.mem_range.2 hj)
  rw [ho] at this
  simp only [Option.map_some, Option.getD_some, Array.all_eq_true_iff_forall_mem] at this
  have := this e he
  rw [hb] at this
  simpa using this
theorem dst_of (n : Nat) (hd : dstB n ops = true) {j : Nat} {o : Oper} {d : Tmp} (ho : ops[j]? = some o) (hod : o.dst = some d) : d < n ∧ ∀ k o', ops[k]? = some o' → o'.dst = some d → k = j := by
  unfold dstB at hd
  rw [List.all_eq_true] at hd
  have hj : j < ops.size := (Array.getElem?_eq_some_iff.1 ho).1
  have h1 := hd j (List.mem_range.2 hj)
  simp only [ho, Option.bind_some, hod, Bool.and_eq_true, decide_eq_true_eq, List.all_eq_true] at h1
  refine ⟨h1.1, fun k o' hk hkd => ?_⟩
  have hkj : k < ops.size := (Array.getElem?_eq_some_iff.1 hk).1
  have h2 := h1.2 k (List.mem_range.2 hkj)
  simp only [hk, Option.bind_some, hkd, Bool.or_eq_true, decide_eq_true_eq] at h2
  rcases h2 with h2 | h2
  · exact h2
  · simp at h2
theorem put_tmps_ne (a : Act) (o : Option Tmp) (v : Value) (t : Nat) (h : o ≠ some t) : (a.put o v).tmps[t]? = a.tmps[t]? := by
  cases o with
  | none => rfl
  | some d =>
    show (a.tmps.setIfInBounds d v)[t]? = _
    exact Array.getElem?_setIfInBounds_ne (fun e => h (by rw [e]))
theorem put_tmps_eq (a : Act) (d : Nat) (v : Value) (h : d < a.tmps.size) : (a.put (some d) v).tmps[d]? = some v := by
  show (a.tmps.setIfInBounds d v)[d]? = _
  simp [h]
theorem put_size (a : Act) (o : Option Tmp) (v : Value) : (a.put o v).tmps.size = a.tmps.size := by
  cases o <;> simp [Act.put]
theorem put_defers (a : Act) (o : Option Tmp) (v : Value) : (a.put o v).defers = a.defers := by
  cases o <;> rfl
theorem MInv.step (hd : dstB a0.tmps.size ops = true) (hmono : ∀ j v w w', Ext w w' → φ j v w → φ j v w') {listed : Array Bool} {a : Act} {w : World} (h : MInv ops φ a0 w0 listed a w) {i : Nat} {o : Oper} (ho : ops[i]? = some o)
    (hi : i ∈ Region.ready .any ops listed) {v : Value} {w' : World} (he : Ext w w') (hv : φ i v w') : MInv ops φ a0 w0 (listed.setIfInBounds i true) (a.put o.dst v) w' := by
  obtain ⟨r1, r2, r3⟩ := ready_iff.1 hi
  have hil : i < listed.size := by rw [h.lsz]; exact r1
  refine ⟨h.ext.trans he, by simp [h.lsz], by rw [put_size]; exact h.size, by rw [put_defers]; exact h.defers, fun j o' hj hl e he' hb => ?_, fun t ht => ?_, fun j o' d hj hl hjd => ?_⟩
  · rw [getD_set' _ _ _ _ hil] at hl ⊢
    split
    · rfl
    · by_cases hji : j = i
      · subst hji
        exact r3 o' hj e he' hb
      · rw [if_neg hji] at hl
        exact h.closed j o' hj hl e he' hb
  · have h1 : o.dst ≠ some t := ht i o ho (by rw [getD_set' _ _ _ _ hil, if_pos rfl])
    rw [put_tmps_ne _ _ _ _ h1]
    refine h.old t fun j o' hj hl => ht j o' hj ?_
    rw [getD_set' _ _ _ _ hil]
    split
    · rfl
    · exact hl
  · by_cases hji : j = i
    · subst hji
      rw [ho] at hj
      obtain rfl : o = o' := by simpa using hj
      have hlt : d < a.tmps.size := by rw [h.size]; exact (dst_of _ hd ho hjd).1
      rw [hjd, Array.getD_eq_getD_getElem?, put_tmps_eq _ _ _ hlt]
      exact hv
    · rw [getD_set' _ _ _ _ hil, if_neg hji] at hl
      have hne : o.dst ≠ some d := fun e => hji ((dst_of _ hd ho e).2 j o' hj hjd)
      rw [Array.getD_eq_getD_getElem?, put_tmps_ne _ _ _ _ hne, ← Array.getD_eq_getD_getElem?]
      exact hmono _ _ _ _ he (h.new j o' d hj hl hjd)
theorem all_listed (ht : topoB ops = true) {listed : Array Bool} (hsz : listed.size = ops.size) (hr : Region.ready .any ops listed = []) : ∀ n j, j < n → j < ops.size → listed.getD j false = true
  | 0, j, h, _ => by omega
  | n + 1, j, h, hj => by
    have ih := all_listed ht hsz hr n
    refine Classical.byContradiction fun hn => ?_
    have hmem : j ∈ Region.ready .any ops listed := by
      rw [ready_iff]
      refine ⟨hj, ?_, fun o ho e he hb => ?_⟩
      · have hjl : j < listed.size := by omega
        have : listed.getD j true = listed.getD j false := by simp [Array.getD_eq_getD_getElem?, hjl]
        rw [this]; simpa using hn
      · have := topo_lt ht ho he hb
        have hjs : j < ops.size := hj
        exact ih e.on (by omega) (by omega)
    rw [hr] at hmem
    cases hmem
theorem putAll_size : ∀ (os : List Oper) (k : Nat) (vs : Nat → Value) (a : Act), (putAll os k vs a).tmps.size = a.tmps.size ∧ (putAll os k vs a).defers = a.defers
  | [], _, _, _ => ⟨rfl, rfl⟩
  | o :: os, k, vs, a => by
    have := putAll_size os (k + 1) vs (a.put o.dst (vs k))
    rw [put_size, put_defers] at this
    exact this
theorem putAll_ne : ∀ (os : List Oper) (k : Nat) (vs : Nat → Value) (a : Act) (t : Nat), (∀ o ∈ os, o.dst ≠ some t) → (putAll os k vs a).tmps[t]? = a.tmps[t]?
  | [], _, _, _, _, _ => rfl
  | o :: os, k, vs, a, t, h => by
    show (putAll os (k + 1) vs (a.put o.dst (vs k))).tmps[t]? = _
    rw [putAll_ne os (k + 1) vs _ t (fun o' ho' => h o' (by simp [ho'])), put_tmps_ne _ _ _ _ (h o (by simp))]
theorem putAll_at : ∀ (os : List Oper) (k : Nat) (vs : Nat → Value) (a : Act) (i : Nat) (o : Oper) (d : Nat), os[i]? = some o → o.dst = some d → d < a.tmps.size → (∀ j o', os[j]? = some o' → o'.dst = some d → j = i) → (putAll os k vs a).tmps[d]? = some (vs (k + i))
  | [], _, _, _, _, _, _, h, _, _, _ => by simp at h
  | o :: os, k, vs, a, 0, o1, d, h, hd, hlt, hu => by
    simp only [List.getElem?_cons_zero, Option.some.injEq] at h
    subst h
    show (putAll os (k + 1) vs (a.put o.dst (vs k))).tmps[d]? = _
    rw [putAll_ne os (k + 1) vs _ d (fun o' ho' e => ?_), hd, put_tmps_eq _ _ _ hlt]
    · simp
    · obtain ⟨j, hj, rfl⟩ := List.getElem_of_mem ho'
      have := hu (j + 1) os[j] (by simp [hj]) e
      omega
  | o :: os, k, vs, a, i + 1, o1, d, h, hd, hlt, hu => by
    simp only [List.getElem?_cons_succ] at h
    show (putAll os (k + 1) vs (a.put o.dst (vs k))).tmps[d]? = _
    rw [putAll_at os (k + 1) vs _ i o1 d h hd (by rw [put_size]; exact hlt) (fun j o' hj e => by have := hu (j + 1) o' (by simpa using hj) e; omega)]
    congr 2; omega
theorem act_ext {a b : Act} (h1 : a.tmps = b.tmps) (h2 : a.defers = b.defers) : a = b := by
  cases a; cases b; simp only at h1 h2; subst h1; subst h2; rfl
theorem MInv.fin (hd : dstB a0.tmps.size ops = true) {listed : Array Bool} {a : Act} {w : World} (h : MInv ops φ a0 w0 listed a w) (hall : ∀ j, j < ops.size → listed.getD j false = true) :
    ∃ vs : Nat → Value, a = putAll ops.toList 0 vs a0 ∧ ∀ (j : Nat) (o : Oper), ops[j]? = some o → o.dst ≠ none → φ j (vs j) w := by
  refine ⟨fun j => match (ops[j]?).bind (·.dst) with | some d => a.tmps.getD d undef | none => undef, act_ext ?_ ?_, fun j o hj hn => ?_⟩
  · apply Array.ext_getElem?
    intro t
    by_cases hex : ∃ (j : Nat) (o : Oper), ops[j]? = some o ∧ o.dst = some t
    · obtain ⟨j, o, hj, hjd⟩ := hex
      have hdd := dst_of _ hd hj hjd
      have hjs : j < ops.size := (Array.getElem?_eq_some_iff.1 hj).1
      rw [putAll_at ops.toList 0 _ a0 j o t (by simpa using hj) hjd hdd.1 (fun k o' hk e => hdd.2 k o' (by simpa using hk) e)]
      simp only [Nat.zero_add, hj, Option.bind_some, hjd]
      have hlt : t < a.tmps.size := by rw [h.size]; exact hdd.1
      simp [Array.getD_eq_getD_getElem?, hlt]
    · rw [putAll_ne ops.toList 0 _ a0 t (fun o ho e => hex ?_)]
      · exact h.old t fun j o hj _ e => hex ⟨j, o, hj, e⟩
      · obtain ⟨j, hj, rfl⟩ := List.getElem_of_mem ho
        exact ⟨j, _, by simp, e⟩
  · rw [(putAll_size _ _ _ _).2]; exact h.defers
  · have hjs : j < ops.size := (Array.getElem?_eq_some_iff.1 hj).1
    cases hjd : o.dst with
    | none => exact absurd hjd hn
    | some d =>
      simp only [hj, Option.bind_some, hjd]
      exact h.new j o d hj (hall j hjs) hjd
theorem wpAny_mono (ht : topoB ops = true) (hd : dstB a0.tmps.size ops = true) (hmono : ∀ j v w w', Ext w w' → φ j v w → φ j v w')
    (hstep : ∀ (i : Nat) (o : Oper), ops[i]? = some o → ∀ (a : Act) (w : World), Ext w0 w → (∀ t : Nat, (∀ (j : Nat) (o' : Oper), ops[j]? = some o' → o'.dst = some t → ∃ e ∈ o'.after, Region.binds .any e = true ∧ e.on = i) → a.tmps[t]? = a0.tmps[t]?) →
      (∀ e ∈ o.after, Region.binds .any e = true → ∀ (o' : Oper) (d : Nat), ops[e.on]? = some o' → o'.dst = some d → φ e.on (a.tmps.getD d undef) w) →
      ∀ K : Act → World → Prop, (∀ v w', Ext w w' → φ i v w' → K (a.put o.dst v) w') → if Region.wanted o (yielded ops a.tmps) = true then Oper.wp P o a w K Q else K (a.put o.dst undef) w)
    (hend : ∀ (vs : Nat → Value) (w : World), Ext w0 w → (∀ (j : Nat) (o : Oper), ops[j]? = some o → o.dst ≠ none → φ j (vs j) w) → Q .normal (putAll ops.toList 0 vs a0) w) :
    ∀ (fuel : Nat) (listed : Array Bool) (a : Act) (w : World), MInv ops φ a0 w0 listed a w → howMany (fun i => !listed.getD i true) ops.size ≤ fuel → wpAny P .any ops Q fuel listed a w
  | fuel, listed, a, w, h, hf => by
    have hfin : Region.ready .any ops listed = [] → Q .normal a w := fun hr => by
      obtain ⟨vs, e1, e2⟩ := h.fin hd (fun j hj => all_listed ht h.lsz hr (j + 1) j (by omega) hj)
      rw [e1]
      exact hend vs w h.ext e2
    match fuel, hf with
    | 0, hf =>
      have hr : Region.ready .any ops listed = [] := by
        cases hrr : Region.ready .any ops listed with
        | nil => rfl
        | cons i rs =>
          have hi : i ∈ Region.ready .any ops listed := by rw [hrr]; simp
          obtain ⟨r1, r2, r3⟩ := ready_iff.1 hi
          have := howMany_less (fun i => !listed.getD i true) i (by simp [r2]) ops.size r1
          omega
      exact ⟨hr, hfin hr⟩
    | fuel + 1, hf =>
      refine ⟨hfin, fun i hi => ?_⟩
      obtain ⟨r1, r2, r3⟩ := ready_iff.1 hi
      have ho : ops[i]? = some ops[i] := Array.getElem?_eq_getElem r1
      have hil : i < listed.size := by rw [h.lsz]; exact r1
      have hcount : howMany (fun j => !(listed.setIfInBounds i true).getD j true) ops.size ≤ fuel := by
        have h1 := howMany_less (fun i => !listed.getD i true) i (by simp [r2]) ops.size r1
        have h2 : (fun j => !(listed.setIfInBounds i true).getD j true) = fun j => (!listed.getD j true) && !(j == i) := by
          funext j
          rw [getD_set' _ _ _ _ hil]
          by_cases hji : j = i
          · simp [hji]
          · simp [hji]
        rw [h2]; omega
      refine wpOp_mono (K := fun a' w' => MInv ops φ a0 w0 (listed.setIfInBounds i true) a' w') (fun a' w' hI => wpAny_mono ht hd hmono hstep hend fuel _ a' w' hI hcount) ?_
      refine wpOp_step ho fun K hK => hstep i _ ho a w h.ext (fun t htt => h.old t fun j o' hj hl e => ?_) (fun e he hb o' d hoo hdd => h.new e.on o' d hoo (r3 _ ho e he hb) hdd) K (fun v w' he hv => hK _ _ (h.step hd hmono ho hi he hv))
      obtain ⟨e', he', hb', hei⟩ := htt j o' hj e
      have := h.closed j o' hj hl e' he' hb'
      rw [hei] at this
      have h3 : listed.getD i true = true := by simp [Array.getD_eq_getD_getElem?, hil] at this ⊢; exact this
      rw [h3] at r2; cases r2
/-- THE LAW: each operation's value is what is said of it, whatever the order. -/
theorem wp_region_said {id : Nat} (φ : Nat → Value → World → Prop) (hm : P.follows .mixedOrders = true) (ht : topoB ops = true) (hd : dstB a0.tmps.size ops = true) (hmono : ∀ j v w w', Ext w w' → φ j v w → φ j v w')
    (hstep : ∀ (i : Nat) (o : Oper), ops[i]? = some o → ∀ (a : Act) (w : World), Ext w0 w → (∀ t : Nat, (∀ (j : Nat) (o' : Oper), ops[j]? = some o' → o'.dst = some t → ∃ e ∈ o'.after, Region.binds .any e = true ∧ e.on = i) → a.tmps[t]? = a0.tmps[t]?) →
      (∀ e ∈ o.after, Region.binds .any e = true → ∀ (o' : Oper) (d : Nat), ops[e.on]? = some o' → o'.dst = some d → φ e.on (a.tmps.getD d undef) w) →
      ∀ K : Act → World → Prop, (∀ v w', Ext w w' → φ i v w' → K (a.put o.dst v) w') → if Region.wanted o (yielded ops a.tmps) = true then Oper.wp P o a w K Q else K (a.put o.dst undef) w)
    (hend : ∀ (vs : Nat → Value) (w : World), Ext w0 w → (∀ (j : Nat) (o : Oper), ops[j]? = some o → o.dst ≠ none → φ j (vs j) w) → Q .normal (putAll ops.toList 0 vs a0) w) : (Code.region id ops true).wp P Q a0 w0 := by
  refine wp_region_any hm (wpAny_mono ht hd hmono hstep hend _ _ _ _ ⟨(Ext.refl w0).drew, by simp, rfl, rfl, fun j o hj hl => ?_, fun t _ => rfl, fun j o d hj hl => ?_⟩ ?_)
  · have hj' : j < ops.size := (Array.getElem?_eq_some_iff.1 hj).1
    simp [hj'] at hl
  · have hj' : j < ops.size := (Array.getElem?_eq_some_iff.1 hj).1
    simp [hj'] at hl
  · have : ∀ n (q : Nat → Bool), howMany q n ≤ n := fun n q => by
      induction n with
      | zero => exact Nat.le_refl _
      | succ n ih => simp only [howMany]; split <;> omega
    exact this _ _
/-- Whoever writes the slot t waits for the operation i. -/
def oldB (ops : Array Oper) (i t : Nat) : Bool := (List.range ops.size).all fun j => match ops[j]? with
  | some o => !(o.dst == some t) || o.after.any fun e => Region.binds .any e && e.on == i
  | none => true
/-- What is asked of one operation. -/
def StepOK (P : Program) (Q : Exit → Act → World → Prop) (ops : Array Oper) (φ : Nat → Value → World → Prop) (a0 : Act) (w0 : World) (i : Nat) (o : Oper) : Prop :=
  ∀ (a : Act) (w : World), Ext w0 w → (∀ t : Nat, oldB ops i t = true → a.tmps[t]?.getD undef = a0.tmps[t]?.getD undef) →
    (∀ (j : Nat) (d : Nat), (o.after.any fun e => Region.binds .any e && e.on == j) = true → (ops[j]?).bind (·.dst) = some d → φ j (a.tmps[d]?.getD undef) w) →
    ∀ K : Act → World → Prop, (∀ v w', Ext w w' → φ i v w' → K (a.put o.dst v) w') → if Region.wanted o (yielded ops a.tmps) = true then Oper.wp P o a w K Q else K (a.put o.dst undef) w
def StepsOK (P : Program) (Q : Exit → Act → World → Prop) (ops : Array Oper) (φ : Nat → Value → World → Prop) (a0 : Act) (w0 : World) : List Oper → Nat → Prop
  | [], _ => True
  | o :: os, i => StepOK P Q ops φ a0 w0 i o ∧ StepsOK P Q ops φ a0 w0 os (i + 1)
theorem steps_at : ∀ (os : List Oper) (k : Nat), StepsOK P Q ops φ a0 w0 os k → ∀ (i : Nat) (o : Oper), os[i]? = some o → StepOK P Q ops φ a0 w0 (k + i) o
  | [], _, _, i, o, h => by simp at h
  | o1 :: os, k, h, 0, o, ho => by
    simp only [List.getElem?_cons_zero, Option.some.injEq] at ho
    subst ho; exact h.1
  | o1 :: os, k, h, i + 1, o, ho => by
    simp only [List.getElem?_cons_succ] at ho
    have := steps_at os (k + 1) h.2 i o ho
    rwa [show k + 1 + i = k + (i + 1) by omega] at this
/-- THE LAW, its operations one after another. -/
theorem wp_region_said2 {id : Nat} (φ : Nat → Value → World → Prop) {l : List Oper} (hm : P.follows .mixedOrders = true) (ht : topoB l.toArray = true) (hd : dstB a0.tmps.size l.toArray = true) (hmono : ∀ j v w w', Ext w w' → φ j v w → φ j v w')
    (hstep : StepsOK P Q l.toArray φ a0 w0 l 0)
    (hend : ∀ (vs : Nat → Value) (w : World), Ext w0 w → (∀ j : Nat, (((l.toArray)[j]?).bind (·.dst)).isSome = true → φ j (vs j) w) → Q .normal (putAll l 0 vs a0) w) : (Code.region id l.toArray true).wp P Q a0 w0 := by
  refine wp_region_said φ hm ht hd hmono (fun i o ho a w hw hold hdep K hK => ?_) (fun vs w hw hφ => ?_)
  · have hs := steps_at l 0 hstep i o (by simpa using ho)
    rw [Nat.zero_add] at hs
    refine hs a w hw (fun t htB => ?_) (fun j d hj hjd => ?_) K hK
    · have := hold t fun j o' hj e => by
        unfold oldB at htB
        rw [List.all_eq_true] at htB
        have hjs : j < l.toArray.size := (Array.getElem?_eq_some_iff.1 hj).1
        have h1 := htB j (List.mem_range.2 hjs)
        simp only [hj, e, beq_self_eq_true, Bool.not_true, Bool.false_or] at h1
        rw [Array.any_eq_true'] at h1
        obtain ⟨e', he', hb⟩ := h1
        simp only [Bool.and_eq_true, beq_iff_eq] at hb
        exact ⟨e', he', hb.1, hb.2⟩
      rw [this]
    · rw [Array.any_eq_true'] at hj
      obtain ⟨e', he', hb⟩ := hj
      simp only [Bool.and_eq_true, beq_iff_eq] at hb
      obtain ⟨hb1, rfl⟩ := hb
      cases ho' : l.toArray[e'.on]? with
      | none => rw [ho'] at hjd; cases hjd
      | some o' =>
        rw [ho'] at hjd
        have := hdep e' he' hb1 o' d ho' hjd
        rwa [Array.getD_eq_getD_getElem?] at this
  · refine hend vs w hw fun j hj => ?_
    cases ho : l.toArray[j]? with
    | none => rw [ho] at hj; cases hj
    | some o =>
      refine hφ j o ho fun e => ?_
      rw [ho, Option.bind_some, e] at hj
      cases hj
end
end Go.Proofs.Ytjpgignbjkgjiaa
end
section
/-
  A region that draws its order and stores: a word about the world that each operation keeps, turns, or needs.
-/
set_option linter.unusedVariables false
set_option linter.unusedSimpArgs false
namespace Go.Proofs.Ytjpgignbjkgjiaa
open Go Go.RowKit
structure NInv (ops : Array Oper) (φ : Nat → Value → World → Prop) (J : (Nat → Bool) → (Nat → Value) → World → Prop) (a0 : Act) (listed : Array Bool) (vs : Nat → Value) (a : Act) (w : World) : Prop where
  inv : J (fun j => listed.getD j false) vs w
  lsz : listed.size = ops.size
  size : a.tmps.size = a0.tmps.size
  defers : a.defers = a0.defers
  closed : ∀ j o, ops[j]? = some o → listed.getD j false = true → ∀ e ∈ o.after, Region.binds .any e = true → listed.getD e.on false = true
  old : ∀ t, (∀ j o, ops[j]? = some o → listed.getD j false = true → o.dst ≠ some t) → a.tmps[t]? = a0.tmps[t]?
  new : ∀ j o d, ops[j]? = some o → listed.getD j false = true → o.dst = some d → a.tmps.getD d undef = vs j ∧ φ j (vs j) w
/-- What is asked of one operation: 'ls' tells which are done. -/
def StepOK3 (P : Program) (Q : Exit → Act → World → Prop) (ops : Array Oper) (φ : Nat → Value → World → Prop) (J : (Nat → Bool) → (Nat → Value) → World → Prop) (a0 : Act) (i : Nat) (o : Oper) : Prop :=
  ∀ (ls : Nat → Bool) (vs : Nat → Value) (a : Act) (w : World), ls i = false → J ls vs w → (∀ t : Nat, oldB ops i t = true → a.tmps[t]?.getD undef = a0.tmps[t]?.getD undef) →
    (∀ (j : Nat) (d : Nat), (o.after.any fun e => Region.binds .any e && e.on == j) = true → (ops[j]?).bind (·.dst) = some d → ls j = true ∧ a.tmps[d]?.getD undef = vs j ∧ φ j (vs j) w) →
    ∀ K : Act → World → Prop, (∀ v w', (∀ j u, ls j = true → φ j u w → φ j u w') → J (fun j => if j = i then true else ls j) (fun j => if j = i then v else vs j) w' → φ i v w' → K (a.put o.dst v) w') → if Region.wanted o (yielded ops a.tmps) = true then Oper.wp P o a w K Q else K (a.put o.dst undef) w
def StepsOK3 (P : Program) (Q : Exit → Act → World → Prop) (ops : Array Oper) (φ : Nat → Value → World → Prop) (J : (Nat → Bool) → (Nat → Value) → World → Prop) (a0 : Act) : List Oper → Nat → Prop
  | [], _ => True
  | o :: os, i => StepOK3 P Q ops φ J a0 i o ∧ StepsOK3 P Q ops φ J a0 os (i + 1)
section
variable {P : Program} {Q : Exit → Act → World → Prop} {ops : Array Oper} {φ : Nat → Value → World → Prop} {J : (Nat → Bool) → (Nat → Value) → World → Prop} {a0 : Act} {w0 : World}
theorem steps_at3 : ∀ (os : List Oper) (k : Nat), StepsOK3 P Q ops φ J a0 os k → ∀ (i : Nat) (o : Oper), os[i]? = some o → StepOK3 P Q ops φ J a0 (k + i) o
  | [], _, _, i, o, h => by simp at h
  | o1 :: os, k, h, 0, o, ho => by
    simp only [List.getElem?_cons_zero, Option.some.injEq] at ho
    subst ho; exact h.1
  | o1 :: os, k, h, i + 1, o, ho => by
    simp only [List.getElem?_cons_succ] at ho
    have := steps_at3 os (k + 1) h.2 i o ho
    rwa [show k + 1 + i = k + (i + 1) by omega] at this
theorem NInv.step (hd : dstB a0.tmps.size ops = true) {listed : Array Bool} {vs : Nat → Value} {a : Act} {w : World} (h : NInv ops φ J a0 listed vs a w) {i : Nat} {o : Oper} (ho : ops[i]? = some o)
    (hi : i ∈ Region.ready .any ops listed) {v : Value} {w' : World} (hk : ∀ j u, listed.getD j false = true → φ j u w → φ j u w') (hJJ : J (fun j => if j = i then true else listed.getD j false) (fun j => if j = i then v else vs j) w') (hv : φ i v w') : NInv ops φ J a0 (listed.setIfInBounds i true) (fun j => if j = i then v else vs j) (a.put o.dst v) w' := by
  obtain ⟨r1, r2, r3⟩ := ready_iff.1 hi
  have hil : i < listed.size := by rw [h.lsz]; exact r1
  refine ⟨?_, by simp [h.lsz], by rw [put_size]; exact h.size, by rw [put_defers]; exact h.defers, fun j o' hj hl e he' hb => ?_, fun t ht => ?_, fun j o' d hj hl hjd => ?_⟩
  · have : (fun j => (listed.setIfInBounds i true).getD j false) = fun j => if j = i then true else listed.getD j false := by
      funext j; exact getD_set' _ _ _ _ hil
    rw [this]; exact hJJ
  · rw [getD_set' _ _ _ _ hil] at hl ⊢
    split
    · rfl
    · by_cases hji : j = i
      · subst hji
        exact r3 o' hj e he' hb
      · rw [if_neg hji] at hl
        exact h.closed j o' hj hl e he' hb
  · have h1 : o.dst ≠ some t := ht i o ho (by rw [getD_set' _ _ _ _ hil, if_pos rfl])
    rw [put_tmps_ne _ _ _ _ h1]
    refine h.old t fun j o' hj hl => ht j o' hj ?_
    rw [getD_set' _ _ _ _ hil]
    split
    · rfl
    · exact hl
  · by_cases hji : j = i
    · subst hji
      rw [ho] at hj
      obtain rfl : o = o' := by simpa using hj
      have hlt : d < a.tmps.size := by rw [h.size]; exact (dst_of _ hd ho hjd).1
      rw [hjd, Array.getD_eq_getD_getElem?, put_tmps_eq _ _ _ hlt]
      refine ⟨?_, ?_⟩
      · simp
      · simpa using hv
    · rw [getD_set' _ _ _ _ hil, if_neg hji] at hl
      have hne : o.dst ≠ some d := fun e => hji ((dst_of _ hd ho e).2 j o' hj hjd)
      rw [Array.getD_eq_getD_getElem?, put_tmps_ne _ _ _ _ hne, ← Array.getD_eq_getD_getElem?]
      have hn := h.new j o' d hj hl hjd
      simp only [if_neg hji]
      exact ⟨hn.1, hk _ _ hl hn.2⟩
theorem NInv.fin (hd : dstB a0.tmps.size ops = true) {listed : Array Bool} {vs : Nat → Value} {a : Act} {w : World} (h : NInv ops φ J a0 listed vs a w) (hall : ∀ j, j < ops.size → listed.getD j false = true) :
    a = putAll ops.toList 0 vs a0 ∧ ∀ (j : Nat) (o : Oper), ops[j]? = some o → o.dst ≠ none → φ j (vs j) w := by
  refine ⟨act_ext ?_ ?_, fun j o hj hn => ?_⟩
  · apply Array.ext_getElem?
    intro t
    by_cases hex : ∃ (j : Nat) (o : Oper), ops[j]? = some o ∧ o.dst = some t
    · obtain ⟨j, o, hj, hjd⟩ := hex
      have hdd := dst_of _ hd hj hjd
      have hjs : j < ops.size := (Array.getElem?_eq_some_iff.1 hj).1
      rw [putAll_at ops.toList 0 _ a0 j o t (by simpa using hj) hjd hdd.1 (fun k o' hk e => hdd.2 k o' (by simpa using hk) e)]
      have hn := (h.new j o t hj (hall j hjs) hjd).1
      have hlt : t < a.tmps.size := by rw [h.size]; exact hdd.1
      rw [Nat.zero_add, ← hn]
      simp [Array.getD_eq_getD_getElem?, hlt]
    · rw [putAll_ne ops.toList 0 _ a0 t (fun o ho e => hex ?_)]
      · exact h.old t fun j o hj _ e => hex ⟨j, o, hj, e⟩
      · obtain ⟨j, hj, rfl⟩ := List.getElem_of_mem ho
        exact ⟨j, _, by simp [hj], e⟩
  · rw [(putAll_size _ _ _ _).2]; exact h.defers
  · have hjs : j < ops.size := (Array.getElem?_eq_some_iff.1 hj).1
    cases hjd : o.dst with
    | none => exact absurd hjd hn
    | some d => exact (h.new j o d hj (hall j hjs) hjd).2
theorem wpAny_mono3 (ht : topoB ops = true) (hd : dstB a0.tmps.size ops = true)
    (hstep : ∀ (i : Nat) (o : Oper), ops[i]? = some o → StepOK3 P Q ops φ J a0 i o)
    (hend : ∀ (vs : Nat → Value) (w : World) (ls : Nat → Bool), (∀ j, j < ops.size → ls j = true) → J ls vs w → (∀ (j : Nat) (o : Oper), ops[j]? = some o → o.dst ≠ none → φ j (vs j) w) → Q .normal (putAll ops.toList 0 vs a0) w) :
    ∀ (fuel : Nat) (listed : Array Bool) (vs : Nat → Value) (a : Act) (w : World), NInv ops φ J a0 listed vs a w → howMany (fun i => !listed.getD i true) ops.size ≤ fuel → wpAny P .any ops Q fuel listed a w
  | fuel, listed, vs, a, w, h, hf => by
    have hfin : Region.ready .any ops listed = [] → Q .normal a w := fun hr => by
      have hall : ∀ j, j < ops.size → listed.getD j false = true := fun j hj => all_listed ht h.lsz hr (j + 1) j (by omega) hj
      obtain ⟨e1, e2⟩ := h.fin hd hall
      rw [e1]
      exact hend vs w _ hall h.inv e2
    match fuel, hf with
    | 0, hf =>
      have hr : Region.ready .any ops listed = [] := by
        cases hrr : Region.ready .any ops listed with
        | nil => rfl
        | cons i rs =>
          have hi : i ∈ Region.ready .any ops listed := by rw [hrr]; simp
          obtain ⟨r1, r2, r3⟩ := ready_iff.1 hi
          have := howMany_less (fun i => !listed.getD i true) i (by simp [r2]) ops.size r1
          omega
      exact ⟨hr, hfin hr⟩
    | fuel + 1, hf =>
      refine ⟨hfin, fun i hi => ?_⟩
      obtain ⟨r1, r2, r3⟩ := ready_iff.1 hi
      have ho : ops[i]? = some ops[i] := Array.getElem?_eq_getElem r1
      have hil : i < listed.size := by rw [h.lsz]; exact r1
      have hcount : howMany (fun j => !(listed.setIfInBounds i true).getD j true) ops.size ≤ fuel := by
        have h1 := howMany_less (fun i => !listed.getD i true) i (by simp [r2]) ops.size r1
        have h2 : (fun j => !(listed.setIfInBounds i true).getD j true) = fun j => (!listed.getD j true) && !(j == i) := by
          funext j
          rw [getD_set' _ _ _ _ hil]
          by_cases hji : j = i
          · simp [hji]
          · simp [hji]
        rw [h2]; omega
      refine wpOp_mono (K := fun a' w' => ∃ vs', NInv ops φ J a0 (listed.setIfInBounds i true) vs' a' w') (fun a' w' hI => let ⟨vs', hI⟩ := hI; wpAny_mono3 ht hd hstep hend fuel _ vs' a' w' hI hcount) ?_
      have hif : listed.getD i false = false := by
        have : listed.getD i false = listed.getD i true := by simp [Array.getD_eq_getD_getElem?, hil]
        rw [this]; exact r2
      refine wpOp_step ho fun K hK => hstep i _ ho (fun j => listed.getD j false) vs a w hif h.inv (fun t htB => ?_) (fun j d hj hjd => ?_) K (fun v w' hk hJ hv => hK _ _ ⟨_, h.step hd ho hi hk hJ hv⟩)
      · have := h.old t fun j o' hj hl e => by
          unfold oldB at htB
          rw [List.all_eq_true] at htB
          have hjs : j < ops.size := (Array.getElem?_eq_some_iff.1 hj).1
          have h1 := htB j (List.mem_range.2 hjs)
          simp only [hj, e, beq_self_eq_true, Bool.not_true, Bool.false_or] at h1
          rw [Array.any_eq_true'] at h1
          obtain ⟨e', he', hb⟩ := h1
          simp only [Bool.and_eq_true, beq_iff_eq] at hb
          have h3 := h.closed j o' hj hl e' he' hb.1
          rw [hb.2] at h3
          have h4 : listed.getD i true = true := by simp [Array.getD_eq_getD_getElem?, hil] at h3 ⊢; exact h3
          rw [h4] at r2; cases r2
        rw [this]
      · rw [Array.any_eq_true'] at hj
        obtain ⟨e', he', hb⟩ := hj
        simp only [Bool.and_eq_true, beq_iff_eq] at hb
        obtain ⟨hb1, rfl⟩ := hb
        have hl := r3 _ ho e' he' hb1
        refine ⟨hl, ?_⟩
        cases ho' : ops[e'.on]? with
        | none => rw [ho'] at hjd; cases hjd
        | some o' =>
          rw [ho'] at hjd
          have := h.new e'.on o' d ho' hl hjd
          rwa [Array.getD_eq_getD_getElem?] at this
/-- THE LAW. -/
theorem wp_region_said3 {id : Nat} (φ : Nat → Value → World → Prop) (J : (Nat → Bool) → (Nat → Value) → World → Prop) {l : List Oper} (hm : P.follows .mixedOrders = true) (ht : topoB l.toArray = true) (hd : dstB a0.tmps.size l.toArray = true)
    (h0 : J (fun _ => false) (fun _ => undef) w0.drew)
    (hstep : StepsOK3 P Q l.toArray φ J a0 l 0)
    (hend : ∀ (vs : Nat → Value) (w : World) (ls : Nat → Bool), (∀ j, j < l.length → ls j = true) → J ls vs w → (∀ j : Nat, (((l.toArray)[j]?).bind (·.dst)).isSome = true → φ j (vs j) w) → Q .normal (putAll l 0 vs a0) w) : (Code.region id l.toArray true).wp P Q a0 w0 := by
  refine wp_region_any hm (wpAny_mono3 (φ := φ) (J := J) (a0 := a0) ht hd (fun i o ho => ?_) (fun vs w ls hls hJ hφ => ?_) _ _ (fun _ => undef) _ _ ⟨?_, by simp, rfl, rfl, fun j o hj hl => ?_, fun t _ => rfl, fun j o d hj hl => ?_⟩ ?_)
  · have hs := steps_at3 l 0 hstep i o (by simpa using ho)
    rwa [Nat.zero_add] at hs
  · refine hend vs w ls (by simpa using hls) hJ fun j hj => ?_
    cases ho : l.toArray[j]? with
    | none => rw [ho] at hj; cases hj
    | some o =>
      refine hφ j o ho fun e => ?_
      rw [ho, Option.bind_some, e] at hj
      cases hj
  · have : (fun j => (Array.replicate l.toArray.size false).getD j false) = fun _ => false := by
      funext j
      simp only [Array.getD_eq_getD_getElem?, Array.getElem?_replicate]
      split <;> rfl
    rw [this]; exact h0
  · have hj' : j < l.toArray.size := (Array.getElem?_eq_some_iff.1 hj).1
    simp at hj'
    simp [hj'] at hl
  · have hj' : j < l.toArray.size := (Array.getElem?_eq_some_iff.1 hj).1
    simp at hj'
    simp [hj'] at hl
  · have : ∀ n (q : Nat → Bool), howMany q n ≤ n := fun n q => by
      induction n with
      | zero => exact Nat.le_refl _
      | succ n ih => simp only [howMany]; split <;> omega
    exact this _ _
end
end Go.Proofs.Ytjpgignbjkgjiaa
end
section
/-
  A function's region by its number: so that the walk of one region can be a theorem of its own, over any frame with the few slots that it reads.
-/
set_option linter.unusedVariables false
set_option linter.unusedSimpArgs false
namespace Go.Proofs.Ytjpgignbjkgjiaa
open Go Go.RowKit
def findReg (n : Nat) : Code → Option Code
  | .region m ops d => if m = n then some (.region m ops d) else none
  | .seq a b => match findReg n a with
    | some c => some c
    | none => findReg n b
  | .cond _ a b => match findReg n a with
    | some c => some c
    | none => findReg n b
  | .block _ c => findReg n c
  | .loop c => findReg n c
  | .scope c => findReg n c
  | _ => none
noncomputable def regOf (f : Func) (n : Nat) : Code := (f.body.bind (findReg n)).getD .skip
def findCond (n : Nat) : Code → Option Code
  | .seq a b => match findCond n a with
    | some c => some c
    | none => findCond n b
  | .cond (.tmp m) a b => if m = n then some (.cond (.tmp m) a b) else match findCond n a with
    | some c => some c
    | none => findCond n b
  | .block _ c => findCond n c
  | .loop c => findCond n c
  | .scope c => findCond n c
  | _ => none
noncomputable def condOf (f : Func) (n : Nat) : Code := (f.body.bind (findCond n)).getD .skip
def putsL (sl : List Nat) (u : Nat → Value) (a : Act) : Act := sl.foldl (fun a i => a.put (some i) (u i)) a
theorem put_self (a : Act) (i : Nat) : a.put (some i) (a.tmps[i]?.getD undef) = a := by
  obtain ⟨t, d⟩ := a
  simp only [Act.put, Act.mk.injEq, and_true]
  apply Array.ext_getElem?
  intro j
  rw [Array.getElem?_setIfInBounds]
  split
  · rename_i h
    subst h
    split
    · rename_i h2; simp [h2]
    · rename_i h2; simp [h2]
  · rfl
section
variable {P : Program} {Q : Exit → Act → World → Prop} {ops : Array Oper} {φ : Nat → Value → World → Prop} {J : (Nat → Bool) → (Nat → Value) → World → Prop} {a0 : Act} {w0 : World}
theorem wpOps_said3 (ht : topoB ops = true) (hd : dstB a0.tmps.size ops = true)
    (hstep : ∀ (i : Nat) (o : Oper), ops[i]? = some o → StepOK3 P Q ops φ J a0 i o)
    (hend : ∀ (vs : Nat → Value) (w : World) (ls : Nat → Bool), (∀ j, j < ops.size → ls j = true) → J ls vs w → (∀ (j : Nat) (o : Oper), ops[j]? = some o → o.dst ≠ none → φ j (vs j) w) → Q .normal (putAll ops.toList 0 vs a0) w) :
    ∀ (m i : Nat) (listed : Array Bool) (vs : Nat → Value) (a : Act) (w : World), i + m = ops.size → NInv ops φ J a0 listed vs a w → (∀ j, j < ops.size → listed.getD j false = decide (j < i)) → wpOps P ops Q (List.range' i m) a w
  | 0, i, listed, vs, a, w, him, h, hl => by
    have hall : ∀ j, j < ops.size → listed.getD j false = true := fun j hj => by rw [hl j hj]; simp; omega
    obtain ⟨e1, e2⟩ := h.fin hd hall
    show Q .normal a w
    rw [e1]
    exact hend vs w _ hall h.inv e2
  | m + 1, i, listed, vs, a, w, him, h, hl => by
    have r1 : i < ops.size := by omega
    have ho : ops[i]? = some ops[i] := Array.getElem?_eq_getElem r1
    have hil : i < listed.size := by rw [h.lsz]; exact r1
    have hif : listed.getD i false = false := by rw [hl i r1]; simp
    have r2 : listed.getD i true = false := by
      have : listed.getD i false = listed.getD i true := by simp [Array.getD_eq_getD_getElem?, hil]
      rw [← this]; exact hif
    have htop : ∀ j o, ops[j]? = some o → ∀ e ∈ o.after, Region.binds .any e = true → e.on < j := fun j o hj e he hb => by
      have hjs : j < ops.size := (Array.getElem?_eq_some_iff.1 hj).1
      unfold topoB at ht
      rw [List.all_eq_true] at ht
      have h1 := ht j (List.mem_range.2 hjs)
      rw [hj] at h1
      simp only [Option.map_some, Option.getD_some, Array.all_eq_true'] at h1
      have h2 := h1 e he
      simp only [hb, Bool.not_true, Bool.false_or, decide_eq_true_eq] at h2
      exact h2
    have r3 : ∀ o, ops[i]? = some o → ∀ e ∈ o.after, Region.binds .any e = true → listed.getD e.on false = true := fun o hj e he hb => by
      have h2 := htop i o hj e he hb
      rw [hl _ (by omega)]; simpa using h2
    have hi : i ∈ Region.ready .any ops listed := ready_iff.2 ⟨r1, r2, r3⟩
    have hnext : ∀ (listed' : Array Bool), listed' = listed.setIfInBounds i true → ∀ j, j < ops.size → listed'.getD j false = decide (j < i + 1) := fun listed' e j hj => by
      rw [e, getD_set' _ _ _ _ hil]
      by_cases hji : j = i
      · subst hji; simp
      · rw [if_neg hji, hl j hj]
        have : (j < i) ↔ (j < i + 1) := by omega
        simp [this]
    have key := hstep i _ ho (fun j => listed.getD j false) vs a w hif h.inv (fun t htB => ?_) (fun j d hj hjd => ?_) (wpOps P ops Q (List.range' (i + 1) m))
      (fun v w' hk hJ hv => wpOps_said3 ht hd hstep hend m (i + 1) _ _ _ _ (by omega) (h.step hd ho hi hk hJ hv) (hnext _ rfl))
    · simp only [List.range'_succ, wpOps, ho]
      split at key
      · rename_i hw; rw [if_pos hw]; exact .inl key
      · rename_i hw; rw [if_neg hw]; exact key
    · have := h.old t fun j o' hj hl2 e => by
        unfold oldB at htB
        rw [List.all_eq_true] at htB
        have hjs : j < ops.size := (Array.getElem?_eq_some_iff.1 hj).1
        have h1 := htB j (List.mem_range.2 hjs)
        simp only [hj, e, beq_self_eq_true, Bool.not_true, Bool.false_or] at h1
        rw [Array.any_eq_true'] at h1
        obtain ⟨e', he', hb⟩ := h1
        simp only [Bool.and_eq_true, beq_iff_eq] at hb
        have h3 := h.closed j o' hj hl2 e' he' hb.1
        rw [hb.2] at h3
        rw [hif] at h3; cases h3
      rw [this]
    · rw [Array.any_eq_true'] at hj
      obtain ⟨e', he', hb⟩ := hj
      simp only [Bool.and_eq_true, beq_iff_eq] at hb
      obtain ⟨hb1, rfl⟩ := hb
      have hl2 := r3 _ ho e' he' hb1
      refine ⟨hl2, ?_⟩
      cases ho' : ops[e'.on]? with
      | none => rw [ho'] at hjd; cases hjd
      | some o' =>
        rw [ho'] at hjd
        have := h.new e'.on o' d ho' hl2 hjd
        rwa [Array.getD_eq_getD_getElem?] at this
/-- THE LAW, for a region in its own order. -/
theorem wp_region_seq3 {id : Nat} (φ : Nat → Value → World → Prop) (J : (Nat → Bool) → (Nat → Value) → World → Prop) {l : List Oper} (ht : topoB l.toArray = true) (hd : dstB a0.tmps.size l.toArray = true)
    (h0 : J (fun _ => false) (fun _ => undef) w0)
    (hstep : StepsOK3 P Q l.toArray φ J a0 l 0)
    (hend : ∀ (vs : Nat → Value) (w : World) (ls : Nat → Bool), (∀ j, j < l.length → ls j = true) → J ls vs w → (∀ j : Nat, (((l.toArray)[j]?).bind (·.dst)).isSome = true → φ j (vs j) w) → Q .normal (putAll l 0 vs a0) w) : (Code.region id l.toArray false).wp P Q a0 w0 := by
  refine wp_region ?_
  rw [List.range_eq_range']
  refine wpOps_said3 (φ := φ) (J := J) (a0 := a0) ht hd (fun i o ho => ?_) (fun vs w ls hls hJ hφ => ?_) l.toArray.size 0 (Array.replicate l.toArray.size false) (fun _ => undef) a0 w0 (by omega) ⟨?_, by simp, rfl, rfl, fun j o hj hl => ?_, fun t _ => rfl, fun j o d hj hl => ?_⟩ (fun j hj => ?_)
  · have hs := steps_at3 l 0 hstep i o (by simpa using ho)
    rwa [Nat.zero_add] at hs
  · refine hend vs w ls (by simpa using hls) hJ fun j hj => ?_
    cases ho : l.toArray[j]? with
    | none => rw [ho] at hj; cases hj
    | some o =>
      refine hφ j o ho fun e => ?_
      rw [ho, Option.bind_some, e] at hj
      cases hj
  · have : (fun j => (Array.replicate l.toArray.size false).getD j false) = fun _ => false := by
      funext j
      simp only [Array.getD_eq_getD_getElem?, Array.getElem?_replicate]
      split <;> rfl
    rw [this]; exact h0
  · have hj' : j < l.toArray.size := (Array.getElem?_eq_some_iff.1 hj).1
    simp at hj'
    simp [hj'] at hl
  · have hj' : j < l.toArray.size := (Array.getElem?_eq_some_iff.1 hj).1
    simp at hj'
    simp [hj'] at hl
  · have hj' : j < l.length := by simpa using hj
    simp [hj']
end
/-- A cut that forgets 5 slots. -/
theorem wp_cut5 {P : Program} {s : Code} {K : Act → World → Prop} {Q' : Exit → Act → World → Prop} {a : Act} {w : World} (s1 s2 s3 s4 s5 : Nat) (R : Value → Value → Value → Value → Value → World → Prop)
    (rest : ∀ (v1 v2 v3 v4 v5 : Value) w', R v1 v2 v3 v4 v5 w' → K (((((a.put (some s1) v1).put (some s2) v2).put (some s3) v3).put (some s4) v4).put (some s5) v5) w')
    (first : ∀ (J K' : Act → World → Prop), (∀ (v1 v2 v3 v4 v5 : Value) w', R v1 v2 v3 v4 v5 w' → J (((((a.put (some s1) v1).put (some s2) v2).put (some s3) v3).put (some s4) v4).put (some s5) v5) w') → (∀ a' w', Met J a' w' → K' a' w') → s.wp P (Exit.then K' Q') a w) : s.wp P (Exit.then K Q') a w :=
  wp_cut (fun a' w' => ∃ v1 v2 v3 v4 v5 : Value, R v1 v2 v3 v4 v5 w' ∧ a' = (((((a.put (some s1) v1).put (some s2) v2).put (some s3) v3).put (some s4) v4).put (some s5) v5)) (fun a' w' h => by obtain ⟨v1, v2, v3, v4, v5, h1, rfl⟩ := h; exact rest v1 v2 v3 v4 v5 w' h1)
    (fun J K' hJ hK => first J K' (fun v1 v2 v3 v4 v5 w' h => hJ _ _ ⟨v1, v2, v3, v4, v5, h, rfl⟩) hK)
/-- A cut that forgets 9 slots. -/
theorem wp_cut9 {P : Program} {s : Code} {K : Act → World → Prop} {Q' : Exit → Act → World → Prop} {a : Act} {w : World} (s1 s2 s3 s4 s5 s6 s7 s8 s9 : Nat) (R : Value → Value → Value → Value → Value → Value → Value → Value → Value → World → Prop)
    (rest : ∀ (v1 v2 v3 v4 v5 v6 v7 v8 v9 : Value) w', R v1 v2 v3 v4 v5 v6 v7 v8 v9 w' → K (((((((((a.put (some s1) v1).put (some s2) v2).put (some s3) v3).put (some s4) v4).put (some s5) v5).put (some s6) v6).put (some s7) v7).put (some s8) v8).put (some s9) v9) w')
    (first : ∀ (J K' : Act → World → Prop), (∀ (v1 v2 v3 v4 v5 v6 v7 v8 v9 : Value) w', R v1 v2 v3 v4 v5 v6 v7 v8 v9 w' → J (((((((((a.put (some s1) v1).put (some s2) v2).put (some s3) v3).put (some s4) v4).put (some s5) v5).put (some s6) v6).put (some s7) v7).put (some s8) v8).put (some s9) v9) w') → (∀ a' w', Met J a' w' → K' a' w') → s.wp P (Exit.then K' Q') a w) : s.wp P (Exit.then K Q') a w :=
  wp_cut (fun a' w' => ∃ v1 v2 v3 v4 v5 v6 v7 v8 v9 : Value, R v1 v2 v3 v4 v5 v6 v7 v8 v9 w' ∧ a' = (((((((((a.put (some s1) v1).put (some s2) v2).put (some s3) v3).put (some s4) v4).put (some s5) v5).put (some s6) v6).put (some s7) v7).put (some s8) v8).put (some s9) v9)) (fun a' w' h => by obtain ⟨v1, v2, v3, v4, v5, v6, v7, v8, v9, h1, rfl⟩ := h; exact rest v1 v2 v3 v4 v5 v6 v7 v8 v9 w' h1)
    (fun J K' hJ hK => first J K' (fun v1 v2 v3 v4 v5 v6 v7 v8 v9 w' h => hJ _ _ ⟨v1, v2, v3, v4, v5, v6, v7, v8, v9, h, rfl⟩) hK)
/-- Whether a guarded operation is wanted, by the test's slot. -/
theorem wanted_of {ops : Array Oper} {o : Oper} {a : Act} {j t : Nat} {b want : Bool} (hg : o.guard = some (j, want)) (hd : (ops[j]?).bind (·.dst) = some t) (hv : a.tmps[t]?.getD undef = .bool b) : Region.wanted o (yielded ops a.tmps) = (b == want) := by
  have h1 : a.tmps[t]? = some (.bool b) := by
    cases h : a.tmps[t]? with
    | none => rw [h] at hv; cases hv
    | some v => rw [h] at hv; simpa using hv
  have h2 : yielded ops a.tmps j = some b := by
    simp only [yielded, hd, Option.bind_some, h1]
  simp only [Region.wanted, hg, h2]
  cases b <;> cases want <;> rfl
end Go.Proofs.Ytjpgignbjkgjiaa
end
section
/-
  Guarded operations of a drawn region: a value that is there only if its guard says so.
-/
set_option linter.unusedVariables false
set_option linter.unusedSimpArgs false
namespace Go.Proofs.Ytjpgignbjkgjiaa
open Go Go.RowKit
/-- What stands in a guarded operation's slot. -/
def gv : Bool → Value → Value
  | true, v => v
  | false, _ => undef
theorem gv_true (v : Value) : gv true v = v := rfl
theorem gv_false (v : Value) : gv false v = undef := rfl
theorem wanted_none {ops : Array Oper} {o : Oper} {a : Act} {j t : Nat} {want : Bool} (hg : o.guard = some (j, want)) (hd : (ops[j]?).bind (·.dst) = some t) (hv : a.tmps[t]?.getD undef = undef) : Region.wanted o (yielded ops a.tmps) = false := by
  have h2 : yielded ops a.tmps j = none := by
    simp only [yielded, hd, Option.bind_some]
    cases h : a.tmps[t]? with
    | none => rfl
    | some v =>
      rw [h] at hv
      obtain rfl : v = undef := by simpa using hv
      rfl
  simp only [Region.wanted, hg, h2]
  cases want <;> rfl
/-- A cut that forgets the slots of a list. -/
theorem wp_cutL {P : Program} {s : Code} {K : Act → World → Prop} {Q' : Exit → Act → World → Prop} {a : Act} {w : World} (sl : List Nat) (R : (Nat → Value) → World → Prop)
    (rest : ∀ (u : Nat → Value) w', R u w' → K (putsL sl u a) w')
    (first : ∀ (J K' : Act → World → Prop), (∀ (u : Nat → Value) w', R u w' → J (putsL sl u a) w') → (∀ a' w', Met J a' w' → K' a' w') → s.wp P (Exit.then K' Q') a w) : s.wp P (Exit.then K Q') a w :=
  wp_cut (fun a' w' => ∃ u : Nat → Value, R u w' ∧ a' = putsL sl u a) (fun a' w' h => by obtain ⟨u, h1, rfl⟩ := h; exact rest u w' h1)
    (fun J K' hJ hK => first J K' (fun u w' h => hJ _ _ ⟨u, h, rfl⟩) hK)
theorem met_puts {J : Act → World → Prop} {sl : List Nat} {a F : Act} {w' : World} {R : (Nat → Value) → World → Prop} (hJ : ∀ (u : Nat → Value) w', R u w' → J (putsL sl u a) w')
    (hF : putsL sl (fun i => (F.tmps[i]?).getD undef) a = F) (hR : R (fun i => (F.tmps[i]?).getD undef) w') : Met J F w' := Met.intro (hF ▸ hJ _ _ hR)
end Go.Proofs.Ytjpgignbjkgjiaa
end
