/-
  A region that draws its order and stores: a word about the world that each operation keeps, turns, or needs.
-/
import Derived.Test.YtjpgignbjkgjiaaB7
set_option linter.unusedVariables false
set_option linter.unusedSimpArgs false
namespace Go.Proofs.Ytjpgignbjkgjiaa
open Go Go.RowKit
structure NInv (ops : Array Oper) (φ : Nat → Value → World → Prop) (J : (Nat → Bool) → (Nat → Value) → World → Prop) (a0 : Act) (listed : Array Bool) (vs : Nat → Value) (a : Act) (w : World) : Prop where
  inv : J (fun j => listed.getD j false) vs w
  lsz : listed.size = ops.size
  size : a.tmps.size = a0.tmps.size
  defers : a.defers = a0.defers
  closed : ∀ j o, ops[j]? = some o → listed.getD j false = true → ∀ e ∈ o.after, Region.binds .any e = true → listed.getD e.on false = true
  old : ∀ t, (∀ j o, ops[j]? = some o → listed.getD j false = true → o.dst ≠ some t) → a.tmps[t]? = a0.tmps[t]?
  new : ∀ j o d, ops[j]? = some o → listed.getD j false = true → o.dst = some d → a.tmps.getD d undef = vs j ∧ φ j (vs j) w
/-- What is asked of one operation: 'ls' tells which are done. -/
def StepOK3 (P : Program) (Q : Exit → Act → World → Prop) (ops : Array Oper) (φ : Nat → Value → World → Prop) (J : (Nat → Bool) → (Nat → Value) → World → Prop) (a0 : Act) (i : Nat) (o : Oper) : Prop :=
  ∀ (ls : Nat → Bool) (vs : Nat → Value) (a : Act) (w : World), ls i = false → J ls vs w → (∀ t : Nat, oldB ops i t = true → a.tmps[t]?.getD undef = a0.tmps[t]?.getD undef) →
    (∀ (j : Nat) (d : Nat), (o.after.any fun e => Region.binds .any e && e.on == j) = true → (ops[j]?).bind (·.dst) = some d → ls j = true ∧ a.tmps[d]?.getD undef = vs j ∧ φ j (vs j) w) →
    ∀ K : Act → World → Prop, (∀ v w', (∀ j u, ls j = true → φ j u w → φ j u w') → J (fun j => if j = i then true else ls j) (fun j => if j = i then v else vs j) w' → φ i v w' → K (a.put o.dst v) w') → if Region.wanted o (yielded ops a.tmps) = true then Oper.wp P o a w K Q else K (a.put o.dst undef) w
def StepsOK3 (P : Program) (Q : Exit → Act → World → Prop) (ops : Array Oper) (φ : Nat → Value → World → Prop) (J : (Nat → Bool) → (Nat → Value) → World → Prop) (a0 : Act) : List Oper → Nat → Prop
  | [], _ => True
  | o :: os, i => StepOK3 P Q ops φ J a0 i o ∧ StepsOK3 P Q ops φ J a0 os (i + 1)
section
variable {P : Program} {Q : Exit → Act → World → Prop} {ops : Array Oper} {φ : Nat → Value → World → Prop} {J : (Nat → Bool) → (Nat → Value) → World → Prop} {a0 : Act} {w0 : World}
theorem steps_at3 : ∀ (os : List Oper) (k : Nat), StepsOK3 P Q ops φ J a0 os k → ∀ (i : Nat) (o : Oper), os[i]? = some o → StepOK3 P Q ops φ J a0 (k + i) o
  | [], _, _, i, o, h => by simp at h
  | o1 :: os, k, h, 0, o, ho => by
    simp only [List.getElem?_cons_zero, Option.some.injEq] at ho
    subst ho; exact h.1
  | o1 :: os, k, h, i + 1, o, ho => by
    simp only [List.getElem?_cons_succ] at ho
    have := steps_at3 os (k + 1) h.2 i o ho
    rwa [show k + 1 + i = k + (i + 1) by omega] at this
theorem NInv.step (hd : dstB a0.tmps.size ops = true) {listed : Array Bool} {vs : Nat → Value} {a : Act} {w : World} (h : NInv ops φ J a0 listed vs a w) {i : Nat} {o : Oper} (ho : ops[i]? = some o)
    (hi : i ∈ Region.ready .any ops listed) {v : Value} {w' : World} (hk : ∀ j u, listed.getD j false = true → φ j u w → φ j u w') (hJJ : J (fun j => if j = i then true else listed.getD j false) (fun j => if j = i then v else vs j) w') (hv : φ i v w') : NInv ops φ J a0 (listed.setIfInBounds i true) (fun j => if j = i then v else vs j) (a.put o.dst v) w' := by
  obtain ⟨r1, r2, r3⟩ := ready_iff.1 hi
  have hil : i < listed.size := by rw [h.lsz]; exact r1
  refine ⟨?_, by simp [h.lsz], by rw [put_size]; exact h.size, by rw [put_defers]; exact h.defers, fun j o' hj hl e he' hb => ?_, fun t ht => ?_, fun j o' d hj hl hjd => ?_⟩
  · have : (fun j => (listed.setIfInBounds i true).getD j false) = fun j => if j = i then true else listed.getD j false := by
      funext j; exact getD_set' _ _ _ _ hil
    rw [this]; exact hJJ
  · rw [getD_set' _ _ _ _ hil] at hl ⊢
    split
    · rfl
    · by_cases hji : j = i
      · subst hji
        exact r3 o' hj e he' hb
      · rw [if_neg hji] at hl
        exact h.closed j o' hj hl e he' hb
  · have h1 : o.dst ≠ some t := ht i o ho (by rw [getD_set' _ _ _ _ hil, if_pos rfl])
    rw [put_tmps_ne _ _ _ _ h1]
    refine h.old t fun j o' hj hl => ht j o' hj ?_
    rw [getD_set' _ _ _ _ hil]
    split
    · rfl
    · exact hl
  · by_cases hji : j = i
    · subst hji
      rw [ho] at hj
      obtain rfl : o = o' := by simpa using hj
      have hlt : d < a.tmps.size := by rw [h.size]; exact (dst_of _ hd ho hjd).1
      rw [hjd, Array.getD_eq_getD_getElem?, put_tmps_eq _ _ _ hlt]
      refine ⟨?_, ?_⟩
      · simp
      · simpa using hv
    · rw [getD_set' _ _ _ _ hil, if_neg hji] at hl
      have hne : o.dst ≠ some d := fun e => hji ((dst_of _ hd ho e).2 j o' hj hjd)
      rw [Array.getD_eq_getD_getElem?, put_tmps_ne _ _ _ _ hne, ← Array.getD_eq_getD_getElem?]
      have hn := h.new j o' d hj hl hjd
      simp only [if_neg hji]
      exact ⟨hn.1, hk _ _ hl hn.2⟩
theorem NInv.fin (hd : dstB a0.tmps.size ops = true) {listed : Array Bool} {vs : Nat → Value} {a : Act} {w : World} (h : NInv ops φ J a0 listed vs a w) (hall : ∀ j, j < ops.size → listed.getD j false = true) :
    a = putAll ops.toList 0 vs a0 ∧ ∀ (j : Nat) (o : Oper), ops[j]? = some o → o.dst ≠ none → φ j (vs j) w := by
  refine ⟨act_ext ?_ ?_, fun j o hj hn => ?_⟩
  · apply Array.ext_getElem?
    intro t
    by_cases hex : ∃ (j : Nat) (o : Oper), ops[j]? = some o ∧ o.dst = some t
    · obtain ⟨j, o, hj, hjd⟩ := hex
      have hdd := dst_of _ hd hj hjd
      have hjs : j < ops.size := (Array.getElem?_eq_some_iff.1 hj).1
      rw [putAll_at ops.toList 0 _ a0 j o t (by simpa using hj) hjd hdd.1 (fun k o' hk e => hdd.2 k o' (by simpa using hk) e)]
      have hn := (h.new j o t hj (hall j hjs) hjd).1
      have hlt : t < a.tmps.size := by rw [h.size]; exact hdd.1
      rw [Nat.zero_add, ← hn]
      simp [Array.getD_eq_getD_getElem?, hlt]
    · rw [putAll_ne ops.toList 0 _ a0 t (fun o ho e => hex ?_)]
      · exact h.old t fun j o hj _ e => hex ⟨j, o, hj, e⟩
      · obtain ⟨j, hj, rfl⟩ := List.getElem_of_mem ho
        exact ⟨j, _, by simp [hj], e⟩
  · rw [(putAll_size _ _ _ _).2]; exact h.defers
  · have hjs : j < ops.size := (Array.getElem?_eq_some_iff.1 hj).1
    cases hjd : o.dst with
    | none => exact absurd hjd hn
    | some d => exact (h.new j o d hj (hall j hjs) hjd).2
theorem wpAny_mono3 (ht : topoB ops = true) (hd : dstB a0.tmps.size ops = true)
    (hstep : ∀ (i : Nat) (o : Oper), ops[i]? = some o → StepOK3 P Q ops φ J a0 i o)
    (hend : ∀ (vs : Nat → Value) (w : World) (ls : Nat → Bool), (∀ j, j < ops.size → ls j = true) → J ls vs w → (∀ (j : Nat) (o : Oper), ops[j]? = some o → o.dst ≠ none → φ j (vs j) w) → Q .normal (putAll ops.toList 0 vs a0) w) :
    ∀ (fuel : Nat) (listed : Array Bool) (vs : Nat → Value) (a : Act) (w : World), NInv ops φ J a0 listed vs a w → howMany (fun i => !listed.getD i true) ops.size ≤ fuel → wpAny P .any ops Q fuel listed a w
  | fuel, listed, vs, a, w, h, hf => by
    have hfin : Region.ready .any ops listed = [] → Q .normal a w := fun hr => by
      have hall : ∀ j, j < ops.size → listed.getD j false = true := fun j hj => all_listed ht h.lsz hr (j + 1) j (by omega) hj
      obtain ⟨e1, e2⟩ := h.fin hd hall
      rw [e1]
      exact hend vs w _ hall h.inv e2
    match fuel, hf with
    | 0, hf =>
      have hr : Region.ready .any ops listed = [] := by
        cases hrr : Region.ready .any ops listed with
        | nil => rfl
        | cons i rs =>
          have hi : i ∈ Region.ready .any ops listed := by rw [hrr]; simp
          obtain ⟨r1, r2, r3⟩ := ready_iff.1 hi
          have := howMany_less (fun i => !listed.getD i true) i (by simp [r2]) ops.size r1
          omega
      exact ⟨hr, hfin hr⟩
    | fuel + 1, hf =>
      refine ⟨hfin, fun i hi => ?_⟩
      obtain ⟨r1, r2, r3⟩ := ready_iff.1 hi
      have ho : ops[i]? = some ops[i] := Array.getElem?_eq_getElem r1
      have hil : i < listed.size := by rw [h.lsz]; exact r1
      have hcount : howMany (fun j => !(listed.setIfInBounds i true).getD j true) ops.size ≤ fuel := by
        have h1 := howMany_less (fun i => !listed.getD i true) i (by simp [r2]) ops.size r1
        have h2 : (fun j => !(listed.setIfInBounds i true).getD j true) = fun j => (!listed.getD j true) && !(j == i) := by
          funext j
          rw [getD_set' _ _ _ _ hil]
          by_cases hji : j = i
          · simp [hji]
          · simp [hji]
        rw [h2]; omega
      refine wpOp_mono (K := fun a' w' => ∃ vs', NInv ops φ J a0 (listed.setIfInBounds i true) vs' a' w') (fun a' w' hI => let ⟨vs', hI⟩ := hI; wpAny_mono3 ht hd hstep hend fuel _ vs' a' w' hI hcount) ?_
      have hif : listed.getD i false = false := by
        have : listed.getD i false = listed.getD i true := by simp [Array.getD_eq_getD_getElem?, hil]
        rw [this]; exact r2
      refine wpOp_step ho fun K hK => hstep i _ ho (fun j => listed.getD j false) vs a w hif h.inv (fun t htB => ?_) (fun j d hj hjd => ?_) K (fun v w' hk hJ hv => hK _ _ ⟨_, h.step hd ho hi hk hJ hv⟩)
      · have := h.old t fun j o' hj hl e => by
          unfold oldB at htB
          rw [List.all_eq_true] at htB
          have hjs : j < ops.size := (Array.getElem?_eq_some_iff.1 hj).1
          have h1 := htB j (List.mem_range.2 hjs)
          simp only [hj, e, beq_self_eq_true, Bool.not_true, Bool.false_or] at h1
          rw [Array.any_eq_true'] at h1
          obtain ⟨e', he', hb⟩ := h1
          simp only [Bool.and_eq_true, beq_iff_eq] at hb
          have h3 := h.closed j o' hj hl e' he' hb.1
          rw [hb.2] at h3
          have h4 : listed.getD i true = true := by simp [Array.getD_eq_getD_getElem?, hil] at h3 ⊢; exact h3
          rw [h4] at r2; cases r2
        rw [this]
      · rw [Array.any_eq_true'] at hj
        obtain ⟨e', he', hb⟩ := hj
        simp only [Bool.and_eq_true, beq_iff_eq] at hb
        obtain ⟨hb1, rfl⟩ := hb
        have hl := r3 _ ho e' he' hb1
        refine ⟨hl, ?_⟩
        cases ho' : ops[e'.on]? with
        | none => rw [ho'] at hjd; cases hjd
        | some o' =>
          rw [ho'] at hjd
          have := h.new e'.on o' d ho' hl hjd
          rwa [Array.getD_eq_getD_getElem?] at this
/-- THE LAW. -/
theorem wp_region_said3 {id : Nat} (φ : Nat → Value → World → Prop) (J : (Nat → Bool) → (Nat → Value) → World → Prop) {l : List Oper} (hm : P.follows .mixedOrders = true) (ht : topoB l.toArray = true) (hd : dstB a0.tmps.size l.toArray = true)
    (h0 : J (fun _ => false) (fun _ => undef) w0.drew)
    (hstep : StepsOK3 P Q l.toArray φ J a0 l 0)
    (hend : ∀ (vs : Nat → Value) (w : World) (ls : Nat → Bool), (∀ j, j < l.length → ls j = true) → J ls vs w → (∀ j : Nat, (((l.toArray)[j]?).bind (·.dst)).isSome = true → φ j (vs j) w) → Q .normal (putAll l 0 vs a0) w) : (Code.region id l.toArray true).wp P Q a0 w0 := by
  refine wp_region_any hm (wpAny_mono3 (φ := φ) (J := J) (a0 := a0) ht hd (fun i o ho => ?_) (fun vs w ls hls hJ hφ => ?_) _ _ (fun _ => undef) _ _ ⟨?_, by simp, rfl, rfl, fun j o hj hl => ?_, fun t _ => rfl, fun j o d hj hl => ?_⟩ ?_)
  · have hs := steps_at3 l 0 hstep i o (by simpa using ho)
    rwa [Nat.zero_add] at hs
  · refine hend vs w ls (by simpa using hls) hJ fun j hj => ?_
    cases ho : l.toArray[j]? with
    | none => rw [ho] at hj; cases hj
    | some o =>
      refine hφ j o ho fun e => ?_
      rw [ho, Option.bind_some, e] at hj
      cases hj
  · have : (fun j => (Array.replicate l.toArray.size false).getD j false) = fun _ => false := by
      funext j
      simp only [Array.getD_eq_getD_getElem?, Array.getElem?_replicate]
      split <;> rfl
    rw [this]; exact h0
  · have hj' : j < l.toArray.size := (Array.getElem?_eq_some_iff.1 hj).1
    simp at hj'
    simp [hj'] at hl
  · have hj' : j < l.toArray.size := (Array.getElem?_eq_some_iff.1 hj).1
    simp at hj'
    simp [hj'] at hl
  · have : ∀ n (q : Nat → Bool), howMany q n ≤ n := fun n q => by
      induction n with
      | zero => exact Nat.le_refl _
      | succ n ih => simp only [howMany]; split <;> omega
    exact this _ _
end
end Go.Proofs.Ytjpgignbjkgjiaa
