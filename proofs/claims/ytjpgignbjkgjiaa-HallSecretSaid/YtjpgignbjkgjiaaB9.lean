/-
  A function's region by its number: so that the walk of one region can be a theorem of its own, over any frame with the few slots that it reads.
-/
import Derived.Test.YtjpgignbjkgjiaaB8
import Derived.Deep.DeepCutAuto
set_option linter.unusedVariables false
set_option linter.unusedSimpArgs false
namespace Go.Proofs.Ytjpgignbjkgjiaa
open Go Go.RowKit
def findReg (n : Nat) : Code → Option Code
  | .region m ops d => if m = n then some (.region m ops d) else none
  | .seq a b => match findReg n a with
    | some c => some c
    | none => findReg n b
  | .cond _ a b => match findReg n a with
    | some c => some c
    | none => findReg n b
  | .block _ c => findReg n c
  | .loop c => findReg n c
  | .scope c => findReg n c
  | _ => none
noncomputable def regOf (f : Func) (n : Nat) : Code := (f.body.bind (findReg n)).getD .skip
def findCond (n : Nat) : Code → Option Code
  | .seq a b => match findCond n a with
    | some c => some c
    | none => findCond n b
  | .cond (.tmp m) a b => if m = n then some (.cond (.tmp m) a b) else match findCond n a with
    | some c => some c
    | none => findCond n b
  | .block _ c => findCond n c
  | .loop c => findCond n c
  | .scope c => findCond n c
  | _ => none
noncomputable def condOf (f : Func) (n : Nat) : Code := (f.body.bind (findCond n)).getD .skip
def putsL (sl : List Nat) (u : Nat → Value) (a : Act) : Act := sl.foldl (fun a i => a.put (some i) (u i)) a
theorem put_self (a : Act) (i : Nat) : a.put (some i) (a.tmps[i]?.getD undef) = a := by
  obtain ⟨t, d⟩ := a
  simp only [Act.put, Act.mk.injEq, and_true]
  apply Array.ext_getElem?
  intro j
  rw [Array.getElem?_setIfInBounds]
  split
  · rename_i h
    subst h
    split
    · rename_i h2; simp [h2]
    · rename_i h2; simp [h2]
  · rfl
section
variable {P : Program} {Q : Exit → Act → World → Prop} {ops : Array Oper} {φ : Nat → Value → World → Prop} {J : (Nat → Bool) → (Nat → Value) → World → Prop} {a0 : Act} {w0 : World}
theorem wpOps_said3 (ht : topoB ops = true) (hd : dstB a0.tmps.size ops = true)
    (hstep : ∀ (i : Nat) (o : Oper), ops[i]? = some o → StepOK3 P Q ops φ J a0 i o)
    (hend : ∀ (vs : Nat → Value) (w : World) (ls : Nat → Bool), (∀ j, j < ops.size → ls j = true) → J ls vs w → (∀ (j : Nat) (o : Oper), ops[j]? = some o → o.dst ≠ none → φ j (vs j) w) → Q .normal (putAll ops.toList 0 vs a0) w) :
    ∀ (m i : Nat) (listed : Array Bool) (vs : Nat → Value) (a : Act) (w : World), i + m = ops.size → NInv ops φ J a0 listed vs a w → (∀ j, j < ops.size → listed.getD j false = decide (j < i)) → wpOps P ops Q (List.range' i m) a w
  | 0, i, listed, vs, a, w, him, h, hl => by
    have hall : ∀ j, j < ops.size → listed.getD j false = true := fun j hj => by rw [hl j hj]; simp; omega
    obtain ⟨e1, e2⟩ := h.fin hd hall
    show Q .normal a w
    rw [e1]
    exact hend vs w _ hall h.inv e2
  | m + 1, i, listed, vs, a, w, him, h, hl => by
    have r1 : i < ops.size := by omega
    have ho : ops[i]? = some ops[i] := Array.getElem?_eq_getElem r1
    have hil : i < listed.size := by rw [h.lsz]; exact r1
    have hif : listed.getD i false = false := by rw [hl i r1]; simp
    have r2 : listed.getD i true = false := by
      have : listed.getD i false = listed.getD i true := by simp [Array.getD_eq_getD_getElem?, hil]
      rw [← this]; exact hif
    have htop : ∀ j o, ops[j]? = some o → ∀ e ∈ o.after, Region.binds .any e = true → e.on < j := fun j o hj e he hb => by
      have hjs : j < ops.size := (Array.getElem?_eq_some_iff.1 hj).1
      unfold topoB at ht
      rw [List.all_eq_true] at ht
      have h1 := ht j (List.mem_range.2 hjs)
      rw [hj] at h1
      simp only [Option.map_some, Option.getD_some, Array.all_eq_true'] at h1
      have h2 := h1 e he
      simp only [hb, Bool.not_true, Bool.false_or, decide_eq_true_eq] at h2
      exact h2
    have r3 : ∀ o, ops[i]? = some o → ∀ e ∈ o.after, Region.binds .any e = true → listed.getD e.on false = true := fun o hj e he hb => by
      have h2 := htop i o hj e he hb
      rw [hl _ (by omega)]; simpa using h2
    have hi : i ∈ Region.ready .any ops listed := ready_iff.2 ⟨r1, r2, r3⟩
    have hnext : ∀ (listed' : Array Bool), listed' = listed.setIfInBounds i true → ∀ j, j < ops.size → listed'.getD j false = decide (j < i + 1) := fun listed' e j hj => by
      rw [e, getD_set' _ _ _ _ hil]
      by_cases hji : j = i
      · subst hji; simp
      · rw [if_neg hji, hl j hj]
        have : (j < i) ↔ (j < i + 1) := by omega
        simp [this]
    have key := hstep i _ ho (fun j => listed.getD j false) vs a w hif h.inv (fun t htB => ?_) (fun j d hj hjd => ?_) (wpOps P ops Q (List.range' (i + 1) m))
      (fun v w' hk hJ hv => wpOps_said3 ht hd hstep hend m (i + 1) _ _ _ _ (by omega) (h.step hd ho hi hk hJ hv) (hnext _ rfl))
    · simp only [List.range'_succ, wpOps, ho]
      split at key
      · rename_i hw; rw [if_pos hw]; exact .inl key
      · rename_i hw; rw [if_neg hw]; exact key
    · have := h.old t fun j o' hj hl2 e => by
        unfold oldB at htB
        rw [List.all_eq_true] at htB
        have hjs : j < ops.size := (Array.getElem?_eq_some_iff.1 hj).1
        have h1 := htB j (List.mem_range.2 hjs)
        simp only [hj, e, beq_self_eq_true, Bool.not_true, Bool.false_or] at h1
        rw [Array.any_eq_true'] at h1
        obtain ⟨e', he', hb⟩ := h1
        simp only [Bool.and_eq_true, beq_iff_eq] at hb
        have h3 := h.closed j o' hj hl2 e' he' hb.1
        rw [hb.2] at h3
        rw [hif] at h3; cases h3
      rw [this]
    · rw [Array.any_eq_true'] at hj
      obtain ⟨e', he', hb⟩ := hj
      simp only [Bool.and_eq_true, beq_iff_eq] at hb
      obtain ⟨hb1, rfl⟩ := hb
      have hl2 := r3 _ ho e' he' hb1
      refine ⟨hl2, ?_⟩
      cases ho' : ops[e'.on]? with
      | none => rw [ho'] at hjd; cases hjd
      | some o' =>
        rw [ho'] at hjd
        have := h.new e'.on o' d ho' hl2 hjd
        rwa [Array.getD_eq_getD_getElem?] at this
/-- THE LAW, for a region in its own order. -/
theorem wp_region_seq3 {id : Nat} (φ : Nat → Value → World → Prop) (J : (Nat → Bool) → (Nat → Value) → World → Prop) {l : List Oper} (ht : topoB l.toArray = true) (hd : dstB a0.tmps.size l.toArray = true)
    (h0 : J (fun _ => false) (fun _ => undef) w0)
    (hstep : StepsOK3 P Q l.toArray φ J a0 l 0)
    (hend : ∀ (vs : Nat → Value) (w : World) (ls : Nat → Bool), (∀ j, j < l.length → ls j = true) → J ls vs w → (∀ j : Nat, (((l.toArray)[j]?).bind (·.dst)).isSome = true → φ j (vs j) w) → Q .normal (putAll l 0 vs a0) w) : (Code.region id l.toArray false).wp P Q a0 w0 := by
  refine wp_region ?_
  rw [List.range_eq_range']
  refine wpOps_said3 (φ := φ) (J := J) (a0 := a0) ht hd (fun i o ho => ?_) (fun vs w ls hls hJ hφ => ?_) l.toArray.size 0 (Array.replicate l.toArray.size false) (fun _ => undef) a0 w0 (by omega) ⟨?_, by simp, rfl, rfl, fun j o hj hl => ?_, fun t _ => rfl, fun j o d hj hl => ?_⟩ (fun j hj => ?_)
  · have hs := steps_at3 l 0 hstep i o (by simpa using ho)
    rwa [Nat.zero_add] at hs
  · refine hend vs w ls (by simpa using hls) hJ fun j hj => ?_
    cases ho : l.toArray[j]? with
    | none => rw [ho] at hj; cases hj
    | some o =>
      refine hφ j o ho fun e => ?_
      rw [ho, Option.bind_some, e] at hj
      cases hj
  · have : (fun j => (Array.replicate l.toArray.size false).getD j false) = fun _ => false := by
      funext j
      simp only [Array.getD_eq_getD_getElem?, Array.getElem?_replicate]
      split <;> rfl
    rw [this]; exact h0
  · have hj' : j < l.toArray.size := (Array.getElem?_eq_some_iff.1 hj).1
    simp at hj'
    simp [hj'] at hl
  · have hj' : j < l.toArray.size := (Array.getElem?_eq_some_iff.1 hj).1
    simp at hj'
    simp [hj'] at hl
  · have hj' : j < l.length := by simpa using hj
    simp [hj']
end
/-- A cut that forgets 5 slots. -/
theorem wp_cut5 {P : Program} {s : Code} {K : Act → World → Prop} {Q' : Exit → Act → World → Prop} {a : Act} {w : World} (s1 s2 s3 s4 s5 : Nat) (R : Value → Value → Value → Value → Value → World → Prop)
    (rest : ∀ (v1 v2 v3 v4 v5 : Value) w', R v1 v2 v3 v4 v5 w' → K (((((a.put (some s1) v1).put (some s2) v2).put (some s3) v3).put (some s4) v4).put (some s5) v5) w')
    (first : ∀ (J K' : Act → World → Prop), (∀ (v1 v2 v3 v4 v5 : Value) w', R v1 v2 v3 v4 v5 w' → J (((((a.put (some s1) v1).put (some s2) v2).put (some s3) v3).put (some s4) v4).put (some s5) v5) w') → (∀ a' w', Met J a' w' → K' a' w') → s.wp P (Exit.then K' Q') a w) : s.wp P (Exit.then K Q') a w :=
  wp_cut (fun a' w' => ∃ v1 v2 v3 v4 v5 : Value, R v1 v2 v3 v4 v5 w' ∧ a' = (((((a.put (some s1) v1).put (some s2) v2).put (some s3) v3).put (some s4) v4).put (some s5) v5)) (fun a' w' h => by obtain ⟨v1, v2, v3, v4, v5, h1, rfl⟩ := h; exact rest v1 v2 v3 v4 v5 w' h1)
    (fun J K' hJ hK => first J K' (fun v1 v2 v3 v4 v5 w' h => hJ _ _ ⟨v1, v2, v3, v4, v5, h, rfl⟩) hK)
/-- A cut that forgets 9 slots. -/
theorem wp_cut9 {P : Program} {s : Code} {K : Act → World → Prop} {Q' : Exit → Act → World → Prop} {a : Act} {w : World} (s1 s2 s3 s4 s5 s6 s7 s8 s9 : Nat) (R : Value → Value → Value → Value → Value → Value → Value → Value → Value → World → Prop)
    (rest : ∀ (v1 v2 v3 v4 v5 v6 v7 v8 v9 : Value) w', R v1 v2 v3 v4 v5 v6 v7 v8 v9 w' → K (((((((((a.put (some s1) v1).put (some s2) v2).put (some s3) v3).put (some s4) v4).put (some s5) v5).put (some s6) v6).put (some s7) v7).put (some s8) v8).put (some s9) v9) w')
    (first : ∀ (J K' : Act → World → Prop), (∀ (v1 v2 v3 v4 v5 v6 v7 v8 v9 : Value) w', R v1 v2 v3 v4 v5 v6 v7 v8 v9 w' → J (((((((((a.put (some s1) v1).put (some s2) v2).put (some s3) v3).put (some s4) v4).put (some s5) v5).put (some s6) v6).put (some s7) v7).put (some s8) v8).put (some s9) v9) w') → (∀ a' w', Met J a' w' → K' a' w') → s.wp P (Exit.then K' Q') a w) : s.wp P (Exit.then K Q') a w :=
  wp_cut (fun a' w' => ∃ v1 v2 v3 v4 v5 v6 v7 v8 v9 : Value, R v1 v2 v3 v4 v5 v6 v7 v8 v9 w' ∧ a' = (((((((((a.put (some s1) v1).put (some s2) v2).put (some s3) v3).put (some s4) v4).put (some s5) v5).put (some s6) v6).put (some s7) v7).put (some s8) v8).put (some s9) v9)) (fun a' w' h => by obtain ⟨v1, v2, v3, v4, v5, v6, v7, v8, v9, h1, rfl⟩ := h; exact rest v1 v2 v3 v4 v5 v6 v7 v8 v9 w' h1)
    (fun J K' hJ hK => first J K' (fun v1 v2 v3 v4 v5 v6 v7 v8 v9 w' h => hJ _ _ ⟨v1, v2, v3, v4, v5, v6, v7, v8, v9, h, rfl⟩) hK)
end Go.Proofs.Ytjpgignbjkgjiaa
