/-
  Two vaults beside each other; play at a vault that was made since a world; a vault's own chain loads to the same vault.
-/
import Derived.Test.YtlahejakcgoheaaSB
set_option linter.unusedVariables false
set_option linter.unusedSimpArgs false
namespace Go.Proofs.Ytlahejakcgoheaa
open Go.RowKit
theorem play_f {w0 w : World} {b : Nat} {S : PV} (h : FreshV w0 w b S) (hg : Good S) (o : Op) (ho : OpOk o) :
    Calls Try.prog 22 #[ptr b, opval o] w (fun e w' => ∃ a c, e = .returned (resval (playR S o) a c) ∧ FreshV w0 w' b (playS S o) ∧ OwnE w' w.heap.size (.slice a (playR S o).list.length c) (playR S o).list) := by
  obtain ⟨F, A, h1, h2, h3, h4⟩ := h
  refine (play_any b S F A o w h1 hg ho).mono fun e w' hr => ?_
  obtain ⟨a, c, he, hl, F', A', g1, g2, g3, g4⟩ := hr
  have hs := h2.size
  refine ⟨a, c, he, ⟨F', A', g1, g2.fresh h2 h3, fun k q => ?_, fun k q => ?_⟩, hl⟩
  · rcases g3 k q with q | q
    · exact h3 k q
    · omega
  · rcases g4 k q with q | q
    · exact h4 k q
    · omega
/-- Two vaults, made since w0; the second writes no block from B on. -/
def Two (w0 w : World) (b1 : Nat) (S1 : PV) (b2 : Nat) (S2 : PV) (B : Nat) : Prop :=
  ∃ F1 A1 F2 A2, VaultAt w b1 S1 F1 A1 ∧ VaultAt w b2 S2 F2 A2 ∧ (∀ k ∈ F1, k ∉ F2 ∧ k ∉ A2) ∧ (∀ k ∈ F2, k ∉ A1) ∧ Ext w0 w ∧
    (∀ k ∈ F1, w0.heap.size ≤ k) ∧ (∀ k ∈ A1, w0.heap.size ≤ k) ∧ (∀ k ∈ F2, w0.heap.size ≤ k ∧ k < B) ∧ (∀ k ∈ A2, w0.heap.size ≤ k)
theorem Two.old {w0 w : World} {b1 : Nat} {S1 : PV} {b2 : Nat} {S2 : PV} {B : Nat} (h : Two w0 w b1 S1 b2 S2 B) : Ext w0 w := by
  obtain ⟨F1, A1, F2, A2, h1, h2, h3, h4, h5, -⟩ := h; exact h5
theorem Two.fst {w0 w : World} {b1 : Nat} {S1 : PV} {b2 : Nat} {S2 : PV} {B : Nat} (h : Two w0 w b1 S1 b2 S2 B) : FreshV w0 w b1 S1 := by
  obtain ⟨F1, A1, F2, A2, h1, h2, h3, h4, h5, h6, h7, h8, h9⟩ := h; exact ⟨F1, A1, h1, h5, h6, h7⟩
theorem Two.snd {w0 w : World} {b1 : Nat} {S1 : PV} {b2 : Nat} {S2 : PV} {B : Nat} (h : Two w0 w b1 S1 b2 S2 B) : FreshV w0 w b2 S2 := by
  obtain ⟨F1, A1, F2, A2, h1, h2, h3, h4, h5, h6, h7, h8, h9⟩ := h; exact ⟨F2, A2, h2, h5, fun k q => (h8 k q).1, h9⟩
theorem Two.ext {w0 w w' : World} {b1 : Nat} {S1 : PV} {b2 : Nat} {S2 : PV} {B : Nat} (h : Two w0 w b1 S1 b2 S2 B) (e : Ext w w') : Two w0 w' b1 S1 b2 S2 B := by
  obtain ⟨F1, A1, F2, A2, h1, h2, h3, h4, h5, h6⟩ := h
  exact ⟨F1, A1, F2, A2, h1.ext e, h2.ext e, h3, h4, h5.trans e, h6⟩
theorem Two.cap {w0 w : World} {b1 : Nat} {S1 : PV} {b2 : Nat} {S2 : PV} {B : Nat} (h : Two w0 w b1 S1 b2 S2 B) : Two w0 w b1 S1 b2 S2 w.heap.size := by
  obtain ⟨F1, A1, F2, A2, h1, h2, h3, h4, h5, h6, h7, h8, h9⟩ := h
  exact ⟨F1, A1, F2, A2, h1, h2, h3, h4, h5, h6, h7, fun k q => ⟨(h8 k q).1, h2.lt.1 k q⟩, h9⟩
theorem Two.of {w0 w w' : World} {b1 : Nat} {S1 : PV} {b2 : Nat} {S2 : PV} (h : FreshV w0 w b1 S1) (k : FreshV w w' b2 S2) : Two w0 w' b1 S1 b2 S2 w'.heap.size := by
  obtain ⟨F1, A1, h1, h2, h3, h4⟩ := h
  obtain ⟨F2, A2, k1, k2, k3, k4⟩ := k
  have l := h1.lt
  have hs := h2.size
  refine ⟨F1, A1, F2, A2, h1.ext k2, k1, fun q hq => ⟨fun e => ?_, fun e => ?_⟩, fun q hq e => ?_, h2.trans k2, h3, h4, fun q hq => ⟨?_, k1.lt.1 q hq⟩, fun q hq => ?_⟩
  · have := l.1 q hq; have := k3 q e; omega
  · have := l.1 q hq; have := k4 q e; omega
  · have := k3 q hq; have := l.2 q e; omega
  · have := k3 q hq; omega
  · have := k4 q hq; omega
theorem play_two1 {w0 w : World} {b1 : Nat} {S1 : PV} {b2 : Nat} {S2 : PV} {B : Nat} (h : Two w0 w b1 S1 b2 S2 B) (hg : Good S1) (o : Op) (ho : OpOk o) :
    Calls Try.prog 22 #[ptr b1, opval o] w (fun e w' => ∃ a c, e = .returned (resval (playR S1 o) a c) ∧ Two w0 w' b1 (playS S1 o) b2 S2 w.heap.size ∧ OwnE w' w.heap.size (.slice a (playR S1 o).list.length c) (playR S1 o).list) := by
  obtain ⟨F1, A1, F2, A2, h1, h2, h3, h4, h5, h6, h7, h8, h9⟩ := h
  refine (play_any b1 S1 F1 A1 o w h1 hg ho).mono fun e w' hr => ?_
  obtain ⟨a, c, he, hl, F', A', g1, g2, g3, g4⟩ := hr
  have hs := h5.size
  have l2 := h2.lt
  have hF2 : ∀ k ∈ F2, k ∉ F1 := fun k q q2 => (h3 k q2).1 q
  have hA2 : ∀ k ∈ A2, k ∉ F1 := fun k q q2 => (h3 k q2).2 q
  refine ⟨a, c, he, ⟨F', A', F2, A2, g1, h2.frame (fun k q => g2.block k (l2.1 k q) (hF2 k q)) (fun k q => g2.block k (l2.2 k q) (hA2 k q)) g2.size, fun k q => ?_, fun k q q2 => ?_, g2.fresh h5 h6, fun k q => ?_, fun k q => ?_, fun k q => ⟨(h8 k q).1, l2.1 k q⟩, h9⟩, hl⟩
  · rcases g3 k q with q | q
    · exact h3 k q
    · exact ⟨fun e => by have := l2.1 k e; omega, fun e => by have := l2.2 k e; omega⟩
  · rcases g4 k q2 with q2 | q2
    · exact h4 k q q2
    · have := l2.1 k q; omega
  · rcases g3 k q with q | q
    · exact h6 k q
    · omega
  · rcases g4 k q with q | q
    · exact h7 k q
    · omega
theorem play_two2 {w0 w : World} {b1 : Nat} {S1 : PV} {b2 : Nat} {S2 : PV} {B : Nat} (h : Two w0 w b1 S1 b2 S2 B) (hg : Good S2) (o : Op) (ho : OpOk o) :
    Calls Try.prog 22 #[ptr b2, opval o] w (fun e w' => ∃ a c, e = .returned (resval (playR S2 o) a c) ∧ Two w0 w' b1 S1 b2 (playS S2 o) w'.heap.size ∧ OwnE w' w.heap.size (.slice a (playR S2 o).list.length c) (playR S2 o).list ∧ Kept B w w') := by
  obtain ⟨F1, A1, F2, A2, h1, h2, h3, h4, h5, h6, h7, h8, h9⟩ := h
  refine (play_any b2 S2 F2 A2 o w h2 hg ho).mono fun e w' hr => ?_
  obtain ⟨a, c, he, hl, F', A', g1, g2, g3, g4⟩ := hr
  have hs := h5.size
  have l1 := h1.lt
  have hF1 : ∀ k ∈ F1, k ∉ F2 := fun k q => (h3 k q).1
  have hA1 : ∀ k ∈ A1, k ∉ F2 := fun k q q2 => h4 k q2 q
  refine ⟨a, c, he, ⟨F1, A1, F', A', h1.frame (fun k q => g2.block k (l1.1 k q) (hF1 k q)) (fun k q => g2.block k (l1.2 k q) (hA1 k q)) g2.size, g1, fun k q => ⟨fun q2 => ?_, fun q2 => ?_⟩, fun k q q2 => ?_, g2.fresh h5 (fun k q => (h8 k q).1), h6, h7, fun k q => ⟨?_, g1.lt.1 k q⟩, fun k q => ?_⟩, hl, g2.kept fun k q => (h8 k q).2⟩
  · rcases g3 k q2 with q2 | q2
    · exact (h3 k q).1 q2
    · have := l1.1 k q; omega
  · rcases g4 k q2 with q2 | q2
    · exact (h3 k q).2 q2
    · have := l1.1 k q; omega
  · rcases g3 k q with q | q
    · exact h4 k q q2
    · have := l1.2 k q2; omega
  · rcases g3 k q with q | q
    · exact (h8 k q).1
    · omega
  · rcases g4 k q with q | q
    · exact h9 k q
    · omega
/-- Rows that were made since B stay, where a call keeps all from B on. -/
theorem Kept.own {B : Nat} {w w' : World} {e sz : Nat} {v : Value} {n : Nat} {xs : List Value} (k : Kept B w w') (h : w.ownsRow B e sz v n xs) : w'.ownsRow B e sz v n xs :=
  own_of_block h fun q hq => by
    have := h.lt q hq
    exact k.block q this.1 this.2
/-! ### a vault's own chain -/
theorem Good.puts {S : PV} (h : Good S) : putsP PV.new S.chain = some S := by
  induction h with
  | new => rfl
  | put hS hc hch ih => rw [putS_chain, putsP_app, ih]; simp [putsP, hc]
/-- The Chain of the last link, or what was before. -/
def lastB (b : Nat) : List Lk → Nat
  | [] => b
  | l :: ls => lastB l.ch ls
theorem lastB_7 : ∀ (ls : List Lk), lastB 7 ls = lastN ls := by
  have h : ∀ (ls : List Lk) (b : Nat), lastB b ls = match ls.getLast? with | none => b | some l => l.ch := by
    intro ls
    induction ls with
    | nil => intro b; rfl
    | cons x xs ih =>
      intro b
      rw [lastB, ih]
      cases xs with
      | nil => rfl
      | cons y ys =>
        rw [List.getLast?_cons_cons]
        obtain ⟨z, hz⟩ : ∃ z, (y :: ys).getLast? = some z := ⟨_, List.getLast?_eq_some_getLast (by simp)⟩
        rw [hz]
  intro ls
  rw [h]; rfl
theorem checkI_cons (b i : Nat) (x : Lk) (xs : List Lk) : checkI b i (x :: xs) = if chainN b x = x.ch then checkI x.ch (i + 1) xs else (i : Int) := by rw [checkI]
theorem checkI_app (xs : List Lk) (l : Lk) : ∀ (b i : Nat), checkI b i xs = -1 → chainN (lastB b xs) l = l.ch → checkI b i (xs ++ [l]) = -1 := by
  induction xs with
  | nil =>
    intro b i _ h
    have h' : chainN b l = l.ch := h
    rw [List.nil_append, checkI_cons, if_pos h', checkI]
  | cons x xs ih =>
    intro b i h0 h
    rw [List.cons_append, checkI_cons]
    rw [checkI_cons] at h0
    by_cases q : chainN b x = x.ch
    · rw [if_pos q] at h0 ⊢
      exact ih _ _ h0 h
    · rw [if_neg q] at h0
      omega
theorem Good.check {S : PV} (h : Good S) : checkI 7 0 S.chain = -1 := by
  induction h with
  | new => rfl
  | put hS hc hch ih =>
    rw [putS_chain]
    refine checkI_app _ _ _ _ ih ?_
    rw [lastB_7]
    exact hch.symm
theorem Good.load {S : PV} (h : Good S) : loadE S.chain = 0 ∧ loadS S.chain = S := by
  have h1 := h.inv.short
  have h2 := h.check
  have h3 := h.puts
  unfold loadE loadS
  rw [h3, if_neg (by omega), if_neg (by omega)]
  exact ⟨rfl, rfl⟩
/-- Calls, one after another. -/
def playsS (S : PV) (l : List Op) : PV := l.foldl playS S
theorem playsS_take (S : PV) (l : List Op) (k : Nat) (hk : k < l.length) : playsS S (l.take (k + 1)) = playS (playsS S (l.take k)) (oth l k) := by
  unfold playsS
  rw [List.take_succ_eq_append_getElem hk, List.foldl_append, oth_eq _ _ hk]; rfl
theorem Good.plays {S : PV} (h : Good S) (l : List Op) : Good (playsS S l) := by
  unfold playsS
  induction l generalizing S with
  | nil => exact h
  | cons o l ih => exact ih (h.play o)
end Go.Proofs.Ytlahejakcgoheaa
