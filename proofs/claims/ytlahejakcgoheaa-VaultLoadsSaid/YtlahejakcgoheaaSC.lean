/-
  A vault and the reference's row beside each other.
-/
import Derived.Test.YtlahejakcgoheaaST
import Derived.Test.YtlahejakcgoheaaTB
set_option linter.unusedVariables false
set_option linter.unusedSimpArgs false
namespace Go.Proofs.Ytlahejakcgoheaa
open Go.RowKit
/-- A row's blocks are not among these. -/
def Off (F : List Nat) (al : Option Addr) (xs : List Lv) : Prop := (xs ≠ [] → ∀ ad, al = some ad → ad.block ∉ F) ∧ ∀ y ∈ xs, y.l.bo ≠ [] → ∀ ad, y.ba = some ad → ad.block ∉ F
theorem byts_blk {w : World} {a : Option Addr} {xs : List UInt8} (h : Byts w a xs) (hn : xs ≠ []) : ∃ ad, a = some ad ∧ ad.block < w.heap.size := by
  rcases h with h | ⟨b, o, h1, h2⟩
  · exact absurd h hn
  · exact ⟨_, h1, lt_of_cell (h2 0 (List.length_pos_iff.2 hn))⟩
theorem Byts.upd {w w' : World} {F : List Nat} {a : Option Addr} {xs : List UInt8} (h : Byts w a xs) (u : Upd F w w') (hF : xs ≠ [] → ∀ ad, a = some ad → ad.block ∉ F) : Byts w' a xs := by
  rcases h with h | ⟨b, o, h1, h2⟩
  · exact .inl h
  · refine .inr ⟨b, o, h1, fun i hi => ?_⟩
    have hc := h2 i hi
    have hn : xs ≠ [] := List.ne_nil_of_length_pos (by omega)
    have hb := u.block b (lt_of_cell hc) (hF hn _ h1)
    have : w'.cell? ⟨b, o + i, none⟩ = w.cell? ⟨b, o + i, none⟩ := by unfold World.cell?; rw [hb]
    rw [this]; exact hc
theorem Links.upd {w w' : World} {F : List Nat} {a : Option Addr} {xs : List Lv} (h : Links w a xs) (u : Upd F w w') (hF : Off F a xs) : Links w' a xs := by
  refine ⟨?_, fun i hi => (h.2 i hi).upd u fun hn ad hd => hF.2 (lth xs i) (by rw [lth_eq _ _ hi]; exact List.getElem_mem hi) hn ad hd⟩
  rcases h.1 with h | ⟨b, o, h1, h2⟩
  · exact .inl h
  · refine .inr ⟨b, o, h1, fun i hi => ?_⟩
    have hc := h2 i hi
    have hn : xs ≠ [] := List.ne_nil_of_length_pos (by omega)
    have hb := u.block b (lt_of_cell hc.1) (hF.1 hn _ h1)
    have e : ∀ j, w'.cell? ⟨b, j, none⟩ = w.cell? ⟨b, j, none⟩ := fun j => by unfold World.cell?; rw [hb]
    obtain ⟨c0, c1, c2, c3, c4, c5, c6, c7, c8, c9⟩ := hc
    exact ⟨(e _).trans c0, (e _).trans c1, (e _).trans c2, (e _).trans c3, (e _).trans c4, (e _).trans c5, (e _).trans c6, (e _).trans c7, (e _).trans c8, (e _).trans c9⟩
/-- The row's blocks are there. -/
theorem Links.blks {w : World} {a : Option Addr} {xs : List Lv} (h : Links w a xs) : (xs ≠ [] → ∀ ad, a = some ad → ad.block < w.heap.size) ∧ ∀ y ∈ xs, y.l.bo ≠ [] → ∀ ad, y.ba = some ad → ad.block < w.heap.size := by
  refine ⟨fun hn ad hd => ?_, fun y hy hn ad hd => ?_⟩
  · rcases h.1 with h | ⟨b, o, h1, h2⟩
    · exact absurd h hn
    · have := lt_of_cell (h2 0 (List.length_pos_iff.2 hn)).1
      rw [h1] at hd
      cases hd; exact this
  · obtain ⟨i, hi, rfl⟩ := List.getElem_of_mem hy
    have := h.2 i hi
    rw [lth_eq _ _ hi] at this
    obtain ⟨ad', h1, h2⟩ := byts_blk this hn
    rw [h1] at hd; cases hd; exact h2
theorem Off.more {w : World} {F F' : List Nat} {a : Option Addr} {xs : List Lv} (h : Off F a xs) (hl : Links w a xs) (hF : ∀ k ∈ F', k ∈ F ∨ w.heap.size ≤ k) : Off F' a xs := by
  obtain ⟨b1, b2⟩ := hl.blks
  refine ⟨fun hn ad hd q => ?_, fun y hy hn ad hd q => ?_⟩
  · rcases hF _ q with q | q
    · exact h.1 hn ad hd q
    · have := b1 hn ad hd; omega
  · rcases hF _ q with q | q
    · exact h.2 y hy hn ad hd q
    · have := b2 y hy hn ad hd; omega
theorem Off.grow {w : World} {F : List Nat} {al a : Option Addr} {xs ys : List Lv} (h : Off F al xs) (g : Grow w al xs a ys) (hF : ∀ k ∈ F, k < w.heap.size) : Off F a ys := by
  rcases g with ⟨rfl, rfl⟩ | ⟨g1, g2⟩
  · exact h
  · refine ⟨fun hn ad hd q => ?_, fun y hy hn ad hd q => ?_⟩
    · have := g1 ad hd; have := hF _ q; omega
    · rcases g2 y hy with q2 | q2
      · exact h.2 y q2 hn ad hd q
      · have := q2 ad hd; have := hF _ q; omega
/-- A vault in b with the state S, beside the reference's row of the state T and a block x4 of neither. -/
def PR (w0 w : World) (b : Nat) (S T : PV) (al : Option Addr) (xs : List Lv) (x4 : Nat) : Prop :=
  ∃ F A, VaultAt w b S F A ∧ RvAt w T al xs ∧ Off F al xs ∧ Ext w0 w ∧ (∀ k ∈ F, w0.heap.size ≤ k) ∧ (∀ k ∈ A, w0.heap.size ≤ k) ∧ w0.heap.size ≤ x4 ∧ x4 < w.heap.size ∧ x4 ∉ F ∧ x4 ∉ A
section
variable {w0 w : World} {b : Nat} {S T : PV} {al : Option Addr} {xs : List Lv} {x4 : Nat}
theorem PR.old (h : PR w0 w b S T al xs x4) : Ext w0 w := by obtain ⟨F, A, h1, h2, h3, h4, -⟩ := h; exact h4
theorem PR.ref (h : PR w0 w b S T al xs x4) : RvAt w T al xs := by obtain ⟨F, A, h1, h2, h3, h4, -⟩ := h; exact h2
theorem PR.fresh (h : PR w0 w b S T al xs x4) : FreshV w0 w b S := by obtain ⟨F, A, h1, h2, h3, h4, h5, h6, -⟩ := h; exact ⟨F, A, h1, h4, h5, h6⟩
theorem PR.ext {w' : World} (h : PR w0 w b S T al xs x4) (e : Ext w w') : PR w0 w' b S T al xs x4 := by
  obtain ⟨F, A, h1, h2, h3, h4, h5, h6, h7, h8, h9⟩ := h
  exact ⟨F, A, h1.ext e, h2.ext e, h3, h4.trans e, h5, h6, h7, Nat.lt_of_lt_of_le h8 e.size, h9⟩
/-- The vault is called. -/
theorem PR.play (h : PR w0 w b S T al xs x4) (hg : Good S) (o : Op) (ho : OpOk o) :
    Calls Try.prog 22 #[ptr b, opval o] w (fun e w' => ∃ a c, e = .returned (resval (playR S o) a c) ∧ PR w0 w' b (playS S o) T al xs x4 ∧ OwnE w' w.heap.size (.slice a (playR S o).list.length c) (playR S o).list ∧ w'.heap[x4]? = w.heap[x4]?) := by
  obtain ⟨F, A, h1, h2, h3, h4, h5, h6, h7, h8, h9, h10⟩ := h
  refine (play_any b S F A o w h1 hg ho).mono fun e w' hr => ?_
  obtain ⟨a, c, he, hl, F', A', g1, g2, g3, g4⟩ := hr
  have hs := h4.size
  refine ⟨a, c, he, ⟨F', A', g1, ⟨h2.lk.upd g2 h3, h2.ok, h2.ch, h2.good⟩, h3.more h2.lk g3, g2.fresh h4 h5, fun k q => ?_, fun k q => ?_, h7, Nat.lt_of_lt_of_le h8 g2.size, fun q => ?_, fun q => ?_⟩, hl, g2.block x4 h8 h9⟩
  · rcases g3 k q with q | q
    · exact h5 k q
    · omega
  · rcases g4 k q with q | q
    · exact h6 k q
    · omega
  · rcases g3 x4 q with q | q
    · exact h9 q
    · omega
  · rcases g4 x4 q with q | q
    · exact h10 q
    · omega
/-- The reference has moved. -/
theorem PR.moved {w' : World} {T' : PV} {a : Option Addr} {ys : List Lv} (h : PR w0 w b S T al xs x4) (e : Ext w w') (hr : RvAt w' T' a ys) (g : Grow w al xs a ys) : PR w0 w' b S T' a ys x4 := by
  obtain ⟨F, A, h1, h2, h3, h4, h5, h6, h7, h8, h9, h10⟩ := h
  exact ⟨F, A, h1.ext e, hr, h3.grow g h1.lt.1, h4.trans e, h5, h6, h7, Nat.lt_of_lt_of_le h8 e.size, h9, h10⟩
/-- The block of neither is written. -/
theorem PR.setX {w' : World} (h : PR w0 w b S T al xs x4) (hX : NoU8 w x4) (e : Ext w0 w') (hs : w.heap.size ≤ w'.heap.size) (hk : ∀ k, k ≠ x4 → w'.heap[k]? = w.heap[k]?) : PR w0 w' b S T al xs x4 := by
  obtain ⟨F, A, h1, h2, h3, h4, h5, h6, h7, h8, h9, h10⟩ := h
  exact ⟨F, A, h1.frame (fun k q => hk k fun z => h9 (z ▸ q)) (fun k q => hk k fun z => h10 (z ▸ q)) hs, ⟨h2.lk.off hX hk, h2.ok, h2.ch, h2.good⟩, h3, e, h5, h6, h7, by omega, h9, h10⟩
end
end Go.Proofs.Ytlahejakcgoheaa
