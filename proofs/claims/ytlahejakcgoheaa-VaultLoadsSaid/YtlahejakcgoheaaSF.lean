/-
  Small laws that several walks lean on.
-/
import Derived.Test.YtlahejakcgoheaaSC
import Derived.Test.YtlahejakcgoheaaLS
import Derived.Test.YtlahejakcgoheaaLW
set_option linter.unusedVariables false
set_option linter.unusedSimpArgs false
namespace Go.Proofs.Ytlahejakcgoheaa
open Go.RowKit
theorem playR_len {S : PV} (hg : Good S) (o : Op) : (playR S o).list.length ≤ 30 := by
  unfold playR
  repeat' (split; simp)
  all_goals try simp
  unfold listR
  split
  · simp
  · cases hf : S.find o.name with
    | none => simp
    | some c => simp only [entries_len]; exact (hg.ok.cs c (find_mem hf).1).rl
theorem wrap_u8 (b : UInt8) : IntKind.u8.wrap (((b.toNat : Nat) : Int) + 1) = (((b + 1).toNat : Nat) : Int) := by
  have h : b.toNat < 256 := UInt8.toNat_lt b
  rw [UInt8.toNat_add]
  have : IntKind.u8.wrap (((b.toNat : Nat) : Int) + 1) = (((b.toNat : Nat) : Int) + 1) % 256 := by rw [IntKind.wrap_u8]
  rw [this]
  show _ = (((b.toNat + 1) % 256 : Nat) : Int)
  omega
theorem OwnB.max {w : World} {B : Nat} {v : Value} {xs : List UInt8} (h : OwnB w B v xs) : xs.length ≤ maxLen := by
  rcases h with ⟨-, rfl⟩ | ⟨g, cap, cur, fz, -, -, -, hnc, hcm, -⟩
  · exact Nat.zero_le _
  · exact Nat.le_trans hnc hcm
theorem wideO_false {o : Op} (h : wideO o = false) : o.name.size ≤ 60 ∧ o.pass.size ≤ 60 ∧ o.label.size ≤ 60 ∧ o.other.size ≤ 60 ∧ o.text.size ≤ 2010 := by
  unfold wideO at h
  simp only [Bool.or_eq_false_iff, decide_eq_false_iff_not] at h
  omega
def tup (v : Value) (i : Nat) : Value := match v with | .tuple cs => cs.getD i undef | _ => undef
def cellsOf (v : Value) : Array Value := match v with | .agg cs => cs | _ => #[]
/-- Entries do not lie in a block of few cells. -/
theorem Ents.off {w w' : World} {X : Nat} {cs : Array Value} {T : TypeId} {fz : Nat × Nat} {a : Option Addr} {xs : List En} (h : Ents w a xs) (hX : w.heap[X]? = some (.cells cs T fz)) (hs : cs.size ≤ 5) (hk : ∀ k, k ≠ X → w'.heap[k]? = w.heap[k]?) : Ents w' a xs := by
  rcases h with h | ⟨b, o, h1, h2⟩
  · exact .inl h
  · refine .inr ⟨b, o, h1, fun i hi => ?_⟩
    have hc := h2 i hi
    have hb : b ≠ X := by
      rintro rfl
      have := hc.2.2.2.2.2
      simp only [World.cell?, hX, Option.isSome_none, Bool.false_eq_true, if_false] at this
      rw [Array.getElem?_eq_none (by omega)] at this
      cases this
    have e := fun j => cell_off hk (p := ⟨b, j, none⟩) hb
    obtain ⟨c0, c1, c2, c3, c4, c5⟩ := hc
    exact ⟨(e _).trans c0, (e _).trans c1, (e _).trans c2, (e _).trans c3, (e _).trans c4, (e _).trans c5⟩
theorem RvAt.off {w w' : World} {X : Nat} {S : PV} {a : Option Addr} {xs : List Lv} (h : RvAt w S a xs) (hX : NoU8 w X) (hk : ∀ k, k ≠ X → w'.heap[k]? = w.heap[k]?) : RvAt w' S a xs := ⟨h.lk.off hX hk, h.ok, h.ch, h.good⟩
theorem set4_off (w : World) (X : Nat) (v0 v1 v2 v3 : Value) : ∀ k, k ≠ X → ((((w.setCell ⟨X, 0, none⟩ v0).setCell ⟨X, 1, none⟩ v1).setCell ⟨X, 2, none⟩ v2).setCell ⟨X, 3, none⟩ v3).heap[k]? = w.heap[k]? := fun k q => (((heap_set_ne _ q).trans (heap_set_ne _ q)).trans (heap_set_ne _ q)).trans (heap_set_ne _ q)
theorem set4_blk {w : World} {X : Nat} {u0 u1 u2 u3 v0 v1 v2 v3 : Value} {T : TypeId} {fz : Nat × Nat} (h : w.heap[X]? = some (.cells #[u0, u1, u2, u3] T fz)) : ((((w.setCell ⟨X, 0, none⟩ v0).setCell ⟨X, 1, none⟩ v1).setCell ⟨X, 2, none⟩ v2).setCell ⟨X, 3, none⟩ v3).heap[X]? = some (.cells #[v0, v1, v2, v3] T fz) := by
  have := block_set (block_set (block_set (block_set h 0 v0) 1 v1) 2 v2) 3 v3
  simpa using this
theorem set4_ext {w0 w : World} (h : Ext w0 w) {X : Nat} (hX : w0.heap.size ≤ X) (v0 v1 v2 v3 : Value) : Ext w0 ((((w.setCell ⟨X, 0, none⟩ v0).setCell ⟨X, 1, none⟩ v1).setCell ⟨X, 2, none⟩ v2).setCell ⟨X, 3, none⟩ v3) :=
  (((h.set (p := ⟨X, 0, none⟩) hX _).set (p := ⟨X, 1, none⟩) hX _).set (p := ⟨X, 2, none⟩) hX _).set (p := ⟨X, 3, none⟩) hX _
end Go.Proofs.Ytlahejakcgoheaa
