/-
  Base words: appends to one's own bytes beside other bytes of one's own.
-/
import Derived.Test.YtlahejakcgoheaaRI
set_option linter.unusedVariables false
set_option linter.unusedSimpArgs false
namespace Go.Proofs.Ytlahejakcgoheaa
open Go.RowKit
/-- Two values have no block in common. -/
def disj (v u : Value) : Prop := ∀ k, v.ownBlock = some k → u.ownBlock ≠ some k
theorem disj.symm {v u : Value} (h : disj v u) : disj u v := fun k h1 h2 => h k h2 h1
theorem disj.made {w : World} {B B' : Nat} {v u : Value} {xs ys : List UInt8} (h : OwnB w B v xs) {w' : World} (h2 : OwnB w' B' u ys) (hb : w.heap.size ≤ B') : disj v u := fun k h3 h4 => by
  have := (h.lt k h3).2; have := (h2.lt k h4).1; omega
theorem app_beside (w : World) (B : Nat) (ty : TypeId) (v : Value) (xs ys : List UInt8) (a : Option Addr) (c : Nat) (hv : OwnB w B v xs) (hx : Byts w a ys) (hn : xs.length + ys.length ≤ 140737488355328) (hB : B ≤ w.heap.size) :
    ∃ v' w', (Builtin.append_ #[23, 23] ty #[v, .slice a ys.length c]).run Try.prog w = .ok v' w' ∧ OwnB w' B v' (xs ++ ys) ∧ (∀ w0, Ext w0 w → w0.heap.size ≤ B → Ext w0 w') ∧ ∀ u us, OwnB w B u us → disj v u → OwnB w' B u us ∧ disj v' u := by
  obtain ⟨v', w', r1, r2, r3, r4⟩ := app_bytes w B ty v xs ys a c hv hx hn hB
  refine ⟨v', w', r1, r2, fun w0 e hb => grown_ext e r3 fun k hk => by have := (hv.lt k hk).1; omega, fun u us hu hd => ⟨hu.of_block fun k hk => ?_, fun k h1 h2 => ?_⟩⟩
  · exact r3.block k (hu.lt k hk).2 fun e => hd k e.symm hk
  · rcases r4 with r4 | r4
    · exact hd k (r4 ▸ h1) h2
    · rw [r4] at h1
      have := (hu.lt k h2).2
      have := Option.some.inj h1
      omega
/-- What holds between the operations of a region that joins three rows of bytes: v2 (one byte), v6 and v11 (made by calls), v7 = v2 and v6, v12 = v7 and v11. -/
structure J95 (w0 : World) (xs nb vb : List UInt8) (w : World) (l2 l6 l7 l11 l12 : Bool) (v2 v6 v7 v11 v12 : Value) : Prop where
  x : Ext w0 w
  a2 : l2 = true → l7 = false → OwnB w w0.heap.size v2 xs
  a6 : l6 = true → l7 = false → OwnB w w0.heap.size v6 nb
  a7 : l7 = true → l12 = false → OwnB w w0.heap.size v7 (xs ++ nb)
  a11 : l11 = true → l12 = false → OwnB w w0.heap.size v11 vb
  d2 : l11 = true → l2 = true → l7 = false → disj v2 v11
  d7 : l11 = true → l7 = true → l12 = false → disj v7 v11
  a12 : l12 = true → OwnB w w0.heap.size v12 (xs ++ nb ++ vb)
  e7 : l7 = true → l2 = true ∧ l6 = true
  e12 : l12 = true → l7 = true ∧ l11 = true
section
variable {w0 w : World} {xs nb vb : List UInt8} {l2 l6 l7 l11 l12 : Bool} {v2 v6 v7 v11 v12 : Value}
theorem J95.start (h : Ext w0 w) : J95 w0 xs nb vb w false false false false false v2 v6 v7 v11 v12 :=
  ⟨h, fun e => (by cases e), fun e => (by cases e), fun e => (by cases e), fun e => (by cases e), fun e => (by cases e), fun e => (by cases e), fun e => (by cases e), fun e => (by cases e), fun e => (by cases e)⟩
theorem J95.ext {w' : World} (h : J95 w0 xs nb vb w l2 l6 l7 l11 l12 v2 v6 v7 v11 v12) (e : Ext w w') : J95 w0 xs nb vb w' l2 l6 l7 l11 l12 v2 v6 v7 v11 v12 :=
  ⟨h.x.trans e, fun p q => (h.a2 p q).ext e, fun p q => (h.a6 p q).ext e, fun p q => (h.a7 p q).ext e, fun p q => (h.a11 p q).ext e, h.d2, h.d7, fun p => (h.a12 p).ext e, h.e7, h.e12⟩
/-- The one byte is made. -/
theorem J95.put2 {w' : World} {v : Value} (h : J95 w0 xs nb vb w false l6 l7 l11 l12 v2 v6 v7 v11 v12) (e : Ext w w') (ho : OwnB w' w.heap.size v xs) : J95 w0 xs nb vb w' true l6 l7 l11 l12 v v6 v7 v11 v12 := by
  have h7 : l7 = false := by cases l7 with | false => rfl | true => have := (h.e7 rfl).1; cases this
  subst h7
  have h12 : l12 = false := by cases l12 with | false => rfl | true => have := (h.e12 rfl).1; cases this
  subst h12
  exact ⟨h.x.trans e, fun _ _ => ho.mono h.x.size, fun p q => (h.a6 p q).ext e, fun p => (by cases p), fun p q => (h.a11 p q).ext e, fun p _ _ => (disj.made (h.a11 p rfl) ho (Nat.le_refl _)).symm, fun _ p => (by cases p), fun p => (by cases p), fun p => (by cases p), fun p => (by cases p)⟩
/-- The first call's bytes are made. -/
theorem J95.put6 {w' : World} {v : Value} (h : J95 w0 xs nb vb w l2 false l7 l11 l12 v2 v6 v7 v11 v12) (e : Ext w w') (ho : OwnB w' w.heap.size v nb) : J95 w0 xs nb vb w' l2 true l7 l11 l12 v2 v v7 v11 v12 := by
  have h7 : l7 = false := by cases l7 with | false => rfl | true => have := (h.e7 rfl).2; cases this
  subst h7
  have h12 : l12 = false := by cases l12 with | false => rfl | true => have := (h.e12 rfl).1; cases this
  subst h12
  exact ⟨h.x.trans e, fun p q => (h.a2 p q).ext e, fun _ _ => ho.mono h.x.size, fun p => (by cases p), fun p q => (h.a11 p q).ext e, h.d2, fun _ p => (by cases p), fun p => (by cases p), fun p => (by cases p), fun p => (by cases p)⟩
/-- The second call's bytes are made. -/
theorem J95.put11 {w' : World} {v : Value} (h : J95 w0 xs nb vb w l2 l6 l7 false l12 v2 v6 v7 v11 v12) (e : Ext w w') (ho : OwnB w' w.heap.size v vb) : J95 w0 xs nb vb w' l2 l6 l7 true l12 v2 v6 v7 v v12 := by
  have h12 : l12 = false := by cases l12 with | false => rfl | true => have := (h.e12 rfl).2; cases this
  subst h12
  exact ⟨h.x.trans e, fun p q => (h.a2 p q).ext e, fun p q => (h.a6 p q).ext e, fun p q => (h.a7 p q).ext e, fun _ _ => ho.mono h.x.size, fun _ p q => disj.made (h.a2 p q) ho (Nat.le_refl _), fun _ p q => disj.made (h.a7 p q) ho (Nat.le_refl _), fun p => (by cases p), h.e7, fun p => (by cases p)⟩
/-- The first append. -/
theorem J95.app7 (h : J95 w0 xs nb vb w true true false l11 l12 v2 v6 v7 v11 v12) (hn : xs.length + nb.length ≤ 140737488355328) : ∃ v' w', (Builtin.append_ #[23, 23] 23 #[v2, v6]).run Try.prog w = .ok v' w' ∧ J95 w0 xs nb vb w' true true true l11 l12 v2 v6 v' v11 v12 := by
  have h12 : l12 = false := by cases l12 with | false => rfl | true => have := (h.e12 rfl).1; cases this
  subst h12
  have h6 := h.a6 rfl rfl
  obtain ⟨a, c, rfl⟩ := h6.slice
  obtain ⟨v', w', r1, r2, r3, r4⟩ := app_beside w w0.heap.size 23 v2 xs nb a c (h.a2 rfl rfl) h6.byts.1 hn h.x.size
  exact ⟨v', w', r1, r3 _ h.x (Nat.le_refl _), fun _ p => (by cases p), fun _ p => (by cases p), fun _ _ => r2, fun p _ => (r4 _ _ (h.a11 p rfl) (h.d2 p rfl rfl)).1, fun _ _ p => (by cases p), fun p _ _ => (r4 _ _ (h.a11 p rfl) (h.d2 p rfl rfl)).2, fun p => (by cases p), fun _ => ⟨rfl, rfl⟩, fun p => (by cases p)⟩
/-- The second append. -/
theorem J95.app12 (h : J95 w0 xs nb vb w l2 l6 true true false v2 v6 v7 v11 v12) (hn : xs.length + nb.length + vb.length ≤ 140737488355328) : ∃ v' w', (Builtin.append_ #[23, 23] 23 #[v7, v11]).run Try.prog w = .ok v' w' ∧ J95 w0 xs nb vb w' l2 l6 true true true v2 v6 v7 v11 v' := by
  have h11 := h.a11 rfl rfl
  obtain ⟨a, c, rfl⟩ := h11.slice
  obtain ⟨v', w', r1, r2, r3, r4⟩ := app_beside w w0.heap.size 23 v7 (xs ++ nb) vb a c (h.a7 rfl rfl) h11.byts.1 (by rw [List.length_append]; exact hn) h.x.size
  exact ⟨v', w', r1, r3 _ h.x (Nat.le_refl _), fun _ p => (by cases p), fun _ p => (by cases p), fun _ p => (by cases p), fun _ p => (by cases p), fun _ _ p => (by cases p), fun _ _ p => (by cases p), fun _ => r2, h.e7, fun _ => ⟨rfl, rfl⟩⟩
end
theorem own_lit1 (w : World) (z : UInt8) : OwnB (w.alloc (.cells #[.int .u8 ((z.toNat : Nat) : Int)] 5)) w.heap.size (.slice (some ⟨w.heap.size, 0, none⟩) 1 1) [z] :=
  .inr ⟨w.heap.size, 1, #[.int .u8 ((z.toNat : Nat) : Int)], (0, 0), rfl, Nat.le_refl _, heap_new _ _, by simp, by simp [maxLen], by simp, rfl, .inl rfl⟩
end Go.Proofs.Ytlahejakcgoheaa
