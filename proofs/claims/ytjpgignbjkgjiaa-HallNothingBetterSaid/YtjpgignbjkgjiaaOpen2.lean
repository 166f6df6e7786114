/-
  Plans that are given, opened; their lengths are within reach.
-/
import Derived.Test.YtjpgignbjkgjiaaOpen
import Derived.Test.YtjpgignbjkgjiaaR20
import Derived.SizedLaws
set_option linter.unusedVariables false
set_option linter.unusedSimpArgs false
namespace Go.Proofs.Ytjpgignbjkgjiaa
open Go.ChangeShapes Go.WideShapes Go.ChangeAt Go.RowKit Go.Deep Go.WideElems Go.Joins
theorem weights_in_all {H : Type} {P : Program} {e : TypeId} {d : DataW H} {n : Nat} (hn : n ∈ d.weights P e) : ∀ {l : List (DataW H)}, d ∈ l → n ∈ DataW.weightsAll P e l
  | [], h => by simp at h
  | x :: r, h => by
    simp only [DataW.weightsAll, List.mem_append]
    rw [List.mem_cons] at h
    rcases h with rfl | h
    · exact .inl hn
    · exact .inr (weights_in_all hn h)
theorem bytes3 : Try.prog.bytesOf 3 = 8 := by kernel_rfl
theorem cells22 : Try.prog.cellsOf 22 = 1 := by kernel_rfl
theorem lits_len (k : IntKind) {H : Type} (xs : List Int) : (lits (H := H) k xs).length = xs.length := by simp [lits]
theorem open_list2 {H : Type} {enc : TypeId × Value → H} {w : World} {spare : Nat → Bool} {held : Bool} {n : Nat} {v : Value} {y : DataW H × List MemPlace} (h : DataW.trod enc Try.prog w 0 spare held n 22 [v] = some y) :
    ∃ a xs c, v = .slice a xs.length c ∧ Ints w a xs ∧ ((∀ m ∈ y.1.weights Try.prog 22, m ≤ reachBytes) → xs.length * 8 ≤ 140737488351232) := by
  rcases open_ints Try.underlying22 Try.underlying3 (by kernel_rfl) h with ⟨h1, _⟩ | ⟨a, len, cap, zs, h1, _, hl, hm, hz, hx, hc, _⟩
  · simp only [List.cons.injEq, and_true] at h1
    exact ⟨none, [], 0, h1, .inl rfl, fun _ => by simp⟩
  · simp only [List.cons.injEq, and_true] at h1
    have hle : len ≤ zs.length := by rw [hz]; split <;> omega
    have hlen : (zs.take len).length = len := by rw [List.length_take]; omega
    refine ⟨some a, zs.take len, cap, by rw [hlen]; exact h1, ?_, fun hw => ?_⟩
    · rcases Nat.eq_zero_or_pos len with h0 | h0
      · exact .inl (List.length_eq_zero_iff.1 (by rw [hlen]; exact h0))
      · have hs := spot_none (hc 0 (by omega))
        refine .inr ⟨a.block, a.off, by rw [← hs], fun i hi => ?_⟩
        rw [hlen] at hi
        have := hc i (by omega)
        rw [hs, Addr.add_lit] at this
        rw [this]
        congr 2
        simp [nth, hi]
    · rw [hx] at hw
      have := hw ((lits (H := H) .i64 (zs.take len)).length * 8 + (lits (H := H) .i64 (zs.drop len)).length * 8) (by
        simp only [DataW.weights, Try.underlying22, bytes3]
        rw [← Nat.add_mul]
        exact List.mem_cons_self)
      rw [lits_len, lits_len] at this
      unfold reachBytes at this
      omega
theorem open_plans {H : Type} {enc : TypeId × Value → H} {w : World} {spare : Nat → Bool} {held : Bool} {n : Nat} {v : Value} {y : DataW H × List MemPlace} (h : DataW.trod enc Try.prog w 0 spare held n 62 [v] = some y) (hsz : ∀ m ∈ y.1.weights Try.prog 62, m ≤ reachBytes) :
    ∃ a P c, v = .slice a P.length c ∧ Pls w a P ∧ ∀ i, i < P.length → (lth P i).length * 8 ≤ 140737488351232 := by
  rcases open_slice Try.underlying62 h with ⟨h1, _⟩ | ⟨a, len, cap, m, n', D, Pl, h1, _, hl, hm, hmm, hx, hi⟩
  · simp only [List.cons.injEq, and_true] at h1
    exact ⟨none, [], 0, h1, .inl rfl, fun i hi => by simp at hi⟩
  · simp only [List.cons.injEq, and_true] at h1
    have hle : len ≤ m := by rw [hmm]; split <;> omega
    have key : ∀ i, ∃ t : Option Addr × List Int × Nat, i < len → w.cell? (a.add i) = some (.slice t.1 t.2.1.length t.2.2) ∧ Ints w t.1 t.2.1 ∧ t.2.1.length * 8 ≤ 140737488351232 := fun i => by
      by_cases hil : i < len
      · obtain ⟨cs', hc, ht⟩ := hi i (by omega)
        rw [cells22, Nat.mul_one] at hc
        obtain ⟨_, hcl, hat⟩ := World.cells?_some hc
        obtain ⟨u, rfl⟩ : ∃ u, cs' = [u] := by
          match cs', hcl with
          | [u], _ => exact ⟨u, rfl⟩
        obtain ⟨ia, xs, ic, rfl, hx1, hx2⟩ := open_list2 ht
        have h0 := hat 0 (by omega)
        rw [Go.Deep.add_add] at h0
        refine ⟨(ia, xs, ic), fun _ => ⟨by simpa using h0, hx1, hx2 fun k hk => hsz k ?_⟩⟩
        rw [hx]
        simp only [DataW.weights, Try.underlying62, List.mem_cons, List.mem_append]
        refine .inr (.inl (weights_in_all hk ?_))
        rw [List.mem_map]
        exact ⟨i, by simpa using hil, rfl⟩
      · exact ⟨(none, [], 0), fun e => absurd e hil⟩
    obtain ⟨f, hf⟩ := Classical.axiomOfChoice key
    have hlen : ((List.range len).map fun i => (f i).2.1).length = len := by simp
    have hlth : ∀ i, i < len → lth ((List.range len).map fun i => (f i).2.1) i = (f i).2.1 := fun i h => by simp [lth, h]
    refine ⟨some a, (List.range len).map fun i => (f i).2.1, cap, by rw [hlen]; exact h1, ?_, fun i hil => ?_⟩
    · rcases Nat.eq_zero_or_pos len with h0 | h0
      · exact .inl (List.length_eq_zero_iff.1 (by rw [hlen]; exact h0))
      · have hs := spot_none (hf 0 h0).1
        refine .inr ⟨a.block, a.off, by rw [← hs], fun i hil => ?_⟩
        rw [hlen] at hil
        obtain ⟨q1, q2, q3⟩ := hf i hil
        rw [hs, Addr.add_lit] at q1
        rw [hlth i hil]
        exact ⟨(f i).1, (f i).2.2, q1, q2⟩
    · rw [hlen] at hil
      rw [hlth i hil]
      exact (hf i hil).2.2
end Go.Proofs.Ytjpgignbjkgjiaa
