/-
  Plain words of chapter 10 (hall), the fifth part: the best plan's lists. No program in sight.
-/
import Derived.Test.YtjpgignbjkgjiaaP4
namespace Go.Proofs.Ytjpgignbjkgjiaa
def leftS (ha : Hal) (l : List Camp) (now : Int) : List (List Int) := l.map fun c => startsS ha c now
def bestSt (ha : Hal) (l : List Camp) : St := placeS ha l l.length (leftS ha l 0) none
theorem leftS_len (ha : Hal) (l : List Camp) (now : Int) : (leftS ha l now).length = l.length := by simp [leftS]
theorem lth_leftS (ha : Hal) (l : List Camp) (now : Int) (i : Nat) (h : i < l.length) : lth (leftS ha l now) i = startsS ha (cth l i) now := by
  rw [lth_eq _ _ (by rw [leftS_len]; exact h), cth_eq _ _ h]; simp [leftS]
theorem startsTo_mem (ha : Hal) (c : Camp) (t0 : Int) : ∀ d y, y ∈ startsTo ha c t0 d ↔ t0 ≤ y ∧ y < t0 + d ∧ okAt ha c y = true
  | 0, y => by simp [startsTo]; omega
  | d + 1, y => by
    have ih := startsTo_mem ha c t0 d
    simp only [startsTo]
    split
    · rename_i h
      rw [List.mem_append, ih]
      simp only [List.mem_singleton]
      constructor
      · rintro (⟨h1, h2, h3⟩ | rfl)
        · exact ⟨h1, by omega, h3⟩
        · exact ⟨by omega, by omega, h⟩
      · rintro ⟨h1, h2, h3⟩
        by_cases e : y = t0 + d
        · exact .inr e
        · exact .inl ⟨h1, by omega, h3⟩
    · rename_i h
      rw [ih]
      constructor
      · rintro ⟨h1, h2, h3⟩; exact ⟨h1, by omega, h3⟩
      · rintro ⟨h1, h2, h3⟩
        refine ⟨h1, ?_, h3⟩
        by_cases e : y = t0 + d
        · subst e; exact absurd h3 h
        · omega
theorem starts0_ge (c : Camp) (now : Int) : c.ea + c.pr ≤ starts0 c now ∧ now + c.pr ≤ starts0 c now := by
  unfold starts0; split <;> omega
theorem startsS_bd {ha : Hal} {l : List Camp} (hv : VH ha l) {c : Camp} (hc : CB ha.st.length c) (now : Int) : (startsS ha c now).length ≤ 1000 ∧ ∀ y ∈ startsS ha c now, 0 ≤ y ∧ y ≤ 96 := by
  have h1 := starts0_ge c now
  have h2 := hc.ea0; have h3 := hc.pr0; have h4 := hc.la1; have h5 := hc.ho0; have h6 := hv.n2
  refine ⟨?_, fun y hy => ?_⟩
  · have := startsTo_len ha c (starts0 c now) (c.la - c.ho - starts0 c now + 1).toNat
    unfold startsS; omega
  · unfold startsS at hy
    rw [startsTo_mem] at hy
    omega
theorem leftS_bd {ha : Hal} {l : List Camp} (hv : VH ha l) (now : Int) : Bd (leftS ha l now) := by
  intro j hj
  rw [leftS_len] at hj
  rw [lth_leftS _ _ _ _ hj]
  have := startsS_bd hv (hv.cb j hj) now
  exact ⟨this.1, fun q hq => this.2 _ (nth_mem hq)⟩
end Go.Proofs.Ytjpgignbjkgjiaa
