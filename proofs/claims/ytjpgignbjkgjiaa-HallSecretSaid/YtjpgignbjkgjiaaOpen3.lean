/-
  Bytes and a guise, opened.
-/
import Derived.Test.YtjpgignbjkgjiaaOpen
import Derived.Test.YtjpgignbjkgjiaaB5
set_option linter.unusedVariables false
set_option linter.unusedSimpArgs false
namespace Go.Proofs.Ytjpgignbjkgjiaa
open Go.ChangeShapes Go.WideShapes Go.ChangeAt Go.RowKit Go.Deep Go.WideElems Go.Joins
section
variable {H : Type} {enc : TypeId × Value → H} {w : World} {spare : Nat → Bool} {held : Bool}
theorem open_bytes {n : Nat} {v : Value} {y : DataW H × List MemPlace} (h : DataW.trod enc Try.prog w 0 spare held n 41 [v] = some y) :
    ∃ a xs c, v = .slice a xs.length c ∧ Byts w a xs ∧ xs.length ≤ maxLen ∧ ∀ j, j < xs.length → 0 ≤ nth xs j ∧ nth xs j ≤ 255 := by
  rcases open_ints Try.underlying41 Try.underlying5 (by kernel_rfl) h with ⟨h1, _⟩ | ⟨a, len, cap, zs, h1, _, hl, hm, hz, _, hc, hw⟩
  · simp only [List.cons.injEq, and_true] at h1
    exact ⟨none, [], 0, h1, .inl rfl, Nat.zero_le _, fun j hj => by simp at hj⟩
  · simp only [List.cons.injEq, and_true] at h1
    have hle : len ≤ zs.length := by rw [hz]; split <;> omega
    have hlen : (zs.take len).length = len := by rw [List.length_take]; omega
    refine ⟨some a, zs.take len, cap, by rw [hlen]; exact h1, ?_, by rw [hlen]; omega, fun j hj => ?_⟩
    · rcases Nat.eq_zero_or_pos len with h0 | h0
      · exact .inl (List.length_eq_zero_iff.1 (by rw [hlen]; exact h0))
      · have hs := spot_none (hc 0 (by omega))
        refine .inr ⟨a.block, a.off, by rw [← hs], fun i hi => ?_⟩
        rw [hlen] at hi
        have := hc i (by omega)
        rw [hs, Addr.add_lit] at this
        rw [this]
        congr 2
        simp [nth, hi]
    · have hm : nth (zs.take len) j ∈ zs := by
        rw [nth_eq _ _ hj]
        exact List.mem_of_mem_take (List.getElem_mem hj)
      have := hw _ hm
      simp only [Lit.wf, Bool.and_eq_true, decide_eq_true_eq] at this
      exact this
set_option maxRecDepth 100000 in
theorem open_guise {b0 : Nat} {v : Value} {d : DataW H} {p : List MemPlace} (hv : Value.okWide Try.prog w .any b0 43 v) (h : DataW.Trod enc Try.prog w 0 spare held 43 v d p) :
    ∃ pa pl pc cu ga ch gc, v = .agg #[.slice pa (List.length pl) pc, .int .i64 cu, .slice ga (List.length ch) gc] ∧ Ints w pa pl ∧ Byts w ga ch ∧ ch.length ≤ maxLen ∧ ∀ j, j < ch.length → 0 ≤ nth ch j ∧ nth ch j ≤ 255 := by
  obtain ⟨c0, c1, c2, y0, y1, y2, n, rfl, _, _, h0', h1', h2'⟩ := open_agg3 Try.underlying43 (by kernel_rfl) (by kernel_rfl) hv h
  obtain ⟨pa, pl, pc, e0, i0, m0⟩ := open_list h0'
  obtain ⟨cu, e1, _, _⟩ := DataW.trod_int Try.underlying3 h1'
  obtain ⟨ga, ch, gc, e2, i2, m2, b2⟩ := open_bytes h2'
  simp only [List.cons.injEq, and_true] at e1
  exact ⟨pa, pl, pc, cu, ga, ch, gc, by rw [e0, e1, e2], i0, i2, m2, b2⟩
end
end Go.Proofs.Ytjpgignbjkgjiaa
