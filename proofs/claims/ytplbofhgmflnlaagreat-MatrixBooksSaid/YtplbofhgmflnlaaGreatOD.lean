/-
  The arguments of this seat's laws, opened: rows of uint64, and what a slice's capacity is.
-/
import Derived.Test.YtplbofhgmflnlaaGreatOC2
set_option linter.unusedVariables false
set_option linter.unusedSimpArgs false
namespace Go.Proofs.YtplbofhgmflnlaaGreat
open Go.ChangeShapes Go.WideShapes Go.ChangeAt Go.RowKit Go.Deep Go.WideElems Go.Joins
section
variable {H : Type} {enc : TypeId × Value → H} {w : World} {spare : Nat → Bool} {held : Bool}
theorem slice_cap {t e : TypeId} {n : Nat} {a : Option Addr} {l c : Nat} {y : DataW H × List MemPlace} (ht : Tryz.prog.underlying t = some (.slice e)) (h : DataW.trod enc Tryz.prog w 0 spare held n t [.slice a l c] = some y) : l ≤ c := by
  rcases open_slice ht h with ⟨h1, _⟩ | ⟨a', len, cap, m, n', D, Pl, h1, _, hl, hm, _⟩
  · simp only [List.cons.injEq, Value.slice.injEq, and_true] at h1
    omega
  · simp only [List.cons.injEq, Value.slice.injEq, and_true] at h1
    omega
theorem open_u64s {n : Nat} {v : Value} {y : DataW H × List MemPlace} (h : DataW.trod enc Tryz.prog w 0 spare held n 27 [v] = some y) : ∃ a xs c, v = .slice a (List.length xs) c ∧ RowAt 1 (fun x : Int => [Value.int .u64 x]) w a xs ∧ xs.length ≤ maxLen := by
  obtain ⟨a, xs, c, h1, h2, -, h3⟩ := open_row1 (fun x : Int => [Value.int .u64 x]) (fun _ => rfl) 0 Tryz.underlying27 (by kernel_rfl) (fun _ => True) (fun u n y h => by
    obtain ⟨z, rfl, -⟩ := open_u Tryz.underlying40 h
    exact ⟨z, rfl, trivial⟩) h
  exact ⟨a, xs, c, h1, h2, h3⟩
end
end Go.Proofs.YtplbofhgmflnlaaGreat
