/-
  MatrixSettings: every case together.
-/
import Derived.Test.YtplbofhgmflnlaaGreatST4
set_option linter.unusedVariables false
set_option linter.unusedSimpArgs false
namespace Go.Proofs.YtplbofhgmflnlaaGreat
open Go.RowKit
theorem settings_law (P : Pw) (a : Option Addr) (ls : List Int) (c : Nat) (w : World) (hp : PlanAt w P) (hgl : ∀ i, i < P.fo.length → (gth P.fo i).xs.length ≤ 9223372036854775807) (hl : Ints w a ls) (hn : ls.length ≤ 9223372036854775807) :
    Calls Tryz.prog 8 #[planV P, .slice a ls.length c] w (Ret (.bool true) w) := by
  by_cases h : wideP P.fs P.fo = true ∨ 10 < ls.length
  · exact st_wide P a ls.length c w hp hgl hn h
  · obtain ⟨h1, h2⟩ := not_or.1 h
    have h1 : wideP P.fs P.fo = false := by simpa using h1
    have h2 : ls.length ≤ 10 := by omega
    cases h0 : planBad P
    · rcases Nat.lt_or_ge 2000 (prodTo P.fs P.fs.length) with h3 | h3
      · exact st_long P a ls c w hp hl h2 h1 h0 h3
      · exact st_short P a ls c w hp hl h2 h1 h0 h3
    · exact st_bad P a ls c w hp hl h2 h1 h0
end Go.Proofs.YtplbofhgmflnlaaGreat
