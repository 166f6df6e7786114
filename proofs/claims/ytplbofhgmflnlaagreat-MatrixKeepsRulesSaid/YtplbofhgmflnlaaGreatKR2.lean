/-
  Walk: the law MatrixKeepsRules, joined.
-/
import Derived.Test.YtplbofhgmflnlaaGreatKR
set_option linter.unusedVariables false
set_option linter.unusedSimpArgs false
namespace Go.Proofs.YtplbofhgmflnlaaGreat
open Go.RowKit
theorem rules_any (P : Pw) (a : Option Addr) (ss : List Se) (sc : Nat) (sd : Int) (w : World) (hp : PlanAt w P) (hgl : ∀ i, i < P.fo.length → (gth P.fo i).xs.length ≤ 9223372036854775807) (hs : SetsAt w a ss) (hn : ss.length ≤ 9223372036854775807) (hl : ∀ i, i < ss.length → (eth ss i).lv.xs.length ≤ 9223372036854775807) (hsd : 0 ≤ sd ∧ sd < 18446744073709551616) :
    Calls Tryz.prog 10 #[planV P, .slice a ss.length sc, .int .u64 sd] w (Ret (.bool true) w) := by
  cases h1 : wideP P.fs P.fo
  · cases h2 : wideS ss
    · have hb := planB_of h1
      by_cases h0 : checkE P ss = 0
      · exact kr_main P a ss sc sd w hp hb hs (checkE_ok h0).2.1 hl h1 h2 h0 hsd
      · exact kr_err P a ss sc sd w hp hb hs hn hl h1 h2 h0
    · exact kr_wide P a ss sc sd w hp hgl hs hl (.inr h2)
  · exact kr_wide P a ss sc sd w hp hgl hs hl (.inl h1)
end Go.Proofs.YtplbofhgmflnlaaGreat
