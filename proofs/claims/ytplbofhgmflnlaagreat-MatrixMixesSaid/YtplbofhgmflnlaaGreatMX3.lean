/-
  Walk: the law MatrixMixes, joined.
-/
import Derived.Test.YtplbofhgmflnlaaGreatMX2
set_option linter.unusedVariables false
set_option linter.unusedSimpArgs false
namespace Go.Proofs.YtplbofhgmflnlaaGreat
open Go.RowKit
theorem mixes_any (P : Pw) (sd : Int) (w : World) (hp : PlanAt w P) (hgl : ∀ i, i < P.fo.length → (gth P.fo i).xs.length ≤ 9223372036854775807) :
    Calls Tryz.prog 4 #[planV P, .int .u64 sd] w (Ret (.bool true) w) := by
  cases h1 : wideP P.fs P.fo
  · have hb := planB_of h1
    cases hpb : planBad P
    · by_cases hpr : 2000 < prodTo P.fs P.fs.length
      · refine mx_err P sd w hp hb h1 5 (by omega) fun W e => (settings_ok P W (hp.ext e) hb hpb).mono ?_
        rintro e w' (⟨-, h⟩ | ⟨h, -⟩)
        · exact h
        · omega
      · have hst : ∀ W, Ext w W → Calls Tryz.prog 22 #[planV P] W (fun e w' => ∃ a vs c, e = .returned (.tuple #[.slice a (settingsS P).length c, .int .i64 0]) ∧ Ext W w' ∧ vs.length = (settingsS P).length ∧ MxL P vs ∧ Vecs w' a vs ∧ ∀ i, i < vs.length → Ints w' (vth vs i).a (vth vs i).xs) := fun W e => (settings_ok P W (hp.ext e) hb hpb).mono (by
          rintro e w' (⟨h, -⟩ | ⟨-, a, vs, c, rfl, he, ho, hr, hvs⟩)
          · omega
          · have hl : vs.length = (settingsS P).length := by rw [← hvs]; simp
            rw [hl] at ho ⊢
            exact ⟨a, vs, c, rfl, he, hl, mxL_of hpb hvs, RowAt.own vecC_len ho, fun i hi => (hr.own i hi).ints.1⟩)
        by_cases hn : 30 < (settingsS P).length
        · refine mx_long P sd w hp hb h1 _ hn fun W e => (hst W e).mono ?_
          rintro e w' ⟨a, vs, c, rfl, he, -⟩
          exact ⟨a, c, rfl, he⟩
        · exact mx_main P sd w hp hb h1 hpb _ (by omega) hst
    · exact mx_err P sd w hp hb h1 2 (by omega) fun W e => settings_err1 P W (hp.ext e) hb hpb
  · exact mx_wide P sd w hp hgl h1
end Go.Proofs.YtplbofhgmflnlaaGreat
