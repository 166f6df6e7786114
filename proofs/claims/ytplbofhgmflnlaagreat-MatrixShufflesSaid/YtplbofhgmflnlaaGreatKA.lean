/-
  The calls of the law's examples, each with what it answers: settings, a shuffle, a fraction.
-/
import Derived.Test.YtplbofhgmflnlaaGreatMZ
set_option linter.unusedVariables false
set_option linter.unusedSimpArgs false
namespace Go.Proofs.YtplbofhgmflnlaaGreat
open Go.RowKit
theorem RowAt.lit {α : Type} {sz : Nat} {f : α → List Value} (hf : ∀ x, (f x).length = sz) {w : World} {b : Nat} {cs : Array Value} {T : TypeId} {fz : Nat × Nat} {xs : List α} (h : w.heap[b]? = some (.cells cs T fz)) (hc : cs.toList = rowF f xs) : RowAt sz f w (some ⟨b, 0, none⟩) xs := by
  refine .inr ⟨b, 0, rfl, fun i hi j hj => ?_⟩
  have h1 := rowF_at hf xs i j hi hj
  rw [← hc, Array.getElem?_toList] at h1
  rw [Nat.zero_add, ← h1]
  simp [World.cell?, h]
/-- The plan of two factors, of which two levels do not go together. -/
def pk1 (n n1 n2 : Nat) : Pw := ⟨[⟨2, 0, false⟩, ⟨3, 0, false⟩], some ⟨n, 0, none⟩, 2, [⟨some ⟨n1, 0, none⟩, [⟨0, 1⟩, ⟨1, 2⟩], 2⟩], some ⟨n2, 0, none⟩, 1⟩
theorem pk1_bad (n n1 n2 : Nat) : planBad (pk1 n n1 n2) = false := by kernel_rfl
theorem pk1_set (n n1 n2 : Nat) : settingsS (pk1 n n1 n2) = [[0, 0], [0, 1], [0, 2], [1, 0], [1, 1]] := by kernel_rfl
theorem kSet (n n1 n2 : Nat) (w : World) (h : PlanAt w (pk1 n n1 n2)) : Calls Tryz.prog 22 #[.agg #[.slice (some ⟨n, 0, none⟩) 2 2, .slice (some ⟨n2, 0, none⟩) 1 1]] w (fun e w' => ∃ ga c gb cb, e = .returned (.tuple #[.slice (some ⟨ga, 0, none⟩) 5 c, .int .i64 0]) ∧ Ext w w' ∧
    (∀ W, Ext w' W → W.cell? ⟨ga, 4, none⟩ = some (.slice (some ⟨gb, 0, none⟩) 2 cb)) ∧ (∀ W, Ext w' W → W.cell? ⟨gb, 0, none⟩ = some (.int .i64 1)) ∧ (∀ W, Ext w' W → W.cell? ⟨gb, 1, none⟩ = some (.int .i64 1))) := by
  refine (settings_ok (pk1 n n1 n2) w h ⟨by simp [pk1], by simp [pk1], by simp [pk1, gth]⟩ (pk1_bad n n1 n2)).mono ?_
  rintro e w' (⟨h1, -⟩ | ⟨-, a, vs, c, rfl, he, hv, hr, hx⟩)
  · exact absurd h1 (by have : prodTo (pk1 n n1 n2).fs (pk1 n n1 n2).fs.length = 6 := rfl; rw [this]; omega)
  · rw [pk1_set] at hx
    have hl : vs.length = 5 := by have := congrArg List.length hx; simpa using this
    have h4 : (vth vs 4).xs = [1, 1] := by
      have := congrArg (fun l : List (List Int) => l[4]?) hx
      rw [vth_eq _ _ (by omega)]
      simpa [List.getElem?_map, List.getElem?_eq_getElem (show 4 < vs.length by omega)] using this
    obtain ⟨ga, rfl, -, -, hc⟩ := OwnF.cell vecC_len hv 4 (by omega)
    have ho := hr.own 4 (by omega)
    rw [h4] at ho
    obtain ⟨gb, hgb⟩ := own_addr ho (by simp)
    rw [hgb] at ho
    obtain ⟨hi, -, -⟩ := ho.ints
    obtain ⟨b', o', hb', hq⟩ := hi.at 0 (by simp)
    obtain ⟨b2, o2, hb2, hq2⟩ := hi.at 1 (by simp)
    simp only [Option.some.injEq, Addr.mk.injEq, and_true] at hb' hb2
    obtain ⟨rfl, rfl⟩ := hb'
    obtain ⟨rfl, rfl⟩ := hb2
    have h0 := hc 0 (by omega)
    rw [← vth_eq _ _ (by omega)] at h0
    simp only [vecC, h4, hgb] at h0
    rw [hl]
    exact ⟨ga, c, gb, _, rfl, he, fun W e => e.cell h0, hq, hq2⟩
theorem shuf02 : shufK 2 0 (rngI 2) = [1, 0] := by
  kernel_rfl
theorem kShuf (w : World) : Calls Tryz.prog 21 #[.int .u64 0, .int .i64 2] w (fun e w' => ∃ g c, e = .returned (.tuple #[.slice (some ⟨g, 0, none⟩) 2 c, .int .i64 0]) ∧ Ext w w' ∧
    (∀ W, Ext w' W → W.cell? ⟨g, 0, none⟩ = some (.int .i64 1)) ∧ (∀ W, Ext w' W → W.cell? ⟨g, 1, none⟩ = some (.int .i64 0))) := by
  refine (Shuffle_ok 0 2 w (by omega)).mono ?_
  rintro e w' ⟨g, c, rfl, he, ho⟩
  rw [shufL_rng, shuf02] at ho
  obtain ⟨hi, -, -⟩ := ho.ints
  obtain ⟨b', o', hb', hq⟩ := hi.at 0 (by simp)
  obtain ⟨b2, o2, hb2, hq2⟩ := hi.at 1 (by simp)
  simp only [Option.some.injEq, Addr.mk.injEq, and_true] at hb' hb2
  obtain ⟨rfl, rfl⟩ := hb'
  obtain ⟨rfl, rfl⟩ := hb2
  exact ⟨g, c, rfl, he, hq, hq2⟩
/-- The fraction of three factors with the word of all. -/
def fk (n : Nat) : Fr := ⟨3, [⟨7, false⟩], some ⟨n, 0, none⟩, 1⟩
theorem fk_ok (n : Nat) : checkF (fk n) = 0 := by kernel_rfl
theorem fk_b (n : Nat) : FrB (fk n) := ⟨fun i hi => by simp [fk] at hi; subst hi; simp [fk, wth], by simp [fk]⟩
theorem fk_clash : clashW [⟨7, false⟩] = false := by decide
theorem rel7 : RelOf [⟨7, false⟩] oneW [⟨7, false⟩] := by
  refine ⟨by simp, fun x => ?_⟩
  have : gens [⟨7, false⟩] = [oneW, ⟨7, false⟩] := rfl
  rw [this]
  constructor
  · intro h
    rw [List.mem_singleton] at h
    subst h
    exact ⟨⟨7, false⟩, by simp, by decide, by decide⟩
  · rintro ⟨y, hy, h0, rfl⟩
    simp only [List.mem_cons, List.mem_nil_iff, or_false] at hy
    rcases hy with rfl | rfl
    · exact absurd rfl h0
    · decide
theorem rel71 : RelOf [⟨7, false⟩] ⟨1, false⟩ [⟨6, false⟩] := by
  refine ⟨by simp, fun x => ?_⟩
  have : gens [⟨7, false⟩] = [oneW, ⟨7, false⟩] := rfl
  rw [this]
  constructor
  · intro h
    rw [List.mem_singleton] at h
    subst h
    exact ⟨⟨7, false⟩, by simp, by decide, by decide⟩
  · rintro ⟨y, hy, h0, rfl⟩
    simp only [List.mem_cons, List.mem_nil_iff, or_false] at hy
    rcases hy with rfl | rfl
    · exact absurd rfl h0
    · decide
theorem runs7 : runsTo [⟨7, false⟩] (2 ^ 3) = [0, 3, 5, 6] := by decide
theorem kRuns (n : Nat) (w : World) (h : FrAt w (fk n)) : Calls Tryz.prog 28 #[.agg #[.int .i64 3, .slice (some ⟨n, 0, none⟩) 1 1]] w (fun e w' => ∃ g c, e = .returned (.tuple #[.slice (some ⟨g, 0, none⟩) 4 c, .int .i64 0]) ∧ Ext w w' ∧
    (∀ W, Ext w' W → W.cell? ⟨g, 3, none⟩ = some (.int .u16 6))) := by
  refine (Runs_ok (fk n) 3 w h (fk_b n) (fk_ok n) rfl (by omega) (by simp [fk])).mono ?_
  rintro e w' ⟨a, c, rfl, he, ho⟩
  have hr : runsTo (fk n).ws (2 ^ 3) = [0, 3, 5, 6] := runs7
  rw [hr] at ho ⊢
  obtain ⟨g, rfl, -, -, hc⟩ := OwnF.cell u16C_len ho 3 (by simp)
  exact ⟨g, c, rfl, he, fun W e => e.cell (hc 0 (by omega))⟩
theorem kRes (n : Nat) (w : World) (h : FrAt w (fk n)) : Calls Tryz.prog 30 #[.agg #[.int .i64 3, .slice (some ⟨n, 0, none⟩) 1 1]] w (Ret (.tuple #[.int .i64 3, .int .i64 0]) w) := by
  refine (Resolution_ok (fk n) w h (fk_b n) (fk_ok n)).mono ?_
  rintro e w' ⟨he, ⟨h1, -⟩ | ⟨-, l, rfl, hl⟩⟩
  · exact absurd (show clashW [⟨7, false⟩] = true from h1) (by rw [fk_clash]; simp)
  · have := rel7.unique hl
    subst this
    exact ⟨rfl, he⟩
theorem kAli (n : Nat) (w : World) (h : FrAt w (fk n)) : Calls Tryz.prog 31 #[.agg #[.int .i64 3, .slice (some ⟨n, 0, none⟩) 1 1], .int .u16 1] w (fun e w' => ∃ g c, e = .returned (.tuple #[.slice (some ⟨g, 0, none⟩) 1 c, .int .i64 0]) ∧ Ext w w' ∧
    (∀ W, Ext w' W → W.cell? ⟨g, 0, none⟩ = some (.int .u16 6)) ∧ (∀ W, Ext w' W → W.cell? ⟨g, 1, none⟩ = some (.bool false))) := by
  refine (Aliases_ok (fk n) 1 3 w h (fk_b n) (fk_ok n) rfl (by omega)).mono ?_
  rintro e w' ⟨he, ⟨h1, -⟩ | ⟨-, a, c, l, rfl, hl, ho⟩⟩
  · exact absurd (show clashW [⟨7, false⟩] = true from h1) (by rw [fk_clash]; simp)
  · have := rel71.unique hl
    subst this
    obtain ⟨g, rfl, c0, c1⟩ := ownW_first ho
    exact ⟨g, c, rfl, he, c0, c1⟩
end Go.Proofs.YtplbofhgmflnlaaGreat
