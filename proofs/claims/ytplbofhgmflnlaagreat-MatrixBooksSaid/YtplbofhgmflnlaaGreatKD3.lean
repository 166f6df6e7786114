/-
  Texts merged: KA, KB, KC.
-/
import Derived.Test.YtplbofhgmflnlaaGreatMO5
section
/-
  The calls of the law's examples, each with what it answers: settings, a shuffle, a fraction.
-/
set_option linter.unusedVariables false
set_option linter.unusedSimpArgs false
namespace Go.Proofs.YtplbofhgmflnlaaGreat
open Go.RowKit
theorem RowAt.lit {α : Type} {sz : Nat} {f : α → List Value} (hf : ∀ x, (f x).length = sz) {w : World} {b : Nat} {cs : Array Value} {T : TypeId} {fz : Nat × Nat} {xs : List α} (h : w.heap[b]? = some (.cells cs T fz)) (hc : cs.toList = rowF f xs) : RowAt sz f w (some ⟨b, 0, none⟩) xs := by
  refine .inr ⟨b, 0, rfl, fun i hi j hj => ?_⟩
  have h1 := rowF_at hf xs i j hi hj
  rw [← hc, Array.getElem?_toList] at h1
  rw [Nat.zero_add, ← h1]
  simp [World.cell?, h]
/-- The plan of two factors, of which two levels do not go together. -/
def pk1 (n n1 n2 : Nat) : Pw := ⟨[⟨2, 0, false⟩, ⟨3, 0, false⟩], some ⟨n, 0, none⟩, 2, [⟨some ⟨n1, 0, none⟩, [⟨0, 1⟩, ⟨1, 2⟩], 2⟩], some ⟨n2, 0, none⟩, 1⟩
theorem pk1_bad (n n1 n2 : Nat) : planBad (pk1 n n1 n2) = false := by kernel_rfl
theorem pk1_set (n n1 n2 : Nat) : settingsS (pk1 n n1 n2) = [[0, 0], [0, 1], [0, 2], [1, 0], [1, 1]] := by kernel_rfl
theorem kSet (n n1 n2 : Nat) (w : World) (h : PlanAt w (pk1 n n1 n2)) : Calls Tryz.prog 22 #[.agg #[.slice (some ⟨n, 0, none⟩) 2 2, .slice (some ⟨n2, 0, none⟩) 1 1]] w (fun e w' => ∃ ga c gb cb, e = .returned (.tuple #[.slice (some ⟨ga, 0, none⟩) 5 c, .int .i64 0]) ∧ Ext w w' ∧
    (∀ W, Ext w' W → W.cell? ⟨ga, 4, none⟩ = some (.slice (some ⟨gb, 0, none⟩) 2 cb)) ∧ (∀ W, Ext w' W → W.cell? ⟨gb, 0, none⟩ = some (.int .i64 1)) ∧ (∀ W, Ext w' W → W.cell? ⟨gb, 1, none⟩ = some (.int .i64 1))) := by
  refine (settings_ok (pk1 n n1 n2) w h ⟨by simp [pk1], by simp [pk1], by simp [pk1, gth]⟩ (pk1_bad n n1 n2)).mono ?_
  rintro e w' (⟨h1, -⟩ | ⟨-, a, vs, c, rfl, he, hv, hr, hx⟩)
  · exact absurd h1 (by have : prodTo (pk1 n n1 n2).fs (pk1 n n1 n2).fs.length = 6 := rfl; rw [this]; omega)
  · rw [pk1_set] at hx
    have hl : vs.length = 5 := by have := congrArg List.length hx; simpa using this
    have h4 : (vth vs 4).xs = [1, 1] := by
      have := congrArg (fun l : List (List Int) => l[4]?) hx
      rw [vth_eq _ _ (by omega)]
      simpa [List.getElem?_map, List.getElem?_eq_getElem (show 4 < vs.length by omega)] using this
    obtain ⟨ga, rfl, -, -, hc⟩ := OwnF.cell vecC_len hv 4 (by omega)
    have ho := hr.own 4 (by omega)
    rw [h4] at ho
    obtain ⟨gb, hgb⟩ := own_addr ho (by simp)
    rw [hgb] at ho
    obtain ⟨hi, -, -⟩ := ho.ints
    obtain ⟨b', o', hb', hq⟩ := hi.at 0 (by simp)
    obtain ⟨b2, o2, hb2, hq2⟩ := hi.at 1 (by simp)
    simp only [Option.some.injEq, Addr.mk.injEq, and_true] at hb' hb2
    obtain ⟨rfl, rfl⟩ := hb'
    obtain ⟨rfl, rfl⟩ := hb2
    have h0 := hc 0 (by omega)
    rw [← vth_eq _ _ (by omega)] at h0
    simp only [vecC, h4, hgb] at h0
    rw [hl]
    exact ⟨ga, c, gb, _, rfl, he, fun W e => e.cell h0, hq, hq2⟩
theorem shuf02 : shufK 2 0 (rngI 2) = [1, 0] := by
  kernel_rfl
theorem kShuf (w : World) : Calls Tryz.prog 21 #[.int .u64 0, .int .i64 2] w (fun e w' => ∃ g c, e = .returned (.tuple #[.slice (some ⟨g, 0, none⟩) 2 c, .int .i64 0]) ∧ Ext w w' ∧
    (∀ W, Ext w' W → W.cell? ⟨g, 0, none⟩ = some (.int .i64 1)) ∧ (∀ W, Ext w' W → W.cell? ⟨g, 1, none⟩ = some (.int .i64 0))) := by
  refine (Shuffle_ok 0 2 w (by omega)).mono ?_
  rintro e w' ⟨g, c, rfl, he, ho⟩
  rw [shufL_rng, shuf02] at ho
  obtain ⟨hi, -, -⟩ := ho.ints
  obtain ⟨b', o', hb', hq⟩ := hi.at 0 (by simp)
  obtain ⟨b2, o2, hb2, hq2⟩ := hi.at 1 (by simp)
  simp only [Option.some.injEq, Addr.mk.injEq, and_true] at hb' hb2
  obtain ⟨rfl, rfl⟩ := hb'
  obtain ⟨rfl, rfl⟩ := hb2
  exact ⟨g, c, rfl, he, hq, hq2⟩
/-- The fraction of three factors with the word of all. -/
def fk (n : Nat) : Fr := ⟨3, [⟨7, false⟩], some ⟨n, 0, none⟩, 1⟩
theorem fk_ok (n : Nat) : checkF (fk n) = 0 := by kernel_rfl
theorem fk_b (n : Nat) : FrB (fk n) := ⟨fun i hi => by simp [fk] at hi; subst hi; simp [fk, wth], by simp [fk]⟩
theorem fk_clash : clashW [⟨7, false⟩] = false := by decide
theorem rel7 : RelOf [⟨7, false⟩] oneW [⟨7, false⟩] := by
  refine ⟨by simp, fun x => ?_⟩
  have : gens [⟨7, false⟩] = [oneW, ⟨7, false⟩] := rfl
  rw [this]
  constructor
  · intro h
    rw [List.mem_singleton] at h
    subst h
    exact ⟨⟨7, false⟩, by simp, by decide, by decide⟩
  · rintro ⟨y, hy, h0, rfl⟩
    simp only [List.mem_cons, List.mem_nil_iff, or_false] at hy
    rcases hy with rfl | rfl
    · exact absurd rfl h0
    · decide
theorem rel71 : RelOf [⟨7, false⟩] ⟨1, false⟩ [⟨6, false⟩] := by
  refine ⟨by simp, fun x => ?_⟩
  have : gens [⟨7, false⟩] = [oneW, ⟨7, false⟩] := rfl
  rw [this]
  constructor
  · intro h
    rw [List.mem_singleton] at h
    subst h
    exact ⟨⟨7, false⟩, by simp, by decide, by decide⟩
  · rintro ⟨y, hy, h0, rfl⟩
    simp only [List.mem_cons, List.mem_nil_iff, or_false] at hy
    rcases hy with rfl | rfl
    · exact absurd rfl h0
    · decide
theorem runs7 : runsTo [⟨7, false⟩] (2 ^ 3) = [0, 3, 5, 6] := by decide
theorem kRuns (n : Nat) (w : World) (h : FrAt w (fk n)) : Calls Tryz.prog 28 #[.agg #[.int .i64 3, .slice (some ⟨n, 0, none⟩) 1 1]] w (fun e w' => ∃ g c, e = .returned (.tuple #[.slice (some ⟨g, 0, none⟩) 4 c, .int .i64 0]) ∧ Ext w w' ∧
    (∀ W, Ext w' W → W.cell? ⟨g, 3, none⟩ = some (.int .u16 6))) := by
  refine (Runs_ok (fk n) 3 w h (fk_b n) (fk_ok n) rfl (by omega) (by simp [fk])).mono ?_
  rintro e w' ⟨a, c, rfl, he, ho⟩
  have hr : runsTo (fk n).ws (2 ^ 3) = [0, 3, 5, 6] := runs7
  rw [hr] at ho ⊢
  obtain ⟨g, rfl, -, -, hc⟩ := OwnF.cell u16C_len ho 3 (by simp)
  exact ⟨g, c, rfl, he, fun W e => e.cell (hc 0 (by omega))⟩
theorem kRes (n : Nat) (w : World) (h : FrAt w (fk n)) : Calls Tryz.prog 30 #[.agg #[.int .i64 3, .slice (some ⟨n, 0, none⟩) 1 1]] w (Ret (.tuple #[.int .i64 3, .int .i64 0]) w) := by
  refine (Resolution_ok (fk n) w h (fk_b n) (fk_ok n)).mono ?_
  rintro e w' ⟨he, ⟨h1, -⟩ | ⟨-, l, rfl, hl⟩⟩
  · exact absurd (show clashW [⟨7, false⟩] = true from h1) (by rw [fk_clash]; simp)
  · have := rel7.unique hl
    subst this
    exact ⟨rfl, he⟩
theorem kAli (n : Nat) (w : World) (h : FrAt w (fk n)) : Calls Tryz.prog 31 #[.agg #[.int .i64 3, .slice (some ⟨n, 0, none⟩) 1 1], .int .u16 1] w (fun e w' => ∃ g c, e = .returned (.tuple #[.slice (some ⟨g, 0, none⟩) 1 c, .int .i64 0]) ∧ Ext w w' ∧
    (∀ W, Ext w' W → W.cell? ⟨g, 0, none⟩ = some (.int .u16 6)) ∧ (∀ W, Ext w' W → W.cell? ⟨g, 1, none⟩ = some (.bool false))) := by
  refine (Aliases_ok (fk n) 1 3 w h (fk_b n) (fk_ok n) rfl (by omega)).mono ?_
  rintro e w' ⟨he, ⟨h1, -⟩ | ⟨-, a, c, l, rfl, hl, ho⟩⟩
  · exact absurd (show clashW [⟨7, false⟩] = true from h1) (by rw [fk_clash]; simp)
  · have := rel71.unique hl
    subst this
    obtain ⟨g, rfl, c0, c1⟩ := ownW_first ho
    exact ⟨g, c, rfl, he, c0, c1⟩
end Go.Proofs.YtplbofhgmflnlaaGreat
end
section
/-
  The calls of the law's examples, each with what it answers: orders and a book.
-/
set_option linter.unusedVariables false
set_option linter.unusedSimpArgs false
namespace Go.Proofs.YtplbofhgmflnlaaGreat
open Go.RowKit
/-- The plan of one factor. -/
def pk2 (n : Nat) : Pw := ⟨[⟨2, 3, false⟩], some ⟨n, 0, none⟩, 1, [], none, 0⟩
def ks2 (p q : Nat) : List Se := [⟨⟨some ⟨p, 0, none⟩, [0], 1⟩, 0⟩, ⟨⟨some ⟨q, 0, none⟩, [1], 1⟩, 0⟩]
theorem pk2_b (n : Nat) : PlanB (pk2 n) := ⟨by simp [pk2], by simp [pk2], by simp [pk2]⟩
theorem ks2_l (p q : Nat) : ∀ i, i < (ks2 p q).length → (eth (ks2 p q) i).lv.xs.length ≤ 9223372036854775807 := by
  intro i hi
  simp only [ks2, List.length_cons, List.length_nil] at hi
  match i, hi with
  | 0, _ => simp [ks2, eth]
  | 1, _ => simp [ks2, eth]
theorem pk2_ok (n p q : Nat) : checkE (pk2 n) (ks2 p q) = 0 := by kernel_rfl
theorem cheapW2 (n p q : Nat) : cheapW (costM (pk2 n).fs (ks2 p q)) 2 = [0, 1] := by kernel_rfl
theorem cheapF2 (n p q : Nat) : (cheapF (costM (pk2 n).fs (ks2 p q)) 2).2 = 3 := by kernel_rfl
theorem edTo2 (n p q : Nat) : edTo (costM (pk2 n).fs (ks2 p q)) 2 = [⟨1, 0, 3⟩] := by kernel_rfl
theorem ordS2 (n p q : Nat) : ordS (pk2 n) (ks2 p q) 5 = [1, 0] := by
  unfold ordS
  obtain ⟨K, hK⟩ : ∃ K : Nat → List Int, K = fun i => gL (pk2 n).fs (eth (ks2 p q) i) := ⟨_, rfl⟩
  show ordL (fun i => gL (pk2 n).fs (eth (ks2 p q) i)) 2 5 = [1, 0]
  have h2 : sNs (fun i => gL (pk2 n).fs (eth (ks2 p q) i)) 2 = [0] := by
    unfold sNs
    rw [show ddK (KB fun i => gL (pk2 n).fs (eth (ks2 p q) i)) 2 = [0] by kernel_rfl]
    simp [srt]
  have h3 : ordK (fun i => gL (pk2 n).fs (eth (ks2 p q) i)) 2 5 = [gL (pk2 n).fs (eth (ks2 p q) 0)] := by
    unfold ordK
    rw [h2]
    show List.flatMap (shB (fun i => gL (pk2 n).fs (eth (ks2 p q) i)) 2 5) [0] = _
    kernel_rfl
  unfold ordL
  rw [h3]
  show List.flatMap (shM (fun i => gL (pk2 n).fs (eth (ks2 p q) i)) 2 5) [gL (pk2 n).fs (eth (ks2 p q) 0)] = [1, 0]
  kernel_rfl
theorem kCheap (n p q s : Nat) (w : World) (h : PlanAt w (pk2 n)) (hs : SetsAt w (some ⟨s, 0, none⟩) (ks2 p q)) : Calls Tryz.prog 18 #[.agg #[.slice (some ⟨n, 0, none⟩) 1 1, .slice none 0 0], .slice (some ⟨s, 0, none⟩) 2 2] w (fun e w' => ∃ g c, e = .returned (.tuple #[.slice (some ⟨g, 0, none⟩) 2 c, .int .i64 3, .int .i64 0]) ∧ Ext w w' ∧
    (∀ W, Ext w' W → W.cell? ⟨g, 0, none⟩ = some (.int .i64 0))) := by
  refine (cheapest_ok (pk2 n) (some ⟨s, 0, none⟩) (ks2 p q) 2 w h (pk2_b n) hs (by simp [ks2]) (by simp [ks2]) (ks2_l p q) (pk2_ok n p q)).mono ?_
  rintro e w' ⟨a, c, rfl, he, ho⟩
  have e1 : cheapW (costM (pk2 n).fs (ks2 p q)) (ks2 p q).length = [0, 1] := cheapW2 n p q
  have e2 : (cheapF (costM (pk2 n).fs (ks2 p q)) (ks2 p q).length).2 = 3 := cheapF2 n p q
  rw [e1] at ho ⊢
  rw [e2]
  obtain ⟨g, hg⟩ := own_addr ho (by simp)
  subst hg
  obtain ⟨hi, -, -⟩ := ho.ints
  obtain ⟨b', o', hb', hq⟩ := hi.at 0 (by simp)
  simp only [Option.some.injEq, Addr.mk.injEq, and_true] at hb'
  obtain ⟨rfl, rfl⟩ := hb'
  exact ⟨g, c, rfl, he, hq⟩
theorem kLeast (n p q s : Nat) (w : World) (h : PlanAt w (pk2 n)) (hs : SetsAt w (some ⟨s, 0, none⟩) (ks2 p q)) : Calls Tryz.prog 20 #[.agg #[.slice (some ⟨n, 0, none⟩) 1 1, .slice none 0 0], .slice (some ⟨s, 0, none⟩) 2 2] w (Ret (.tuple #[.int .i64 3, .int .i64 0]) w) := by
  refine (least_ok sortEd sortEdN (pk2 n) (some ⟨s, 0, none⟩) (ks2 p q) 2 w h (pk2_b n) hs (by simp [ks2]) (by simp [ks2]) (ks2_l p q) (pk2_ok n p q)).mono ?_
  rintro e w' ⟨es, hp, -, rfl, he⟩
  have e1 : edTo (costM (pk2 n).fs (ks2 p q)) (ks2 p q).length = [⟨1, 0, 3⟩] := edTo2 n p q
  rw [e1, List.perm_singleton] at hp
  subst hp
  exact ⟨rfl, he⟩
abbrev em : ByteArray := ⟨#[]⟩
def ptk0 : List Pt := [⟨0, 1, 0, em⟩, ⟨0, 0, 0, em⟩]
def ptk1 : List Pt := [⟨0, 1, 0, em⟩, ⟨0, 0, 1, em⟩]
def leak : ByteArray := ⟨#[108, 101, 97, 107]⟩
def ptk2 : List Pt := [⟨0, 1, 2, leak⟩, ⟨0, 0, 1, em⟩]
theorem newPts2 (n p q : Nat) : newPts (pk2 n) (ks2 p q) 5 = ptk0 := by
  have h1 : ptsTo (ks2 p q) [1, 0] 2 = ptk0 := by kernel_rfl
  rw [← h1]
  show ptsTo (ks2 p q) (ordS (pk2 n) (ks2 p q) 5) 2 = _
  rw [ordS2]
theorem kBook (n p q s : Nat) (w : World) (h : PlanAt w (pk2 n)) (hs : SetsAt w (some ⟨s, 0, none⟩) (ks2 p q)) : Calls Tryz.prog 52 #[.agg #[.slice (some ⟨n, 0, none⟩) 1 1, .slice none 0 0], .slice (some ⟨s, 0, none⟩) 2 2, .int .u64 5] w (fun e w' => ∃ x, e = .returned (.tuple #[bkV x, .int .i64 0]) ∧ Ext w w' ∧ Hid (BkAt w' w.heap.size x ptk0 [1, 0])) := by
  refine (newBook_ok (pk2 n) (some ⟨s, 0, none⟩) (ks2 p q) 2 5 w h (pk2_b n) hs (ks2_l p q) (pk2_ok n p q) (by omega)).mono ?_
  rintro e w' ⟨gb, V2, V6, rfl, he, hr⟩
  rw [newPts2, ordS2] at hr
  obtain ⟨pa, pc, h2⟩ := slice_row (RowsAt.own hr (rwP V2 ptk0) (by simp))
  obtain ⟨oa, oc, h6⟩ := slice_row (RowsAt.own hr (rwI V6 [1, 0]) (by simp))
  simp only at h2 h6
  subst h2 h6
  exact ⟨⟨gb, pa, pc, oa, oc⟩, rfl, he, Lib.hid hr⟩
theorem inB2 (l : List Pt) (h : l.length = 2) : InB l.length [1, 0] := by
  intro y hy
  rw [h]
  simp only [List.mem_cons, List.mem_nil_iff, or_false] at hy
  rcases hy with rfl | rfl
  · exact ⟨1, by omega, rfl⟩
  · exact ⟨0, by omega, rfl⟩
theorem kNext (B : Nat) (x : Bp) (w : World) (h : BkAt w B x ptk0 [1, 0]) : Calls Tryz.prog 62 #[bkV x] w (Ret (.tuple #[.int .i64 1, .bool true]) w) := by
  refine (Next_any B x ptk0 [1, 0] w h (inB2 _ rfl) (by simp)).mono ?_
  rintro e w' ⟨rfl, he⟩
  exact ⟨by rw [show openL ptk0 [1, 0] = [1, 0] by kernel_rfl]; rfl, he⟩
/-- What a call of a book leaves. -/
def Bkp (B : Nat) (w w' : World) : Prop := ∀ w0, Ext w0 w → w0.heap.size ≤ B → Ext w0 w'
theorem Bkp.of {B g : Nat} {w w' : World} (h : ExtX g w w') (hg : B ≤ g) : Bkp B w w' := fun w0 e hb => (e.x.trans h).ext (by omega)
theorem kTake0 (B : Nat) (x : Bp) (w : World) (h : BkAt w B x ptk0 [1, 0]) : Calls Tryz.prog 54 #[bkV x, .int .i64 0] w (fun e w' => e = .returned (.int .i64 61) ∧ Hid (Bkp B w w' ∧ BkAt w' B x ptk0 [1, 0])) := by
  obtain ⟨gp, hgp, hB, -⟩ := h.pt 0 (by simp [ptk0])
  refine (Take_any B x ptk0 [1, 0] 0 gp w h (by simp [ptk0]) hgp (inB2 _ rfl) (by simp) 1 rfl (by simp)).mono ?_
  have e1 : takeE ptk0 [1, 0] 0 = 61 := by kernel_rfl
  rintro e w' ⟨rfl, he, hb⟩
  rw [e1] at hb ⊢
  exact ⟨rfl, Lib.hid ⟨Bkp.of he hB, hb⟩⟩
theorem kTake1 (B : Nat) (x : Bp) (w : World) (h : BkAt w B x ptk0 [1, 0]) : Calls Tryz.prog 54 #[bkV x, .int .i64 1] w (fun e w' => e = .returned (.int .i64 0) ∧ Hid (Bkp B w w' ∧ BkAt w' B x ptk1 [1, 0])) := by
  obtain ⟨gp, hgp, hB, -⟩ := h.pt 0 (by simp [ptk0])
  refine (Take_any B x ptk0 [1, 0] 1 gp w h (by simp [ptk0]) hgp (inB2 _ rfl) (by simp) 0 rfl (by simp)).mono ?_
  have e1 : takeE ptk0 [1, 0] 1 = 0 := by kernel_rfl
  rintro e w' ⟨rfl, he, hb⟩
  rw [e1] at hb ⊢
  exact ⟨rfl, Lib.hid ⟨Bkp.of he hB, hb⟩⟩
theorem kDecl (B : Nat) (x : Bp) (w : World) (h : BkAt w B x ptk1 [1, 0]) : Calls Tryz.prog 56 #[bkV x, .int .i64 0, .string ⟨#[108, 101, 97, 107]⟩] w (fun e w' => e = .returned (.int .i64 0) ∧ Hid (Bkp B w w' ∧ BkAt w' B x ptk2 [1, 0])) := by
  obtain ⟨gp, hgp, hB, -⟩ := h.pt 0 (by simp [ptk1])
  refine (Declare_any B x ptk1 [1, 0] 0 gp leak w h (by simp [ptk1]) hgp (by decide)).mono ?_
  have e1 : declE ptk1 0 leak = 0 := by kernel_rfl
  rintro e w' ⟨rfl, he, hb⟩
  rw [e1] at hb ⊢
  exact ⟨rfl, Lib.hid ⟨Bkp.of he hB, hb⟩⟩
theorem kDone (B : Nat) (x : Bp) (w : World) (h : BkAt w B x ptk2 [1, 0]) : Calls Tryz.prog 64 #[bkV x] w (Ret (.bool true) w) := by
  refine (Done_any B x ptk2 [1, 0] w h (inB2 _ rfl) (by simp)).mono ?_
  rintro e w' ⟨rfl, he⟩
  exact ⟨by rw [show openL ptk2 [1, 0] = [] by kernel_rfl]; rfl, he⟩
end Go.Proofs.YtplbofhgmflnlaaGreat
end
section
/-
  A walk: known answers true.
-/
set_option linter.unusedVariables false
set_option linter.unusedSimpArgs false
namespace Go.Proofs.YtplbofhgmflnlaaGreat
open Go.RowKit
theorem alloc5 {w w1 : World} {o p q r s : Obj} (h : ((((w.alloc o).alloc p).alloc q).alloc r).alloc s = w1) : Ext w w1 ∧ w1.heap[w.heap.size]? = some o ∧ w1.heap[w.heap.size + 1]? = some p ∧ w1.heap[w.heap.size + 2]? = some q ∧ w1.heap[w.heap.size + 3]? = some r ∧ w1.heap[w.heap.size + 4]? = some s := by
  obtain ⟨a, b, c, d, e⟩ := alloc4 (w := w) (o := o) (p := p) (q := q) (r := r) rfl
  have hs : ((((w.alloc o).alloc p).alloc q).alloc r).heap.size = w.heap.size + 4 := by rw [heap_size, heap_size, heap_size, heap_size]
  subst h
  refine ⟨a.alloc _, ?_, ?_, ?_, ?_, ?_⟩
  · rw [heap_old _ _ _ (by rw [hs]; omega)]; exact b
  · rw [heap_old _ _ _ (by rw [hs]; omega)]; exact c
  · rw [heap_old _ _ _ (by rw [hs]; omega)]; exact d
  · rw [heap_old _ _ _ (by rw [hs]; omega)]; exact e
  · have := heap_new ((((w.alloc o).alloc p).alloc q).alloc r) s; rwa [hs] at this
set_option maxRecDepth 100000 in
set_option maxHeartbeats 4000000 in
theorem known_any (w : World) : Calls Tryz.prog 17 #[] w (Ret (.bool true) w) := by
  go_enter Tryz.func17, Tryz.ntmps17
  go_upto_region 2 with fail
  generalize hw1 : World.alloc _ _ = w1
  obtain ⟨he1, o1, o2, o3, o4⟩ := alloc4 hw1
  obtain ⟨n, hn⟩ : ∃ n, n = w.heap.size := ⟨_, rfl⟩
  obtain ⟨n1, hn1⟩ : ∃ n1, n1 = n + 1 := ⟨_, rfl⟩
  obtain ⟨n2, hn2⟩ : ∃ n2, n2 = n1 + 1 := ⟨_, rfl⟩
  obtain ⟨n3, hn3⟩ : ∃ n3, n3 = n2 + 1 := ⟨_, rfl⟩
  rw [show w.heap.size + 1 = n1 by omega] at o2
  rw [show w.heap.size + 2 = n2 by omega] at o3
  rw [show w.heap.size + 3 = n3 by omega] at o4
  simp only [← hn, ← hn1, ← hn2, ← hn3] at o1 o2 o3 o4 ⊢
  have HP : Hid (PlanAt w1 (pk1 n n1 n2)) := by
    refine ⟨RowAt.lit facC_len o1 rfl, RowAt.lit grpC_len o3 rfl, fun i hi => ?_⟩
    obtain rfl : i = 0 := by simp [pk1] at hi; omega
    exact RowAt.lit prC_len o2 rfl
  obtain ⟨b0, b1⟩ := obj_cells2 o4
  have E1 := Ext.refl w1
  have HE := Lib.hid he1
  clear hw1 o1 o2 o3 o4 he1 hn hn1 hn2 hn3
  go_upto_region 4 with (first
    | (go_at_call 22; (with_reducible refine (kSet n n1 n2 _ (HP.out.ext E1)).mono ?_); rintro e w2 ⟨ga, c1, gb, cb, rfl, he2, q0, q1, q2⟩)
    | (go_at_call 21; (with_reducible refine (kShuf _).mono ?_); rintro e w3 ⟨gc, c2, rfl, he3, r0, r1⟩))
  have E3 := Ext.refl w3
  go_upto_region 7 with fail
  have HE3 : Hid (Ext w w3) := HE.out.trans (he2.trans he3)
  generalize hw4 : World.alloc (World.alloc w3 _) _ = w4
  obtain ⟨he4, o1, o2, -⟩ := alloc2 hw4
  obtain ⟨n4, hn4⟩ : ∃ n4, n4 = w3.heap.size := ⟨_, rfl⟩
  obtain ⟨n5, hn5⟩ : ∃ n5, n5 = n4 + 1 := ⟨_, rfl⟩
  rw [show w3.heap.size + 1 = n5 by omega] at o2
  simp only [← hn4, ← hn5] at o1 o2 ⊢
  have HF : Hid (FrAt w4 (fk n4)) := RowAt.lit wdC_len o1 rfl
  obtain ⟨b2, b3⟩ := obj_cells2 o2
  have E4 := Ext.refl w4
  have HE4 : Hid (Ext w w4) := HE3.out.trans he4
  clear hw4 o1 o2 he4 hn4 hn5 b0 b1 q0 q1 q2 r0 r1 he2 he3 HE3 E3 E1 HP HE
  go_upto_region 10 with (first
    | (go_at_call 28; (with_reducible refine (kRuns n4 _ (HF.out.ext E4)).mono ?_); rintro e w5 ⟨gr, cr, rfl, he5, q0⟩)
    | (go_at_call 30; (with_reducible refine (kRes n4 _ (HF.out.ext he5)).mono ?_); rintro e w6 ⟨rfl, he6⟩; have he46 := he5.trans he6)
    | (go_at_call 31; (with_reducible refine (kAli n4 _ (HF.out.ext he46)).mono ?_); rintro e w7 ⟨gl, cl, rfl, he7, r0, r1⟩))
  have he57 := he6.trans he7
  have E7 := Ext.refl w7
  go_upto_region 14 with fail
  have HE7 : Hid (Ext w w7) := HE4.out.trans (he46.trans he7)
  generalize hw8 : World.alloc (World.alloc (World.alloc (World.alloc (World.alloc w7 _) _) _) _) _ = w8
  obtain ⟨he8, o1, o2, o3, o4, o5⟩ := alloc5 hw8
  obtain ⟨m0, hm0⟩ : ∃ m0, m0 = w7.heap.size := ⟨_, rfl⟩
  obtain ⟨m1, hm1⟩ : ∃ m1, m1 = m0 + 1 := ⟨_, rfl⟩
  obtain ⟨m2, hm2⟩ : ∃ m2, m2 = m1 + 1 := ⟨_, rfl⟩
  obtain ⟨m3, hm3⟩ : ∃ m3, m3 = m2 + 1 := ⟨_, rfl⟩
  obtain ⟨m4, hm4⟩ : ∃ m4, m4 = m3 + 1 := ⟨_, rfl⟩
  rw [show w7.heap.size + 1 = m1 by omega] at o2
  rw [show w7.heap.size + 2 = m2 by omega] at o3
  rw [show w7.heap.size + 3 = m3 by omega] at o4
  rw [show w7.heap.size + 4 = m4 by omega] at o5
  simp only [← hm0, ← hm1, ← hm2, ← hm3, ← hm4] at o1 o2 o3 o4 o5 ⊢
  have HP : Hid (PlanAt w8 (pk2 m0)) := ⟨RowAt.lit facC_len o1 rfl, .inl rfl, fun i hi => by simp [pk2] at hi⟩
  have HS : Hid (SetsAt w8 (some ⟨m4, 0, none⟩) (ks2 m2 m3)) := by
    refine ⟨RowAt.lit setC_len o5 rfl, fun i hi => ?_⟩
    simp only [ks2, List.length_cons, List.length_nil] at hi
    have c3 := obj_cells1 o3
    have c4 := obj_cells1 o4
    match i, hi with
    | 0, _ => exact .inr ⟨m2, 0, rfl, fun i hi => by simp [ks2, eth] at hi; subst hi; exact c3 _ (Ext.refl _)⟩
    | 1, _ => exact .inr ⟨m3, 0, rfl, fun i hi => by simp [ks2, eth] at hi; subst hi; exact c4 _ (Ext.refl _)⟩
  obtain ⟨b0, b1⟩ := obj_cells2 o2
  have E8 := Ext.refl w8
  have HE8 : Hid (Ext w w8) := HE7.out.trans he8
  clear hw8 o1 o2 o3 o4 o5 he8 hm0 hm1 hm2 hm3 hm4 b2 b3 q0 r0 r1 he5 he6 he7 he46 he57 HE7 E7 E4 HF HE4
  go_upto_region 17 with (first
    | (go_at_call 18; (with_reducible refine (kCheap m0 m2 m3 m4 _ (HP.out.ext E8) (HS.out.ext E8)).mono ?_); rintro e w9 ⟨gw, cw, rfl, he9, q0⟩)
    | (go_at_call 20; (with_reducible refine (kLeast m0 m2 m3 m4 _ (HP.out.ext he9) (HS.out.ext he9)).mono ?_); rintro e w10 ⟨rfl, he10⟩; have he810 := he9.trans he10)
    | (go_at_call 52; (with_reducible refine (kBook m0 m2 m3 m4 _ (HP.out.ext he810) (HS.out.ext he810)).mono ?_); rintro e w11 ⟨x, rfl, he11, HB⟩))
  have he911 := he10.trans he11
  have HE10 : Hid (Ext w w10) := HE8.out.trans he810
  have HE11 : Hid (Ext w w11) := HE10.out.trans he11
  have HBS : Hid (w.heap.size ≤ w10.heap.size) := HE10.out.size
  obtain ⟨B, hB⟩ : ∃ B, B = w10.heap.size := ⟨_, rfl⟩
  rw [← hB] at HB HBS
  clear hB
  have E11 := Ext.refl w11
  go_upto_region 19 with fail
  clear he10 he810 he9 he11 he911 q0 b0 b1 HP HS HE8 HE10
  go_wp2_with (first
    | (go_at_call 62; (with_reducible refine (kNext B x _ HB.out).mono ?_); rintro e w12 ⟨rfl, he12⟩; have HB12 := Lib.hid (HB.out.ext he12); have HE12 : Hid (Ext w w12) := HE11.out.trans he12; clear HB)
    | (go_at_call 56; (with_reducible refine (kDecl B x _ HB14.out).mono ?_); rintro e w15 ⟨rfl, h15⟩; have HB15 := Lib.hid h15.out.2; have HE15 : Hid (Ext w w15) := h15.out.1 _ HE14.out HBS.out; clear h15)
    | (go_at_call 64; (with_reducible refine (kDone B x _ HB15.out).mono ?_); rintro e w16 ⟨rfl, he16⟩; have HE16 : Hid (Ext w w16) := HE15.out.trans he16)
    | (go_at_call 54; (with_reducible refine (kTake0 B x _ HB12.out).mono ?_); rintro e w13 ⟨rfl, h13⟩; have HB13 := Lib.hid h13.out.2; have HE13 : Hid (Ext w w13) := h13.out.1 _ HE12.out HBS.out; clear h13 HB12)
    | (go_at_call 54; (with_reducible refine (kTake1 B x _ HB13.out).mono ?_); rintro e w14 ⟨rfl, h14⟩; have HB14 := Lib.hid h14.out.2; have HE14 : Hid (Ext w w14) := h14.out.1 _ HE13.out HBS.out; clear h14 HB13))
  go_ret
  exact ⟨rfl, HE16.out⟩
end Go.Proofs.YtplbofhgmflnlaaGreat
end
