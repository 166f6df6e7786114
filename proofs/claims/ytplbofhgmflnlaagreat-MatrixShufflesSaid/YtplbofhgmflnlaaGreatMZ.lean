/-
  Walks: Relation, Resolution, Aliases.
-/
import Derived.Test.YtplbofhgmflnlaaGreatMY
set_option linter.unusedVariables false
set_option linter.unusedSimpArgs false
namespace Go.Proofs.YtplbofhgmflnlaaGreat
open Go.RowKit Go.Maps
theorem checkF_ok {F : Fr} (h : checkF F = 0) : ∃ m : Nat, F.n = (m : Int) ∧ 1 ≤ m ∧ m ≤ 12 ∧ F.ws.length ≤ 12 ∧ ∀ x ∈ F.ws, x.mask < 2 ^ m := by
  unfold checkF at h
  split at h
  · simp at h
  · rename_i h1
    split at h
    · simp at h
    · rename_i h2
      refine ⟨F.n.toNat, by omega, by omega, by omega, by omega, fun x hx => ?_⟩
      have h3 : outW F.n.toNat x = false := by
        cases T : outW F.n.toNat x with
        | false => rfl
        | true => exact absurd (List.any_eq_true.2 ⟨x, hx, T⟩) h2
      unfold outW at h3
      rw [bne_eq_false_iff_eq] at h3
      rcases (Nat.div_eq_zero_iff).1 h3 with h4 | h4
      · exact absurd h4 (Nat.ne_of_gt (Nat.two_pow_pos _))
      · exact h4
theorem checkF_small {F : Fr} (h : checkF F = 0) : ∀ x ∈ F.ws, x.mask < 65536 := by
  obtain ⟨m, _, _, hm, _, hx⟩ := checkF_ok h
  intro x hx'
  have h1 := hx x hx'
  have h2 : 2 ^ m ≤ 2 ^ 12 := Nat.pow_le_pow_right (by omega) hm
  omega
theorem checkF_two {F : Fr} (h : checkF F ≠ 0) : checkF F = 2 := by
  unfold checkF at *
  split
  · rfl
  · rename_i h1
    rw [if_neg h1] at h
    split
    · rfl
    · rename_i h2; rw [if_neg h2] at h; exact absurd rfl h
theorem RetRel.two {ws : List Wd} {u : Wd} {w w' : World} {e : Ending} (h : RetRel ws u w e w') : ∃ p q, e = .returned (.tuple #[p, q]) ∧ Hid (RetRel ws u w (.returned (.tuple #[p, q])) w') ∧ Ext w w' := by
  have h0 := h
  obtain ⟨h1, ⟨h2, rfl⟩ | ⟨h2, a, c, l, rfl, h3⟩⟩ := h
  · exact ⟨_, _, rfl, Lib.hid h0, h1⟩
  · exact ⟨_, _, rfl, Lib.hid h0, h1⟩
theorem RetRel.back {ws : List Wd} {u : Wd} {w w1 w' : World} {e : Ending} (h : RetRel ws u w1 e w') (k : Ext w w1) : RetRel ws u w e w' := by
  obtain ⟨h1, ⟨h2, rfl⟩ | ⟨h2, a, c, l, rfl, h3, h4⟩⟩ := h
  · exact ⟨k.trans h1, .inl ⟨h2, rfl⟩⟩
  · exact ⟨k.trans h1, .inr ⟨h2, a, c, l, rfl, h3, own_base h4 k.size⟩⟩
set_option maxHeartbeats 1000000 in
theorem Relation_no (F : Fr) (w : World) (h : FrAt w F) (hb : FrB F) (hv : checkF F ≠ 0) : Calls Tryz.prog 29 #[frV F] w (Ret (.tuple #[.slice none 0 0, .int .i64 2]) w) := by
  have hck := fun W (e : Ext w W) => checkF_any F W (h.ext e) hb
  rw [checkF_two hv] at hck
  have HCK := Lib.hid hck
  obtain ⟨fn, ws, wa, wc⟩ := F
  clear h hb hv hck
  go_enter Tryz.func29, Tryz.ntmps29
  go_wp2_with (fail)
  generalize hw1 : World.alloc _ _ = w1
  obtain ⟨he, o1, -⟩ := alloc1 hw1
  have HE := Lib.hid he
  clear hw1 o1 he
  go_wp2_with (go_at_call 33; (with_reducible refine (HCK.out _ HE.out).mono ?_); rintro e w2 ⟨rfl, he2⟩)
  go_ret2
  exact ⟨rfl, HE.out.trans he2⟩
set_option maxHeartbeats 1000000 in
theorem Relation_ok (F : Fr) (w : World) (h : FrAt w F) (hb : FrB F) (hv : checkF F = 0) : Calls Tryz.prog 29 #[frV F] w (RetRel F.ws oneW w) := by
  have hck := fun W (e : Ext w W) => checkF_any F W (h.ext e) hb
  rw [hv] at hck
  obtain ⟨m, -, -, -, hn, -⟩ := checkF_ok hv
  have hre : ∀ W, Ext w W → Calls Tryz.prog 87 #[frV F, .agg #[.int .u16 0, .bool false]] W (RetRel F.ws oneW W) := fun W (e : Ext w W) => related_any F oneW W (h.ext e) hn (checkF_small hv) (by decide)
  have HCK := Lib.hid hck
  have HRE := Lib.hid hre
  obtain ⟨fn, ws, wa, wc⟩ := F
  clear h hb hv hck hre
  go_enter Tryz.func29, Tryz.ntmps29
  go_wp2_with (fail)
  generalize hw1 : World.alloc _ _ = w1
  obtain ⟨he, o1, -⟩ := alloc1 hw1
  have HE := Lib.hid he
  obtain ⟨b0, b1⟩ := obj_cells2 o1
  clear hw1 o1 he
  go_wp2_with (first
    | (go_at_call 33; (with_reducible refine (HCK.out _ HE.out).mono ?_); rintro e w2 ⟨rfl, he2⟩)
    | (go_at_call 87; (with_reducible refine (HRE.out _ (HE.out.trans he2)).mono ?_); rintro e w3 hR; obtain ⟨p, q, rfl, HR, -⟩ := hR.two; clear hR))
  go_ret2
  exact HR.out.back (HE.out.trans he2)
/-- The least number of factors. -/
def resL (l : List Wd) : Nat := match l with | [] => 0 | x :: _ => ones x.mask
/-- What Resolution answers. -/
def RetRes (ws : List Wd) (w : World) (e : Ending) (w' : World) : Prop := Ext w w' ∧ ((clashW ws = true ∧ e = .returned (.tuple #[.int .i64 0, .int .i64 60])) ∨
  (clashW ws = false ∧ ∃ l, e = .returned (.tuple #[.int .i64 (resL l : Nat), .int .i64 0]) ∧ RelOf ws oneW l))
set_option maxHeartbeats 1000000 in
theorem Resolution_no (F : Fr) (w : World) (h : FrAt w F) (hb : FrB F) (hv : checkF F ≠ 0) : Calls Tryz.prog 30 #[frV F] w (Ret (.tuple #[.int .i64 0, .int .i64 2]) w) := by
  have HCK := Lib.hid (fun W (e : Ext w W) => Relation_no F W (h.ext e) hb hv)
  obtain ⟨fn, ws, wa, wc⟩ := F
  clear h hb hv
  go_enter Tryz.func30, Tryz.ntmps30
  go_wp2_with (fail)
  generalize hw1 : World.alloc _ _ = w1
  obtain ⟨he, o1, -⟩ := alloc1 hw1
  have HE := Lib.hid he
  clear hw1 o1 he
  go_wp2_with (go_at_call 29; (with_reducible refine (HCK.out _ HE.out).mono ?_); rintro e w2 ⟨rfl, he2⟩)
  go_ret2
  exact ⟨rfl, HE.out.trans he2⟩
theorem ownW_first {w : World} {B c : Nat} {a : Option Addr} {x : Wd} {l : List Wd} (h : OwnW w B (.slice a (x :: l).length c) (x :: l)) : ∃ g, a = some ⟨g, 0, none⟩ ∧ (∀ W, Ext w W → W.cell? ⟨g, 0, none⟩ = some (.int .u16 (x.mask : Int))) ∧ (∀ W, Ext w W → W.cell? ⟨g, 1, none⟩ = some (.bool x.odd)) := by
  obtain ⟨g, hg, -, -, hc⟩ := OwnF.cell wdC_len h 0 (by simp)
  exact ⟨g, hg, fun W e => e.cell (hc 0 (by omega)), fun W e => e.cell (hc 1 (by omega))⟩
set_option maxHeartbeats 2000000 in
theorem Resolution_ok (F : Fr) (w : World) (h : FrAt w F) (hb : FrB F) (hv : checkF F = 0) : Calls Tryz.prog 30 #[frV F] w (RetRes F.ws w) := by
  have hre := fun W (e : Ext w W) => Relation_ok F W (h.ext e) hb hv
  obtain ⟨m, hm0, hm1, hm2, hn, hm⟩ := checkF_ok hv
  have hsm := checkF_small hv
  obtain ⟨fn, ws, wa, wc⟩ := F
  simp only at hn hsm
  clear h hb hv hm0 hm1 hm2 hm
  show Calls Tryz.prog 30 #[frV ⟨fn, ws, wa, wc⟩] w (RetRes ws w)
  have HSM := Lib.hid hsm
  clear hsm
  cases T : clashW ws with
  | true =>
    have HRE : Hid (∀ W, Ext w W → Calls Tryz.prog 29 #[frV ⟨fn, ws, wa, wc⟩] W (Ret (.tuple #[.slice none 0 0, .int .i64 60]) W)) := fun W e => (hre W e).mono (by
      rintro e w' ⟨h1, ⟨h2, rfl⟩ | ⟨h2, r⟩⟩
      · exact ⟨rfl, h1⟩
      · simp only at h2; rw [T] at h2; cases h2)
    have HT := Lib.hid T
    clear hre T
    go_enter Tryz.func30, Tryz.ntmps30
    go_wp2_with (fail)
    generalize hw1 : World.alloc _ _ = w1
    obtain ⟨he, o1, -⟩ := alloc1 hw1
    have HE := Lib.hid he
    obtain ⟨b0, b1⟩ := obj_cells2 o1
    clear hw1 o1 he
    go_wp2_with (go_at_call 29; (with_reducible refine (HRE.out _ HE.out).mono ?_); rintro e w2 ⟨rfl, he2⟩)
    go_ret2
    exact ⟨HE.out.trans he2, .inl ⟨HT.out, rfl⟩⟩
  | false =>
    have HRE : Hid (∀ W, Ext w W → Calls Tryz.prog 29 #[frV ⟨fn, ws, wa, wc⟩] W (fun e w' => ∃ a c l, e = .returned (.tuple #[.slice a l.length c, .int .i64 0]) ∧ Ext W w' ∧ RelOf ws oneW l ∧ OwnW w' W.heap.size (.slice a l.length c) l)) := fun W e => (hre W e).mono (by
      rintro e w' ⟨h1, ⟨h2, rfl⟩ | ⟨h2, a, c, l, rfl, h3, h4⟩⟩
      · simp only at h2; rw [T] at h2; cases h2
      · exact ⟨a, c, l, rfl, h1, h3, h4⟩)
    have HT := Lib.hid T
    clear hre T
    have HO : Hid (∀ k : Nat, k < 65536 → ∀ W, Calls Tryz.prog 86 #[.int .u16 (k : Int)] W (Ret (.int .i64 (ones k : Int)) W)) := fun k hk W => ones_any k W hk
    go_enter Tryz.func30, Tryz.ntmps30
    go_wp2_with (fail)
    generalize hw1 : World.alloc _ _ = w1
    obtain ⟨he, o1, -⟩ := alloc1 hw1
    have HE := Lib.hid he
    obtain ⟨b0, b1⟩ := obj_cells2 o1
    clear hw1 o1 he
    obtain ⟨W3, hW3⟩ : ∃ W3 : World, W3 = w1 := ⟨_, rfl⟩
    go_upto_region 2 with (go_at_call 29; (with_reducible refine (HRE.out _ HE.out).mono ?_); rintro e w2 ⟨a, c, l, rfl, he2, hrel, hown⟩; clear hW3)
    have HREL := Lib.hid hrel
    have E2 := Ext.refl w2
    cases l with
    | nil =>
      clear hrel hown
      go_wp2_with (fail)
      go_ret2
      exact ⟨HE.out.trans he2, .inr ⟨HT.out, [], rfl, HREL.out⟩⟩
    | cons x l =>
      obtain ⟨g, rfl, q0, q1⟩ := ownW_first hown
      obtain ⟨n, hn'⟩ : ∃ n, n = (x :: l).length := ⟨_, rfl⟩
      rw [← hn']
      have hn1 : 1 ≤ n := by rw [hn']; simp
      have hxm : x.mask < 65536 := by
        obtain ⟨y, hy, -, e⟩ := (hrel.mem x).1 (by simp)
        rw [e, mulW_one]
        exact gens_lt (m := 16) ws HSM.out y hy
      clear hrel hown hn'
      go_wp2_with (go_at_call 86; (with_reducible refine (HO.out _ hxm _).mono ?_); rintro e w3 ⟨rfl, he3⟩)
      go_ret2
      exact ⟨HE.out.trans (he2.trans he3), .inr ⟨HT.out, x :: l, rfl, HREL.out⟩⟩
/-! ### Aliases -/
theorem shr_zero (k m : Nat) : ((k : Int) / 2 ^ m != 0) = (k / 2 ^ m != 0) := by
  have e : ((k : Int) / 2 ^ m) = ((k / 2 ^ m : Nat) : Int) := by rw [Int.natCast_ediv, Int.natCast_pow]; rfl
  rw [e]
  generalize k / 2 ^ m = z
  cases z with
  | zero => rfl
  | succ z => rw [show ((z + 1 : Nat) != 0) = true by simp, show (((z + 1 : Nat) : Int) != 0) = true by rw [bne_iff_ne]; omega]
set_option maxHeartbeats 1000000 in
theorem Aliases_no (F : Fr) (k : Nat) (w : World) (h : FrAt w F) (hb : FrB F) (hv : checkF F ≠ 0) : Calls Tryz.prog 31 #[frV F, .int .u16 (k : Int)] w (Ret (.tuple #[.slice none 0 0, .int .i64 2]) w) := by
  have hck := fun W (e : Ext w W) => checkF_any F W (h.ext e) hb
  rw [checkF_two hv] at hck
  have HCK := Lib.hid hck
  obtain ⟨fn, ws, wa, wc⟩ := F
  clear h hb hv hck
  go_enter Tryz.func31, Tryz.ntmps31
  go_wp2_with (fail)
  generalize hw1 : World.alloc _ _ = w1
  obtain ⟨he, o1, -⟩ := alloc1 hw1
  have HE := Lib.hid he
  obtain ⟨b0, b1⟩ := obj_cells2 o1
  clear hw1 o1 he
  go_wp2_with (go_at_call 33; (with_reducible refine (HCK.out _ HE.out).mono ?_); rintro e w2 ⟨rfl, he2⟩)
  go_ret2
  exact ⟨rfl, HE.out.trans he2⟩
set_option maxHeartbeats 1000000 in
theorem Aliases_out (F : Fr) (k m : Nat) (w : World) (h : FrAt w F) (hb : FrB F) (hv : checkF F = 0) (hm : F.n = (m : Int)) (hk : 2 ^ m ≤ k) : Calls Tryz.prog 31 #[frV F, .int .u16 (k : Int)] w (Ret (.tuple #[.slice none 0 0, .int .i64 2]) w) := by
  have hck := fun W (e : Ext w W) => checkF_any F W (h.ext e) hb
  rw [hv] at hck
  have HCK := Lib.hid hck
  obtain ⟨m', hm', -, hm2, -, -⟩ := checkF_ok hv
  obtain ⟨fn, ws, wa, wc⟩ := F
  simp only at hm hm'
  subst hm
  have h0 : (0 : Int) ≤ (m : Int) := by omega
  have hsh : ((k : Int) / 2 ^ min m 16 != 0) = true := by
    rw [Nat.min_eq_left (by omega), shr_zero, bne_iff_ne]
    have := Nat.div_pos hk (Nat.two_pow_pos m)
    omega
  clear h hb hv hck hk hm' hm2
  go_enter Tryz.func31, Tryz.ntmps31
  go_wp2_with (fail)
  generalize hw1 : World.alloc _ _ = w1
  obtain ⟨he, o1, -⟩ := alloc1 hw1
  have HE := Lib.hid he
  obtain ⟨b0, b1⟩ := obj_cells2 o1
  clear hw1 o1 he
  go_wp2_with (go_at_call 33; (with_reducible refine (HCK.out _ HE.out).mono ?_); rintro e w2 ⟨rfl, he2⟩)
  go_ret2
  exact ⟨rfl, HE.out.trans he2⟩
set_option maxHeartbeats 1000000 in
theorem Aliases_ok (F : Fr) (k m : Nat) (w : World) (h : FrAt w F) (hb : FrB F) (hv : checkF F = 0) (hm : F.n = (m : Int)) (hk : k < 2 ^ m) : Calls Tryz.prog 31 #[frV F, .int .u16 (k : Int)] w (RetRel F.ws ⟨k, false⟩ w) := by
  have hck := fun W (e : Ext w W) => checkF_any F W (h.ext e) hb
  rw [hv] at hck
  obtain ⟨m', hm', -, hm2, hn, -⟩ := checkF_ok hv
  have hk16 : k < 65536 := by
    have : m' = m := by omega
    subst this
    have : 2 ^ m' ≤ 2 ^ 12 := Nat.pow_le_pow_right (by omega) hm2
    omega
  have hre : ∀ W, Ext w W → Calls Tryz.prog 87 #[frV F, .agg #[.int .u16 (k : Int), .bool false]] W (RetRel F.ws ⟨k, false⟩ W) := fun W (e : Ext w W) => related_any F ⟨k, false⟩ W (h.ext e) hn (checkF_small hv) hk16
  have HCK := Lib.hid hck
  have HRE := Lib.hid hre
  obtain ⟨fn, ws, wa, wc⟩ := F
  simp only at hm hm'
  subst hm
  have h0 : (0 : Int) ≤ (m : Int) := by omega
  have hsh : ((k : Int) / 2 ^ min m 16 != 0) = false := by
    rw [Nat.min_eq_left (by omega), shr_zero, Nat.div_eq_of_lt hk]; rfl
  clear h hb hv hck hre hm' hm2 hn hk16 hk
  go_enter Tryz.func31, Tryz.ntmps31
  go_wp2_with (fail)
  generalize hw1 : World.alloc _ _ = w1
  obtain ⟨he, o1, -⟩ := alloc1 hw1
  have HE := Lib.hid he
  obtain ⟨b0, b1⟩ := obj_cells2 o1
  clear hw1 o1 he
  go_wp2_with (first
    | (go_at_call 33; (with_reducible refine (HCK.out _ HE.out).mono ?_); rintro e w2 ⟨rfl, he2⟩)
    | (go_at_call 87; (with_reducible refine (HRE.out _ (HE.out.trans he2)).mono ?_); rintro e w3 hR; obtain ⟨p, q, rfl, HR, -⟩ := hR.two; clear hR))
  go_ret2
  exact HR.out.back (HE.out.trans he2)
end Go.Proofs.YtplbofhgmflnlaaGreat
