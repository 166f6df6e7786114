/-
  Texts merged: M11, M12, SH, MS.
-/
import Derived.Test.YtplbofhgmflnlaaGreatMG6
import Derived.Test.YtplbofhgmflnlaaGreatRows
import Derived.Shelf.SlSortCmp.NoneTotal
import Derived.Shelf.SortM.Plain
import Derived.Shelf.SortM.SortNone
import Derived.Shelf.SlSortFuncK.RowK2
section
/-
  Walks: Least's root (printed by genm11.py).
-/
set_option linter.unusedVariables false
set_option linter.unusedSimpArgs false
namespace Go.Proofs.YtplbofhgmflnlaaGreat
open Go.RowKit
set_option maxRecDepth 100000 in
set_option maxHeartbeats 4000000 in
theorem rt_law {g n c x p bt : Nat} {pp : Nat} {wr : World} {R : World → Prop} (hx0 : (0 : Int) ≤ (x : Int)) (hx1 : (x : Int) < (n : Int)) (hp0 : (0 : Int) ≤ (p : Int)) (hp1 : (p : Int) < (n : Int)) (HB : Hid (∀ W, Ext wr W → W.cell? ⟨bt, 0, none⟩ = some (.slice (some ⟨g, 0, none⟩) n c))) (HX : Hid (∀ W, Ext wr W → W.cell? ⟨g, x, none⟩ = some (.int .i64 (p : Int)))) (HP : Hid (∀ W, Ext wr W → W.cell? ⟨g, p, none⟩ = some (.int .i64 (pp : Int)))) (HF : Hid (∀ W, Ext wr W → W.frozen? ⟨g, x, none⟩ = false)) (HR : Hid (∀ W, Ext wr W → R (W.setCell ⟨g, x, none⟩ (.int .i64 (pp : Int))))) {Q : Exit → Act → World → Prop} (aZ : Act) (hsz : aZ.tmps.size = 25) (o0 : aZ.tmps[0]?.getD undef = .int .i64 (x : Int)) (o1 : aZ.tmps[1]?.getD undef = .pointer (some ⟨bt, 0, none⟩))
    (hend : ∀ (vs : Nat → Value) (w9 : World) (ls9 : Nat → Bool), (∀ j : Nat, j < 11 → ls9 j = true) → ((ls9 10 = false → Ext wr w9) ∧ (ls9 10 = true → R w9)) → (vs 0 = .slice (some ⟨g, 0, none⟩) n c) → (vs 1 = .int .i64 (x : Int)) → (vs 2 = .slice (some ⟨g, 0, none⟩) n c) → (vs 3 = .slice (some ⟨g, 0, none⟩) n c) → (vs 4 = .int .i64 (x : Int)) → (vs 5 = .pointer (some ⟨g, x, none⟩)) → (vs 6 = .int .i64 (p : Int)) → (vs 7 = .pointer (some ⟨g, p, none⟩)) → (vs 8 = .int .i64 (pp : Int)) → (vs 9 = .pointer (some ⟨g, x, none⟩)) → Q .normal ((((((((((aZ.put (some 10) (vs 0)).put (some 11) (vs 1)).put (some 12) (vs 2)).put (some 13) (vs 3)).put (some 14) (vs 4)).put (some 15) (vs 5)).put (some 16) (vs 6)).put (some 17) (vs 7)).put (some 18) (vs 8)).put (some 19) (vs 9)) w9) : (regOf Tryz.f79 2).wp Tryz.prog Q aZ wr := by
  conv => arg 2; whnf
  refine wp_region_said3 (fun i v wz => match i with
    | 0 => v = .slice (some ⟨g, 0, none⟩) n c
    | 1 => v = .int .i64 (x : Int)
    | 2 => v = .slice (some ⟨g, 0, none⟩) n c
    | 3 => v = .slice (some ⟨g, 0, none⟩) n c
    | 4 => v = .int .i64 (x : Int)
    | 5 => v = .pointer (some ⟨g, x, none⟩)
    | 6 => v = .int .i64 (p : Int)
    | 7 => v = .pointer (some ⟨g, p, none⟩)
    | 8 => v = .int .i64 (pp : Int)
    | 9 => v = .pointer (some ⟨g, x, none⟩)
    | _ => True) (fun ls vs wz => (ls 10 = false → Ext wr wz) ∧ (ls 10 = true → R wz)) (by kernel_rfl) (by kernel_rfl) (by rw [hsz]; kernel_rfl) ?_ ?_ ?_
  · exact ⟨fun _ => (Ext.refl _).drew, fun e => (by cases e)⟩
  · refine ⟨?_, ?_, ?_, ?_, ?_, ?_, ?_, ?_, ?_, ?_, ?_, trivial⟩
    · intro ls vs a w1 hi hJ hold hdep hdon hcl K hK
      have q1 : a.tmps[1]?.getD undef = .pointer (some ⟨bt, 0, none⟩) := (hold 1 (by kernel_rfl)).trans o1
      have hn10 : ls 10 = false := by
        cases e : ls 10 with
        | false => rfl
        | true =>
          replace e := hcl 10 0 e (by kernel_rfl)
          rw [show ls 0 = false from hi] at e
          cases e
      rw [if_pos (by rfl)]
      clear hold hdep hend hdon hcl o0 o1
      have HJ := Lib.hid hJ
      clear hJ
      have c1 := HB.out w1 (HJ.out.1 hn10)
      go_simp
      exact hK _ _ (fun _ _ _ h => h) HJ.out rfl
    · intro ls vs a w1 hi hJ hold hdep hdon hcl K hK
      have q0 : a.tmps[0]?.getD undef = .int .i64 (x : Int) := (hold 0 (by kernel_rfl)).trans o0
      rw [if_pos (by rfl)]
      clear hold hdep hend hdon hcl o0 o1
      have HJ := Lib.hid hJ
      clear hJ
      go_simp
      exact hK _ _ (fun _ _ _ h => h) HJ.out rfl
    · intro ls vs a w1 hi hJ hold hdep hdon hcl K hK
      have q1 : a.tmps[1]?.getD undef = .pointer (some ⟨bt, 0, none⟩) := (hold 1 (by kernel_rfl)).trans o1
      have hn10 : ls 10 = false := by
        cases e : ls 10 with
        | false => rfl
        | true =>
          replace e := hcl 10 2 e (by kernel_rfl)
          rw [show ls 2 = false from hi] at e
          cases e
      rw [if_pos (by rfl)]
      clear hold hdep hend hdon hcl o0 o1
      have HJ := Lib.hid hJ
      clear hJ
      have c1 := HB.out w1 (HJ.out.1 hn10)
      go_simp
      exact hK _ _ (fun _ _ _ h => h) HJ.out rfl
    · intro ls vs a w1 hi hJ hold hdep hdon hcl K hK
      have q1 : a.tmps[1]?.getD undef = .pointer (some ⟨bt, 0, none⟩) := (hold 1 (by kernel_rfl)).trans o1
      have hn10 : ls 10 = false := by
        cases e : ls 10 with
        | false => rfl
        | true =>
          replace e := hcl 10 3 e (by kernel_rfl)
          rw [show ls 3 = false from hi] at e
          cases e
      rw [if_pos (by rfl)]
      clear hold hdep hend hdon hcl o0 o1
      have HJ := Lib.hid hJ
      clear hJ
      have c1 := HB.out w1 (HJ.out.1 hn10)
      go_simp
      exact hK _ _ (fun _ _ _ h => h) HJ.out rfl
    · intro ls vs a w1 hi hJ hold hdep hdon hcl K hK
      have q0 : a.tmps[0]?.getD undef = .int .i64 (x : Int) := (hold 0 (by kernel_rfl)).trans o0
      rw [if_pos (by rfl)]
      clear hold hdep hend hdon hcl o0 o1
      have HJ := Lib.hid hJ
      clear hJ
      go_simp
      exact hK _ _ (fun _ _ _ h => h) HJ.out rfl
    · intro ls vs a w1 hi hJ hold hdep hdon hcl K hK
      have q13 : a.tmps[13]?.getD undef = .slice (some ⟨g, 0, none⟩) n c := (hdep 3 13 (by kernel_rfl) (by kernel_rfl)).2.1.trans (hdep 3 13 (by kernel_rfl) (by kernel_rfl)).2.2
      have q14 : a.tmps[14]?.getD undef = .int .i64 (x : Int) := (hdep 4 14 (by kernel_rfl) (by kernel_rfl)).2.1.trans (hdep 4 14 (by kernel_rfl) (by kernel_rfl)).2.2
      rw [if_pos (by rfl)]
      clear hold hdep hend hdon hcl o0 o1
      have HJ := Lib.hid hJ
      clear hJ
      go_simp
      exact hK _ _ (fun _ _ _ h => h) HJ.out rfl
    · intro ls vs a w1 hi hJ hold hdep hdon hcl K hK
      have q15 : a.tmps[15]?.getD undef = .pointer (some ⟨g, x, none⟩) := (hdep 5 15 (by kernel_rfl) (by kernel_rfl)).2.1.trans (hdep 5 15 (by kernel_rfl) (by kernel_rfl)).2.2
      have hn10 : ls 10 = false := by
        cases e : ls 10 with
        | false => rfl
        | true =>
          replace e := hcl 10 6 e (by kernel_rfl)
          rw [show ls 6 = false from hi] at e
          cases e
      rw [if_pos (by rfl)]
      clear hold hdep hend hdon hcl o0 o1
      have HJ := Lib.hid hJ
      clear hJ
      have c1 := HX.out w1 (HJ.out.1 hn10)
      go_simp
      exact hK _ _ (fun _ _ _ h => h) HJ.out rfl
    · intro ls vs a w1 hi hJ hold hdep hdon hcl K hK
      have q12 : a.tmps[12]?.getD undef = .slice (some ⟨g, 0, none⟩) n c := (hdep 2 12 (by kernel_rfl) (by kernel_rfl)).2.1.trans (hdep 2 12 (by kernel_rfl) (by kernel_rfl)).2.2
      have q16 : a.tmps[16]?.getD undef = .int .i64 (p : Int) := (hdep 6 16 (by kernel_rfl) (by kernel_rfl)).2.1.trans (hdep 6 16 (by kernel_rfl) (by kernel_rfl)).2.2
      rw [if_pos (by rfl)]
      clear hold hdep hend hdon hcl o0 o1
      have HJ := Lib.hid hJ
      clear hJ
      go_simp
      exact hK _ _ (fun _ _ _ h => h) HJ.out rfl
    · intro ls vs a w1 hi hJ hold hdep hdon hcl K hK
      have q17 : a.tmps[17]?.getD undef = .pointer (some ⟨g, p, none⟩) := (hdep 7 17 (by kernel_rfl) (by kernel_rfl)).2.1.trans (hdep 7 17 (by kernel_rfl) (by kernel_rfl)).2.2
      have hn10 : ls 10 = false := by
        cases e : ls 10 with
        | false => rfl
        | true =>
          replace e := hcl 10 8 e (by kernel_rfl)
          rw [show ls 8 = false from hi] at e
          cases e
      rw [if_pos (by rfl)]
      clear hold hdep hend hdon hcl o0 o1
      have HJ := Lib.hid hJ
      clear hJ
      have c1 := HP.out w1 (HJ.out.1 hn10)
      go_simp
      exact hK _ _ (fun _ _ _ h => h) HJ.out rfl
    · intro ls vs a w1 hi hJ hold hdep hdon hcl K hK
      have q10 : a.tmps[10]?.getD undef = .slice (some ⟨g, 0, none⟩) n c := (hdep 0 10 (by kernel_rfl) (by kernel_rfl)).2.1.trans (hdep 0 10 (by kernel_rfl) (by kernel_rfl)).2.2
      have q11 : a.tmps[11]?.getD undef = .int .i64 (x : Int) := (hdep 1 11 (by kernel_rfl) (by kernel_rfl)).2.1.trans (hdep 1 11 (by kernel_rfl) (by kernel_rfl)).2.2
      rw [if_pos (by rfl)]
      clear hold hdep hend hdon hcl o0 o1
      have HJ := Lib.hid hJ
      clear hJ
      go_simp
      exact hK _ _ (fun _ _ _ h => h) HJ.out rfl
    · intro ls vs a w1 hi hJ hold hdep hdon hcl K hK
      have q18 : a.tmps[18]?.getD undef = .int .i64 (pp : Int) := (hdep 8 18 (by kernel_rfl) (by kernel_rfl)).2.1.trans (hdep 8 18 (by kernel_rfl) (by kernel_rfl)).2.2
      have q19 : a.tmps[19]?.getD undef = .pointer (some ⟨g, x, none⟩) := (hdep 9 19 (by kernel_rfl) (by kernel_rfl)).2.1.trans (hdep 9 19 (by kernel_rfl) (by kernel_rfl)).2.2
      rw [if_pos (by rfl)]
      clear hold hdep hend hdon hcl o0 o1
      have HJ := Lib.hid hJ
      clear hJ
      have hx := HJ.out.1 hi
      have c1 := HX.out w1 hx
      have f1 := HF.out w1 hx
      have r1 := HR.out w1 hx
      go_simp
      exact hK undef _ (fun _ _ _ h => h) ⟨fun e => (by simp at e), fun _ => r1⟩ trivial
  · intro vs w9 ls9 hl9 hJ9 hφ
    have e0 := hφ 0 (by kernel_rfl)
    have e1 := hφ 1 (by kernel_rfl)
    have e2 := hφ 2 (by kernel_rfl)
    have e3 := hφ 3 (by kernel_rfl)
    have e4 := hφ 4 (by kernel_rfl)
    have e5 := hφ 5 (by kernel_rfl)
    have e6 := hφ 6 (by kernel_rfl)
    have e7 := hφ 7 (by kernel_rfl)
    have e8 := hφ 8 (by kernel_rfl)
    have e9 := hφ 9 (by kernel_rfl)
    have hq := hend vs w9 ls9 hl9 hJ9 e0 e1 e2 e3 e4 e5 e6 e7 e8 e9
    simp only [Act.put] at hq
    simp only [putAll, Act.put]
    exact hq
/-- A forest: each number leads to another one that is nearer to its root, or is a root. -/
structure Forest (n : Nat) (ys : List Int) (R dep : Nat → Nat) : Prop where
  len : ys.length = n
  bd : ∀ i, i < n → 0 ≤ nth ys i ∧ nth ys i < n
  dn : ∀ i, i < n → (nth ys i).toNat ≠ i → dep (nth ys i).toNat < dep i
  rt : ∀ i, i < n → R (nth ys i).toNat = R i
  rr : ∀ i, i < n → (nth ys i).toNat = i → R i = i
theorem Forest.root_bd {n : Nat} {ys : List Int} {R dep : Nat → Nat} (h : Forest n ys R dep) : ∀ (m i : Nat), dep i < m → i < n → R i < n ∧ (nth ys (R i)).toNat = R i
  | 0, _, hm, _ => by omega
  | m + 1, i, hm, hi => by
    by_cases e : (nth ys i).toNat = i
    · rw [h.rr i hi e]; exact ⟨hi, e⟩
    · have h1 := h.dn i hi e
      have h2 := h.bd i hi
      have := h.root_bd m (nth ys i).toNat (by omega) (by omega)
      rw [h.rt i hi] at this; exact this
theorem Forest.halve {n : Nat} {ys : List Int} {R dep : Nat → Nat} (h : Forest n ys R dep) {x : Nat} (hx : x < n) (hne : (nth ys x).toNat ≠ x) : Forest n (ys.set x (nth ys (nth ys x).toNat)) R dep := by
  have hb := h.bd x hx
  have hp : (nth ys x).toNat < n := by omega
  have e : ∀ i, i < n → nth (ys.set x (nth ys (nth ys x).toNat)) i = if i = x then nth ys (nth ys x).toNat else nth ys i := fun i hi => nth_set _ _ _ _ (by rw [h.len]; exact hi)
  refine ⟨by rw [List.length_set]; exact h.len, fun i hi => ?_, fun i hi => ?_, fun i hi => ?_, fun i hi => ?_⟩
  · rw [e i hi]; split
    · exact h.bd _ hp
    · exact h.bd i hi
  · rw [e i hi]; split
    · rename_i e1; subst e1
      intro _
      have h1 := h.dn i hi hne
      by_cases e2 : (nth ys (nth ys i).toNat).toNat = (nth ys i).toNat
      · rw [e2]; exact h1
      · have := h.dn _ hp e2; omega
    · exact h.dn i hi
  · rw [e i hi]; split
    · rename_i e1; subst e1
      rw [h.rt _ hp, h.rt i hi]
    · exact h.rt i hi
  · rw [e i hi]; split
    · rename_i e1; subst e1
      intro e3
      have h1 := h.dn i hi hne
      by_cases e2 : (nth ys (nth ys i).toNat).toNat = (nth ys i).toNat
      · rw [e2] at e3; exact absurd e3 hne
      · have := h.dn _ hp e2; rw [e3] at this; omega
    · exact h.rr i hi
theorem enters79 : Enters Tryz.prog 79 := Enters.mk Tryz.func79 rfl rfl
set_option maxRecDepth 100000 in
set_option maxHeartbeats 2000000 in
theorem root_any (bt B g n c i : Nat) (ys : List Int) (R dep : Nat → Nat) (w : World) (hi : i < n) (hn : n ≤ 1000000) (hb : w.cell? ⟨bt, 0, none⟩ = some (.slice (some ⟨g, 0, none⟩) n c)) (hbg : bt ≠ g) (ho : OwnI w B (.slice (some ⟨g, 0, none⟩) n c) ys) (hf : Forest n ys R dep) :
    Calls Tryz.prog 79 #[.int .i64 (i : Int), .pointer (some ⟨bt, 0, none⟩)] w (fun e w' => e = .returned (.int .i64 (R i : Nat)) ∧ ExtX g w w' ∧ ∃ ys', OwnI w' B (.slice (some ⟨g, 0, none⟩) n c) ys' ∧ Forest n ys' R dep) := by
  have HB := Lib.hid hb; have HO := Lib.hid ho; have HF := Lib.hid hf; have HBG := Lib.hid hbg
  clear hb ho hf hbg
  go_enter Tryz.func79, Tryz.ntmps79
  go_upto_region 1 with fail
  go_loopw [0] (fun v wr => ∃ (x : Nat) (ys : List Int), v = .int .i64 (x : Int) ∧ x < n ∧ Hid (ExtX g w wr ∧ OwnI wr B (.slice (some ⟨g, 0, none⟩) n c) ys ∧ Forest n ys R dep ∧ R x = R i)) (fun v _ => dep (intOf v).toNat)
  case atStart => exact ⟨i, ys, rfl, hi, ExtX.refl _ _, HO.out, HF.out, rfl⟩
  case round =>
    obtain ⟨x, zs, rfl, hx, hh⟩ := hrel
    have hbd := hh.out.2.2.1.bd x hx
    obtain ⟨p, hp⟩ : ∃ p : Nat, nth zs x = (p : Int) := ⟨(nth zs x).toNat, by omega⟩
    have hpn : p < n := by omega
    have HCB : Hid (∀ W, Ext wr W → W.cell? ⟨bt, 0, none⟩ = some (.slice (some ⟨g, 0, none⟩) n c)) := fun W e => e.cell (hh.out.1.cell HB.out HBG.out)
    have HCX : Hid (∀ W, Ext wr W → W.cell? ⟨g, x, none⟩ = some (.int .i64 (p : Int))) := fun W e => by rw [← hp]; exact ownI_cell hh.out.2.2.1.len (hh.out.2.1.ext e) x hx
    have c1 := HCB.out wr (Ext.refl _)
    have c2 := HCX.out wr (Ext.refl _)
    have hx0 : (0 : Int) ≤ (x : Int) := by omega
    have hx1 : (x : Int) < (n : Int) := by omega
    have HP := Lib.hid hp
    clear hbd hp
    cases T : ((p : Int) != (x : Int))
    · have hpx : p = x := by simp at T; omega
      have HRX : Hid (R x = x) := hh.out.2.2.1.rr x hx (by rw [HP.out]; simp [hpx])
      go_wp2_with (fail)
      go_ret
      refine ⟨?_, hh.out.1, zs, hh.out.2.1, hh.out.2.2.1⟩
      rw [← hh.out.2.2.2, HRX.out]; rfl
    · have hpx : p ≠ x := by simp at T; omega
      have hb2 := hh.out.2.2.1.bd p hpn
      obtain ⟨pp, hpp⟩ : ∃ pp : Nat, nth zs p = (pp : Int) := ⟨(nth zs p).toNat, by omega⟩
      have hp0 : (0 : Int) ≤ (p : Int) := by omega
      have hp1 : (p : Int) < (n : Int) := by omega
      have HCP : Hid (∀ W, Ext wr W → W.cell? ⟨g, p, none⟩ = some (.int .i64 (pp : Int))) := fun W e => by rw [← hpp]; exact ownI_cell hh.out.2.2.1.len (hh.out.2.1.ext e) p hpn
      have HFR : Hid (∀ W, Ext wr W → W.frozen? ⟨g, x, none⟩ = false) := fun W e => ownI_free hh.out.2.2.1.len (hh.out.2.1.ext e) x
      have HFO := Lib.hid (hh.out.2.2.1.halve hx (by rw [HP.out]; simpa using hpx))
      have hset : zs.set x (nth zs (nth zs x).toNat) = zs.set x (pp : Int) := by rw [HP.out, Int.toNat_natCast, hpp]
      rw [hset] at HFO
      obtain ⟨Rp, hRp⟩ : ∃ Rp : World → Prop, Rp = fun W => ExtX g w W ∧ OwnI W B (.slice (some ⟨g, 0, none⟩) n c) (zs.set x (pp : Int)) := ⟨_, rfl⟩
      have HR : Hid (∀ W, Ext wr W → Rp (W.setCell ⟨g, x, none⟩ (.int .i64 (pp : Int)))) := fun W e => by
        rw [hRp]
        exact ⟨(hh.out.1.trans e.x).set _ _, ownI_set2 hh.out.2.2.1.len (hh.out.2.1.ext e) _⟩
      have HRP := Lib.hid hRp
      have HPP := Lib.hid hpp
      have HRE := Lib.hid hh.out.2.2.2
      have HDN : Hid (dep pp < dep x ∧ R pp = R x ∧ pp < n) := by
        have h1 := hh.out.2.2.1.dn x hx (by rw [HP.out]; simpa using hpx)
        rw [HP.out, Int.toNat_natCast] at h1
        have h2 := hh.out.2.2.1.rt x hx
        rw [HP.out, Int.toNat_natCast] at h2
        have h3 := hh.out.2.2.1.rt p hpn
        rw [HPP.out, Int.toNat_natCast] at h3
        refine ⟨?_, by rw [h3, h2], by omega⟩
        by_cases e : pp = p
        · rw [e]; exact h1
        · have := hh.out.2.2.1.dn p hpn (by rw [HPP.out]; simpa using e)
          rw [HPP.out, Int.toNat_natCast] at this; omega
      have HLE := Lib.hid hh.out.2.2.1.len
      clear hset hRp hpp hb2 hh
      go_upto_region 2 with fail
      refine rt_law hx0 hx1 hp0 hp1 HCB HCX HCP HFR HR _ (by rfl) rfl rfl ?_
      intro vs w9 ls9 hl9 hJ9 e0 e1 e2 e3 e4 e5 e6 e7 e8 e9
      simp only [Act.put, List.setIfInBounds_toArray, List.set_cons_zero, List.set_cons_succ]
      rw [e0, e1, e2, e3, e4, e5, e6, e7, e8, e9]
      obtain ⟨-, j2⟩ := hJ9
      have hfin := j2 (hl9 10 (by omega))
      rw [HRP.out] at hfin
      have HFIN := Lib.hid hfin
      have c3 : w9.cell? ⟨g, x, none⟩ = some (.int .i64 (pp : Int)) := by
        rw [ownI_cell (by rw [List.length_set]; exact HLE.out) HFIN.out.2 x hx, nth_set _ _ _ _ (by rw [HLE.out]; exact hx), if_pos rfl]
      have c4 : w9.cell? ⟨bt, 0, none⟩ = some (.slice (some ⟨g, 0, none⟩) n c) := HFIN.out.1.cell HB.out HBG.out
      clear hfin j2 c1 c2
      go_wp2_with (fail)
      go_roundw
      case rel => exact ⟨pp, _, rfl, HDN.out.2.2, HFIN.out.1, HFIN.out.2, HFO.out, by rw [HDN.out.2.1, HRE.out]⟩
      case measure => simp [intOf]; exact HDN.out.1
end Go.Proofs.YtplbofhgmflnlaaGreat
end
section
/-
  Walks: Least (printed by genm12.py).
-/
set_option linter.unusedVariables false
set_option linter.unusedSimpArgs false
namespace Go.Proofs.YtplbofhgmflnlaaGreat
open Go.RowKit
set_option maxRecDepth 100000 in
set_option maxHeartbeats 4000000 in
theorem kr_law {bt eb : Nat} {xa xb : Int} {ra rb : Int} {wr : World} {K9 : World → Prop} (HK0 : Hid (K9 wr.drew)) (HKC : Hid (∀ W, K9 W → W.cell? ⟨eb, 0, none⟩ = some (.int .i64 xa) ∧ W.cell? ⟨eb, 1, none⟩ = some (.int .i64 xb))) (HCA : Hid (∀ W, K9 W → Calls Tryz.prog 79 #[.int .i64 xa, .pointer (some ⟨bt, 0, none⟩)] W (fun e w' => e = .returned (.int .i64 ra) ∧ K9 w'))) (HCB : Hid (∀ W, K9 W → Calls Tryz.prog 79 #[.int .i64 xb, .pointer (some ⟨bt, 0, none⟩)] W (fun e w' => e = .returned (.int .i64 rb) ∧ K9 w'))) {Q : Exit → Act → World → Prop} (aZ : Act) (hsz : aZ.tmps.size = 86) (o13 : aZ.tmps[13]?.getD undef = .func (.func 79) #[] #[.pointer (some ⟨bt, 0, none⟩)]) (o16 : aZ.tmps[16]?.getD undef = .pointer (some ⟨eb, 0, none⟩))
    (hend : ∀ (vs : Nat → Value) (w9 : World) (ls9 : Nat → Bool), (∀ j : Nat, j < 10 → ls9 j = true) → (K9 w9) → (vs 0 = .func (.func 79) #[] #[.pointer (some ⟨bt, 0, none⟩)]) → (vs 1 = .pointer (some ⟨eb, 0, none⟩)) → (vs 2 = .int .i64 xa) → (vs 3 = .int .i64 ra) → (vs 4 = .func (.func 79) #[] #[.pointer (some ⟨bt, 0, none⟩)]) → (vs 5 = .pointer (some ⟨eb, 1, none⟩)) → (vs 6 = .int .i64 xb) → (vs 7 = .int .i64 rb) → (vs 8 = .int .i64 ra) → (vs 9 = .int .i64 rb) → Q .normal ((((((((((aZ.put (some 65) (vs 0)).put (some 66) (vs 1)).put (some 67) (vs 2)).put (some 68) (vs 3)).put (some 69) (vs 4)).put (some 70) (vs 5)).put (some 71) (vs 6)).put (some 72) (vs 7)).put (some 17) (vs 8)).put (some 18) (vs 9)) w9) : (regOf Tryz.f20 21).wp Tryz.prog Q aZ wr := by
  conv => arg 2; whnf
  refine wp_region_said3 (fun i v wz => match i with
    | 0 => v = .func (.func 79) #[] #[.pointer (some ⟨bt, 0, none⟩)]
    | 1 => v = .pointer (some ⟨eb, 0, none⟩)
    | 2 => v = .int .i64 xa
    | 3 => v = .int .i64 ra
    | 4 => v = .func (.func 79) #[] #[.pointer (some ⟨bt, 0, none⟩)]
    | 5 => v = .pointer (some ⟨eb, 1, none⟩)
    | 6 => v = .int .i64 xb
    | 7 => v = .int .i64 rb
    | 8 => v = .int .i64 ra
    | _ => v = .int .i64 rb) (fun ls vs wz => K9 wz) (by kernel_rfl) (by kernel_rfl) (by rw [hsz]; kernel_rfl) ?_ ?_ ?_
  · exact HK0.out
  · refine ⟨?_, ?_, ?_, ?_, ?_, ?_, ?_, ?_, ?_, ?_, trivial⟩
    · intro ls vs a w1 hi hJ hold hdep hdon hcl K hK
      have q13 : a.tmps[13]?.getD undef = .func (.func 79) #[] #[.pointer (some ⟨bt, 0, none⟩)] := (hold 13 (by kernel_rfl)).trans o13
      rw [if_pos (by rfl)]
      clear hold hdep hend hdon hcl o13 o16
      have HJ := Lib.hid hJ
      clear hJ
      go_simp
      exact hK _ _ (fun _ _ _ h => h) HJ.out rfl
    · intro ls vs a w1 hi hJ hold hdep hdon hcl K hK
      have q16 : a.tmps[16]?.getD undef = .pointer (some ⟨eb, 0, none⟩) := (hold 16 (by kernel_rfl)).trans o16
      rw [if_pos (by rfl)]
      clear hold hdep hend hdon hcl o13 o16
      have HJ := Lib.hid hJ
      clear hJ
      go_simp
      exact hK _ _ (fun _ _ _ h => h) HJ.out rfl
    · intro ls vs a w1 hi hJ hold hdep hdon hcl K hK
      have q66 : a.tmps[66]?.getD undef = .pointer (some ⟨eb, 0, none⟩) := (hdep 1 66 (by kernel_rfl) (by kernel_rfl)).2.1.trans (hdep 1 66 (by kernel_rfl) (by kernel_rfl)).2.2
      rw [if_pos (by rfl)]
      clear hold hdep hend hdon hcl o13 o16
      have HJ := Lib.hid hJ
      clear hJ
      obtain ⟨c1, c2⟩ := HKC.out _ HJ.out
      go_simp
      exact hK _ _ (fun _ _ _ h => h) HJ.out rfl
    · intro ls vs a w1 hi hJ hold hdep hdon hcl K hK
      have q65 : a.tmps[65]?.getD undef = .func (.func 79) #[] #[.pointer (some ⟨bt, 0, none⟩)] := (hdep 0 65 (by kernel_rfl) (by kernel_rfl)).2.1.trans (hdep 0 65 (by kernel_rfl) (by kernel_rfl)).2.2
      have q67 : a.tmps[67]?.getD undef = .int .i64 xa := (hdep 2 67 (by kernel_rfl) (by kernel_rfl)).2.1.trans (hdep 2 67 (by kernel_rfl) (by kernel_rfl)).2.2
      rw [if_pos (by rfl)]
      clear hold hdep hend hdon hcl o13 o16
      have HJ := Lib.hid hJ
      clear hJ
      have hen := enters79 #[.int .i64 xa, .pointer (some ⟨bt, 0, none⟩)] w1
      go_simp
      (with_reducible refine (HCA.out _ HJ.out).mono ?_); rintro e w20 ⟨rfl, hk⟩
      exact hK _ _ (fun _ _ _ h => h) hk rfl
    · intro ls vs a w1 hi hJ hold hdep hdon hcl K hK
      have q13 : a.tmps[13]?.getD undef = .func (.func 79) #[] #[.pointer (some ⟨bt, 0, none⟩)] := (hold 13 (by kernel_rfl)).trans o13
      rw [if_pos (by rfl)]
      clear hold hdep hend hdon hcl o13 o16
      have HJ := Lib.hid hJ
      clear hJ
      go_simp
      exact hK _ _ (fun _ _ _ h => h) HJ.out rfl
    · intro ls vs a w1 hi hJ hold hdep hdon hcl K hK
      have q16 : a.tmps[16]?.getD undef = .pointer (some ⟨eb, 0, none⟩) := (hold 16 (by kernel_rfl)).trans o16
      rw [if_pos (by rfl)]
      clear hold hdep hend hdon hcl o13 o16
      have HJ := Lib.hid hJ
      clear hJ
      go_simp
      exact hK _ _ (fun _ _ _ h => h) HJ.out rfl
    · intro ls vs a w1 hi hJ hold hdep hdon hcl K hK
      have q70 : a.tmps[70]?.getD undef = .pointer (some ⟨eb, 1, none⟩) := (hdep 5 70 (by kernel_rfl) (by kernel_rfl)).2.1.trans (hdep 5 70 (by kernel_rfl) (by kernel_rfl)).2.2
      rw [if_pos (by rfl)]
      clear hold hdep hend hdon hcl o13 o16
      have HJ := Lib.hid hJ
      clear hJ
      obtain ⟨c1, c2⟩ := HKC.out _ HJ.out
      go_simp
      exact hK _ _ (fun _ _ _ h => h) HJ.out rfl
    · intro ls vs a w1 hi hJ hold hdep hdon hcl K hK
      have q69 : a.tmps[69]?.getD undef = .func (.func 79) #[] #[.pointer (some ⟨bt, 0, none⟩)] := (hdep 4 69 (by kernel_rfl) (by kernel_rfl)).2.1.trans (hdep 4 69 (by kernel_rfl) (by kernel_rfl)).2.2
      have q71 : a.tmps[71]?.getD undef = .int .i64 xb := (hdep 6 71 (by kernel_rfl) (by kernel_rfl)).2.1.trans (hdep 6 71 (by kernel_rfl) (by kernel_rfl)).2.2
      rw [if_pos (by rfl)]
      clear hold hdep hend hdon hcl o13 o16
      have HJ := Lib.hid hJ
      clear hJ
      have hen := enters79 #[.int .i64 xb, .pointer (some ⟨bt, 0, none⟩)] w1
      go_simp
      (with_reducible refine (HCB.out _ HJ.out).mono ?_); rintro e w20 ⟨rfl, hk⟩
      exact hK _ _ (fun _ _ _ h => h) hk rfl
    · intro ls vs a w1 hi hJ hold hdep hdon hcl K hK
      have q68 : a.tmps[68]?.getD undef = .int .i64 ra := (hdep 3 68 (by kernel_rfl) (by kernel_rfl)).2.1.trans (hdep 3 68 (by kernel_rfl) (by kernel_rfl)).2.2
      rw [if_pos (by rfl)]
      clear hold hdep hend hdon hcl o13 o16
      have HJ := Lib.hid hJ
      clear hJ
      go_simp
      exact hK _ _ (fun _ _ _ h => h) HJ.out rfl
    · intro ls vs a w1 hi hJ hold hdep hdon hcl K hK
      have q72 : a.tmps[72]?.getD undef = .int .i64 rb := (hdep 7 72 (by kernel_rfl) (by kernel_rfl)).2.1.trans (hdep 7 72 (by kernel_rfl) (by kernel_rfl)).2.2
      rw [if_pos (by rfl)]
      clear hold hdep hend hdon hcl o13 o16
      have HJ := Lib.hid hJ
      clear hJ
      go_simp
      exact hK _ _ (fun _ _ _ h => h) HJ.out rfl
  · intro vs w9 ls9 hl9 hJ9 hφ
    have e0 := hφ 0 (by kernel_rfl)
    have e1 := hφ 1 (by kernel_rfl)
    have e2 := hφ 2 (by kernel_rfl)
    have e3 := hφ 3 (by kernel_rfl)
    have e4 := hφ 4 (by kernel_rfl)
    have e5 := hφ 5 (by kernel_rfl)
    have e6 := hφ 6 (by kernel_rfl)
    have e7 := hφ 7 (by kernel_rfl)
    have e8 := hφ 8 (by kernel_rfl)
    have e9 := hφ 9 (by kernel_rfl)
    have hq := hend vs w9 ls9 hl9 hJ9 e0 e1 e2 e3 e4 e5 e6 e7 e8 e9
    simp only [Act.put] at hq
    simp only [putAll, Act.put]
    exact hq
/-! ### edges -/
structure Ed where
  a : Nat
  b : Nat
  c : Int
deriving DecidableEq
def edC (x : Ed) : List Value := [.int .i64 (x.a : Int), .int .i64 (x.b : Int), .int .i64 x.c]
theorem edC_len (x : Ed) : (edC x).length = 3 := rfl
theorem edC_one (x : Ed) : ∀ u ∈ edC x, u.oneCell' = true := by
  intro u hu
  simp only [edC, List.mem_cons, List.mem_nil_iff, or_false] at hu
  rcases hu with rfl | rfl | rfl <;> rfl
def dth (xs : List Ed) (i : Nat) : Ed := xs.getD i ⟨0, 0, 0⟩
theorem dth_eq (xs : List Ed) (i : Nat) (h : i < xs.length) : dth xs i = xs[i] := by simp [dth, h]
abbrev edV (x : Ed) : Value := .agg #[.int .i64 (x.a : Int), .int .i64 (x.b : Int), .int .i64 x.c]
abbrev OwnE (w : World) (B : Nat) (v : Value) (es : List Ed) : Prop := OwnF 138 3 edC w B v es
abbrev Eds (w : World) (a : Option Addr) (es : List Ed) : Prop := RowAt 3 edC w a es
theorem info138 : (Tryz.prog.info? 138).map (fun i => (i.zero, i.size, i.bytes)) = some (some (.agg #[.int .i64 0, .int .i64 0, .int .i64 0]), 3, 24) := by kernel_rfl
theorem app_ed (w : World) (B : Nat) (ty : TypeId) (v : Value) (xs ys : List Ed) (a : Option Addr) (c : Nat) (hv : OwnE w B v xs) (hx : Eds w a ys) (hn : xs.length + ys.length ≤ 1000000) (hB : B ≤ w.heap.size) :
    ∃ v' w', (Builtin.append_ #[136, 136] ty #[v, .slice a ys.length c]).run Tryz.prog w = .ok v' w' ∧ OwnE w' B v' (xs ++ ys) ∧ w.grownBy w' v.ownBlock := by
  obtain ⟨i0, hi, hz0, hz1, hz2⟩ := info_parts info138
  exact app_row edC_len edC_one Tryz.underlying136 hi hz0 hz1 hz2 rfl (by omega) (by omega) w B ty v xs ys a c hv hx hn hB
theorem ed_one {w : World} {b : Nat} {x : Ed} {T : TypeId} {fz : Nat × Nat} (h : w.heap[b]? = some (.cells #[.int .i64 (x.a : Int), .int .i64 (x.b : Int), .int .i64 x.c] T fz)) : Eds w (some ⟨b, 0, none⟩) [x] := by
  obtain ⟨c0, c1, c2⟩ := obj_cells3 h
  refine .inr ⟨b, 0, rfl, fun i hi j hj => ?_⟩
  obtain rfl : i = 0 := by simp at hi; omega
  match j, hj with
  | 0, _ => exact c0 w (Ext.refl w)
  | 1, _ => exact c1 w (Ext.refl w)
  | 2, _ => exact c2 w (Ext.refl w)
theorem ed_at {w : World} {a : Option Addr} {xs : List Ed} (h : Eds w a xs) (i : Nat) (hi : i < xs.length) : ∃ b o, a = some ⟨b, o, none⟩ ∧
    (∀ W, Ext w W → W.cell? ⟨b, o + i * 3, none⟩ = some (.int .i64 ((dth xs i).a : Int))) ∧
    (∀ W, Ext w W → W.cell? ⟨b, o + i * 3 + 1, none⟩ = some (.int .i64 ((dth xs i).b : Int))) ∧
    (∀ W, Ext w W → W.cell? ⟨b, o + i * 3 + 2, none⟩ = some (.int .i64 (dth xs i).c)) := by
  obtain ⟨b, o, h1, h2⟩ := RowAt.at edC_len h i hi
  rw [← dth_eq xs i hi] at h2
  refine ⟨b, o, h1, fun W e => by have := h2 0 (by omega) W e; simpa [edC] using this, fun W e => by have := h2 1 (by omega) W e; simpa [edC] using this, fun W e => by have := h2 2 (by omega) W e; simpa [edC] using this⟩
def edRow (T : Nat → Nat → Int) (i k : Nat) : List Ed := (List.range k).map fun q => ⟨i, q, T i q⟩
def edTo (T : Nat → Nat → Int) (i : Nat) : List Ed := (List.range i).flatMap fun p => edRow T p p
theorem edRow_succ (T : Nat → Nat → Int) (i k : Nat) : edRow T i (k + 1) = edRow T i k ++ [⟨i, k, T i k⟩] := by
  unfold edRow; rw [List.range_succ]; simp
theorem edTo_succ (T : Nat → Nat → Int) (i : Nat) : edTo T (i + 1) = edTo T i ++ edRow T i i := by
  unfold edTo; rw [List.range_succ]; simp
theorem edRow_len (T : Nat → Nat → Int) (i k : Nat) : (edRow T i k).length = k := by simp [edRow]
theorem edTo_len (T : Nat → Nat → Int) : ∀ i, (edTo T i).length * 2 + i = i * i
  | 0 => rfl
  | i + 1 => by
    have := edTo_len T i
    rw [edTo_succ, List.length_append, edRow_len]
    have e : (i + 1) * (i + 1) = i * i + i + i + 1 := by rw [Nat.add_mul, Nat.mul_add]; omega
    omega
theorem edTo_mem {T : Nat → Nat → Int} {n : Nat} {e : Ed} (h : e ∈ edTo T n) : e.a < n ∧ e.b < e.a ∧ e.c = T e.a e.b := by
  unfold edTo edRow at h
  rw [List.mem_flatMap] at h
  obtain ⟨p, hp, hq⟩ := h
  rw [List.mem_map] at hq
  obtain ⟨q, hq, rfl⟩ := hq
  rw [List.mem_range] at hp hq
  exact ⟨hp, hq, rfl⟩
/-! ### the cheapest edges joined first -/
def kruStep (s : (Nat → Nat) × Int) (e : Ed) : (Nat → Nat) × Int :=
  if s.1 e.a = s.1 e.b then s else (fun i => if s.1 i = s.1 e.a then s.1 e.b else s.1 i, s.2 + e.c)
def kruF (es : List Ed) : (Nat → Nat) × Int := es.foldl kruStep (id, 0)
theorem kruF_take (es : List Ed) (k : Nat) (hk : k < es.length) : kruF (es.take (k + 1)) = kruStep (kruF (es.take k)) (dth es k) := by
  unfold kruF
  rw [List.take_succ_eq_append_getElem hk, List.foldl_append, dth_eq es k hk]; rfl
theorem kruF_bd {es : List Ed} {C : Int} (hC : 0 ≤ C) (h : ∀ e ∈ es, 0 ≤ e.c ∧ e.c ≤ C) : ∀ k, k ≤ es.length → 0 ≤ (kruF (es.take k)).2 ∧ (kruF (es.take k)).2 ≤ C * k
  | 0, _ => by simp [kruF]
  | k + 1, hk => by
    have ih := kruF_bd hC h k (by omega)
    have hd := h (dth es k) (by rw [dth_eq es k (by omega)]; exact List.getElem_mem _)
    rw [kruF_take es k (by omega)]
    have e : C * ((k + 1 : Nat) : Int) = C * k + C := by rw [Int.natCast_add, Int.mul_add]; simp
    unfold kruStep
    split
    · rw [e]; omega
    · rw [e]; simp only; omega
theorem Forest.join {n : Nat} {ys : List Int} {R dep : Nat → Nat} (h : Forest n ys R dep) {a b : Nat} (ha : a < n) (hb : b < n) (hra : R a = a) (hrb : R b = b) (hra' : (nth ys a).toNat = a) (hne : a ≠ b) :
    Forest n (ys.set a (b : Int)) (fun i => if R i = a then b else R i) (fun i => if R i = a then dep i + dep b + 1 else dep i) := by
  have e : ∀ i, i < n → nth (ys.set a (b : Int)) i = if i = a then (b : Int) else nth ys i := fun i hi => nth_set _ _ _ _ (by rw [h.len]; exact hi)
  have hba : R b ≠ a := by rw [hrb]; exact fun e => hne e.symm
  refine ⟨by rw [List.length_set]; exact h.len, fun i hi => ?_, fun i hi => ?_, fun i hi => ?_, fun i hi => ?_⟩
  · rw [e i hi]; split
    · omega
    · exact h.bd i hi
  · rw [e i hi]
    by_cases e1 : i = a
    · subst e1
      rw [if_pos rfl, Int.toNat_natCast]
      intro _
      simp only [hra, if_true, if_neg hba]
      omega
    · rw [if_neg e1]
      intro hp
      have h1 := h.dn i hi hp
      have h2 := h.rt i hi
      simp only [h2]
      split <;> omega
  · rw [e i hi]
    by_cases e1 : i = a
    · subst e1
      rw [if_pos rfl, Int.toNat_natCast]
      simp only [hra, if_true, if_neg hba, hrb]
      split <;> rfl
    · rw [if_neg e1]
      simp only [h.rt i hi]
  · rw [e i hi]
    by_cases e1 : i = a
    · subst e1
      rw [if_pos rfl, Int.toNat_natCast]
      intro e2; exact absurd e2.symm hne
    · rw [if_neg e1]
      intro e2
      have := h.rr i hi e2
      simp only [this, if_neg e1]
theorem Forest.init (n : Nat) : Forest n (rngI n) id (fun _ => 0) := by
  have e : ∀ i, i < n → nth (rngI n) i = (i : Int) := fun i hi => nth_fl _ _ _ hi
  refine ⟨rngI_len n, fun i hi => ?_, fun i hi => ?_, fun i hi => ?_, fun i hi => ?_⟩
  · rw [e i hi]; omega
  · rw [e i hi, Int.toNat_natCast]; intro h; exact absurd rfl h
  · rw [e i hi, Int.toNat_natCast]
  · intro _; rfl

/-- What is asked of the library's sort at edges. -/
def SortEd : Prop := ∀ (B g c : Nat) (es : List Ed) (w : World), OwnE w B (.slice (some ⟨g, 0, none⟩) es.length c) es → es.length ≤ 1000000 →
  Calls Tryz.prog 76 #[.slice (some ⟨g, 0, none⟩) es.length c, .func (.func 77) #[] #[]] w (fun e w' => e = .returned (.tuple #[]) ∧ ∃ es', es'.Perm es ∧ es'.Pairwise (fun x y => x.c ≤ y.c) ∧ ExtX g w w' ∧ OwnE w' B (.slice (some ⟨g, 0, none⟩) es.length c) es')
def SortEdN : Prop := ∀ (w : World), Calls Tryz.prog 76 #[.slice none 0 0, .func (.func 77) #[] #[]] w (fun e w' => e = .returned (.tuple #[]) ∧ w' = w)
/-- What Least answers: the edges in some order by their costs, joined. -/
def RetLeast (T : Nat → Nat → Int) (n : Nat) (w : World) (e : Ending) (w' : World) : Prop :=
  ∃ es : List Ed, es.Perm (edTo T n) ∧ es.Pairwise (fun x y => x.c ≤ y.c) ∧ e = .returned (.tuple #[.int .i64 (kruF es).2, .int .i64 0]) ∧ Ext w w'
set_option maxRecDepth 100000 in
set_option maxHeartbeats 4000000 in
theorem least_ok (hsort : SortEd) (hsortN : SortEdN) (P : Pw) (a : Option Addr) (ss : List Se) (sc : Nat) (w : World) (hp : PlanAt w P) (hb : PlanB P) (hs : SetsAt w a ss) (hn : ss.length ≤ 1000) (hcap : ss.length ≤ sc) (hl : ∀ i, i < ss.length → (eth ss i).lv.xs.length ≤ 9223372036854775807) (hv : checkE P ss = 0) :
    Calls Tryz.prog 20 #[planV P, .slice a ss.length sc] w (RetLeast (costM P.fs ss) ss.length w) := by
  obtain ⟨h1, h2, h3⟩ := checkE_ok hv
  have hck := fun W (e : Ext w W) => check_any P a ss sc W (hp.ext e) hb (hs.ext e) (by omega) hl
  have hco := fun W (e : Ext w W) p q (hp' : p < ss.length) (hq : q < ss.length) => cost_any P (eth ss p) (eth ss q) W (hp.ext e) (planOk h1).1 (fun i hi => (anyFac_off (planOk h1).2.2.1 i hi).2.2) ((hs.ext e).lv p hp') ((hs.ext e).lv q hq) (levB_len (setOk (h3 p hp')).1) (levB_len (setOk (h3 q hq)).1)
  have hcb := fun p q => costTo_bd (eth ss p).lv.xs (eth ss q).lv.xs (fun i hi => (anyFac_off (planOk h1).2.2.1 i hi).2.2) P.fs.length (Nat.le_refl _)
  have hf8 := (planOk h1).1
  rw [hv] at hck
  obtain ⟨fs, fa, fc, fo, ga, gc⟩ := P
  simp only at hco hcb hf8 ⊢
  obtain ⟨T, hT⟩ : ∃ T, T = costM fs ss := ⟨_, rfl⟩
  have htbd : ∀ p q, 0 ≤ T p q ∧ T p q ≤ 8000 := fun p q => by
    rw [hT]
    have := hcb p q
    show 0 ≤ costTo fs _ _ fs.length ∧ costTo fs _ _ fs.length ≤ 8000
    omega
  rw [← hT]
  have HCK := Lib.hid hck; have HCO := Lib.hid hco; have HT := Lib.hid hT; have HTB := Lib.hid htbd; have HS := Lib.hid hs; have HSO := Lib.hid hsort; have HSN := Lib.hid hsortN
  clear hck hco hT htbd hcb hf8 hp hb hs hl hv h1 h2 h3 hsort hsortN
  go_enter Tryz.func20, Tryz.ntmps20
  go_wp2_with (fail)
  generalize hw1 : World.alloc _ _ = w1
  obtain ⟨he, o1, -⟩ := alloc1 hw1
  obtain ⟨b0, b1⟩ := obj_cells2 o1
  clear hw1 o1
  have HE := Lib.hid he
  clear he
  (with_reducible refine (HCK.out _ HE.out).mono ?_); rintro e w2 ⟨rfl, he2⟩
  have HE2 := Lib.hid he2
  clear HCK he2
  go_wp2_with (fail)
  go_loopw [7, 27] (fun v i wr => ∃ (k : Nat) (vv : Value), k ≤ ss.length ∧ i = .int .i64 k ∧ v = vv ∧ Ext w1 wr ∧ Hid (OwnE wr w1.heap.size vv (edTo T k))) (fun _ i _ => ss.length - (intOf i).toNat)
  case atStart => exact ⟨0, _, Nat.zero_le _, rfl, rfl, HE2.out, OwnF.nil _ _ _ _ _⟩
  case round =>
    obtain ⟨i, _, hi, rfl, rfl, hr, hown⟩ := hrel
    obtain ⟨wo, rfl⟩ : ∃ wo : World, wo = wr := ⟨_, rfl⟩
    by_cases hlt : i < ss.length
    · obtain ⟨sb, so, rfl, d0, d1⟩ := set_at (HS.out.ext (HE.out.trans hr)).row i hlt
      have Er := Ext.refl wo
      obtain ⟨A0, hA0⟩ : ∃ A0, A0 = Value.slice (eth ss i).lv.a (eth ss i).lv.xs.length (eth ss i).lv.c := ⟨_, rfl⟩
      obtain ⟨A1, hA1⟩ : ∃ A1, A1 = Value.int .i64 (eth ss i).blk := ⟨_, rfl⟩
      have HA : Hid (setV (eth ss i) = .agg #[A0, A1]) := by rw [hA0, hA1]; rfl
      have hii : (i : Int) ≤ (ss.length : Int) := by omega
      have hi0 : (0 : Int) ≤ (i : Int) := by omega
      have hic : (i : Int) ≤ (sc : Int) := by omega
      go_upto_region 9 with fail
      generalize hw3 : World.alloc wo _ = w3
      obtain ⟨he3, o3, hs3⟩ := alloc1 hw3
      obtain ⟨ab, hab⟩ : ∃ ab, ab = wo.heap.size := ⟨_, rfl⟩
      rw [← hab] at o3 ⊢
      rw [← hA0, ← hA1] at o3
      have HAB := Lib.hid o3
      have hr3 := hr.trans he3
      have HOW3 := Lib.hid (hown.out.ext he3)
      clear hw3 o3 d0 d1 Er he3 hs3 hab hown hA0 hA1
      go_loopw [7, 36] (fun v j wr => ∃ (k : Nat) (vv : Value), k ≤ i ∧ j = .int .i64 k ∧ v = vv ∧ Ext w1 wr ∧ Hid (wr.heap[ab]? = some (.cells #[A0, A1] 49 (0, 0))) ∧ Hid (OwnE wr w1.heap.size vv (edTo T i ++ edRow T i k))) (fun _ j _ => i - (intOf j).toNat)
      case atStart => exact ⟨0, _, Nat.zero_le _, rfl, rfl, hr3, HAB.out, Lib.hid (by simpa [edRow] using HOW3.out)⟩
      case round =>
        obtain ⟨k, _, hk, rfl, rfl, hrq, hab, hown⟩ := hrel
        obtain ⟨wi, rfl⟩ : ∃ wi : World, wi = wr := ⟨_, rfl⟩
        clear HAB HOW3 hr3
        by_cases hlt2 : k < i
        · obtain ⟨z0, z1⟩ := obj_cells2 hab.out
          obtain ⟨sb', so', hbo, d0, d1⟩ := set_at (HS.out.ext (HE.out.trans hrq)).row k (by omega)
          simp only [Option.some.injEq, Addr.mk.injEq, and_true] at hbo
          obtain ⟨rfl, rfl⟩ := hbo
          have Er := Ext.refl wi
          obtain ⟨B0, hB0⟩ : ∃ B0, B0 = Value.slice (eth ss k).lv.a (eth ss k).lv.xs.length (eth ss k).lv.c := ⟨_, rfl⟩
          obtain ⟨B1, hB1⟩ : ∃ B1, B1 = Value.int .i64 (eth ss k).blk := ⟨_, rfl⟩
          have HBV : Hid (setV (eth ss k) = .agg #[B0, B1]) := by rw [hB0, hB1]; rfl
          go_upto_region 11 with fail
          generalize hw5 : World.alloc wi _ = w5
          obtain ⟨he5, o5, hs5⟩ := alloc1 hw5
          obtain ⟨bb, hbb⟩ : ∃ bb, bb = wi.heap.size := ⟨_, rfl⟩
          rw [← hbb] at o5 ⊢
          rw [← hB0, ← hB1] at o5
          obtain ⟨c0, c1⟩ := obj_cells2 o5
          have hr5 := hrq.trans he5
          have HAB5 := Lib.hid (he5.block hab.out)
          have HOW5 := Lib.hid (hown.out.ext he5)
          have p0 := fun W (e : Ext w5 W) => b0 W (hr5.trans e)
          have p1 := fun W (e : Ext w5 W) => b1 W (hr5.trans e)
          have a0 := fun W (e : Ext w5 W) => z0 W (he5.trans e)
          have a1 := fun W (e : Ext w5 W) => z1 W (he5.trans e)
          have E5 := Ext.refl w5
          obtain ⟨C, hC⟩ : ∃ C, C = T i k := ⟨_, rfl⟩
          have HCL : Hid (∀ W, Ext w5 W → Calls Tryz.prog 75 #[.agg #[.slice fa fs.length fc, .slice ga fo.length gc], .agg #[A0, A1], .agg #[B0, B1]] W (Ret (.int .i64 C) W)) := fun W e => by
            have := HCO.out W (HE.out.trans (hr5.trans e)) i k hlt (by omega)
            rw [HA.out, HBV.out] at this
            rw [hC, HT.out]; exact this
          have HAPP : Hid (∀ W, Ext w5 W → ∃ v' w', (Builtin.append_ #[136, 136] 136 #[u7, .slice (some ⟨W.heap.size, 0, none⟩) 1 1]).run Tryz.prog (W.alloc (.cells #[.int .i64 (i : Int), .int .i64 (k : Int), .int .i64 C] 138)) = .ok v' w' ∧ OwnE w' w1.heap.size v' (edTo T i ++ edRow T i (k + 1)) ∧ Ext w1 w' ∧ w'.heap[ab]? = some (.cells #[A0, A1] 49 (0, 0))) := fun W e => by
            have hx := (Ext.refl W).alloc (.cells #[.int .i64 (i : Int), .int .i64 (k : Int), .int .i64 C] 138)
            have hl := edTo_len T i
            have hl2 : i * i ≤ 1000 * 1000 := Nat.mul_le_mul (by omega) (by omega)
            obtain ⟨v', w', r1, r2, r3⟩ := app_ed (W.alloc (.cells #[.int .i64 (i : Int), .int .i64 (k : Int), .int .i64 C] 138)) w1.heap.size 136 u7 (edTo T i ++ edRow T i k) [⟨i, k, C⟩] (some ⟨W.heap.size, 0, none⟩) 1 ((HOW5.out.ext e).ext hx) (ed_one (heap_new _ _)) (by rw [List.length_append, edRow_len]; simp; omega) (by rw [heap_size]; have := (hr5.trans e).size; omega)
            refine ⟨v', w', r1, ?_, ?_, ?_⟩
            · rw [List.append_assoc, hC, ← edRow_succ] at r2; exact r2
            · exact grown_ext ((hr5.trans e).alloc _) r3 (fun j hj => (HOW5.out.lt j hj).1)
            · have hb1 := hx.block (e.block HAB5.out)
              rw [r3.block ab (lt_of_block hb1) (fun e2 => own_type_ne ((HOW5.out.ext e).ext hx) hb1 (by decide) (by first | exact e2 | exact e2.symm))]
              exact hb1
          clear hw5 o5 hs5 hbb hown hC z0 z1 d0 d1 Er hB0 hB1
          go_wp2_with (first | (go_at_call 75; (with_reducible refine (HCL.out _ E5).mono ?_); rintro e w20 ⟨rfl, he20⟩) | (at_builtin; refine wpList_app _ rfl _ _ 136 rfl _ (HAPP.out _ he20) ?_; rintro v' w21 ⟨hv1, hu7, hv3⟩; have HV1 := Lib.hid hv1; have HV3 := Lib.hid hv3; clear hv1 hv3 HAPP HCL))
          go_roundw
          case rel => exact ⟨k + 1, v', by omega, by go_num, rfl, hu7, HV3.out, HV1.out⟩
          case measure => simp [intOf]; omega
        · obtain rfl : k = i := by omega
          have HO2 : Hid (OwnE wi w1.heap.size u7 (edTo T (k + 1))) := by rw [Hid, edTo_succ]; exact hown.out
          clear hown hab
          go_wp2_with (fail)
          go_roundw
          case rel => exact ⟨k + 1, u7, by omega, by go_num, rfl, hrq, HO2.out⟩
          case measure => simp [intOf]; omega
    · obtain ⟨n, hnn⟩ : ∃ n, n = ss.length := ⟨_, rfl⟩
      obtain rfl : i = n := by omega
      have HNN := Lib.hid hnn
      rw [← hnn] at hn hlt ⊢
      clear hnn
      have hel := edTo_len T i
      have hel2 : i * i ≤ 1000 * 1000 := Nat.mul_le_mul hn hn
      have HEL : Hid ((edTo T i).length ≤ 1000000) := by rw [Hid]; omega
      have hso : Calls Tryz.prog 76 #[u7, .func (.func 77) #[] #[]] wo (fun e w' => e = .returned (.tuple #[]) ∧ ∃ (es : List Ed) (a : Option Addr) (c : Nat), u7 = .slice a es.length c ∧ es.Perm (edTo T i) ∧ es.Pairwise (fun x y => x.c ≤ y.c) ∧ Ext w1 w' ∧ Eds w' a es) := by
        rcases hown.out.2 with ⟨hv, h0⟩ | ⟨g, cap, cur, hv, hgB, -⟩
        · rw [hv]
          refine (HSN.out wo).mono ?_
          rintro e w' ⟨h1, rfl⟩
          have : edTo T i = [] := List.length_eq_zero_iff.1 h0
          exact ⟨h1, [], none, 0, rfl, by rw [this], .nil, hr, .inl rfl⟩
        · rw [hv]
          have ho := hown.out
          rw [hv] at ho
          refine (HSO.out w1.heap.size g cap (edTo T i) wo ho HEL.out).mono ?_
          rintro e w' ⟨h1, es', h2, h3, h4, h5⟩
          have hle := h2.length_eq
          rw [← hle] at h5
          refine ⟨h1, es', some ⟨g, 0, none⟩, cap, by rw [hle], h2, h3, ?_, RowAt.own edC_len h5⟩
          exact ⟨h4.os.trans hr.os, h4.tape.trans hr.tape, h4.output.trans hr.output, Nat.le_trans hr.size h4.size, fun k hk => by
            rw [h4.block k (by have := hr.size; omega) (by omega)]; exact Below.block hr k hk⟩
      have HSR := Lib.hid hso
      clear hso hown hel hel2 hr
      go_wp2_with (fail)
      (with_reducible refine HSR.out.mono ?_); rintro e w4 ⟨rfl, es, ea, ec, rfl, hpm, hsr, hr4, hes⟩
      have HPM := Lib.hid hpm; have HSD := Lib.hid hsr; have HES := Lib.hid hes; have HR4 := Lib.hid hr4
      have HLN : Hid (es.length ≤ 1000000) := by rw [Hid, hpm.length_eq]; exact HEL.out
      have hnum := numbers_any i w4 (by omega)
      have HNU := Lib.hid hnum
      clear hpm hsr hes hr4 hnum HSR
      go_wp2_with (go_at_call 74; (with_reducible refine HNU.out.mono ?_); rintro e w5 ⟨g, c, rfl, he5, ho5⟩; rw [rngI_len] at ho5 ⊢; have HO5 := Lib.hid ho5; have HE5 := Lib.hid he5; clear HNU ho5 he5)
      generalize hw6 : World.alloc w5 _ = w6
      obtain ⟨he6, o6, hs6⟩ := alloc1 hw6
      obtain ⟨bt, hbt⟩ : ∃ bt, bt = w5.heap.size := ⟨_, rfl⟩
      rw [← hbt] at o6 ⊢
      have HBT := Lib.hid o6
      have HO6 := Lib.hid (HO5.out.ext he6)
      have HE6 := Lib.hid (HE5.out.trans he6)
      have HG : Hid (w4.heap.size ≤ g ∧ g ≠ bt ∧ w4.heap.size ≤ bt) := ⟨(own_lt HO5.out).1, by have := (own_lt HO5.out).2; omega, by have := HE5.out.size; omega⟩
      clear hw6 o6 he6 hs6 hbt
      have hle6 : es.length ≤ 1000000 := HLN.out
      go_loopw [14, 61] (fun sm j wr => ∃ (k : Nat), k ≤ es.length ∧ j = .int .i64 k ∧ sm = .int .i64 (kruF (es.take k)).2 ∧ Hid (Ext w4 wr ∧ wr.heap[bt]? = some (.cells #[.slice (some ⟨g, 0, none⟩) i c] 31 (0, 0)) ∧ ∃ ys dep, OwnI wr w4.heap.size (.slice (some ⟨g, 0, none⟩) i c) ys ∧ Forest i ys (kruF (es.take k)).1 dep)) (fun _ j _ => es.length - (intOf j).toNat)
      case atStart => exact ⟨0, Nat.zero_le _, rfl, rfl, HE6.out, HBT.out, rngI i, fun _ => 0, HO6.out, Forest.init i⟩
      case round =>
        obtain ⟨k, hk, rfl, rfl, hh⟩ := hrel
        by_cases hlt2 : k < es.length
        · obtain ⟨eb0, eo0, rfl, d0, d1, d2⟩ := ed_at (HES.out.ext edC_len hh.out.1) k hlt2
          have hmem : dth es k ∈ edTo T i := by rw [dth_eq es k hlt2]; exact HPM.out.mem_iff.1 (List.getElem_mem hlt2)
          obtain ⟨m1, m2, m3⟩ := edTo_mem hmem
          have htb := HTB.out (dth es k).a (dth es k).b
          rw [← m3] at htb
          have hbd := kruF_bd (C := 8000) (by omega) (fun e he => by have := edTo_mem (HPM.out.mem_iff.1 he); rw [this.2.2]; exact HTB.out _ _) k hk
          have HST : Hid (kruF (es.take (k + 1)) = kruStep (kruF (es.take k)) (dth es k)) := kruF_take es k hlt2
          obtain ⟨z, hz⟩ : ∃ z, z = (kruF (es.take k)).2 := ⟨_, rfl⟩
          obtain ⟨R, hR⟩ : ∃ R, R = (kruF (es.take k)).1 := ⟨_, rfl⟩
          have HH : Hid (Ext w4 wr ∧ wr.heap[bt]? = some (.cells #[.slice (some ⟨g, 0, none⟩) i c] 31 (0, 0)) ∧ ∃ ys dep, OwnI wr w4.heap.size (.slice (some ⟨g, 0, none⟩) i c) ys ∧ Forest i ys R dep) := by rw [hR]; exact hh.out
          rw [← hz] at hbd ⊢
          have HZ := Lib.hid hz; have HRR := Lib.hid hR
          clear hz hR hh
          generalize dth es k = ed at *
          obtain ⟨xa, xb, xc⟩ := ed
          simp only at d0 d1 d2 m1 m2 htb
          have hza : (0 : Int) ≤ z ∧ z ≤ 8000000000 := by have := HLN.out; omega
          have Er := Ext.refl wr
          have hkn : (k : Int) < (es.length : Int) := by omega
          go_upto_region 21 with fail
          generalize hw7 : World.alloc wr _ = w7
          obtain ⟨he7, o7, hs7⟩ := alloc1 hw7
          obtain ⟨eb, heb⟩ : ∃ eb, eb = wr.heap.size := ⟨_, rfl⟩
          rw [← heb] at o7 ⊢
          obtain ⟨hh1, hh2, ys, dep, hh3, hh4⟩ := HH.out
          have HD := Lib.hid hh4
          have hgs := (own_lt hh3).2
          have hbs := lt_of_block hh2
          have HEB : Hid (eb ≠ g ∧ eb ≠ bt) := ⟨by omega, by omega⟩
          obtain ⟨K9, hK9⟩ : ∃ K9 : World → Prop, K9 = fun W => Ext w4 W ∧ W.heap[bt]? = some (.cells #[.slice (some ⟨g, 0, none⟩) i c] 31 (0, 0)) ∧ W.heap[eb]? = some (.cells #[.int .i64 (xa : Int), .int .i64 (xb : Int), .int .i64 xc] 138 (0, 0)) ∧ ∃ ys, OwnI W w4.heap.size (.slice (some ⟨g, 0, none⟩) i c) ys ∧ Forest i ys R dep := ⟨_, rfl⟩
          have hk7 : K9 w7 := by rw [hK9]; exact ⟨hh1.trans he7, he7.block hh2, o7, ys, hh3.ext he7, hh4⟩
          have HK0 : Hid (K9 w7.drew) := by
            rw [hK9] at hk7 ⊢
            obtain ⟨k1, k2, k3, ys, k4, k5⟩ := hk7
            exact ⟨k1.drew, k2, k3, ys, k4.ext (Ext.refl _).drew, k5⟩
          have HKC : Hid (∀ W, K9 W → W.cell? ⟨eb, 0, none⟩ = some (.int .i64 (xa : Int)) ∧ W.cell? ⟨eb, 1, none⟩ = some (.int .i64 (xb : Int))) := fun W h => by
            rw [hK9] at h
            obtain ⟨q0, q1, q2⟩ := obj_cells3 h.2.2.1
            exact ⟨q0 W (Ext.refl _), q1 W (Ext.refl _)⟩
          have hcall : ∀ x, x < i → ∀ W, K9 W → Calls Tryz.prog 79 #[.int .i64 (x : Int), .pointer (some ⟨bt, 0, none⟩)] W (fun e w' => e = .returned (.int .i64 (R x : Nat)) ∧ K9 w') := fun x hx W h => by
            rw [hK9] at h
            obtain ⟨k1, k2, k3, ys, k4, k5⟩ := h
            refine (root_any bt w4.heap.size g i c x ys R dep W hx (by omega) (obj_cells1 k2 W (Ext.refl _)) (Ne.symm HG.out.2.1) k4 k5).mono ?_
            rintro e w' ⟨r1, r2, ys', r3, r4⟩
            refine ⟨r1, ?_⟩
            rw [hK9]
            refine ⟨⟨r2.os.trans k1.os, r2.tape.trans k1.tape, r2.output.trans k1.output, Nat.le_trans k1.size r2.size, fun j hj => ?_⟩, ?_, ?_, ys', r3, r4⟩
            · rw [r2.block j (by have := k1.size; omega) (by have := HG.out.1; omega)]; exact Below.block k1 j hj
            · rw [r2.block bt (lt_of_block k2) (Ne.symm HG.out.2.1)]; exact k2
            · rw [r2.block eb (lt_of_block k3) HEB.out.1]; exact k3
          have HCA := Lib.hid (hcall xa m1)
          have HCB := Lib.hid (hcall xb (by omega))
          have HK9 := Lib.hid hK9
          obtain ⟨ra, hra⟩ : ∃ ra, ra = R xa := ⟨_, rfl⟩
          obtain ⟨rb, hrb⟩ : ∃ rb, rb = R xb := ⟨_, rfl⟩
          rw [← hra] at HCA; rw [← hrb] at HCB
          have HRA := Lib.hid hra; have HRB := Lib.hid hrb
          have hrbd := hh4.root_bd (dep xa + 1) xa (by omega) m1
          have hrbd2 := hh4.root_bd (dep xb + 1) xb (by omega) (by omega)
          rw [← hra] at hrbd; rw [← hrb] at hrbd2
          have hran := hrbd.1; have hrbn := hrbd2.1
          clear hcall hk7 hK9 hw7 o7 hs7 heb hh1 hh2 hh3 hh4 HH d0 d1 d2 Er he7 hgs hbs hra hrb hrbd hrbd2 hmem m3
          refine kr_law HK0 HKC HCA HCB _ (by rfl) rfl rfl ?_
          intro vs w9 ls9 hl9 hJ9 e0 e1 e2 e3 e4 e5 e6 e7 e8 e9
          simp only [Act.put, List.setIfInBounds_toArray, List.set_cons_zero, List.set_cons_succ]
          rw [e0, e1, e2, e3, e4, e5, e6, e7, e8, e9]
          have HJ9 := Lib.hid hJ9
          clear HCA HCB HK0 HKC hJ9
          have hj := HJ9.out
          rw [HK9.out] at hj
          obtain ⟨k1, k2, k3, ys', k4, k5⟩ := hj
          have q0 := obj_cells1 k2
          obtain ⟨-, -, q2⟩ := obj_cells3 k3
          have q2' := q2 w9 (Ext.refl _)
          have q0' := q0 w9 (Ext.refl _)
          have hra0 : (0 : Int) ≤ (ra : Int) := by omega
          have hra1 : (ra : Int) < (i : Int) := by omega
          have HK1 := Lib.hid k1; have HK2 := Lib.hid k2; have HK4 := Lib.hid k4; have HK5 := Lib.hid k5
          clear k1 k2 k3 k4 k5 q0 q2
          cases T1 : ((ra : Int) != (rb : Int))
          · have hab : ra = rb := by simp at T1; omega
            have HNX : Hid (kruF (es.take (k + 1)) = (R, z)) := by
              rw [Hid, HST.out, kruStep, ← HRR.out, ← HRA.out, ← HRB.out, if_pos hab, HRR.out, HZ.out]
            go_wp2_with (fail)
            go_roundw
            case rel => exact ⟨k + 1, by omega, by go_num, by rw [HNX.out], HK1.out, HK2.out, ys', dep, HK4.out, by rw [HNX.out]; exact HK5.out⟩
            case measure => simp [intOf]; omega
          · have hab : ra ≠ rb := by simp at T1; omega
            have HNX : Hid (kruF (es.take (k + 1)) = (fun j => if R j = ra then rb else R j, z + xc)) := by
              rw [Hid, HST.out, kruStep, ← HRR.out, ← HRA.out, ← HRB.out, if_neg hab, ← HZ.out]
            have qa := ownI_cell HK5.out.len HK4.out ra hran
            have qf := ownI_free HK5.out.len HK4.out ra
            have HS2 : Hid (OwnI (w9.setCell ⟨g, ra, none⟩ (.int .i64 (rb : Int))) w4.heap.size (.slice (some ⟨g, 0, none⟩) i c) (ys'.set ra (rb : Int))) := ownI_set2 HK5.out.len HK4.out _
            have hroot : ∀ x, x < i → (nth ys' (R x)).toNat = R x ∧ R (R x) = R x := fun x hx => by
              have h1 := HK5.out.root_bd (dep x + 1) x (by omega) hx
              exact ⟨h1.2, HK5.out.rr _ h1.1 h1.2⟩
            have HFJ : Hid (Forest i (ys'.set ra (rb : Int)) (fun j => if R j = ra then rb else R j) (fun j => if R j = ra then dep j + dep rb + 1 else dep j)) := by
              have h1 := hroot xa m1
              have h2 := hroot xb (by omega)
              rw [← HRA.out] at h1; rw [← HRB.out] at h2
              exact HK5.out.join hran hrbn h1.2 h2.2 h1.1 hab
            have HX2 : Hid (Ext w4 (w9.setCell ⟨g, ra, none⟩ (.int .i64 (rb : Int))) ∧ (w9.setCell ⟨g, ra, none⟩ (.int .i64 (rb : Int))).heap[bt]? = some (.cells #[.slice (some ⟨g, 0, none⟩) i c] 31 (0, 0))) := ⟨HK1.out.set HG.out.1 _, by rw [heap_set_ne _ (Ne.symm HG.out.2.1)]; exact HK2.out⟩
            have q3 : (w9.setCell ⟨g, ra, none⟩ (.int .i64 (rb : Int))).cell? ⟨eb, 2, none⟩ = some (.int .i64 xc) := by
              unfold World.cell? at q2' ⊢
              rw [heap_set_ne _ HEB.out.1]; exact q2'
            clear hroot
            go_wp2_with (fail)
            go_roundw
            case rel => exact ⟨k + 1, by omega, by go_num, by rw [HNX.out], HX2.out.1, HX2.out.2, _, _, HS2.out, by rw [HNX.out]; exact HFJ.out⟩
            case measure => simp [intOf]; omega
        · obtain rfl : k = es.length := by omega
          have HKR : Hid (es.take es.length = es) := List.take_length
          have HRX := Lib.hid (HE.out.trans (HR4.out.trans hh.out.1))
          rw [HKR.out]
          clear hh
          go_wp2_with (fail)
          go_ret2
          exact ⟨es, by rw [← HNN.out]; exact HPM.out, HSD.out, rfl, HRX.out⟩
end Go.Proofs.YtplbofhgmflnlaaGreat
end
section
/-
  The shelf's layings at this program, in plain words (written by the kit's tool lay-plain): the library's sort at edges, at words, at numbers.
-/
namespace Go.Proofs.YtplbofhgmflnlaaGreat
open Go.Shelf
def sortE_ren : Go.Shelf.Ren := ⟨fun | 6 => 76 | 15 => 112 | 14 => 111 | 28 => 143 | 29 => 144 | 20 => 135 | 21 => 136 | 22 => 137 | 23 => 138 | 24 => 139 | 25 => 140 | 26 => 141 | 27 => 142 | 46 => 161 | 47 => 162 | 48 => 163 | 49 => 164 | 50 => 165 | 57 => 180 | n => n, fun | 22 => 136 | 24 => 138 | 25 => 141 | 3 => 3 | 39 => 72 | 0 => 0 | 53 => 210 | 55 => 40 | 4 => 4 | 46 => 204 | 45 => 203 | 50 => 113 | 5 => 5 | 9 => 9 | 66 => 229 | 70 => 233 | 76 => 244 | 77 => 245 | n => n, fun | n => n⟩
theorem sortE : Go.Proofs.SlLaysF0.n6 Tryz.prog sortE_ren := {
  mixed := by kernel_rfl
  f6 := ⟨Tryz.f76.name, by decide, Tryz.func76.trans (congrArg some (by kernel_rfl))⟩
  f14 := ⟨Tryz.f111.name, by decide, Tryz.func111.trans (congrArg some (by kernel_rfl))⟩
  f15 := Tryz.func112.trans (congrArg some (by kernel_rfl))
  f20 := ⟨Tryz.f135.name, by decide, Tryz.func135.trans (congrArg some (by kernel_rfl))⟩
  f21 := ⟨Tryz.f136.name, by decide, Tryz.func136.trans (congrArg some (by kernel_rfl))⟩
  f22 := ⟨Tryz.f137.name, by decide, Tryz.func137.trans (congrArg some (by kernel_rfl))⟩
  f23 := ⟨Tryz.f138.name, by decide, Tryz.func138.trans (congrArg some (by kernel_rfl))⟩
  f24 := ⟨Tryz.f139.name, by decide, Tryz.func139.trans (congrArg some (by kernel_rfl))⟩
  f25 := ⟨Tryz.f140.name, by decide, Tryz.func140.trans (congrArg some (by kernel_rfl))⟩
  f26 := ⟨Tryz.f141.name, by decide, Tryz.func141.trans (congrArg some (by kernel_rfl))⟩
  f27 := ⟨Tryz.f142.name, by decide, Tryz.func142.trans (congrArg some (by kernel_rfl))⟩
  f28 := Tryz.func143.trans (congrArg some (by kernel_rfl))
  f29 := Tryz.func144.trans (congrArg some (by kernel_rfl))
  f46 := ⟨Tryz.f161.name, by decide, Tryz.func161.trans (congrArg some (by kernel_rfl))⟩
  f47 := Tryz.func162.trans (congrArg some (by kernel_rfl))
  f48 := Tryz.func163.trans (congrArg some (by kernel_rfl))
  f49 := ⟨Tryz.f164.name, by decide, Tryz.func164.trans (congrArg some (by kernel_rfl))⟩
  f50 := ⟨Tryz.f165.name, by decide, Tryz.func165.trans (congrArg some (by kernel_rfl))⟩
  f57 := ⟨Tryz.f180.name, by decide, Tryz.func180.trans (congrArg some (by kernel_rfl))⟩
  t0 := Tryz.underlying0
  a0 := Tryz.isAgg0
  z0 := Tryz.sizeOf0
  v0 := Tryz.zeroValue0
  t3 := Tryz.underlying3
  a3 := Tryz.isAgg3
  z3 := Tryz.sizeOf3
  v3 := Tryz.zeroValue3
  t4 := Tryz.underlying4
  a4 := Tryz.isAgg4
  z4 := Tryz.sizeOf4
  v4 := Tryz.zeroValue4
  t5 := Tryz.underlying5
  a5 := Tryz.isAgg5
  z5 := Tryz.sizeOf5
  v5 := Tryz.zeroValue5
  t9 := Tryz.underlying9
  a9 := Tryz.isAgg9
  z9 := Tryz.sizeOf9
  v9 := Tryz.zeroValue9
  t22 := Tryz.underlying136
  a22 := Tryz.isAgg136
  z22 := Tryz.sizeOf136
  v22 := Tryz.zeroValue136
  t25 := Tryz.underlying141
  a25 := Tryz.isAgg141
  z25 := Tryz.sizeOf141
  v25 := Tryz.zeroValue141
  t39 := Tryz.underlying72
  a39 := Tryz.isAgg72
  z39 := Tryz.sizeOf72
  v39 := Tryz.zeroValue72
  t45 := Tryz.underlying203
  a45 := Tryz.isAgg203
  z45 := Tryz.sizeOf203
  v45 := Tryz.zeroValue203
  t46 := Tryz.underlying204
  a46 := Tryz.isAgg204
  z46 := Tryz.sizeOf204
  v46 := Tryz.zeroValue204
  t50 := Tryz.underlying113
  a50 := Tryz.isAgg113
  z50 := Tryz.sizeOf113
  v50 := Tryz.zeroValue113
  t53 := Tryz.underlying210
  a53 := Tryz.isAgg210
  z53 := Tryz.sizeOf210
  v53 := Tryz.zeroValue210
  t55 := Tryz.underlying40
  a55 := Tryz.isAgg40
  z55 := Tryz.sizeOf40
  v55 := Tryz.zeroValue40
  t66 := Tryz.underlying229
  a66 := Tryz.isAgg229
  z66 := Tryz.sizeOf229
  v66 := Tryz.zeroValue229
  t70 := Tryz.underlying233
  a70 := Tryz.isAgg233
  z70 := Tryz.sizeOf233
  v70 := Tryz.zeroValue233
  t76 := Tryz.underlying244
  a76 := Tryz.isAgg244
  z76 := Tryz.sizeOf244
  v76 := Tryz.zeroValue244
  t77 := Tryz.underlying245
  a77 := Tryz.isAgg245
  z77 := Tryz.sizeOf245
  v77 := Tryz.zeroValue245 }
def sortW_ren : Go.Shelf.Ren := ⟨fun | 6 => 122 | 15 => 112 | 14 => 149 | 28 => 143 | 29 => 144 | 20 => 168 | 21 => 169 | 22 => 170 | 23 => 171 | 24 => 172 | 25 => 173 | 26 => 174 | 27 => 175 | 46 => 181 | 47 => 162 | 48 => 163 | 49 => 182 | 50 => 183 | 57 => 185 | n => n, fun | 22 => 56 | 24 => 75 | 25 => 184 | 3 => 3 | 39 => 72 | 0 => 0 | 53 => 210 | 55 => 40 | 4 => 4 | 46 => 204 | 45 => 203 | 50 => 113 | 5 => 5 | 9 => 9 | 66 => 229 | 70 => 233 | 76 => 244 | 77 => 245 | n => n, fun | n => n⟩
theorem sortW : Go.Proofs.SlLaysF0.n6 Tryz.prog sortW_ren := {
  mixed := by kernel_rfl
  f6 := ⟨Tryz.f122.name, by decide, Tryz.func122.trans (congrArg some (by kernel_rfl))⟩
  f14 := ⟨Tryz.f149.name, by decide, Tryz.func149.trans (congrArg some (by kernel_rfl))⟩
  f15 := Tryz.func112.trans (congrArg some (by kernel_rfl))
  f20 := ⟨Tryz.f168.name, by decide, Tryz.func168.trans (congrArg some (by kernel_rfl))⟩
  f21 := ⟨Tryz.f169.name, by decide, Tryz.func169.trans (congrArg some (by kernel_rfl))⟩
  f22 := ⟨Tryz.f170.name, by decide, Tryz.func170.trans (congrArg some (by kernel_rfl))⟩
  f23 := ⟨Tryz.f171.name, by decide, Tryz.func171.trans (congrArg some (by kernel_rfl))⟩
  f24 := ⟨Tryz.f172.name, by decide, Tryz.func172.trans (congrArg some (by kernel_rfl))⟩
  f25 := ⟨Tryz.f173.name, by decide, Tryz.func173.trans (congrArg some (by kernel_rfl))⟩
  f26 := ⟨Tryz.f174.name, by decide, Tryz.func174.trans (congrArg some (by kernel_rfl))⟩
  f27 := ⟨Tryz.f175.name, by decide, Tryz.func175.trans (congrArg some (by kernel_rfl))⟩
  f28 := Tryz.func143.trans (congrArg some (by kernel_rfl))
  f29 := Tryz.func144.trans (congrArg some (by kernel_rfl))
  f46 := ⟨Tryz.f181.name, by decide, Tryz.func181.trans (congrArg some (by kernel_rfl))⟩
  f47 := Tryz.func162.trans (congrArg some (by kernel_rfl))
  f48 := Tryz.func163.trans (congrArg some (by kernel_rfl))
  f49 := ⟨Tryz.f182.name, by decide, Tryz.func182.trans (congrArg some (by kernel_rfl))⟩
  f50 := ⟨Tryz.f183.name, by decide, Tryz.func183.trans (congrArg some (by kernel_rfl))⟩
  f57 := ⟨Tryz.f185.name, by decide, Tryz.func185.trans (congrArg some (by kernel_rfl))⟩
  t0 := Tryz.underlying0
  a0 := Tryz.isAgg0
  z0 := Tryz.sizeOf0
  v0 := Tryz.zeroValue0
  t3 := Tryz.underlying3
  a3 := Tryz.isAgg3
  z3 := Tryz.sizeOf3
  v3 := Tryz.zeroValue3
  t4 := Tryz.underlying4
  a4 := Tryz.isAgg4
  z4 := Tryz.sizeOf4
  v4 := Tryz.zeroValue4
  t5 := Tryz.underlying5
  a5 := Tryz.isAgg5
  z5 := Tryz.sizeOf5
  v5 := Tryz.zeroValue5
  t9 := Tryz.underlying9
  a9 := Tryz.isAgg9
  z9 := Tryz.sizeOf9
  v9 := Tryz.zeroValue9
  t22 := Tryz.underlying56
  a22 := Tryz.isAgg56
  z22 := Tryz.sizeOf56
  v22 := Tryz.zeroValue56
  t25 := Tryz.underlying184
  a25 := Tryz.isAgg184
  z25 := Tryz.sizeOf184
  v25 := Tryz.zeroValue184
  t39 := Tryz.underlying72
  a39 := Tryz.isAgg72
  z39 := Tryz.sizeOf72
  v39 := Tryz.zeroValue72
  t45 := Tryz.underlying203
  a45 := Tryz.isAgg203
  z45 := Tryz.sizeOf203
  v45 := Tryz.zeroValue203
  t46 := Tryz.underlying204
  a46 := Tryz.isAgg204
  z46 := Tryz.sizeOf204
  v46 := Tryz.zeroValue204
  t50 := Tryz.underlying113
  a50 := Tryz.isAgg113
  z50 := Tryz.sizeOf113
  v50 := Tryz.zeroValue113
  t53 := Tryz.underlying210
  a53 := Tryz.isAgg210
  z53 := Tryz.sizeOf210
  v53 := Tryz.zeroValue210
  t55 := Tryz.underlying40
  a55 := Tryz.isAgg40
  z55 := Tryz.sizeOf40
  v55 := Tryz.zeroValue40
  t66 := Tryz.underlying229
  a66 := Tryz.isAgg229
  z66 := Tryz.sizeOf229
  v66 := Tryz.zeroValue229
  t70 := Tryz.underlying233
  a70 := Tryz.isAgg233
  z70 := Tryz.sizeOf233
  v70 := Tryz.zeroValue233
  t76 := Tryz.underlying244
  a76 := Tryz.isAgg244
  z76 := Tryz.sizeOf244
  v76 := Tryz.zeroValue244
  t77 := Tryz.underlying245
  a77 := Tryz.isAgg245
  z77 := Tryz.sizeOf245
  v77 := Tryz.zeroValue245 }
def sortI_ren : Go.Shelf.Ren := ⟨fun | 5 => 109 | 8 => 112 | 7 => 134 | 19 => 143 | 20 => 144 | 10 => 152 | 11 => 153 | 12 => 154 | 13 => 155 | 14 => 156 | 15 => 157 | 16 => 158 | 17 => 159 | 18 => 160 | 30 => 177 | 31 => 162 | 32 => 163 | 33 => 178 | 34 => 179 | 35 => 113 | 40 => 184 | n => n, fun | 23 => 31 | 25 => 3 | 3 => 3 | 32 => 72 | 22 => 31 | 0 => 0 | 44 => 210 | 46 => 40 | 4 => 4 | 36 => 204 | 35 => 203 | 41 => 113 | 5 => 5 | 9 => 9 | 53 => 229 | 57 => 233 | 63 => 244 | 64 => 245 | n => n, fun | n => n⟩
theorem sortI : Go.Proofs.SlLaysM.n5 Tryz.prog sortI_ren := {
  mixed := by kernel_rfl
  f5 := ⟨Tryz.f109.name, by decide, Tryz.func109.trans (congrArg some (by kernel_rfl))⟩
  f7 := ⟨Tryz.f134.name, by decide, Tryz.func134.trans (congrArg some (by kernel_rfl))⟩
  f8 := Tryz.func112.trans (congrArg some (by kernel_rfl))
  f10 := ⟨Tryz.f152.name, by decide, Tryz.func152.trans (congrArg some (by kernel_rfl))⟩
  f11 := ⟨Tryz.f153.name, by decide, Tryz.func153.trans (congrArg some (by kernel_rfl))⟩
  f12 := ⟨Tryz.f154.name, by decide, Tryz.func154.trans (congrArg some (by kernel_rfl))⟩
  f13 := ⟨Tryz.f155.name, by decide, Tryz.func155.trans (congrArg some (by kernel_rfl))⟩
  f14 := ⟨Tryz.f156.name, by decide, Tryz.func156.trans (congrArg some (by kernel_rfl))⟩
  f15 := ⟨Tryz.f157.name, by decide, Tryz.func157.trans (congrArg some (by kernel_rfl))⟩
  f16 := ⟨Tryz.f158.name, by decide, Tryz.func158.trans (congrArg some (by kernel_rfl))⟩
  f17 := ⟨Tryz.f159.name, by decide, Tryz.func159.trans (congrArg some (by kernel_rfl))⟩
  f18 := ⟨Tryz.f160.name, by decide, Tryz.func160.trans (congrArg some (by kernel_rfl))⟩
  f19 := Tryz.func143.trans (congrArg some (by kernel_rfl))
  f20 := Tryz.func144.trans (congrArg some (by kernel_rfl))
  f30 := ⟨Tryz.f177.name, by decide, Tryz.func177.trans (congrArg some (by kernel_rfl))⟩
  f31 := Tryz.func162.trans (congrArg some (by kernel_rfl))
  f32 := Tryz.func163.trans (congrArg some (by kernel_rfl))
  f33 := ⟨Tryz.f178.name, by decide, Tryz.func178.trans (congrArg some (by kernel_rfl))⟩
  f34 := ⟨Tryz.f179.name, by decide, Tryz.func179.trans (congrArg some (by kernel_rfl))⟩
  f35 := ⟨Tryz.f113.name, by decide, Tryz.func113.trans (congrArg some (by kernel_rfl))⟩
  f40 := ⟨Tryz.f184.name, by decide, Tryz.func184.trans (congrArg some (by kernel_rfl))⟩
  t0 := Tryz.underlying0
  a0 := Tryz.isAgg0
  z0 := Tryz.sizeOf0
  v0 := Tryz.zeroValue0
  t3 := Tryz.underlying3
  a3 := Tryz.isAgg3
  z3 := Tryz.sizeOf3
  v3 := Tryz.zeroValue3
  t4 := Tryz.underlying4
  a4 := Tryz.isAgg4
  z4 := Tryz.sizeOf4
  v4 := Tryz.zeroValue4
  t5 := Tryz.underlying5
  a5 := Tryz.isAgg5
  z5 := Tryz.sizeOf5
  v5 := Tryz.zeroValue5
  t9 := Tryz.underlying9
  a9 := Tryz.isAgg9
  z9 := Tryz.sizeOf9
  v9 := Tryz.zeroValue9
  t22 := Tryz.underlying31
  a22 := Tryz.isAgg31
  z22 := Tryz.sizeOf31
  v22 := Tryz.zeroValue31
  t23 := Tryz.underlying31
  a23 := Tryz.isAgg31
  z23 := Tryz.sizeOf31
  v23 := Tryz.zeroValue31
  t25 := Tryz.underlying3
  a25 := Tryz.isAgg3
  z25 := Tryz.sizeOf3
  v25 := Tryz.zeroValue3
  t32 := Tryz.underlying72
  a32 := Tryz.isAgg72
  z32 := Tryz.sizeOf72
  v32 := Tryz.zeroValue72
  t35 := Tryz.underlying203
  a35 := Tryz.isAgg203
  z35 := Tryz.sizeOf203
  v35 := Tryz.zeroValue203
  t36 := Tryz.underlying204
  a36 := Tryz.isAgg204
  z36 := Tryz.sizeOf204
  v36 := Tryz.zeroValue204
  t41 := Tryz.underlying113
  a41 := Tryz.isAgg113
  z41 := Tryz.sizeOf113
  v41 := Tryz.zeroValue113
  t44 := Tryz.underlying210
  a44 := Tryz.isAgg210
  z44 := Tryz.sizeOf210
  v44 := Tryz.zeroValue210
  t46 := Tryz.underlying40
  a46 := Tryz.isAgg40
  z46 := Tryz.sizeOf40
  v46 := Tryz.zeroValue40
  t53 := Tryz.underlying229
  a53 := Tryz.isAgg229
  z53 := Tryz.sizeOf229
  v53 := Tryz.zeroValue229
  t57 := Tryz.underlying233
  a57 := Tryz.isAgg233
  z57 := Tryz.sizeOf233
  v57 := Tryz.zeroValue233
  t63 := Tryz.underlying244
  a63 := Tryz.isAgg244
  z63 := Tryz.sizeOf244
  v63 := Tryz.zeroValue244
  t64 := Tryz.underlying245
  a64 := Tryz.isAgg245
  z64 := Tryz.sizeOf245
  v64 := Tryz.zeroValue245 }
end Go.Proofs.YtplbofhgmflnlaaGreat
end
section
/-
  The library's sorts at an own row: edges, words, numbers.
-/
set_option linter.unusedVariables false
set_option linter.unusedSimpArgs false
namespace Go.Proofs.YtplbofhgmflnlaaGreat
open Go.RowKit Go.Sort
section
variable {β : Type} [Inhabited β]
theorem heap_put {w : World} {g m : Nat} {os : Array Obj} {cur : Array Value} {e : TypeId} {fr : Nat × Nat} (enc : β → Value) (d : Array β) (hb : w.heap[g]? = some (.cells cur e fr)) :
    (grow (putRow enc (Sort.ahead w m) g 0 d) os).heap[g]? = some (.cells (putCells enc 0 d cur) e fr) := by
  have hg : g < w.heap.size := (Array.getElem?_eq_some_iff.1 hb).1
  rw [heap_grow_old _ _ (by simpa using hg)]
  simp [putRow, mapBlock, Sort.ahead, Array.getElem?_modify, hb, onCells]
theorem extX_put {w : World} {g m : Nat} {os : Array Obj} (enc : β → Value) (d : Array β) : ExtX g w (grow (putRow enc (Sort.ahead w m) g 0 d) os) := by
  refine ⟨rfl, rfl, rfl, by simp [grow, putRow, mapBlock, Sort.ahead], fun k hk hne => ?_⟩
  rw [heap_grow_old _ _ (by simpa using hk)]
  have : g ≠ k := fun e => hne e.symm
  simp [putRow, mapBlock, Sort.ahead, Array.getElem?_modify, this]
theorem own_put {w : World} {B g cap n m e sz : Nat} {os : Array Obj} {xs ys : List Value} (enc : β → Value) (d : Array β) (h : w.ownsRow B e sz (.slice (some ⟨g, 0, none⟩) n cap) n xs) (hl : d.size = n * sz) (hy : d.toList.map enc = ys) :
    (grow (putRow enc (Sort.ahead w m) g 0 d) os).ownsRow B e sz (.slice (some ⟨g, 0, none⟩) n cap) n ys := by
  obtain ⟨h0, h1⟩ := h
  refine ⟨by rw [← hy]; simp [hl], ?_⟩
  rcases h1 with ⟨hv, -⟩ | ⟨g', cap', cur, hv, hg, hh, hnc, hcm, hs, ht⟩
  · cases hv
  · cases hv
    refine .inr ⟨g, cap, _, rfl, hg, heap_put enc d hh, hnc, hcm, by simp [putCells, hs], ?_⟩
    have hle : n * sz ≤ cap * sz := Nat.mul_le_mul_right _ hnc
    rw [← hy]
    apply List.ext_getElem?
    intro j
    by_cases hj : j < n * sz
    · rw [List.getElem?_take_of_lt hj, Array.getElem?_toList]
      simp [putCells, hl, hj, show j < cur.size by omega]
    · rw [List.getElem?_take_eq_none (by omega), List.getElem?_eq_none (by simp; omega)]
theorem holds_own {w : World} {B g cap n e sz : Nat} {xs : List Value} (enc : β → Value) (d : Array β) (h : w.ownsRow B e sz (.slice (some ⟨g, 0, none⟩) n cap) n xs) (hl : d.size = n * sz) (hy : d.toList.map enc = xs) : Holds enc w g 0 d := by
  obtain ⟨h0, h1⟩ := h
  rcases h1 with ⟨hv, -⟩ | ⟨g', cap', cur, hv, hg, hh, hnc, hcm, hs, ht⟩
  · cases hv
  · cases hv
    intro j hj
    refine ⟨?_, by simp [World.frozen?, hh]⟩
    have h1 : (cur.toList.take (n * sz))[j]? = (d.toList.map enc)[j]? := by rw [ht, hy]
    rw [List.getElem?_take_of_lt (by omega)] at h1
    simp only [World.cell?, hh, Nat.zero_add]
    simp only [Option.isSome_none, Bool.false_eq_true, if_false]
    rw [← Array.getElem?_toList, h1]
    simp [hj]
theorem own_slice_lt {w : World} {B g cap n e sz : Nat} {xs : List Value} (h : w.ownsRow B e sz (.slice (some ⟨g, 0, none⟩) n cap) n xs) : g < w.heap.size := (h.lt g rfl).2
end
section
variable {α : Type} [Inhabited α]
theorem flatK_rowF {f : α → List Value} {sz : Nat} (hf : ∀ x, (f x).length = sz) (d : Array α) : (flatK f sz d).toList = rowF f d.toList := by
  apply List.ext_getElem?
  intro t
  by_cases ht : t < d.size * sz
  · have k0 : 0 < sz := by
      rcases Nat.eq_zero_or_pos sz with h | h
      · subst h; simp at ht
      · exact h
    have hq : t / sz < d.toList.length := by
      rw [Array.length_toList]
      exact (Nat.div_lt_iff_lt_mul k0).2 ht
    have hm : t % sz < sz := Nat.mod_lt _ k0
    have e : t / sz * sz + t % sz = t := by rw [Nat.mul_comm]; exact Nat.div_add_mod t sz
    have h1 := rowF_at hf d.toList (t / sz) (t % sz) hq hm
    rw [e] at h1
    rw [h1]
    have hq' : t / sz < d.size := by simpa using hq
    simp only [flatK, Array.getElem?_toList, Array.getElem?_map, Array.getElem?_range, ht, if_true, Option.map_some]
    rw [List.getElem?_eq_getElem (by rw [hf]; exact hm)]
    have e2 : d[t / sz]! = d.toList[t / sz] := by rw [getElem!_pos d _ hq']; simp
    rw [e2, getElem!_pos _ _ (by rw [hf]; exact hm)]
  · rw [List.getElem?_eq_none (by simp; omega), List.getElem?_eq_none (by rw [rowF_len hf]; simp; omega)]
theorem own_sortK {w : World} {B g cap e sz : Nat} {f : α → List Value} (hf : ∀ x, (f x).length = sz) {xs ys : List α} (h : OwnF e sz f w B (.slice (some ⟨g, 0, none⟩) xs.length cap) xs) (hl : ys.length = xs.length) (m : Nat) (os : Array Obj) :
    OwnF e sz f (sortWorldK f sz w g 0 m ys.toArray os) B (.slice (some ⟨g, 0, none⟩) xs.length cap) ys := by
  unfold OwnF
  rw [hl]
  refine own_put id (flatK f sz ys.toArray) h (by simp [hl]) ?_
  rw [List.map_id, flatK_rowF hf]
theorem holdsK_own {w : World} {B g cap e sz : Nat} {f : α → List Value} (hf : ∀ x, (f x).length = sz) {xs : List α} (h : OwnF e sz f w B (.slice (some ⟨g, 0, none⟩) xs.length cap) xs) : HoldsK f sz w g 0 xs.toArray := by
  refine holds_own id (flatK f sz xs.toArray) h (by simp) ?_
  rw [List.map_id, flatK_rowF hf]
theorem perm_of_in {d d' : Array α} (h : PermIn 0 d.size d d') : d'.toList.Perm d.toList := by
  obtain ⟨h1, -, h3⟩ := h
  rw [← h1] at h3
  have e1 : d'.extract 0 d'.size = d' := by simp
  have e2 : d.extract 0 d'.size = d := by rw [h1]; simp
  rw [e1, e2] at h3
  exact h3
theorem pairwise_of_in {lt : α → α → Bool} {d : Array α} (h : SortedIn lt 0 d.size d) : d.toList.Pairwise (fun x y => lt y x = false) := by
  rw [List.pairwise_iff_getElem]
  intro i j hi hj hij
  have := h i j (Nat.zero_le _) hij (by simpa using hj)
  rw [getElem!_pos d j (by simpa using hj), getElem!_pos d i (by simpa using hi)] at this
  simpa using this
end
/-! ### cmp.Compare -/
theorem isnan_int (x : Int) (w : World) : Calls Tryz.prog 113 #[.int .i64 x] w (fun e w' => e = .returned (.bool false) ∧ w' = w) := by
  go_enter Tryz.func113, Tryz.ntmps113
  go_wp2
  go_ret
  simp
set_option maxHeartbeats 2000000 in
theorem compare_int (x y : Int) (w : World) : Calls Tryz.prog 78 #[.int .i64 x, .int .i64 y] w (fun e w' => e = .returned (.int .i64 (Lib.compareInt x y)) ∧ w' = w) := by
  have hn := fun z w => isnan_int z w
  go_enter Tryz.func78, Tryz.ntmps78
  go_wp2_with (first | (go_at_call 113; refine (hn _ _).mono ?_; rintro e w' ⟨rfl, hw⟩; rw [hw]))
  all_goals (go_ret; refine ⟨?_, rfl⟩; unfold Lib.compareInt; (repeat' split) <;> first | rfl | (exfalso; omega))
instance : Inhabited Ed := ⟨⟨0, 0, 0⟩⟩
def edF (x y : Ed) : Int := Lib.compareInt x.c y.c
set_option maxHeartbeats 1000000 in
theorem closure77 (x y : Ed) (W : World) : Calls Tryz.prog 77 #[.agg (edC x).toArray, .agg (edC y).toArray] W fun e w' => e = .returned (.int .i64 (edF x y)) ∧ ∃ q os', w' = grow (W.drewN q) os' := by
  have hcon := fun W' => compare_int x.c y.c W'
  show Calls Tryz.prog 77 #[.agg #[.int .i64 (x.a : Int), .int .i64 (x.b : Int), .int .i64 x.c], .agg #[.int .i64 (y.a : Int), .int .i64 (y.b : Int), .int .i64 y.c]] W _
  unfold edF
  generalize Lib.compareInt x.c y.c = r at hcon ⊢
  obtain ⟨xa, xb, xc⟩ := x
  obtain ⟨ya, yb, yc⟩ := y
  simp only at hcon ⊢
  generalize (xa : Int) = xa at *; generalize (xb : Int) = xb at *; generalize (ya : Int) = ya at *; generalize (yb : Int) = yb at *
  go_enter Tryz.func77, Tryz.ntmps77
  go_wp2_with (go_at_call 78; refine (hcon _).mono ?_; rintro e w' ⟨rfl, rfl⟩)
  go_ret
  exact ⟨rfl, 0, _, by rw [alloc_eq_grow, alloc_eq_grow, grow_grow]; rfl⟩
theorem edF_lt (x y : Ed) : ltOf edF x y = decide (x.c < y.c) := by
  unfold ltOf edF Lib.compareInt
  by_cases h1 : x.c < y.c
  · simp [h1]
  · by_cases h2 : y.c < x.c <;> simp [h1, h2]
theorem edF_swo : SWO (ltOf edF) where
  irrefl x := by rw [edF_lt]; simp
  trans x y z h1 h2 := by rw [edF_lt] at *; simp at *; omega
  ntrans x y z h1 h2 := by rw [edF_lt] at *; simp at *; omega
theorem sortEd : SortEd := by
  intro B g c es w h hn
  have eg : ∀ args w, (callFunc 77 args).run Tryz.prog w = .ok (.enter 77 args) w := enters_of Tryz.func77 (by kernel_rfl) rfl
  have hcon := AnyQ.slices_SortFunc sortE 3 (fun w => Tryz.isAgg138 w) (fun w => Tryz.sizeOf138 w) edC edC_len edC_one edF edF_swo 77 #[] g 0 c es.toArray w eg (fun _ _ _ _ x y => closure77 x y _) (holdsK_own edC_len h) (own_slice_lt h) (by simp; omega)
  change Calls Tryz.prog 76 _ _ _ at hcon
  rw [List.size_toArray] at hcon
  refine hcon.mono ?_
  rintro e w' ⟨rfl, d', n, os, hp, hs, rfl⟩
  have hl : d'.size = es.length := by have := hp.1; simpa using this
  refine ⟨rfl, d'.toList, by simpa using perm_of_in (d := es.toArray) (by simpa using hp), ?_, extX_put _ _, ?_⟩
  · rw [← hl] at hs
    refine (pairwise_of_in hs).imp ?_
    intro x y hxy
    rw [edF_lt] at hxy
    simp at hxy; omega
  · have := own_sortK edC_len h (ys := d'.toList) (by simp [hl]) n os
    simpa using this
theorem sortEdN : SortEdN := fun w => AnyF.slices_SortFunc_none sortE none 0 _ w
/-- slices.Sort of own numbers. -/
def srt (xs : List Int) : List Int := xs.mergeSort fun x y => decide (x ≤ y)
theorem srt_len (xs : List Int) : (srt xs).length = xs.length := List.length_mergeSort _
theorem sort_ints (B g c : Nat) (xs : List Int) (w : World) (h : OwnI w B (.slice (some ⟨g, 0, none⟩) xs.length c) xs) (hn : xs.length ≤ 1000000) :
    Calls Tryz.prog 109 #[.slice (some ⟨g, 0, none⟩) xs.length c] w (fun e w' => e = .returned (.tuple #[]) ∧ ExtX g w w' ∧ OwnI w' B (.slice (some ⟨g, 0, none⟩) xs.length c) (srt xs)) := by
  have hH : Holds (Value.int .i64) w g 0 xs.toArray := holds_own (Value.int .i64) xs.toArray h (by simp) rfl
  have hcon := AnyM.slices_Sort_int sortI g 0 c xs w hH (own_slice_lt h) (by omega)
  change Calls Tryz.prog 109 _ _ _ at hcon
  refine hcon.mono ?_
  rintro e w' ⟨rfl, n, os, rfl⟩
  refine ⟨rfl, extX_put _ _, ?_⟩
  have := own_put (m := n) (os := os) (Value.int .i64) (srt xs).toArray h (by simp [srt_len]) rfl
  unfold OwnI; rw [srt_len]
  exact this
theorem sort_none (a : Option Addr) (c : Nat) (w : World) : Calls Tryz.prog 109 #[.slice a 0 c] w (fun e w' => e = .returned (.tuple #[]) ∧ w' = w) := AnyM.slices_Sort_int_none sortI a c w
end Go.Proofs.YtplbofhgmflnlaaGreat
end
