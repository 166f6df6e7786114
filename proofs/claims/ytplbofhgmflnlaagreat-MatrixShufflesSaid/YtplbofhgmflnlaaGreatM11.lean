/-
  Walks: Least's root (printed by genm11.py).
-/
import Derived.Test.YtplbofhgmflnlaaGreatM10
set_option linter.unusedVariables false
set_option linter.unusedSimpArgs false
namespace Go.Proofs.YtplbofhgmflnlaaGreat
open Go.RowKit
set_option maxRecDepth 100000 in
set_option maxHeartbeats 4000000 in
theorem rt_law {g n c x p bt : Nat} {pp : Nat} {wr : World} {R : World → Prop} (hx0 : (0 : Int) ≤ (x : Int)) (hx1 : (x : Int) < (n : Int)) (hp0 : (0 : Int) ≤ (p : Int)) (hp1 : (p : Int) < (n : Int)) (HB : Hid (∀ W, Ext wr W → W.cell? ⟨bt, 0, none⟩ = some (.slice (some ⟨g, 0, none⟩) n c))) (HX : Hid (∀ W, Ext wr W → W.cell? ⟨g, x, none⟩ = some (.int .i64 (p : Int)))) (HP : Hid (∀ W, Ext wr W → W.cell? ⟨g, p, none⟩ = some (.int .i64 (pp : Int)))) (HF : Hid (∀ W, Ext wr W → W.frozen? ⟨g, x, none⟩ = false)) (HR : Hid (∀ W, Ext wr W → R (W.setCell ⟨g, x, none⟩ (.int .i64 (pp : Int))))) {Q : Exit → Act → World → Prop} (aZ : Act) (hsz : aZ.tmps.size = 25) (o0 : aZ.tmps[0]?.getD undef = .int .i64 (x : Int)) (o1 : aZ.tmps[1]?.getD undef = .pointer (some ⟨bt, 0, none⟩))
    (hend : ∀ (vs : Nat → Value) (w9 : World) (ls9 : Nat → Bool), (∀ j : Nat, j < 11 → ls9 j = true) → ((ls9 10 = false → Ext wr w9) ∧ (ls9 10 = true → R w9)) → (vs 0 = .slice (some ⟨g, 0, none⟩) n c) → (vs 1 = .int .i64 (x : Int)) → (vs 2 = .slice (some ⟨g, 0, none⟩) n c) → (vs 3 = .slice (some ⟨g, 0, none⟩) n c) → (vs 4 = .int .i64 (x : Int)) → (vs 5 = .pointer (some ⟨g, x, none⟩)) → (vs 6 = .int .i64 (p : Int)) → (vs 7 = .pointer (some ⟨g, p, none⟩)) → (vs 8 = .int .i64 (pp : Int)) → (vs 9 = .pointer (some ⟨g, x, none⟩)) → Q .normal ((((((((((aZ.put (some 10) (vs 0)).put (some 11) (vs 1)).put (some 12) (vs 2)).put (some 13) (vs 3)).put (some 14) (vs 4)).put (some 15) (vs 5)).put (some 16) (vs 6)).put (some 17) (vs 7)).put (some 18) (vs 8)).put (some 19) (vs 9)) w9) : (regOf Tryz.f79 2).wp Tryz.prog Q aZ wr := by
  conv => arg 2; whnf
  refine wp_region_said3 (fun i v wz => match i with
    | 0 => v = .slice (some ⟨g, 0, none⟩) n c
    | 1 => v = .int .i64 (x : Int)
    | 2 => v = .slice (some ⟨g, 0, none⟩) n c
    | 3 => v = .slice (some ⟨g, 0, none⟩) n c
    | 4 => v = .int .i64 (x : Int)
    | 5 => v = .pointer (some ⟨g, x, none⟩)
    | 6 => v = .int .i64 (p : Int)
    | 7 => v = .pointer (some ⟨g, p, none⟩)
    | 8 => v = .int .i64 (pp : Int)
    | 9 => v = .pointer (some ⟨g, x, none⟩)
    | _ => True) (fun ls vs wz => (ls 10 = false → Ext wr wz) ∧ (ls 10 = true → R wz)) (by kernel_rfl) (by kernel_rfl) (by rw [hsz]; kernel_rfl) ?_ ?_ ?_
  · exact ⟨fun _ => (Ext.refl _).drew, fun e => (by cases e)⟩
  · refine ⟨?_, ?_, ?_, ?_, ?_, ?_, ?_, ?_, ?_, ?_, ?_, trivial⟩
    · intro ls vs a w1 hi hJ hold hdep hdon hcl K hK
      have q1 : a.tmps[1]?.getD undef = .pointer (some ⟨bt, 0, none⟩) := (hold 1 (by kernel_rfl)).trans o1
      have hn10 : ls 10 = false := by
        cases e : ls 10 with
        | false => rfl
        | true =>
          replace e := hcl 10 0 e (by kernel_rfl)
          rw [show ls 0 = false from hi] at e
          cases e
      rw [if_pos (by rfl)]
      clear hold hdep hend hdon hcl o0 o1
      have HJ := Lib.hid hJ
      clear hJ
      have c1 := HB.out w1 (HJ.out.1 hn10)
      go_simp
      exact hK _ _ (fun _ _ _ h => h) HJ.out rfl
    · intro ls vs a w1 hi hJ hold hdep hdon hcl K hK
      have q0 : a.tmps[0]?.getD undef = .int .i64 (x : Int) := (hold 0 (by kernel_rfl)).trans o0
      rw [if_pos (by rfl)]
      clear hold hdep hend hdon hcl o0 o1
      have HJ := Lib.hid hJ
      clear hJ
      go_simp
      exact hK _ _ (fun _ _ _ h => h) HJ.out rfl
    · intro ls vs a w1 hi hJ hold hdep hdon hcl K hK
      have q1 : a.tmps[1]?.getD undef = .pointer (some ⟨bt, 0, none⟩) := (hold 1 (by kernel_rfl)).trans o1
      have hn10 : ls 10 = false := by
        cases e : ls 10 with
        | false => rfl
        | true =>
          replace e := hcl 10 2 e (by kernel_rfl)
          rw [show ls 2 = false from hi] at e
          cases e
      rw [if_pos (by rfl)]
      clear hold hdep hend hdon hcl o0 o1
      have HJ := Lib.hid hJ
      clear hJ
      have c1 := HB.out w1 (HJ.out.1 hn10)
      go_simp
      exact hK _ _ (fun _ _ _ h => h) HJ.out rfl
    · intro ls vs a w1 hi hJ hold hdep hdon hcl K hK
      have q1 : a.tmps[1]?.getD undef = .pointer (some ⟨bt, 0, none⟩) := (hold 1 (by kernel_rfl)).trans o1
      have hn10 : ls 10 = false := by
        cases e : ls 10 with
        | false => rfl
        | true =>
          replace e := hcl 10 3 e (by kernel_rfl)
          rw [show ls 3 = false from hi] at e
          cases e
      rw [if_pos (by rfl)]
      clear hold hdep hend hdon hcl o0 o1
      have HJ := Lib.hid hJ
      clear hJ
      have c1 := HB.out w1 (HJ.out.1 hn10)
      go_simp
      exact hK _ _ (fun _ _ _ h => h) HJ.out rfl
    · intro ls vs a w1 hi hJ hold hdep hdon hcl K hK
      have q0 : a.tmps[0]?.getD undef = .int .i64 (x : Int) := (hold 0 (by kernel_rfl)).trans o0
      rw [if_pos (by rfl)]
      clear hold hdep hend hdon hcl o0 o1
      have HJ := Lib.hid hJ
      clear hJ
      go_simp
      exact hK _ _ (fun _ _ _ h => h) HJ.out rfl
    · intro ls vs a w1 hi hJ hold hdep hdon hcl K hK
      have q13 : a.tmps[13]?.getD undef = .slice (some ⟨g, 0, none⟩) n c := (hdep 3 13 (by kernel_rfl) (by kernel_rfl)).2.1.trans (hdep 3 13 (by kernel_rfl) (by kernel_rfl)).2.2
      have q14 : a.tmps[14]?.getD undef = .int .i64 (x : Int) := (hdep 4 14 (by kernel_rfl) (by kernel_rfl)).2.1.trans (hdep 4 14 (by kernel_rfl) (by kernel_rfl)).2.2
      rw [if_pos (by rfl)]
      clear hold hdep hend hdon hcl o0 o1
      have HJ := Lib.hid hJ
      clear hJ
      go_simp
      exact hK _ _ (fun _ _ _ h => h) HJ.out rfl
    · intro ls vs a w1 hi hJ hold hdep hdon hcl K hK
      have q15 : a.tmps[15]?.getD undef = .pointer (some ⟨g, x, none⟩) := (hdep 5 15 (by kernel_rfl) (by kernel_rfl)).2.1.trans (hdep 5 15 (by kernel_rfl) (by kernel_rfl)).2.2
      have hn10 : ls 10 = false := by
        cases e : ls 10 with
        | false => rfl
        | true =>
          replace e := hcl 10 6 e (by kernel_rfl)
          rw [show ls 6 = false from hi] at e
          cases e
      rw [if_pos (by rfl)]
      clear hold hdep hend hdon hcl o0 o1
      have HJ := Lib.hid hJ
      clear hJ
      have c1 := HX.out w1 (HJ.out.1 hn10)
      go_simp
      exact hK _ _ (fun _ _ _ h => h) HJ.out rfl
    · intro ls vs a w1 hi hJ hold hdep hdon hcl K hK
      have q12 : a.tmps[12]?.getD undef = .slice (some ⟨g, 0, none⟩) n c := (hdep 2 12 (by kernel_rfl) (by kernel_rfl)).2.1.trans (hdep 2 12 (by kernel_rfl) (by kernel_rfl)).2.2
      have q16 : a.tmps[16]?.getD undef = .int .i64 (p : Int) := (hdep 6 16 (by kernel_rfl) (by kernel_rfl)).2.1.trans (hdep 6 16 (by kernel_rfl) (by kernel_rfl)).2.2
      rw [if_pos (by rfl)]
      clear hold hdep hend hdon hcl o0 o1
      have HJ := Lib.hid hJ
      clear hJ
      go_simp
      exact hK _ _ (fun _ _ _ h => h) HJ.out rfl
    · intro ls vs a w1 hi hJ hold hdep hdon hcl K hK
      have q17 : a.tmps[17]?.getD undef = .pointer (some ⟨g, p, none⟩) := (hdep 7 17 (by kernel_rfl) (by kernel_rfl)).2.1.trans (hdep 7 17 (by kernel_rfl) (by kernel_rfl)).2.2
      have hn10 : ls 10 = false := by
        cases e : ls 10 with
        | false => rfl
        | true =>
          replace e := hcl 10 8 e (by kernel_rfl)
          rw [show ls 8 = false from hi] at e
          cases e
      rw [if_pos (by rfl)]
      clear hold hdep hend hdon hcl o0 o1
      have HJ := Lib.hid hJ
      clear hJ
      have c1 := HP.out w1 (HJ.out.1 hn10)
      go_simp
      exact hK _ _ (fun _ _ _ h => h) HJ.out rfl
    · intro ls vs a w1 hi hJ hold hdep hdon hcl K hK
      have q10 : a.tmps[10]?.getD undef = .slice (some ⟨g, 0, none⟩) n c := (hdep 0 10 (by kernel_rfl) (by kernel_rfl)).2.1.trans (hdep 0 10 (by kernel_rfl) (by kernel_rfl)).2.2
      have q11 : a.tmps[11]?.getD undef = .int .i64 (x : Int) := (hdep 1 11 (by kernel_rfl) (by kernel_rfl)).2.1.trans (hdep 1 11 (by kernel_rfl) (by kernel_rfl)).2.2
      rw [if_pos (by rfl)]
      clear hold hdep hend hdon hcl o0 o1
      have HJ := Lib.hid hJ
      clear hJ
      go_simp
      exact hK _ _ (fun _ _ _ h => h) HJ.out rfl
    · intro ls vs a w1 hi hJ hold hdep hdon hcl K hK
      have q18 : a.tmps[18]?.getD undef = .int .i64 (pp : Int) := (hdep 8 18 (by kernel_rfl) (by kernel_rfl)).2.1.trans (hdep 8 18 (by kernel_rfl) (by kernel_rfl)).2.2
      have q19 : a.tmps[19]?.getD undef = .pointer (some ⟨g, x, none⟩) := (hdep 9 19 (by kernel_rfl) (by kernel_rfl)).2.1.trans (hdep 9 19 (by kernel_rfl) (by kernel_rfl)).2.2
      rw [if_pos (by rfl)]
      clear hold hdep hend hdon hcl o0 o1
      have HJ := Lib.hid hJ
      clear hJ
      have hx := HJ.out.1 hi
      have c1 := HX.out w1 hx
      have f1 := HF.out w1 hx
      have r1 := HR.out w1 hx
      go_simp
      exact hK undef _ (fun _ _ _ h => h) ⟨fun e => (by simp at e), fun _ => r1⟩ trivial
  · intro vs w9 ls9 hl9 hJ9 hφ
    have e0 := hφ 0 (by kernel_rfl)
    have e1 := hφ 1 (by kernel_rfl)
    have e2 := hφ 2 (by kernel_rfl)
    have e3 := hφ 3 (by kernel_rfl)
    have e4 := hφ 4 (by kernel_rfl)
    have e5 := hφ 5 (by kernel_rfl)
    have e6 := hφ 6 (by kernel_rfl)
    have e7 := hφ 7 (by kernel_rfl)
    have e8 := hφ 8 (by kernel_rfl)
    have e9 := hφ 9 (by kernel_rfl)
    have hq := hend vs w9 ls9 hl9 hJ9 e0 e1 e2 e3 e4 e5 e6 e7 e8 e9
    simp only [Act.put] at hq
    simp only [putAll, Act.put]
    exact hq
/-- A forest: each number leads to another one that is nearer to its root, or is a root. -/
structure Forest (n : Nat) (ys : List Int) (R dep : Nat → Nat) : Prop where
  len : ys.length = n
  bd : ∀ i, i < n → 0 ≤ nth ys i ∧ nth ys i < n
  dn : ∀ i, i < n → (nth ys i).toNat ≠ i → dep (nth ys i).toNat < dep i
  rt : ∀ i, i < n → R (nth ys i).toNat = R i
  rr : ∀ i, i < n → (nth ys i).toNat = i → R i = i
theorem Forest.root_bd {n : Nat} {ys : List Int} {R dep : Nat → Nat} (h : Forest n ys R dep) : ∀ (m i : Nat), dep i < m → i < n → R i < n ∧ (nth ys (R i)).toNat = R i
  | 0, _, hm, _ => by omega
  | m + 1, i, hm, hi => by
    by_cases e : (nth ys i).toNat = i
    · rw [h.rr i hi e]; exact ⟨hi, e⟩
    · have h1 := h.dn i hi e
      have h2 := h.bd i hi
      have := h.root_bd m (nth ys i).toNat (by omega) (by omega)
      rw [h.rt i hi] at this; exact this
theorem Forest.halve {n : Nat} {ys : List Int} {R dep : Nat → Nat} (h : Forest n ys R dep) {x : Nat} (hx : x < n) (hne : (nth ys x).toNat ≠ x) : Forest n (ys.set x (nth ys (nth ys x).toNat)) R dep := by
  have hb := h.bd x hx
  have hp : (nth ys x).toNat < n := by omega
  have e : ∀ i, i < n → nth (ys.set x (nth ys (nth ys x).toNat)) i = if i = x then nth ys (nth ys x).toNat else nth ys i := fun i hi => nth_set _ _ _ _ (by rw [h.len]; exact hi)
  refine ⟨by rw [List.length_set]; exact h.len, fun i hi => ?_, fun i hi => ?_, fun i hi => ?_, fun i hi => ?_⟩
  · rw [e i hi]; split
    · exact h.bd _ hp
    · exact h.bd i hi
  · rw [e i hi]; split
    · rename_i e1; subst e1
      intro _
      have h1 := h.dn i hi hne
      by_cases e2 : (nth ys (nth ys i).toNat).toNat = (nth ys i).toNat
      · rw [e2]; exact h1
      · have := h.dn _ hp e2; omega
    · exact h.dn i hi
  · rw [e i hi]; split
    · rename_i e1; subst e1
      rw [h.rt _ hp, h.rt i hi]
    · exact h.rt i hi
  · rw [e i hi]; split
    · rename_i e1; subst e1
      intro e3
      have h1 := h.dn i hi hne
      by_cases e2 : (nth ys (nth ys i).toNat).toNat = (nth ys i).toNat
      · rw [e2] at e3; exact absurd e3 hne
      · have := h.dn _ hp e2; rw [e3] at this; omega
    · exact h.rr i hi
theorem enters79 : Enters Tryz.prog 79 := Enters.mk Tryz.func79 rfl rfl
set_option maxRecDepth 100000 in
set_option maxHeartbeats 2000000 in
theorem root_any (bt B g n c i : Nat) (ys : List Int) (R dep : Nat → Nat) (w : World) (hi : i < n) (hn : n ≤ 1000000) (hb : w.cell? ⟨bt, 0, none⟩ = some (.slice (some ⟨g, 0, none⟩) n c)) (hbg : bt ≠ g) (ho : OwnI w B (.slice (some ⟨g, 0, none⟩) n c) ys) (hf : Forest n ys R dep) :
    Calls Tryz.prog 79 #[.int .i64 (i : Int), .pointer (some ⟨bt, 0, none⟩)] w (fun e w' => e = .returned (.int .i64 (R i : Nat)) ∧ ExtX g w w' ∧ ∃ ys', OwnI w' B (.slice (some ⟨g, 0, none⟩) n c) ys' ∧ Forest n ys' R dep) := by
  have HB := Lib.hid hb; have HO := Lib.hid ho; have HF := Lib.hid hf; have HBG := Lib.hid hbg
  clear hb ho hf hbg
  go_enter Tryz.func79, Tryz.ntmps79
  go_upto_region 1 with fail
  go_loopw [0] (fun v wr => ∃ (x : Nat) (ys : List Int), v = .int .i64 (x : Int) ∧ x < n ∧ Hid (ExtX g w wr ∧ OwnI wr B (.slice (some ⟨g, 0, none⟩) n c) ys ∧ Forest n ys R dep ∧ R x = R i)) (fun v _ => dep (intOf v).toNat)
  case atStart => exact ⟨i, ys, rfl, hi, ExtX.refl _ _, HO.out, HF.out, rfl⟩
  case round =>
    obtain ⟨x, zs, rfl, hx, hh⟩ := hrel
    have hbd := hh.out.2.2.1.bd x hx
    obtain ⟨p, hp⟩ : ∃ p : Nat, nth zs x = (p : Int) := ⟨(nth zs x).toNat, by omega⟩
    have hpn : p < n := by omega
    have HCB : Hid (∀ W, Ext wr W → W.cell? ⟨bt, 0, none⟩ = some (.slice (some ⟨g, 0, none⟩) n c)) := fun W e => e.cell (hh.out.1.cell HB.out HBG.out)
    have HCX : Hid (∀ W, Ext wr W → W.cell? ⟨g, x, none⟩ = some (.int .i64 (p : Int))) := fun W e => by rw [← hp]; exact ownI_cell hh.out.2.2.1.len (hh.out.2.1.ext e) x hx
    have c1 := HCB.out wr (Ext.refl _)
    have c2 := HCX.out wr (Ext.refl _)
    have hx0 : (0 : Int) ≤ (x : Int) := by omega
    have hx1 : (x : Int) < (n : Int) := by omega
    have HP := Lib.hid hp
    clear hbd hp
    cases T : ((p : Int) != (x : Int))
    · have hpx : p = x := by simp at T; omega
      have HRX : Hid (R x = x) := hh.out.2.2.1.rr x hx (by rw [HP.out]; simp [hpx])
      go_wp2_with (fail)
      go_ret
      refine ⟨?_, hh.out.1, zs, hh.out.2.1, hh.out.2.2.1⟩
      rw [← hh.out.2.2.2, HRX.out]; rfl
    · have hpx : p ≠ x := by simp at T; omega
      have hb2 := hh.out.2.2.1.bd p hpn
      obtain ⟨pp, hpp⟩ : ∃ pp : Nat, nth zs p = (pp : Int) := ⟨(nth zs p).toNat, by omega⟩
      have hp0 : (0 : Int) ≤ (p : Int) := by omega
      have hp1 : (p : Int) < (n : Int) := by omega
      have HCP : Hid (∀ W, Ext wr W → W.cell? ⟨g, p, none⟩ = some (.int .i64 (pp : Int))) := fun W e => by rw [← hpp]; exact ownI_cell hh.out.2.2.1.len (hh.out.2.1.ext e) p hpn
      have HFR : Hid (∀ W, Ext wr W → W.frozen? ⟨g, x, none⟩ = false) := fun W e => ownI_free hh.out.2.2.1.len (hh.out.2.1.ext e) x
      have HFO := Lib.hid (hh.out.2.2.1.halve hx (by rw [HP.out]; simpa using hpx))
      have hset : zs.set x (nth zs (nth zs x).toNat) = zs.set x (pp : Int) := by rw [HP.out, Int.toNat_natCast, hpp]
      rw [hset] at HFO
      obtain ⟨Rp, hRp⟩ : ∃ Rp : World → Prop, Rp = fun W => ExtX g w W ∧ OwnI W B (.slice (some ⟨g, 0, none⟩) n c) (zs.set x (pp : Int)) := ⟨_, rfl⟩
      have HR : Hid (∀ W, Ext wr W → Rp (W.setCell ⟨g, x, none⟩ (.int .i64 (pp : Int)))) := fun W e => by
        rw [hRp]
        exact ⟨(hh.out.1.trans e.x).set _ _, ownI_set2 hh.out.2.2.1.len (hh.out.2.1.ext e) _⟩
      have HRP := Lib.hid hRp
      have HPP := Lib.hid hpp
      have HRE := Lib.hid hh.out.2.2.2
      have HDN : Hid (dep pp < dep x ∧ R pp = R x ∧ pp < n) := by
        have h1 := hh.out.2.2.1.dn x hx (by rw [HP.out]; simpa using hpx)
        rw [HP.out, Int.toNat_natCast] at h1
        have h2 := hh.out.2.2.1.rt x hx
        rw [HP.out, Int.toNat_natCast] at h2
        have h3 := hh.out.2.2.1.rt p hpn
        rw [HPP.out, Int.toNat_natCast] at h3
        refine ⟨?_, by rw [h3, h2], by omega⟩
        by_cases e : pp = p
        · rw [e]; exact h1
        · have := hh.out.2.2.1.dn p hpn (by rw [HPP.out]; simpa using e)
          rw [HPP.out, Int.toNat_natCast] at this; omega
      have HLE := Lib.hid hh.out.2.2.1.len
      clear hset hRp hpp hb2 hh
      go_upto_region 2 with fail
      refine rt_law hx0 hx1 hp0 hp1 HCB HCX HCP HFR HR _ (by rfl) rfl rfl ?_
      intro vs w9 ls9 hl9 hJ9 e0 e1 e2 e3 e4 e5 e6 e7 e8 e9
      simp only [Act.put, List.setIfInBounds_toArray, List.set_cons_zero, List.set_cons_succ]
      rw [e0, e1, e2, e3, e4, e5, e6, e7, e8, e9]
      obtain ⟨-, j2⟩ := hJ9
      have hfin := j2 (hl9 10 (by omega))
      rw [HRP.out] at hfin
      have HFIN := Lib.hid hfin
      have c3 : w9.cell? ⟨g, x, none⟩ = some (.int .i64 (pp : Int)) := by
        rw [ownI_cell (by rw [List.length_set]; exact HLE.out) HFIN.out.2 x hx, nth_set _ _ _ _ (by rw [HLE.out]; exact hx), if_pos rfl]
      have c4 : w9.cell? ⟨bt, 0, none⟩ = some (.slice (some ⟨g, 0, none⟩) n c) := HFIN.out.1.cell HB.out HBG.out
      clear hfin j2 c1 c2
      go_wp2_with (fail)
      go_roundw
      case rel => exact ⟨pp, _, rfl, HDN.out.2.2, HFIN.out.1, HFIN.out.2, HFO.out, by rw [HDN.out.2.1, HRE.out]⟩
      case measure => simp [intOf]; exact HDN.out.1
end Go.Proofs.YtplbofhgmflnlaaGreat
